import Derived.Test.YtiemhjehieipdaaM5
set_option linter.unusedVariables false
set_option linter.unusedSimpArgs false
namespace Go.Am
/-! 117: slices.Clone[[]string,string] -/
def slices_Clone__string_string.cx : Cx := ⟨tys, [], [], [], [], noDyn, [.tmp 2]⟩
def slices_Clone__string_string : Sm := fun xs H Q => ∃ k, callK (slices_Clone__string_string.cx) Go.Proofs.Try.f117 k xs H Q
theorem slices_Clone__string_string_eq (k : Nat) (z0 : Pl) (z0n : Nat) (H : Hp) (Q : Post) : callK (slices_Clone__string_string.cx) Go.Proofs.Try.f117 (k + 1) [.g (.sl z0 z0n 1)] H Q = (
 bite (isNone z0)
 (Q (.g (.sl none 0 1)) H)
 (chk true (rdN H z0 (z0n * 1) fun c0 =>
  ap0 H 9 1 16 c0 z0n fun H1 =>
  Q (.g (.sl (some ((ln H), 0)) z0n 1)) H1))) := by kernel_rfl
theorem slices_Clone__string_string_ok : Sound Go.Proofs.Try.prog 117 (slices_Clone__string_string) := prog_ok.sound (cx := slices_Clone__string_string.cx) rfl (EnvOK.nil _) (noDyn_ok _) Go.Proofs.Try.func117 rfl

/-! 118: slices.Clone[[]int,int] -/
def slices_Clone__int_int.cx : Cx := ⟨tys, [], [], [], [], noDyn, [.tmp 2]⟩
def slices_Clone__int_int : Sm := fun xs H Q => ∃ k, callK (slices_Clone__int_int.cx) Go.Proofs.Try.f118 k xs H Q
theorem slices_Clone__int_int_eq (k : Nat) (z0 : Pl) (z0n : Nat) (H : Hp) (Q : Post) : callK (slices_Clone__int_int.cx) Go.Proofs.Try.f118 (k + 1) [.g (.sl z0 z0n 1)] H Q = (
 bite (isNone z0)
 (Q (.g (.sl none 0 1)) H)
 (chk true (rdN H z0 (z0n * 1) fun c0 =>
  ap0 H 3 1 8 c0 z0n fun H1 =>
  Q (.g (.sl (some ((ln H), 0)) z0n 1)) H1))) := by kernel_rfl
theorem slices_Clone__int_int_ok : Sound Go.Proofs.Try.prog 118 (slices_Clone__int_int) := prog_ok.sound (cx := slices_Clone__int_int.cx) rfl (EnvOK.nil _) (noDyn_ok _) Go.Proofs.Try.func118 rfl

/-! 100: cryostat/page.Copy -/
def page_Copy.cx : Cx := ⟨tys, [], [], [], [(117, slices_Clone__string_string), (118, slices_Clone__int_int)], noDyn, [.cell 2 41]⟩
def page_Copy : Sm := fun xs H Q => ∃ k, callK (page_Copy.cx) Go.Proofs.Try.f100 k xs H Q
theorem page_Copy_eq (k : Nat) (z0 : Bool) (z1 : Bool) (z2 : Pl) (z2n : Nat) (z3 : Pl) (z3n : Nat) (z4 : Pl) (z4n : Nat) (H : Hp) (Q : Post) : callK (page_Copy.cx) Go.Proofs.Try.f100 (k + 1) [.agg [.bool z0, .bool z1, .sl z2 z2n 1, .sl z3 z3n 1, .sl z4 z4n 1]] H Q = (
 cl slices_Clone__string_string [(.g (.sl z2 z2n 1))] H fun r0 H1 =>
 rG r0 fun v2 =>
 dL 1 v2 fun x3 n4 =>
 cl slices_Clone__string_string [(.g (.sl z3 z3n 1))] H1 fun r5 H6 =>
 rG r5 fun v7 =>
 dL 1 v7 fun x8 n9 =>
 cl slices_Clone__int_int [(.g (.sl z4 z4n 1))] H6 fun r10 H11 =>
 rG r10 fun v12 =>
 dL 1 v12 fun x13 n14 =>
 Q (.agg [(.bool z0), (.bool z1), (.sl x3 n4 1), (.sl x8 n9 1), (.sl x13 n14 1)]) H11) := by kernel_rfl
theorem page_Copy_ok : Sound Go.Proofs.Try.prog 100 (page_Copy) := prog_ok.sound (cx := page_Copy.cx) rfl (EnvOK.cons ((slices_Clone__string_string_ok).c ⟨_, Go.Proofs.Try.func117, by kernel_rfl, by kernel_rfl⟩) (EnvOK.cons ((slices_Clone__int_int_ok).c ⟨_, Go.Proofs.Try.func118, by kernel_rfl, by kernel_rfl⟩) (EnvOK.nil _))) (noDyn_ok _) Go.Proofs.Try.func100 rfl

/-! 74: cryostat/sound.Copy -/
def sound_Copy.cx : Cx := ⟨tys, [], [(3, [2, 3, 8, 9, 10])], [], [(100, page_Copy)], noDyn, [.cell 2 34]⟩
def sound_Copy : Sm := fun xs H Q => ∃ k, callK (sound_Copy.cx) Go.Proofs.Try.f74 k xs H Q
def sound_Copy.l3 (k : Nat) (ax0 : Pl) (nx1 : Nat) (ax2 : Pl) (nx3 : Nat) (xx4 : Pl) (nx5 : Nat) (ix6 : Int) (ix7 : Int) (H : Hp) (Q : Post) : Prop := loopK (sound_Copy.cx) Go.Proofs.Try.f74 3 k (.bad :: .bad :: (.bx [(.sl ax0 nx1 5)]) :: (.bx [(.sl ax2 nx3 5)]) :: B 4 ((.g (.sl xx4 nx5 5)) :: (.g (.int .i64 ix6)) :: (.g (.int .i64 ix7)) :: B 12 ([]))) H Q
theorem sound_Copy_eq (k : Nat) (z0 : Pl) (z0n : Nat) (H : Hp) (Q : Post) : callK (sound_Copy.cx) Go.Proofs.Try.f74 (k + 1) [.agg [.sl z0 z0n 5]] H Q = (
 sound_Copy.l3 k none 0 none 0 z0 z0n (nI z0n) 0 H Q) := by kernel_rfl
theorem sound_Copy.l3_eq (k : Nat) (ax0 : Pl) (nx1 : Nat) (ax2 : Pl) (nx3 : Nat) (xx4 : Pl) (nx5 : Nat) (ix6 : Int) (ix7 : Int) (H : Hp) (Q : Post) : sound_Copy.l3 (k + 1) ax0 nx1 ax2 nx3 xx4 nx5 ix6 ix7 H Q = (
 bite (ltI ix7 ix6)
 (chk true (chk ((leI 0 ix7) && (ltI ix7 (nI nx5))) (pS xx4 fun n0 n1 =>
  rd H n0 (n1 + ((tN ix7) * 5)) fun v2 =>
  dB v2 fun b3 =>
  rd H n0 ((n1 + ((tN ix7) * 5)) + 1) fun v4 =>
  dB v4 fun b5 =>
  rd H n0 (((n1 + ((tN ix7) * 5)) + 1) + 1) fun v6 =>
  dL 1 v6 fun x7 n8 =>
  rd H n0 ((((n1 + ((tN ix7) * 5)) + 1) + 1) + 1) fun v9 =>
  dL 1 v9 fun x10 n11 =>
  rd H n0 (((((n1 + ((tN ix7) * 5)) + 1) + 1) + 1) + 1) fun v12 =>
  dL 1 v12 fun x13 n14 =>
  cl page_Copy [(.agg [(.bool b3), (.bool b5), (.sl x7 n8 1), (.sl x10 n11 1), (.sl x13 n14 1)])] H fun r15 H16 =>
  rA r15 fun c17 =>
  uC c17 fun v18 c19 =>
  dB v18 fun b20 =>
  uC c19 fun v21 c22 =>
  dB v21 fun b23 =>
  uC c22 fun v24 c25 =>
  dL 1 v24 fun x26 n27 =>
  uC c25 fun v28 c29 =>
  dL 1 v28 fun x30 n31 =>
  uC c29 fun v32 c33 =>
  dL 1 v32 fun x34 n35 =>
  uN c33 (chk true (ap H16 41 5 80 ax2 nx3 [(.bool b20), (.bool b23), (.sl x26 n27 1), (.sl x30 n31 1), (.sl x34 n35 1)] 1 fun x36 n37 H38 =>
  sound_Copy.l3 k ax0 nx1 x36 n37 xx4 nx5 ix6 (wrapI .i64 (ix7 + 1)) H38 Q)))))
 (Q (.agg [(.sl ax2 nx3 5)]) H)) := by kernel_rfl
theorem sound_Copy_ok : Sound Go.Proofs.Try.prog 74 (sound_Copy) := prog_ok.sound (cx := sound_Copy.cx) rfl (EnvOK.cons ((page_Copy_ok).c ⟨_, Go.Proofs.Try.func100, by kernel_rfl, by kernel_rfl⟩) (EnvOK.nil _)) (noDyn_ok _) Go.Proofs.Try.func74 rfl

/-! 101: slices.Delete[[]string,string] -/
def slices_Delete__string_string.cx : Cx := ⟨tys, [], [], [], [], noDyn, [.tmp 6]⟩
def slices_Delete__string_string : Sm := fun xs H Q => ∃ k, callK (slices_Delete__string_string.cx) Go.Proofs.Try.f101 k xs H Q
theorem slices_Delete__string_string_eq (k : Nat) (z0 : Pl) (z0n : Nat) (z1 : Int) (z2 : Int) (H : Hp) (Q : Post) : callK (slices_Delete__string_string.cx) Go.Proofs.Try.f101 (k + 1) [.g (.sl z0 z0n 1), .g (.int .i64 z1), .g (.int .i64 z2)] H Q = (
 chk true (chk (leI 0 (nI z0n)) (chk (leI 0 z2) (chk (leI 0 z1) (chk ((leN (tN z1) (tN z2)) && ((leN (tN z2) (tN (nI z0n))) && ((leN (tN (nI z0n)) z0n) && (ends H z0 ((tN (nI z0n)) * 1))))) (bite (eqI z1 z2)
 (Q (.g (.sl z0 z0n 1)) H)
 (chk true (chk (leI 0 z1) (chk ((leN 0 (tN z1)) && ((leN (tN z1) z0n) || (room H z0 ((tN z1) * 1)))) (chk true (chk (leI 0 z2) (chk (leN (tN z2) z0n) (chk true (rdN H (shf z0 ((tN z2) * 1)) ((z0n - (tN z2)) * 1) fun c0 =>
  chk true (ap H 9 1 16 (shf z0 0) ((tN z1) - 0) c0 (z0n - (tN z2)) fun x1 n2 H3 =>
  chk true (chk (leI 0 (nI z0n)) (chk (leI 0 (nI n2)) (chk ((leN (tN (nI n2)) (tN (nI z0n))) && ((leN (tN (nI z0n)) n2) || (room H3 x1 ((tN (nI z0n)) * 1)))) (chk true (clr H3 (shf x1 ((tN (nI n2)) * 1)) ((tN (nI z0n)) - (tN (nI n2))) [(.str (mkS []))] fun H4 =>
  Q (.g (.sl x1 n2 1)) H4)))))))))))))))))))) := by kernel_rfl
theorem slices_Delete__string_string_ok : Sound Go.Proofs.Try.prog 101 (slices_Delete__string_string) := prog_ok.sound (cx := slices_Delete__string_string.cx) rfl (EnvOK.nil _) (noDyn_ok _) Go.Proofs.Try.func101 rfl

/-! 81: cryostat/node.Both -/
def node_Both.cx : Cx := ⟨tys, [], [], [(4, [5, 6, 7])], [(100, page_Copy)], noDyn, [.cell 6 41]⟩
def node_Both : Sm := fun xs H Q => ∃ k, callK (node_Both.cx) Go.Proofs.Try.f81 k xs H Q
def node_Both.l4 (k : Nat) (bx0 : Bool) (bx1 : Bool) (xx2 : Pl) (nx3 : Nat) (xx4 : Pl) (nx5 : Nat) (xx6 : Pl) (nx7 : Nat) (bx8 : Bool) (bx9 : Bool) (ax10 : Pl) (nx11 : Nat) (ax12 : Pl) (nx13 : Nat) (ax14 : Pl) (nx15 : Nat) (bx16 : Bool) (bx17 : Bool) (xx18 : Pl) (nx19 : Nat) (xx20 : Pl) (nx21 : Nat) (xx22 : Pl) (nx23 : Nat) (H : Hp) (Q : Post) : Prop := loopK (node_Both.cx) Go.Proofs.Try.f81 4 k (B 5 ((.bx [(.bool bx0), (.bool bx1), (.sl xx2 nx3 1), (.sl xx4 nx5 1), (.sl xx6 nx7 1)]) :: (.bx [(.bool bx8), (.bool bx9), (.sl ax10 nx11 1), (.sl ax12 nx13 1), (.sl ax14 nx15 1)]) :: (.bx [(.bool bx16), (.bool bx17), (.sl xx18 nx19 1), (.sl xx20 nx21 1), (.sl xx22 nx23 1)]) :: B 30 ([]))) H Q
theorem node_Both_eq (k : Nat) (z0 : Bool) (z1 : Bool) (z2 : Pl) (z2n : Nat) (z3 : Pl) (z3n : Nat) (z4 : Pl) (z4n : Nat) (z5 : ByteArray) (z6 : Bool) (z7 : Bool) (z8 : Pl) (z8n : Nat) (z9 : Pl) (z9n : Nat) (z10 : Pl) (z10n : Nat) (H : Hp) (Q : Post) : callK (node_Both.cx) Go.Proofs.Try.f81 (k + 1) [.agg [.bool z0, .bool z1, .sl z2 z2n 1, .sl z3 z3n 1, .sl z4 z4n 1], .g (.str z5), .agg [.bool z6, .bool z7, .sl z8 z8n 1, .sl z9 z9n 1, .sl z10 z10n 1]] H Q = (
 cl page_Copy [(.agg [(.bool z0), (.bool z1), (.sl z2 z2n 1), (.sl z3 z3n 1), (.sl z4 z4n 1)])] H fun r0 H1 =>
 rA r0 fun c2 =>
 uC c2 fun v3 c4 =>
 dB v3 fun b5 =>
 uC c4 fun v6 c7 =>
 dB v6 fun b8 =>
 uC c7 fun v9 c10 =>
 dL 1 v9 fun x11 n12 =>
 uC c10 fun v13 c14 =>
 dL 1 v13 fun x15 n16 =>
 uC c14 fun v17 c18 =>
 dL 1 v17 fun x19 n20 =>
 uN c18 (bite (!z1)
 (chk true (ap H1 9 1 16 x11 n12 [(.str z5)] 1 fun x21 n22 H23 =>
  node_Both.l4 k z6 z7 z8 z8n z9 z9n z10 z10n false false none 0 none 0 none 0 b5 b8 x21 n22 x15 n16 x19 n20 H23 Q))
 (node_Both.l4 k z6 z7 z8 z8n z9 z9n z10 z10n false false none 0 none 0 none 0 b5 b8 x11 n12 x15 n16 x19 n20 H1 Q))) := by kernel_rfl
theorem node_Both.l4_eq (k : Nat) (bx0 : Bool) (bx1 : Bool) (xx2 : Pl) (nx3 : Nat) (xx4 : Pl) (nx5 : Nat) (xx6 : Pl) (nx7 : Nat) (bx8 : Bool) (bx9 : Bool) (ax10 : Pl) (nx11 : Nat) (ax12 : Pl) (nx13 : Nat) (ax14 : Pl) (nx15 : Nat) (bx16 : Bool) (bx17 : Bool) (xx18 : Pl) (nx19 : Nat) (xx20 : Pl) (nx21 : Nat) (xx22 : Pl) (nx23 : Nat) (H : Hp) (Q : Post) : node_Both.l4 (k + 1) bx0 bx1 xx2 nx3 xx4 nx5 xx6 nx7 bx8 bx9 ax10 nx11 ax12 nx13 ax14 nx15 bx16 bx17 xx18 nx19 xx20 nx21 xx22 nx23 H Q = (
 chk true (rdN H xx2 (nx3 * 1) fun c0 =>
 chk true (ap H 9 1 16 xx18 nx19 c0 nx3 fun x1 n2 H3 =>
 chk true (rdN H3 xx4 (nx5 * 1) fun c4 =>
 chk true (ap H3 9 1 16 xx20 nx21 c4 nx5 fun x5 n6 H7 =>
 chk true (rdN H7 xx6 (nx7 * 1) fun c8 =>
 chk true (ap H7 3 1 8 xx22 nx23 c8 nx7 fun x9 n10 H11 =>
 Q (.agg [(.bool bx16), (.bool bx17), (.sl x1 n2 1), (.sl x5 n6 1), (.sl x9 n10 1)]) H11))))))) := by kernel_rfl
theorem node_Both_ok : Sound Go.Proofs.Try.prog 81 (node_Both) := prog_ok.sound (cx := node_Both.cx) rfl (EnvOK.cons ((page_Copy_ok).c ⟨_, Go.Proofs.Try.func100, by kernel_rfl, by kernel_rfl⟩) (EnvOK.nil _)) (noDyn_ok _) Go.Proofs.Try.func81 rfl

/-! 82: slices.Clip[[]string,string] -/
def slices_Clip__string_string.cx : Cx := ⟨tys, [], [], [], [], noDyn, [.tmp 2]⟩
def slices_Clip__string_string : Sm := fun xs H Q => ∃ k, callK (slices_Clip__string_string.cx) Go.Proofs.Try.f82 k xs H Q
theorem slices_Clip__string_string_eq (k : Nat) (z0 : Pl) (z0n : Nat) (H : Hp) (Q : Post) : callK (slices_Clip__string_string.cx) Go.Proofs.Try.f82 (k + 1) [.g (.sl z0 z0n 1)] H Q = (
 chk true (chk (leI 0 (nI z0n)) (chk (leI 0 (nI z0n)) (chk ((leN 0 (tN (nI z0n))) && ((leN (tN (nI z0n)) (tN (nI z0n))) && ((leN (tN (nI z0n)) z0n) && (ends H z0 ((tN (nI z0n)) * 1))))) (Q (.g (.sl (shf z0 0) ((tN (nI z0n)) - 0) 1)) H))))) := by kernel_rfl
theorem slices_Clip__string_string_ok : Sound Go.Proofs.Try.prog 82 (slices_Clip__string_string) := prog_ok.sound (cx := slices_Clip__string_string.cx) rfl (EnvOK.nil _) (noDyn_ok _) Go.Proofs.Try.func82 rfl

/-! 83: slices.Clip[[]int,int] -/
def slices_Clip__int_int.cx : Cx := ⟨tys, [], [], [], [], noDyn, [.tmp 2]⟩
def slices_Clip__int_int : Sm := fun xs H Q => ∃ k, callK (slices_Clip__int_int.cx) Go.Proofs.Try.f83 k xs H Q
theorem slices_Clip__int_int_eq (k : Nat) (z0 : Pl) (z0n : Nat) (H : Hp) (Q : Post) : callK (slices_Clip__int_int.cx) Go.Proofs.Try.f83 (k + 1) [.g (.sl z0 z0n 1)] H Q = (
 chk true (chk (leI 0 (nI z0n)) (chk (leI 0 (nI z0n)) (chk ((leN 0 (tN (nI z0n))) && ((leN (tN (nI z0n)) (tN (nI z0n))) && ((leN (tN (nI z0n)) z0n) && (ends H z0 ((tN (nI z0n)) * 1))))) (Q (.g (.sl (shf z0 0) ((tN (nI z0n)) - 0) 1)) H))))) := by kernel_rfl
theorem slices_Clip__int_int_ok : Sound Go.Proofs.Try.prog 83 (slices_Clip__int_int) := prog_ok.sound (cx := slices_Clip__int_int.cx) rfl (EnvOK.nil _) (noDyn_ok _) Go.Proofs.Try.func83 rfl

/-! 55: cryostat/node.Join -/
def node_Join.cx : Cx := ⟨tys, [], [], [], [(80, page_May), (81, node_Both), (82, slices_Clip__string_string), (83, slices_Clip__int_int)], noDyn, [.cell 6 41, .tmp 7]⟩
def node_Join : Sm := fun xs H Q => ∃ k, callK (node_Join.cx) Go.Proofs.Try.f55 k xs H Q
theorem node_Join_eq (k : Nat) (z0 : Bool) (z1 : Bool) (z2 : Pl) (z2n : Nat) (z3 : Pl) (z3n : Nat) (z4 : Pl) (z4n : Nat) (z5 : ByteArray) (z6 : Bool) (z7 : Bool) (z8 : Pl) (z8n : Nat) (z9 : Pl) (z9n : Nat) (z10 : Pl) (z10n : Nat) (H : Hp) (Q : Post) : callK (node_Join.cx) Go.Proofs.Try.f55 (k + 1) [.agg [.bool z0, .bool z1, .sl z2 z2n 1, .sl z3 z3n 1, .sl z4 z4n 1], .g (.str z5), .agg [.bool z6, .bool z7, .sl z8 z8n 1, .sl z9 z9n 1, .sl z10 z10n 1]] H Q = (
 cl page_May [(.agg [(.bool z0), (.bool z1), (.sl z2 z2n 1), (.sl z3 z3n 1), (.sl z4 z4n 1)])] H fun r0 H1 =>
 rG r0 fun v2 =>
 dB v2 fun b3 =>
 bite (!b3)
 (Q (.tup [(.a [(.bool false), (.bool false), (.sl none 0 1), (.sl none 0 1), (.sl none 0 1)]), (.s (.int .i64 900))]) H1)
 (cl page_May [(.agg [(.bool z6), (.bool z7), (.sl z8 z8n 1), (.sl z9 z9n 1), (.sl z10 z10n 1)])] H1 fun r4 H5 =>
  rG r4 fun v6 =>
  dB v6 fun b7 =>
  bite (!b7)
  (Q (.tup [(.a [(.bool false), (.bool false), (.sl none 0 1), (.sl none 0 1), (.sl none 0 1)]), (.s (.int .i64 900))]) H5)
  (bite (!(eqB z1 z7))
   (Q (.tup [(.a [(.bool false), (.bool false), (.sl none 0 1), (.sl none 0 1), (.sl none 0 1)]), (.s (.int .i64 900))]) H5)
   (cl node_Both [(.agg [(.bool z0), (.bool z1), (.sl z2 z2n 1), (.sl z3 z3n 1), (.sl z4 z4n 1)]), (.g (.str z5)), (.agg [(.bool z6), (.bool z7), (.sl z8 z8n 1), (.sl z9 z9n 1), (.sl z10 z10n 1)])] H5 fun r8 H9 =>
    rA r8 fun c10 =>
    uC c10 fun v11 c12 =>
    dB v11 fun b13 =>
    uC c12 fun v14 c15 =>
    dB v14 fun b16 =>
    uC c15 fun v17 c18 =>
    dL 1 v17 fun x19 n20 =>
    uC c18 fun v21 c22 =>
    dL 1 v21 fun x23 n24 =>
    uC c22 fun v25 c26 =>
    dL 1 v25 fun x27 n28 =>
    uN c26 (cl page_May [(.agg [(.bool b13), (.bool b16), (.sl x19 n20 1), (.sl x23 n24 1), (.sl x27 n28 1)])] H9 fun r29 H30 =>
    rG r29 fun v31 =>
    dB v31 fun b32 =>
    bite (!b32)
    (Q (.tup [(.a [(.bool false), (.bool false), (.sl none 0 1), (.sl none 0 1), (.sl none 0 1)]), (.s (.int .i64 900))]) H30)
    (cl slices_Clip__string_string [(.g (.sl x19 n20 1))] H30 fun r33 H34 =>
     rG r33 fun v35 =>
     dL 1 v35 fun x36 n37 =>
     cl slices_Clip__string_string [(.g (.sl x23 n24 1))] H34 fun r38 H39 =>
     rG r38 fun v40 =>
     dL 1 v40 fun x41 n42 =>
     cl slices_Clip__int_int [(.g (.sl x27 n28 1))] H39 fun r43 H44 =>
     rG r43 fun v45 =>
     dL 1 v45 fun x46 n47 =>
     Q (.tup [(.a [(.bool b13), (.bool b16), (.sl x36 n37 1), (.sl x41 n42 1), (.sl x46 n47 1)]), (.s (.int .i64 0))]) H44)))))) := by kernel_rfl
theorem node_Join_ok : Sound Go.Proofs.Try.prog 55 (node_Join) := prog_ok.sound (cx := node_Join.cx) rfl (EnvOK.cons ((page_May_ok).c ⟨_, Go.Proofs.Try.func80, by kernel_rfl, by kernel_rfl⟩) (EnvOK.cons ((node_Both_ok).c ⟨_, Go.Proofs.Try.func81, by kernel_rfl, by kernel_rfl⟩) (EnvOK.cons ((slices_Clip__string_string_ok).c ⟨_, Go.Proofs.Try.func82, by kernel_rfl, by kernel_rfl⟩) (EnvOK.cons ((slices_Clip__int_int_ok).c ⟨_, Go.Proofs.Try.func83, by kernel_rfl, by kernel_rfl⟩) (EnvOK.nil _))))) (noDyn_ok _) Go.Proofs.Try.func55 rfl

/-! 119: slices.Delete[[]int,int] -/
def slices_Delete__int_int.cx : Cx := ⟨tys, [], [], [], [], noDyn, [.tmp 6]⟩
def slices_Delete__int_int : Sm := fun xs H Q => ∃ k, callK (slices_Delete__int_int.cx) Go.Proofs.Try.f119 k xs H Q
theorem slices_Delete__int_int_eq (k : Nat) (z0 : Pl) (z0n : Nat) (z1 : Int) (z2 : Int) (H : Hp) (Q : Post) : callK (slices_Delete__int_int.cx) Go.Proofs.Try.f119 (k + 1) [.g (.sl z0 z0n 1), .g (.int .i64 z1), .g (.int .i64 z2)] H Q = (
 chk true (chk (leI 0 (nI z0n)) (chk (leI 0 z2) (chk (leI 0 z1) (chk ((leN (tN z1) (tN z2)) && ((leN (tN z2) (tN (nI z0n))) && ((leN (tN (nI z0n)) z0n) && (ends H z0 ((tN (nI z0n)) * 1))))) (bite (eqI z1 z2)
 (Q (.g (.sl z0 z0n 1)) H)
 (chk true (chk (leI 0 z1) (chk ((leN 0 (tN z1)) && ((leN (tN z1) z0n) || (room H z0 ((tN z1) * 1)))) (chk true (chk (leI 0 z2) (chk (leN (tN z2) z0n) (chk true (rdN H (shf z0 ((tN z2) * 1)) ((z0n - (tN z2)) * 1) fun c0 =>
  chk true (ap H 3 1 8 (shf z0 0) ((tN z1) - 0) c0 (z0n - (tN z2)) fun x1 n2 H3 =>
  chk true (chk (leI 0 (nI z0n)) (chk (leI 0 (nI n2)) (chk ((leN (tN (nI n2)) (tN (nI z0n))) && ((leN (tN (nI z0n)) n2) || (room H3 x1 ((tN (nI z0n)) * 1)))) (chk true (clr H3 (shf x1 ((tN (nI n2)) * 1)) ((tN (nI z0n)) - (tN (nI n2))) [(.int .i64 0)] fun H4 =>
  Q (.g (.sl x1 n2 1)) H4)))))))))))))))))))) := by kernel_rfl
theorem slices_Delete__int_int_ok : Sound Go.Proofs.Try.prog 119 (slices_Delete__int_int) := prog_ok.sound (cx := slices_Delete__int_int.cx) rfl (EnvOK.nil _) (noDyn_ok _) Go.Proofs.Try.func119 rfl

/-! 79: cryostat/node.Cut -/
def node_Cut.cx : Cx := ⟨tys, [], [], [], [(100, page_Copy)], noDyn, [.cell 4 41, .tmp 5, .cell 6 41]⟩
def node_Cut : Sm := fun xs H Q => ∃ k, callK (node_Cut.cx) Go.Proofs.Try.f79 k xs H Q
theorem node_Cut_eq (k : Nat) (z0 : Bool) (z1 : Bool) (z2 : Pl) (z2n : Nat) (z3 : Pl) (z3n : Nat) (z4 : Pl) (z4n : Nat) (z5 : Int) (H : Hp) (Q : Post) : callK (node_Cut.cx) Go.Proofs.Try.f79 (k + 1) [.agg [.bool z0, .bool z1, .sl z2 z2n 1, .sl z3 z3n 1, .sl z4 z4n 1], .g (.int .i64 z5)] H Q = (
 chk true (chk ((leI 0 z5) && (ltI z5 (nI z2n))) (pS z2 fun n0 n1 =>
 rd H n0 (n1 + ((tN z5) * 1)) fun v2 =>
 dS v2 fun s3 =>
 cl page_Copy [(.agg [(.bool z0), (.bool z1), (.sl z2 z2n 1), (.sl z3 z3n 1), (.sl z4 z4n 1)])] H fun r4 H5 =>
 rA r4 fun c6 =>
 uC c6 fun v7 c8 =>
 dB v7 fun b9 =>
 uC c8 fun v10 c11 =>
 dB v10 fun b12 =>
 uC c11 fun v13 c14 =>
 dL 1 v13 fun x15 n16 =>
 uC c14 fun v17 c18 =>
 dL 1 v17 fun x19 n20 =>
 uC c18 fun v21 c22 =>
 dL 1 v21 fun x23 n24 =>
 uN c22 (rd H5 n0 (n1 + ((tN z5) * 1)) fun v25 =>
 dS v25 fun s26 =>
 eqv (.g (.str s3)) (.g (.str s26)) (cl page_Copy [(.agg [(.bool z0), (.bool z1), (.sl z2 z2n 1), (.sl z3 z3n 1), (.sl z4 z4n 1)])] H5 fun r27 H28 =>
 rA r27 fun c29 =>
 uC c29 fun v30 c31 =>
 dB v30 fun b32 =>
 uC c31 fun v33 c34 =>
 dB v33 fun b35 =>
 uC c34 fun v36 c37 =>
 dL 1 v36 fun x38 n39 =>
 uC c37 fun v40 c41 =>
 dL 1 v40 fun x42 n43 =>
 uC c41 fun v44 c45 =>
 dL 1 v44 fun x46 n47 =>
 uN c45 (rd H28 n0 (n1 + ((tN z5) * 1)) fun v48 =>
 dS v48 fun s49 =>
 eqv (.g (.str s3)) (.g (.str s49)) (chk true (chk (leI 0 z5) (chk ((leN 0 (tN z5)) && ((leN (tN z5) n16) || (room H28 x15 ((tN z5) * 1)))) (bite z1
 (chk true (chk (leI 0 z5) (chk ((leN 0 (tN z5)) && ((leN (tN z5) n20) || (room H28 x19 ((tN z5) * 1)))) (chk true (chk (leI 0 z5) (chk (leN (tN z5) n39) (chk true (chk (leI 0 z5) (chk (leN (tN z5) n43) (Q (.tup [(.a [(.bool b9), (.bool b12), (.sl (shf x15 0) ((tN z5) - 0) 1), (.sl (shf x19 0) ((tN z5) - 0) 1), (.sl x23 n24 1)]), (.s (.str s3)), (.a [(.bool b32), (.bool b35), (.sl (shf x38 ((tN z5) * 1)) (n39 - (tN z5)) 1), (.sl (shf x42 ((tN z5) * 1)) (n43 - (tN z5)) 1), (.sl x46 n47 1)])]) H28))))))))))
 (chk true (chk (leI 0 (wrapI .i64 (z5 + 1))) (chk ((leN 0 (tN (wrapI .i64 (z5 + 1)))) && ((leN (tN (wrapI .i64 (z5 + 1))) n24) || (room H28 x23 ((tN (wrapI .i64 (z5 + 1))) * 1)))) (chk true (chk (leI 0 (wrapI .i64 (z5 + 1))) (chk (leN (tN (wrapI .i64 (z5 + 1))) n39) (chk true (chk (leI 0 (wrapI .i64 (z5 + 1))) (chk (leN (tN (wrapI .i64 (z5 + 1))) n47) (Q (.tup [(.a [(.bool b9), (.bool b12), (.sl (shf x15 0) ((tN z5) - 0) 1), (.sl x19 n20 1), (.sl (shf x23 0) ((tN (wrapI .i64 (z5 + 1))) - 0) 1)]), (.s (.str s3)), (.a [(.bool b32), (.bool b35), (.sl (shf x38 ((tN (wrapI .i64 (z5 + 1))) * 1)) (n39 - (tN (wrapI .i64 (z5 + 1)))) 1), (.sl x42 n43 1), (.sl (shf x46 ((tN (wrapI .i64 (z5 + 1))) * 1)) (n47 - (tN (wrapI .i64 (z5 + 1)))) 1)])]) H28)))))))))))))))))))) := by kernel_rfl
theorem node_Cut_ok : Sound Go.Proofs.Try.prog 79 (node_Cut) := prog_ok.sound (cx := node_Cut.cx) rfl (EnvOK.cons ((page_Copy_ok).c ⟨_, Go.Proofs.Try.func100, by kernel_rfl, by kernel_rfl⟩) (EnvOK.nil _)) (noDyn_ok _) Go.Proofs.Try.func79 rfl

/-! 102: (*cryostat/erase.eraser).mend -/
def erase_eraser_mend.cx : Cx := ⟨tys, [], [], [], [(55, node_Join), (101, slices_Delete__string_string), (119, slices_Delete__int_int), (81, node_Both), (79, node_Cut)], noDyn, []⟩
def erase_eraser_mend : Sm := fun xs H Q => ∃ k, callK (erase_eraser_mend.cx) Go.Proofs.Try.f102 k xs H Q
theorem erase_eraser_mend_eq (k : Nat) (z0 : Pl) (z1 : Pl) (z2 : Int) (H : Hp) (Q : Post) : callK (erase_eraser_mend.cx) Go.Proofs.Try.f102 (k + 1) [.g (.ptr z0), .g (.ptr z1), .g (.int .i64 z2)] H Q = (
 pS z1 fun n0 n1 =>
 rd H n0 (n1 + 4) fun v2 =>
 dL 1 v2 fun x3 n4 =>
 chk true (chk ((leI 0 z2) && (ltI z2 (nI n4))) (pS x3 fun n5 n6 =>
 rd H n5 (n6 + ((tN z2) * 1)) fun v7 =>
 dI .i64 v7 fun i8 =>
 pS z1 fun n9 n10 =>
 rd H n9 (n10 + 4) fun v11 =>
 dL 1 v11 fun x12 n13 =>
 chk true (chk ((leI 0 (wrapI .i64 (z2 + 1))) && (ltI (wrapI .i64 (z2 + 1)) (nI n13))) (pS x12 fun n14 n15 =>
 rd H n14 (n15 + ((tN (wrapI .i64 (z2 + 1))) * 1)) fun v16 =>
 dI .i64 v16 fun i17 =>
 pS z0 fun n18 n19 =>
 rd H n18 (n19 + 0) fun v20 =>
 dL 5 v20 fun x21 n22 =>
 chk true (chk ((leI 0 i8) && (ltI i8 (nI n22))) (pS x21 fun n23 n24 =>
 rd H n23 (n24 + ((tN i8) * 5)) fun v25 =>
 dB v25 fun b26 =>
 rd H n23 ((n24 + ((tN i8) * 5)) + 1) fun v27 =>
 dB v27 fun b28 =>
 rd H n23 (((n24 + ((tN i8) * 5)) + 1) + 1) fun v29 =>
 dL 1 v29 fun x30 n31 =>
 rd H n23 ((((n24 + ((tN i8) * 5)) + 1) + 1) + 1) fun v32 =>
 dL 1 v32 fun x33 n34 =>
 rd H n23 (((((n24 + ((tN i8) * 5)) + 1) + 1) + 1) + 1) fun v35 =>
 dL 1 v35 fun x36 n37 =>
 pS z1 fun n38 n39 =>
 rd H n38 (n39 + 2) fun v40 =>
 dL 1 v40 fun x41 n42 =>
 chk true (chk ((leI 0 z2) && (ltI z2 (nI n42))) (pS x41 fun n43 n44 =>
 rd H n43 (n44 + ((tN z2) * 1)) fun v45 =>
 dS v45 fun s46 =>
 pS z0 fun n47 n48 =>
 rd H n47 (n48 + 0) fun v49 =>
 dL 5 v49 fun x50 n51 =>
 chk true (chk ((leI 0 i17) && (ltI i17 (nI n51))) (pS x50 fun n52 n53 =>
 rd H n52 (n53 + ((tN i17) * 5)) fun v54 =>
 dB v54 fun b55 =>
 rd H n52 ((n53 + ((tN i17) * 5)) + 1) fun v56 =>
 dB v56 fun b57 =>
 rd H n52 (((n53 + ((tN i17) * 5)) + 1) + 1) fun v58 =>
 dL 1 v58 fun x59 n60 =>
 rd H n52 ((((n53 + ((tN i17) * 5)) + 1) + 1) + 1) fun v61 =>
 dL 1 v61 fun x62 n63 =>
 rd H n52 (((((n53 + ((tN i17) * 5)) + 1) + 1) + 1) + 1) fun v64 =>
 dL 1 v64 fun x65 n66 =>
 cl node_Join [(.agg [(.bool b26), (.bool b28), (.sl x30 n31 1), (.sl x33 n34 1), (.sl x36 n37 1)]), (.g (.str s46)), (.agg [(.bool b55), (.bool b57), (.sl x59 n60 1), (.sl x62 n63 1), (.sl x65 n66 1)])] H fun r67 H68 =>
 rT r67 fun c69 =>
 uR c69 fun q70 c71 =>
 rC q70 fun c72 =>
 uC c72 fun v73 c74 =>
 dB v73 fun b75 =>
 uC c74 fun v76 c77 =>
 dB v76 fun b78 =>
 uC c77 fun v79 c80 =>
 dL 1 v79 fun x81 n82 =>
 uC c80 fun v83 c84 =>
 dL 1 v83 fun x85 n86 =>
 uC c84 fun v87 c88 =>
 dL 1 v87 fun x89 n90 =>
 uN c88 (uR c71 fun q91 c92 =>
 rS q91 fun v93 =>
 dI .i64 v93 fun i94 =>
 uE c92 (bite (eqI i94 0)
 (pS z0 fun n95 n96 =>
  rd H68 n95 (n96 + 0) fun v97 =>
  dL 5 v97 fun x98 n99 =>
  pS z0 fun n100 n101 =>
  rd H68 n100 (n101 + 0) fun v102 =>
  dL 5 v102 fun x103 n104 =>
  chk true (chk ((leI 0 i8) && (ltI i8 (nI n99))) (pS x98 fun n105 n106 =>
  wr H68 n105 (n106 + ((tN i8) * 5)) (.bool b75) fun H107 =>
  wr H107 n105 ((n106 + ((tN i8) * 5)) + 1) (.bool b78) fun H108 =>
  wr H108 n105 (((n106 + ((tN i8) * 5)) + 1) + 1) (.sl x81 n82 1) fun H109 =>
  wr H109 n105 ((((n106 + ((tN i8) * 5)) + 1) + 1) + 1) (.sl x85 n86 1) fun H110 =>
  wr H110 n105 (((((n106 + ((tN i8) * 5)) + 1) + 1) + 1) + 1) (.sl x89 n90 1) fun H111 =>
  chk true (chk ((leI 0 i17) && (ltI i17 (nI n104))) (pS x103 fun n112 n113 =>
  wr H111 n112 (n113 + ((tN i17) * 5)) (.bool false) fun H114 =>
  wr H114 n112 ((n113 + ((tN i17) * 5)) + 1) (.bool false) fun H115 =>
  wr H115 n112 (((n113 + ((tN i17) * 5)) + 1) + 1) (.sl none 0 1) fun H116 =>
  wr H116 n112 ((((n113 + ((tN i17) * 5)) + 1) + 1) + 1) (.sl none 0 1) fun H117 =>
  wr H117 n112 (((((n113 + ((tN i17) * 5)) + 1) + 1) + 1) + 1) (.sl none 0 1) fun H118 =>
  pS z1 fun n119 n120 =>
  rd H118 n119 (n120 + 2) fun v121 =>
  dL 1 v121 fun x122 n123 =>
  pS z1 fun n124 n125 =>
  rd H118 n124 (n125 + 4) fun v126 =>
  dL 1 v126 fun x127 n128 =>
  cl slices_Delete__string_string [(.g (.sl x122 n123 1)), (.g (.int .i64 z2)), (.g (.int .i64 (wrapI .i64 (z2 + 1))))] H118 fun r129 H130 =>
  rG r129 fun v131 =>
  dL 1 v131 fun x132 n133 =>
  rd H130 n124 (n125 + 4) fun v134 =>
  dL 1 v134 fun x135 n136 =>
  eqv (.g (.sl x127 n128 1)) (.g (.sl x135 n136 1)) (cl slices_Delete__int_int [(.g (.sl x127 n128 1)), (.g (.int .i64 (wrapI .i64 (z2 + 1)))), (.g (.int .i64 (wrapI .i64 (z2 + 2))))] H130 fun r137 H138 =>
  rG r137 fun v139 =>
  dL 1 v139 fun x140 n141 =>
  pS z1 fun n142 n143 =>
  wr H138 n142 (n143 + 2) (.sl x132 n133 1) fun H144 =>
  pS z1 fun n145 n146 =>
  wr H144 n145 (n146 + 4) (.sl x140 n141 1) fun H147 =>
  Q (.tup []) H147))))))
 (pS z0 fun n148 n149 =>
  rd H68 n148 (n149 + 0) fun v150 =>
  dL 5 v150 fun x151 n152 =>
  chk true (chk ((leI 0 i8) && (ltI i8 (nI n152))) (pS x151 fun n153 n154 =>
  rd H68 n153 (n154 + ((tN i8) * 5)) fun v155 =>
  dB v155 fun b156 =>
  rd H68 n153 ((n154 + ((tN i8) * 5)) + 1) fun v157 =>
  dB v157 fun b158 =>
  rd H68 n153 (((n154 + ((tN i8) * 5)) + 1) + 1) fun v159 =>
  dL 1 v159 fun x160 n161 =>
  rd H68 n153 ((((n154 + ((tN i8) * 5)) + 1) + 1) + 1) fun v162 =>
  dL 1 v162 fun x163 n164 =>
  rd H68 n153 (((((n154 + ((tN i8) * 5)) + 1) + 1) + 1) + 1) fun v165 =>
  dL 1 v165 fun x166 n167 =>
  pS z1 fun n168 n169 =>
  rd H68 n168 (n169 + 2) fun v170 =>
  dL 1 v170 fun x171 n172 =>
  chk true (chk ((leI 0 z2) && (ltI z2 (nI n172))) (pS x171 fun n173 n174 =>
  rd H68 n173 (n174 + ((tN z2) * 1)) fun v175 =>
  dS v175 fun s176 =>
  pS z0 fun n177 n178 =>
  rd H68 n177 (n178 + 0) fun v179 =>
  dL 5 v179 fun x180 n181 =>
  chk true (chk ((leI 0 i17) && (ltI i17 (nI n181))) (pS x180 fun n182 n183 =>
  rd H68 n182 (n183 + ((tN i17) * 5)) fun v184 =>
  dB v184 fun b185 =>
  rd H68 n182 ((n183 + ((tN i17) * 5)) + 1) fun v186 =>
  dB v186 fun b187 =>
  rd H68 n182 (((n183 + ((tN i17) * 5)) + 1) + 1) fun v188 =>
  dL 1 v188 fun x189 n190 =>
  rd H68 n182 ((((n183 + ((tN i17) * 5)) + 1) + 1) + 1) fun v191 =>
  dL 1 v191 fun x192 n193 =>
  rd H68 n182 (((((n183 + ((tN i17) * 5)) + 1) + 1) + 1) + 1) fun v194 =>
  dL 1 v194 fun x195 n196 =>
  cl node_Both [(.agg [(.bool b156), (.bool b158), (.sl x160 n161 1), (.sl x163 n164 1), (.sl x166 n167 1)]), (.g (.str s176)), (.agg [(.bool b185), (.bool b187), (.sl x189 n190 1), (.sl x192 n193 1), (.sl x195 n196 1)])] H68 fun r197 H198 =>
  rA r197 fun c199 =>
  uC c199 fun v200 c201 =>
  dB v200 fun b202 =>
  uC c201 fun v203 c204 =>
  dB v203 fun b205 =>
  uC c204 fun v206 c207 =>
  dL 1 v206 fun x208 n209 =>
  uC c207 fun v210 c211 =>
  dL 1 v210 fun x212 n213 =>
  uC c211 fun v214 c215 =>
  dL 1 v214 fun x216 n217 =>
  uN c215 (pS z0 fun n218 n219 =>
  rd H198 n218 (n219 + 0) fun v220 =>
  dL 5 v220 fun x221 n222 =>
  pS z1 fun n223 n224 =>
  rd H198 n223 (n224 + 2) fun v225 =>
  dL 1 v225 fun x226 n227 =>
  pS z0 fun n228 n229 =>
  rd H198 n228 (n229 + 0) fun v230 =>
  dL 5 v230 fun x231 n232 =>
  cl node_Cut [(.agg [(.bool b202), (.bool b205), (.sl x208 n209 1), (.sl x212 n213 1), (.sl x216 n217 1)]), (.g (.int .i64 (wrapI .i64 (Int.tdiv (nI n209) 2))))] H198 fun r233 H234 =>
  rT r233 fun c235 =>
  uR c235 fun q236 c237 =>
  rC q236 fun c238 =>
  uC c238 fun v239 c240 =>
  dB v239 fun b241 =>
  uC c240 fun v242 c243 =>
  dB v242 fun b244 =>
  uC c243 fun v245 c246 =>
  dL 1 v245 fun x247 n248 =>
  uC c246 fun v249 c250 =>
  dL 1 v249 fun x251 n252 =>
  uC c250 fun v253 c254 =>
  dL 1 v253 fun x255 n256 =>
  uN c254 (uR c237 fun q257 c258 =>
  rS q257 fun v259 =>
  dS v259 fun s260 =>
  uR c258 fun q261 c262 =>
  rC q261 fun c263 =>
  uC c263 fun v264 c265 =>
  dB v264 fun b266 =>
  uC c265 fun v267 c268 =>
  dB v267 fun b269 =>
  uC c268 fun v270 c271 =>
  dL 1 v270 fun x272 n273 =>
  uC c271 fun v274 c275 =>
  dL 1 v274 fun x276 n277 =>
  uC c275 fun v278 c279 =>
  dL 1 v278 fun x280 n281 =>
  uN c279 (uE c262 (rd H234 n228 (n229 + 0) fun v282 =>
  dL 5 v282 fun x283 n284 =>
  eqv (.g (.sl x231 n232 5)) (.g (.sl x283 n284 5)) (rd H234 n223 (n224 + 2) fun v285 =>
  dL 1 v285 fun x286 n287 =>
  eqv (.g (.sl x226 n227 1)) (.g (.sl x286 n287 1)) (rd H234 n218 (n219 + 0) fun v288 =>
  dL 5 v288 fun x289 n290 =>
  eqv (.g (.sl x221 n222 5)) (.g (.sl x289 n290 5)) (chk true (chk ((leI 0 i8) && (ltI i8 (nI n222))) (pS x221 fun n291 n292 =>
  wr H234 n291 (n292 + ((tN i8) * 5)) (.bool b241) fun H293 =>
  wr H293 n291 ((n292 + ((tN i8) * 5)) + 1) (.bool b244) fun H294 =>
  wr H294 n291 (((n292 + ((tN i8) * 5)) + 1) + 1) (.sl x247 n248 1) fun H295 =>
  wr H295 n291 ((((n292 + ((tN i8) * 5)) + 1) + 1) + 1) (.sl x251 n252 1) fun H296 =>
  wr H296 n291 (((((n292 + ((tN i8) * 5)) + 1) + 1) + 1) + 1) (.sl x255 n256 1) fun H297 =>
  chk true (chk ((leI 0 z2) && (ltI z2 (nI n227))) (pS x226 fun n298 n299 =>
  wr H297 n298 (n299 + ((tN z2) * 1)) (.str s260) fun H300 =>
  chk true (chk ((leI 0 i17) && (ltI i17 (nI n232))) (pS x231 fun n301 n302 =>
  wr H300 n301 (n302 + ((tN i17) * 5)) (.bool b266) fun H303 =>
  wr H303 n301 ((n302 + ((tN i17) * 5)) + 1) (.bool b269) fun H304 =>
  wr H304 n301 (((n302 + ((tN i17) * 5)) + 1) + 1) (.sl x272 n273 1) fun H305 =>
  wr H305 n301 ((((n302 + ((tN i17) * 5)) + 1) + 1) + 1) (.sl x276 n277 1) fun H306 =>
  wr H306 n301 (((((n302 + ((tN i17) * 5)) + 1) + 1) + 1) + 1) (.sl x280 n281 1) fun H307 =>
  Q (.tup []) H307))))))))))))))))))))))))))))))))) := by kernel_rfl
theorem erase_eraser_mend_ok : Sound Go.Proofs.Try.prog 102 (erase_eraser_mend) := prog_ok.sound (cx := erase_eraser_mend.cx) rfl (EnvOK.cons ((node_Join_ok).c ⟨_, Go.Proofs.Try.func55, by kernel_rfl, by kernel_rfl⟩) (EnvOK.cons ((slices_Delete__string_string_ok).c ⟨_, Go.Proofs.Try.func101, by kernel_rfl, by kernel_rfl⟩) (EnvOK.cons ((slices_Delete__int_int_ok).c ⟨_, Go.Proofs.Try.func119, by kernel_rfl, by kernel_rfl⟩) (EnvOK.cons ((node_Both_ok).c ⟨_, Go.Proofs.Try.func81, by kernel_rfl, by kernel_rfl⟩) (EnvOK.cons ((node_Cut_ok).c ⟨_, Go.Proofs.Try.func79, by kernel_rfl, by kernel_rfl⟩) (EnvOK.nil _)))))) (noDyn_ok _) Go.Proofs.Try.func102 rfl

/-! 75: (*cryostat/erase.eraser).drop -/
def erase_eraser_drop.cx (S : Sm) : Cx := ⟨tys, [], [], [], [(21, node_Slot), (101, slices_Delete__string_string), (68, find_Kid), (75, S), (102, erase_eraser_mend)], noDyn, []⟩
def erase_eraser_drop.st (S : Sm) : Sm := fun xs H Q => ∃ k, callK (erase_eraser_drop.cx S) Go.Proofs.Try.f75 k xs H Q
theorem erase_eraser_drop_eq (S : Sm) (k : Nat) (z0 : Pl) (z1 : Int) (z2 : ByteArray) (H : Hp) (Q : Post) : callK (erase_eraser_drop.cx S) Go.Proofs.Try.f75 (k + 1) [.g (.ptr z0), .g (.int .i64 z1), .g (.str z2)] H Q = (
 pS z0 fun n0 n1 =>
 rd H n0 (n1 + 0) fun v2 =>
 dL 5 v2 fun x3 n4 =>
 chk true (chk ((leI 0 z1) && (ltI z1 (nI n4))) (pS x3 fun n5 n6 =>
 rd H n5 ((n6 + ((tN z1) * 5)) + 1) fun v7 =>
 dB v7 fun b8 =>
 bite b8
 (rd H n5 ((n6 + ((tN z1) * 5)) + 2) fun v9 =>
  dL 1 v9 fun x10 n11 =>
  cl node_Slot [(.g (.sl x10 n11 1)), (.g (.str z2))] H fun r12 H13 =>
  rT r12 fun c14 =>
  uR c14 fun q15 c16 =>
  rS q15 fun v17 =>
  dI .i64 v17 fun i18 =>
  uR c16 fun q19 c20 =>
  rS q19 fun v21 =>
  dB v21 fun b22 =>
  uE c20 (rd H13 n5 ((n6 + ((tN z1) * 5)) + 2) fun v23 =>
  dL 1 v23 fun x24 n25 =>
  rd H13 n5 ((n6 + ((tN z1) * 5)) + 3) fun v26 =>
  dL 1 v26 fun x27 n28 =>
  cl slices_Delete__string_string [(.g (.sl x24 n25 1)), (.g (.int .i64 i18)), (.g (.int .i64 (wrapI .i64 (i18 + 1))))] H13 fun r29 H30 =>
  rG r29 fun v31 =>
  dL 1 v31 fun x32 n33 =>
  rd H30 n5 ((n6 + ((tN z1) * 5)) + 3) fun v34 =>
  dL 1 v34 fun x35 n36 =>
  eqv (.g (.sl x27 n28 1)) (.g (.sl x35 n36 1)) (cl slices_Delete__string_string [(.g (.sl x27 n28 1)), (.g (.int .i64 i18)), (.g (.int .i64 (wrapI .i64 (i18 + 1))))] H30 fun r37 H38 =>
  rG r37 fun v39 =>
  dL 1 v39 fun x40 n41 =>
  wr H38 n5 ((n6 + ((tN z1) * 5)) + 2) (.sl x32 n33 1) fun H42 =>
  wr H42 n5 ((n6 + ((tN z1) * 5)) + 3) (.sl x40 n41 1) fun H43 =>
  Q (.tup []) H43)))
 (cl find_Kid [(.g (.ptr (some (n5, (n6 + ((tN z1) * 5)))))), (.g (.str z2))] H fun r44 H45 =>
  rG r44 fun v46 =>
  dI .i64 v46 fun i47 =>
  rd H45 n5 ((n6 + ((tN z1) * 5)) + 4) fun v48 =>
  dL 1 v48 fun x49 n50 =>
  chk true (chk ((leI 0 i47) && (ltI i47 (nI n50))) (pS x49 fun n51 n52 =>
  rd H45 n51 (n52 + ((tN i47) * 1)) fun v53 =>
  dI .i64 v53 fun i54 =>
  cl S [(.g (.ptr z0)), (.g (.int .i64 i54)), (.g (.str z2))] H45 fun r55 H56 =>
  pS z0 fun n57 n58 =>
  rd H56 n57 (n58 + 0) fun v59 =>
  dL 5 v59 fun x60 n61 =>
  rd H56 n5 ((n6 + ((tN z1) * 5)) + 4) fun v62 =>
  dL 1 v62 fun x63 n64 =>
  chk true (chk ((leI 0 i47) && (ltI i47 (nI n64))) (pS x63 fun n65 n66 =>
  rd H56 n65 (n66 + ((tN i47) * 1)) fun v67 =>
  dI .i64 v67 fun i68 =>
  chk true (chk ((leI 0 i68) && (ltI i68 (nI n61))) (pS x60 fun n69 n70 =>
  rd H56 n69 ((n70 + ((tN i68) * 5)) + 2) fun v71 =>
  dL 1 v71 fun x72 n73 =>
  bite (ltI (nI n73) 2)
  (rd H56 n5 ((n6 + ((tN z1) * 5)) + 2) fun v74 =>
   dL 1 v74 fun x75 n76 =>
   cl erase_eraser_mend [(.g (.ptr z0)), (.g (.ptr (some (n5, (n6 + ((tN z1) * 5)))))), (.g (.int .i64 (mnI i47 (wrapI .i64 ((nI n76) - 1)))))] H56 fun r77 H78 =>
   Q (.tup []) H78)
  (Q (.tup []) H56))))))))))) := by kernel_rfl
theorem erase_eraser_drop.st_ok (S : Sm) (hS : SoundC Go.Proofs.Try.prog 75 S) : Sound Go.Proofs.Try.prog 75 (erase_eraser_drop.st S) := prog_ok.sound (cx := erase_eraser_drop.cx S) rfl (EnvOK.cons ((node_Slot_ok).c ⟨_, Go.Proofs.Try.func21, by kernel_rfl, by kernel_rfl⟩) (EnvOK.cons ((slices_Delete__string_string_ok).c ⟨_, Go.Proofs.Try.func101, by kernel_rfl, by kernel_rfl⟩) (EnvOK.cons ((find_Kid_ok).c ⟨_, Go.Proofs.Try.func68, by kernel_rfl, by kernel_rfl⟩) (EnvOK.cons hS (EnvOK.cons ((erase_eraser_mend_ok).c ⟨_, Go.Proofs.Try.func102, by kernel_rfl, by kernel_rfl⟩) (EnvOK.nil _)))))) (noDyn_ok _) Go.Proofs.Try.func75 rfl
def erase_eraser_drop.at : Nat → Sm
  | 0 => fun _ _ _ => False
  | n + 1 => erase_eraser_drop.st (erase_eraser_drop.at n)
def erase_eraser_drop : Sm := fun xs H Q => ∃ n, erase_eraser_drop.at n xs H Q
theorem erase_eraser_drop.at_ok : ∀ n, Sound Go.Proofs.Try.prog 75 (erase_eraser_drop.at n)
  | 0 => fun _ _ _ h => h.elim
  | n + 1 => erase_eraser_drop.st_ok _ ((erase_eraser_drop.at_ok n).c ⟨_, Go.Proofs.Try.func75, by kernel_rfl, by kernel_rfl⟩)
theorem erase_eraser_drop_ok : Sound Go.Proofs.Try.prog 75 (erase_eraser_drop) := Sound.ex (erase_eraser_drop.at_ok)

/-! 76: (*cryostat/erase.eraser).root -/
def erase_eraser_root.cx : Cx := ⟨tys, [], [], [], [], noDyn, []⟩
def erase_eraser_root : Sm := fun xs H Q => ∃ k, callK (erase_eraser_root.cx) Go.Proofs.Try.f76 k xs H Q
theorem erase_eraser_root_eq (k : Nat) (z0 : Pl) (H : Hp) (Q : Post) : callK (erase_eraser_root.cx) Go.Proofs.Try.f76 (k + 1) [.g (.ptr z0)] H Q = (
 pS z0 fun n0 n1 =>
 rd H n0 (n1 + 0) fun v2 =>
 dL 5 v2 fun x3 n4 =>
 chk true (chk ((leI 0 0) && (ltI 0 (nI n4))) (pS x3 fun n5 n6 =>
 rd H n5 (n6 + ((tN 0) * 5)) fun v7 =>
 dB v7 fun b8 =>
 rd H n5 ((n6 + ((tN 0) * 5)) + 1) fun v9 =>
 dB v9 fun b10 =>
 rd H n5 (((n6 + ((tN 0) * 5)) + 1) + 1) fun v11 =>
 dL 1 v11 fun x12 n13 =>
 rd H n5 ((((n6 + ((tN 0) * 5)) + 1) + 1) + 1) fun v14 =>
 dL 1 v14 fun x15 n16 =>
 rd H n5 (((((n6 + ((tN 0) * 5)) + 1) + 1) + 1) + 1) fun v17 =>
 dL 1 v17 fun x18 n19 =>
 bite (!b10)
 (bite (eqI (nI n13) 0)
  (pS z0 fun n20 n21 =>
   rd H n20 (n21 + 0) fun v22 =>
   dL 5 v22 fun x23 n24 =>
   pS z0 fun n25 n26 =>
   rd H n25 (n26 + 0) fun v27 =>
   dL 5 v27 fun x28 n29 =>
   chk true (chk ((leI 0 0) && (ltI 0 (nI n19))) (pS x18 fun n30 n31 =>
   rd H n30 (n31 + ((tN 0) * 1)) fun v32 =>
   dI .i64 v32 fun i33 =>
   pS z0 fun n34 n35 =>
   rd H n34 (n35 + 0) fun v36 =>
   dL 5 v36 fun x37 n38 =>
   chk true (chk ((leI 0 0) && (ltI 0 (nI n19))) (pS x18 fun n39 n40 =>
   rd H n39 (n40 + ((tN 0) * 1)) fun v41 =>
   dI .i64 v41 fun i42 =>
   chk true (chk ((leI 0 i42) && (ltI i42 (nI n38))) (pS x37 fun n43 n44 =>
   rd H n43 (n44 + ((tN i42) * 5)) fun v45 =>
   dB v45 fun b46 =>
   rd H n43 ((n44 + ((tN i42) * 5)) + 1) fun v47 =>
   dB v47 fun b48 =>
   rd H n43 (((n44 + ((tN i42) * 5)) + 1) + 1) fun v49 =>
   dL 1 v49 fun x50 n51 =>
   rd H n43 ((((n44 + ((tN i42) * 5)) + 1) + 1) + 1) fun v52 =>
   dL 1 v52 fun x53 n54 =>
   rd H n43 (((((n44 + ((tN i42) * 5)) + 1) + 1) + 1) + 1) fun v55 =>
   dL 1 v55 fun x56 n57 =>
   chk true (chk ((leI 0 0) && (ltI 0 (nI n24))) (pS x23 fun n58 n59 =>
   wr H n58 (n59 + ((tN 0) * 5)) (.bool b46) fun H60 =>
   wr H60 n58 ((n59 + ((tN 0) * 5)) + 1) (.bool b48) fun H61 =>
   wr H61 n58 (((n59 + ((tN 0) * 5)) + 1) + 1) (.sl x50 n51 1) fun H62 =>
   wr H62 n58 ((((n59 + ((tN 0) * 5)) + 1) + 1) + 1) (.sl x53 n54 1) fun H63 =>
   wr H63 n58 (((((n59 + ((tN 0) * 5)) + 1) + 1) + 1) + 1) (.sl x56 n57 1) fun H64 =>
   chk true (chk ((leI 0 i33) && (ltI i33 (nI n29))) (pS x28 fun n65 n66 =>
   wr H64 n65 (n66 + ((tN i33) * 5)) (.bool false) fun H67 =>
   wr H67 n65 ((n66 + ((tN i33) * 5)) + 1) (.bool false) fun H68 =>
   wr H68 n65 (((n66 + ((tN i33) * 5)) + 1) + 1) (.sl none 0 1) fun H69 =>
   wr H69 n65 ((((n66 + ((tN i33) * 5)) + 1) + 1) + 1) (.sl none 0 1) fun H70 =>
   wr H70 n65 (((((n66 + ((tN i33) * 5)) + 1) + 1) + 1) + 1) (.sl none 0 1) fun H71 =>
   Q (.tup []) H71)))))))))))
  (Q (.tup []) H))
 (Q (.tup []) H)))) := by kernel_rfl
theorem erase_eraser_root_ok : Sound Go.Proofs.Try.prog 76 (erase_eraser_root) := prog_ok.sound (cx := erase_eraser_root.cx) rfl (EnvOK.nil _) (noDyn_ok _) Go.Proofs.Try.func76 rfl

/-! 50: cryostat/erase.Erase -/
def erase_Erase.cx : Cx := ⟨tys, [25], [], [(8, [4, 8, 10, 25])], [(40, find_Find), (74, sound_Copy), (75, erase_eraser_drop), (76, erase_eraser_root)], noDyn, [.cell 4 34, .tmp 5, .tmp 6]⟩
def erase_Erase : Sm := fun xs H Q => ∃ k, callK (erase_Erase.cx) Go.Proofs.Try.f50 k xs H Q
def erase_Erase.l8 (k : Nat) (ax0 : Pl) (nx1 : Nat) (bx2 : Bool) (nx3 : Nat) (nx4 : Nat) (nx5 : Nat) (nx6 : Nat) (H : Hp) (Q : Post) : Prop := loopK (erase_Erase.cx) Go.Proofs.Try.f50 8 k (B 4 ((.bx [(.sl ax0 nx1 5)]) :: B 3 ((.g (.bool bx2)) :: .bad :: (.g (.ptr (some (nx3, nx4)))) :: B 14 ((.g (.ptr (some (nx5, nx6)))) :: B 12 ([]))))) H Q
theorem erase_Erase_eq (k : Nat) (z0 : Pl) (z0n : Nat) (z1 : ByteArray) (H : Hp) (Q : Post) : callK (erase_Erase.cx) Go.Proofs.Try.f50 (k + 1) [.agg [.sl z0 z0n 5], .g (.str z1)] H Q = (
 cl find_Find [(.agg [(.sl z0 z0n 5)]), (.g (.str z1))] H fun r0 H1 =>
 rT r0 fun c2 =>
 uR c2 fun q3 c4 =>
 rS q3 fun v5 =>
 dS v5 fun s6 =>
 uR c4 fun q7 c8 =>
 rS q7 fun v9 =>
 dB v9 fun b10 =>
 uR c8 fun q11 c12 =>
 rS q11 fun v13 =>
 dI .i64 v13 fun i14 =>
 uE c12 (bite (!(eqI i14 0))
 (Q (.tup [(.a [(.sl none 0 5)]), (.s (.bool false)), (.s (.int .i64 1300))]) H1)
 (cl sound_Copy [(.agg [(.sl z0 z0n 5)])] H1 fun r15 H16 =>
  rA r15 fun c17 =>
  uC c17 fun v18 c19 =>
  dL 5 v18 fun x20 n21 =>
  uN c19 (bite b10
  (cl erase_eraser_drop [(.g (.ptr (some ((ln H16), 0)))), (.g (.int .i64 0)), (.g (.str z1))] (pu H16 (.row true 116 [(.sl x20 n21 5)])) fun r22 H23 =>
   cl erase_eraser_root [(.g (.ptr (some ((ln H16), 0))))] H23 fun r24 H25 =>
   erase_Erase.l8 k none 0 b10 (ln H16) 0 (ln H16) 0 H25 Q)
  (erase_Erase.l8 k none 0 b10 (ln H16) 0 (ln H16) 0 (pu H16 (.row true 116 [(.sl x20 n21 5)])) Q))))) := by kernel_rfl
theorem erase_Erase.l8_eq (k : Nat) (ax0 : Pl) (nx1 : Nat) (bx2 : Bool) (nx3 : Nat) (nx4 : Nat) (nx5 : Nat) (nx6 : Nat) (H : Hp) (Q : Post) : erase_Erase.l8 (k + 1) ax0 nx1 bx2 nx3 nx4 nx5 nx6 H Q = (
 rd H nx3 (nx4 + 0) fun v0 =>
 dL 5 v0 fun x1 n2 =>
 Q (.tup [(.a [(.sl x1 n2 5)]), (.s (.bool bx2)), (.s (.int .i64 0))]) H) := by kernel_rfl
theorem erase_Erase_ok : Sound Go.Proofs.Try.prog 50 (erase_Erase) := prog_ok.sound (cx := erase_Erase.cx) rfl (EnvOK.cons ((find_Find_ok).c ⟨_, Go.Proofs.Try.func40, by kernel_rfl, by kernel_rfl⟩) (EnvOK.cons ((sound_Copy_ok).c ⟨_, Go.Proofs.Try.func74, by kernel_rfl, by kernel_rfl⟩) (EnvOK.cons ((erase_eraser_drop_ok).c ⟨_, Go.Proofs.Try.func75, by kernel_rfl, by kernel_rfl⟩) (EnvOK.cons ((erase_eraser_root_ok).c ⟨_, Go.Proofs.Try.func76, by kernel_rfl, by kernel_rfl⟩) (EnvOK.nil _))))) (noDyn_ok _) Go.Proofs.Try.func50 rfl

/-! 51: cryostat/cryostatref9.Erase -/
def ref9_Erase.cx : Cx := ⟨tys, [], [(5, [1, 2, 4, 7, 8])], [], [(49, ref9_Sound), (60, ref9_all), (38, ref9_Build), (67, ref9_CopyTree)], noDyn, [.cell 4 34, .tmp 5, .tmp 6]⟩
def ref9_Erase : Sm := fun xs H Q => ∃ k, callK (ref9_Erase.cx) Go.Proofs.Try.f51 k xs H Q
def ref9_Erase.l5 (k : Nat) (sx0 : ByteArray) (xx1 : Pl) (nx2 : Nat) (ax3 : Pl) (nx4 : Nat) (xx5 : Pl) (nx6 : Nat) (ix7 : Int) (H : Hp) (Q : Post) : Prop := loopK (ref9_Erase.cx) Go.Proofs.Try.f51 5 k (.bad :: (.g (.str sx0)) :: (.bx [(.sl xx1 nx2 5)]) :: .bad :: (.bx [(.sl ax3 nx4 5)]) :: .bad :: .bad :: (.g (.sl xx5 nx6 2)) :: (.g (.int .i64 ix7)) :: B 35 ([])) H Q
theorem ref9_Erase_eq (k : Nat) (z0 : Pl) (z0n : Nat) (z1 : ByteArray) (H : Hp) (Q : Post) : callK (ref9_Erase.cx) Go.Proofs.Try.f51 (k + 1) [.agg [.sl z0 z0n 5], .g (.str z1)] H Q = (
 cl ref9_Sound [(.agg [(.sl z0 z0n 5)])] H fun r0 H1 =>
 rG r0 fun v2 =>
 dB v2 fun b3 =>
 bite (!b3)
 (Q (.tup [(.a [(.sl none 0 5)]), (.s (.bool false)), (.s (.int .i64 1300))]) H1)
 (cl ref9_all [(.agg [(.sl z0 z0n 5)]), (.g (.int .i64 0)), (.g (.sl none 0 2))] H1 fun r4 H5 =>
  rG r4 fun v6 =>
  dL 2 v6 fun x7 n8 =>
  ref9_Erase.l5 k z1 z0 z0n none 0 x7 n8 0 H5 Q)) := by kernel_rfl
theorem ref9_Erase.l5_eq (k : Nat) (sx0 : ByteArray) (xx1 : Pl) (nx2 : Nat) (ax3 : Pl) (nx4 : Nat) (xx5 : Pl) (nx6 : Nat) (ix7 : Int) (H : Hp) (Q : Post) : ref9_Erase.l5 (k + 1) sx0 xx1 nx2 ax3 nx4 xx5 nx6 ix7 H Q = (
 bite (ltI ix7 (nI nx6))
 (chk true (chk ((leI 0 ix7) && (ltI ix7 (nI nx6))) (pS xx5 fun n0 n1 =>
  rd H n0 ((n1 + ((tN ix7) * 2)) + 0) fun v2 =>
  dS v2 fun s3 =>
  bite (strEq s3 sx0)
  (chk true (chk (leI 0 ix7) (chk ((leN 0 (tN ix7)) && ((leN (tN ix7) nx6) || (room H xx5 ((tN ix7) * 2)))) (chk true (rdN H (shf xx5 0) (((tN ix7) - 0) * 2) fun c4 =>
   chk true (ap H 53 2 32 none 0 c4 ((tN ix7) - 0) fun x5 n6 H7 =>
   chk true (chk (leI 0 (wrapI .i64 (ix7 + 1))) (chk (leN (tN (wrapI .i64 (ix7 + 1))) nx6) (chk true (rdN H7 (shf xx5 ((tN (wrapI .i64 (ix7 + 1))) * 2)) ((nx6 - (tN (wrapI .i64 (ix7 + 1)))) * 2) fun c8 =>
   chk true (ap H7 53 2 32 x5 n6 c8 (nx6 - (tN (wrapI .i64 (ix7 + 1)))) fun x9 n10 H11 =>
   cl ref9_Build [(.g (.sl x9 n10 2))] H11 fun r12 H13 =>
   rA r12 fun c14 =>
   uC c14 fun v15 c16 =>
   dL 5 v15 fun x17 n18 =>
   uN c16 (Q (.tup [(.a [(.sl x17 n18 5)]), (.s (.bool true)), (.s (.int .i64 0))]) H13))))))))))))
  (ref9_Erase.l5 k sx0 xx1 nx2 ax3 nx4 xx5 nx6 (wrapI .i64 (ix7 + 1)) H Q))))
 (cl ref9_CopyTree [(.agg [(.sl xx1 nx2 5)])] H fun r19 H20 =>
  rA r19 fun c21 =>
  uC c21 fun v22 c23 =>
  dL 5 v22 fun x24 n25 =>
  uN c23 (Q (.tup [(.a [(.sl x24 n25 5)]), (.s (.bool false)), (.s (.int .i64 0))]) H20))) := by kernel_rfl
theorem ref9_Erase_ok : Sound Go.Proofs.Try.prog 51 (ref9_Erase) := prog_ok.sound (cx := ref9_Erase.cx) rfl (EnvOK.cons ((ref9_Sound_ok).c ⟨_, Go.Proofs.Try.func49, by kernel_rfl, by kernel_rfl⟩) (EnvOK.cons ((ref9_all_ok).c ⟨_, Go.Proofs.Try.func60, by kernel_rfl, by kernel_rfl⟩) (EnvOK.cons ((ref9_Build_ok).c ⟨_, Go.Proofs.Try.func38, by kernel_rfl, by kernel_rfl⟩) (EnvOK.cons ((ref9_CopyTree_ok).c ⟨_, Go.Proofs.Try.func67, by kernel_rfl, by kernel_rfl⟩) (EnvOK.nil _))))) (noDyn_ok _) Go.Proofs.Try.func51 rfl

/-! 52: cryostat/cryostatlaw13.awake -/
def law13_awake.cx : Cx := ⟨tys, [], [], [], [(38, ref9_Build), (50, erase_Erase), (27, ref9_All), (23, law0_Num), (35, law0_SameTree)], noDyn, [.tmp 0]⟩
def law13_awake : Sm := fun xs H Q => ∃ k, callK (law13_awake.cx) Go.Proofs.Try.f52 k xs H Q
theorem law13_awake_eq (k : Nat)  (H : Hp) (Q : Post) : callK (law13_awake.cx) Go.Proofs.Try.f52 (k + 1) [] H Q = (
 cl ref9_Build [(.g (.sl (some ((ln H), 0)) 5 2))] (pu H (.row false 0 [(.str (mkS [97])), (.str (mkS [49])), (.str (mkS [98])), (.str (mkS [])), (.str (mkS [99])), (.str (mkS [51])), (.str (mkS [100])), (.str (mkS [])), (.str (mkS [101])), (.str (mkS [53]))])) fun r0 H1 =>
 rA r0 fun c2 =>
 uC c2 fun v3 c4 =>
 dL 5 v3 fun x5 n6 =>
 uN c4 (cl erase_Erase [(.agg [(.sl x5 n6 5)]), (.g (.str (mkS [99])))] H1 fun r7 H8 =>
 rT r7 fun c9 =>
 uR c9 fun q10 c11 =>
 rC q10 fun c12 =>
 uC c12 fun v13 c14 =>
 dL 5 v13 fun x15 n16 =>
 uN c14 (uR c11 fun q17 c18 =>
 rS q17 fun v19 =>
 dB v19 fun b20 =>
 uR c18 fun q21 c22 =>
 rS q21 fun v23 =>
 dI .i64 v23 fun i24 =>
 uE c22 (cl erase_Erase [(.agg [(.sl x5 n6 5)]), (.g (.str (mkS [120])))] H8 fun r25 H26 =>
 rT r25 fun c27 =>
 uR c27 fun q28 c29 =>
 rC q28 fun c30 =>
 uC c30 fun v31 c32 =>
 dL 5 v31 fun x33 n34 =>
 uN c32 (uR c29 fun q35 c36 =>
 rS q35 fun v37 =>
 dB v37 fun b38 =>
 uR c36 fun q39 c40 =>
 rS q39 fun v41 =>
 dI .i64 v41 fun i42 =>
 uE c40 (cl erase_Erase [(.agg [(.sl none 0 5)]), (.g (.str (mkS [97])))] H26 fun r43 H44 =>
 rT r43 fun c45 =>
 uR c45 fun q46 c47 =>
 rC q46 fun c48 =>
 uC c48 fun v49 c50 =>
 dL 5 v49 fun x51 n52 =>
 uN c50 (uR c47 fun q53 c54 =>
 rS q53 fun v55 =>
 dB v55 fun b56 =>
 uR c54 fun q57 c58 =>
 rS q57 fun v59 =>
 dI .i64 v59 fun i60 =>
 uE c58 (cl ref9_All [(.agg [(.sl x15 n16 5)])] H44 fun r61 H62 =>
 rT r61 fun c63 =>
 uR c63 fun q64 c65 =>
 rS q64 fun v66 =>
 dL 2 v66 fun x67 n68 =>
 uR c65 fun q69 c70 =>
 rS q69 fun v71 =>
 dI .i64 v71 fun i72 =>
 uE c70 (bite b20
 (cl law0_Num [(.g (.int .i64 i24))] H62 fun r73 H74 =>
  rG r73 fun v75 =>
  dI .i64 v75 fun i76 =>
  bite (eqI i76 0)
  (bite (!b38)
   (cl law0_Num [(.g (.int .i64 i42))] H74 fun r77 H78 =>
    rG r77 fun v79 =>
    dI .i64 v79 fun i80 =>
    bite (eqI i80 0)
    (cl law0_SameTree [(.agg [(.sl x33 n34 5)]), (.agg [(.sl x5 n6 5)])] H78 fun r81 H82 =>
     rG r81 fun v83 =>
     dB v83 fun b84 =>
     bite b84
     (cl law0_Num [(.g (.int .i64 i60))] H82 fun r85 H86 =>
      rG r85 fun v87 =>
      dI .i64 v87 fun i88 =>
      bite (eqI i88 1300)
      (bite (eqI i72 0)
       (bite (eqI (nI n68) 4)
        (chk true (chk ((leI 0 2) && (ltI 2 (nI n68))) (pS x67 fun n89 n90 =>
         rd H86 n89 ((n90 + ((tN 2) * 2)) + 0) fun v91 =>
         dS v91 fun s92 =>
         Q (.g (.bool (strEq s92 (mkS [100])))) H86)))
        (Q (.g (.bool false)) H86))
       (Q (.g (.bool false)) H86))
      (Q (.g (.bool false)) H86))
     (Q (.g (.bool false)) H82))
    (Q (.g (.bool false)) H78))
   (Q (.g (.bool false)) H74))
  (Q (.g (.bool false)) H74))
 (Q (.g (.bool false)) H62)))))))))) := by kernel_rfl
theorem law13_awake_ok : Sound Go.Proofs.Try.prog 52 (law13_awake) := prog_ok.sound (cx := law13_awake.cx) rfl (EnvOK.cons ((ref9_Build_ok).c ⟨_, Go.Proofs.Try.func38, by kernel_rfl, by kernel_rfl⟩) (EnvOK.cons ((erase_Erase_ok).c ⟨_, Go.Proofs.Try.func50, by kernel_rfl, by kernel_rfl⟩) (EnvOK.cons ((ref9_All_ok).c ⟨_, Go.Proofs.Try.func27, by kernel_rfl, by kernel_rfl⟩) (EnvOK.cons ((law0_Num_ok).c ⟨_, Go.Proofs.Try.func23, by kernel_rfl, by kernel_rfl⟩) (EnvOK.cons ((law0_SameTree_ok).c ⟨_, Go.Proofs.Try.func35, by kernel_rfl, by kernel_rfl⟩) (EnvOK.nil _)))))) (noDyn_ok _) Go.Proofs.Try.func52 rfl

/-! 103: cryostat/cryostatlaw0.SpoilTexts -/
def law0_SpoilTexts.cx : Cx := ⟨tys, [], [(1, [0, 2])], [], [], noDyn, []⟩
def law0_SpoilTexts : Sm := fun xs H Q => ∃ k, callK (law0_SpoilTexts.cx) Go.Proofs.Try.f103 k xs H Q
def law0_SpoilTexts.l1 (k : Nat) (xx0 : Pl) (nx1 : Nat) (ix2 : Int) (H : Hp) (Q : Post) : Prop := loopK (law0_SpoilTexts.cx) Go.Proofs.Try.f103 1 k ((.g (.sl xx0 nx1 1)) :: .bad :: (.g (.int .i64 ix2)) :: B 14 ([])) H Q
theorem law0_SpoilTexts_eq (k : Nat) (z0 : Pl) (z0n : Nat) (H : Hp) (Q : Post) : callK (law0_SpoilTexts.cx) Go.Proofs.Try.f103 (k + 1) [.g (.sl z0 z0n 1)] H Q = (
 law0_SpoilTexts.l1 k z0 z0n 0 H Q) := by kernel_rfl
theorem law0_SpoilTexts.l1_eq (k : Nat) (xx0 : Pl) (nx1 : Nat) (ix2 : Int) (H : Hp) (Q : Post) : law0_SpoilTexts.l1 (k + 1) xx0 nx1 ix2 H Q = (
 bite (ltI ix2 (nI nx1))
 (chk true (chk ((leI 0 ix2) && (ltI ix2 (nI nx1))) (pS xx0 fun n0 n1 =>
  rd H n0 (n1 + ((tN ix2) * 1)) fun v2 =>
  dS v2 fun s3 =>
  catS (mkS [126]) s3 fun s4 =>
  chk true (chk ((leI 0 ix2) && (ltI ix2 (nI nx1))) (pS xx0 fun n5 n6 =>
  wr H n5 (n6 + ((tN ix2) * 1)) (.str s4) fun H7 =>
  law0_SpoilTexts.l1 k xx0 nx1 (wrapI .i64 (ix2 + 1)) H7 Q)))))
 (Q (.tup []) H)) := by kernel_rfl
theorem law0_SpoilTexts_ok : Sound Go.Proofs.Try.prog 103 (law0_SpoilTexts) := prog_ok.sound (cx := law0_SpoilTexts.cx) rfl (EnvOK.nil _) (noDyn_ok _) Go.Proofs.Try.func103 rfl

/-! 104: cryostat/cryostatlaw0.SpoilInts -/
def law0_SpoilInts.cx : Cx := ⟨tys, [], [(1, [0, 2])], [], [], noDyn, []⟩
def law0_SpoilInts : Sm := fun xs H Q => ∃ k, callK (law0_SpoilInts.cx) Go.Proofs.Try.f104 k xs H Q
def law0_SpoilInts.l1 (k : Nat) (xx0 : Pl) (nx1 : Nat) (ix2 : Int) (H : Hp) (Q : Post) : Prop := loopK (law0_SpoilInts.cx) Go.Proofs.Try.f104 1 k ((.g (.sl xx0 nx1 1)) :: .bad :: (.g (.int .i64 ix2)) :: B 14 ([])) H Q
theorem law0_SpoilInts_eq (k : Nat) (z0 : Pl) (z0n : Nat) (H : Hp) (Q : Post) : callK (law0_SpoilInts.cx) Go.Proofs.Try.f104 (k + 1) [.g (.sl z0 z0n 1)] H Q = (
 law0_SpoilInts.l1 k z0 z0n 0 H Q) := by kernel_rfl
theorem law0_SpoilInts.l1_eq (k : Nat) (xx0 : Pl) (nx1 : Nat) (ix2 : Int) (H : Hp) (Q : Post) : law0_SpoilInts.l1 (k + 1) xx0 nx1 ix2 H Q = (
 bite (ltI ix2 (nI nx1))
 (chk true (chk ((leI 0 ix2) && (ltI ix2 (nI nx1))) (pS xx0 fun n0 n1 =>
  rd H n0 (n1 + ((tN ix2) * 1)) fun v2 =>
  dI .i64 v2 fun i3 =>
  chk true (chk ((leI 0 ix2) && (ltI ix2 (nI nx1))) (pS xx0 fun n4 n5 =>
  wr H n4 (n5 + ((tN ix2) * 1)) (.int .i64 (wrapI .i64 ((-9) - i3))) fun H6 =>
  law0_SpoilInts.l1 k xx0 nx1 (wrapI .i64 (ix2 + 1)) H6 Q)))))
 (Q (.tup []) H)) := by kernel_rfl
theorem law0_SpoilInts_ok : Sound Go.Proofs.Try.prog 104 (law0_SpoilInts) := prog_ok.sound (cx := law0_SpoilInts.cx) rfl (EnvOK.nil _) (noDyn_ok _) Go.Proofs.Try.func104 rfl

/-! 77: cryostat/cryostatlaw0.SpoilPage -/
def law0_SpoilPage.cx : Cx := ⟨tys, [], [], [], [(103, law0_SpoilTexts), (104, law0_SpoilInts)], noDyn, []⟩
def law0_SpoilPage : Sm := fun xs H Q => ∃ k, callK (law0_SpoilPage.cx) Go.Proofs.Try.f77 k xs H Q
theorem law0_SpoilPage_eq (k : Nat) (z0 : Bool) (z1 : Bool) (z2 : Pl) (z2n : Nat) (z3 : Pl) (z3n : Nat) (z4 : Pl) (z4n : Nat) (H : Hp) (Q : Post) : callK (law0_SpoilPage.cx) Go.Proofs.Try.f77 (k + 1) [.agg [.bool z0, .bool z1, .sl z2 z2n 1, .sl z3 z3n 1, .sl z4 z4n 1]] H Q = (
 cl law0_SpoilTexts [(.g (.sl z2 z2n 1))] H fun r0 H1 =>
 cl law0_SpoilTexts [(.g (.sl z3 z3n 1))] H1 fun r2 H3 =>
 cl law0_SpoilInts [(.g (.sl z4 z4n 1))] H3 fun r4 H5 =>
 Q (.tup []) H5) := by kernel_rfl
theorem law0_SpoilPage_ok : Sound Go.Proofs.Try.prog 77 (law0_SpoilPage) := prog_ok.sound (cx := law0_SpoilPage.cx) rfl (EnvOK.cons ((law0_SpoilTexts_ok).c ⟨_, Go.Proofs.Try.func103, by kernel_rfl, by kernel_rfl⟩) (EnvOK.cons ((law0_SpoilInts_ok).c ⟨_, Go.Proofs.Try.func104, by kernel_rfl, by kernel_rfl⟩) (EnvOK.nil _))) (noDyn_ok _) Go.Proofs.Try.func77 rfl

/-! 53: cryostat/cryostatlaw0.SpoilTree -/
def law0_SpoilTree.cx : Cx := ⟨tys, [], [(2, [1, 2])], [], [(77, law0_SpoilPage)], noDyn, []⟩
def law0_SpoilTree : Sm := fun xs H Q => ∃ k, callK (law0_SpoilTree.cx) Go.Proofs.Try.f53 k xs H Q
def law0_SpoilTree.l2 (k : Nat) (xx0 : Pl) (nx1 : Nat) (ix2 : Int) (H : Hp) (Q : Post) : Prop := loopK (law0_SpoilTree.cx) Go.Proofs.Try.f53 2 k (.bad :: (.bx [(.sl xx0 nx1 5)]) :: (.g (.int .i64 ix2)) :: B 25 ([])) H Q
theorem law0_SpoilTree_eq (k : Nat) (z0 : Pl) (z0n : Nat) (H : Hp) (Q : Post) : callK (law0_SpoilTree.cx) Go.Proofs.Try.f53 (k + 1) [.agg [.sl z0 z0n 5]] H Q = (
 law0_SpoilTree.l2 k z0 z0n 0 H Q) := by kernel_rfl
theorem law0_SpoilTree.l2_eq (k : Nat) (xx0 : Pl) (nx1 : Nat) (ix2 : Int) (H : Hp) (Q : Post) : law0_SpoilTree.l2 (k + 1) xx0 nx1 ix2 H Q = (
 bite (ltI ix2 (nI nx1))
 (chk true (chk ((leI 0 ix2) && (ltI ix2 (nI nx1))) (pS xx0 fun n0 n1 =>
  rd H n0 (n1 + ((tN ix2) * 5)) fun v2 =>
  dB v2 fun b3 =>
  rd H n0 ((n1 + ((tN ix2) * 5)) + 1) fun v4 =>
  dB v4 fun b5 =>
  rd H n0 (((n1 + ((tN ix2) * 5)) + 1) + 1) fun v6 =>
  dL 1 v6 fun x7 n8 =>
  rd H n0 ((((n1 + ((tN ix2) * 5)) + 1) + 1) + 1) fun v9 =>
  dL 1 v9 fun x10 n11 =>
  rd H n0 (((((n1 + ((tN ix2) * 5)) + 1) + 1) + 1) + 1) fun v12 =>
  dL 1 v12 fun x13 n14 =>
  cl law0_SpoilPage [(.agg [(.bool b3), (.bool b5), (.sl x7 n8 1), (.sl x10 n11 1), (.sl x13 n14 1)])] H fun r15 H16 =>
  chk true (chk ((leI 0 ix2) && (ltI ix2 (nI nx1))) (pS xx0 fun n17 n18 =>
  rd H16 n17 ((n18 + ((tN ix2) * 5)) + 0) fun v19 =>
  dB v19 fun b20 =>
  chk true (chk ((leI 0 ix2) && (ltI ix2 (nI nx1))) (pS xx0 fun n21 n22 =>
  wr H16 n21 ((n22 + ((tN ix2) * 5)) + 0) (.bool (!b20)) fun H23 =>
  law0_SpoilTree.l2 k xx0 nx1 (wrapI .i64 (ix2 + 1)) H23 Q)))))))
 (Q (.tup []) H)) := by kernel_rfl
theorem law0_SpoilTree_ok : Sound Go.Proofs.Try.prog 53 (law0_SpoilTree) := prog_ok.sound (cx := law0_SpoilTree.cx) rfl (EnvOK.cons ((law0_SpoilPage_ok).c ⟨_, Go.Proofs.Try.func77, by kernel_rfl, by kernel_rfl⟩) (EnvOK.nil _)) (noDyn_ok _) Go.Proofs.Try.func53 rfl

/-! 16: cryostat/cryostatlaw13.Erases -/
def law13_Erases.cx : Cx := ⟨tys, [], [], [], [(29, law0_CopyTree), (50, erase_Erase), (51, ref9_Erase), (23, law0_Num), (35, law0_SameTree), (52, law13_awake), (27, ref9_All), (53, law0_SpoilTree), (33, law0_SamePairs)], noDyn, [.tmp 4]⟩
def law13_Erases : Sm := fun xs H Q => ∃ k, callK (law13_Erases.cx) Go.Proofs.Try.f16 k xs H Q
theorem law13_Erases_eq (k : Nat) (z0 : Pl) (z0n : Nat) (z1 : ByteArray) (H : Hp) (Q : Post) : callK (law13_Erases.cx) Go.Proofs.Try.f16 (k + 1) [.agg [.sl z0 z0n 5], .g (.str z1)] H Q = (
 cl law0_CopyTree [(.agg [(.sl z0 z0n 5)])] H fun r0 H1 =>
 rA r0 fun c2 =>
 uC c2 fun v3 c4 =>
 dL 5 v3 fun x5 n6 =>
 uN c4 (cl erase_Erase [(.agg [(.sl x5 n6 5)]), (.g (.str z1))] H1 fun r7 H8 =>
 rT r7 fun c9 =>
 uR c9 fun q10 c11 =>
 rC q10 fun c12 =>
 uC c12 fun v13 c14 =>
 dL 5 v13 fun x15 n16 =>
 uN c14 (uR c11 fun q17 c18 =>
 rS q17 fun v19 =>
 dB v19 fun b20 =>
 uR c18 fun q21 c22 =>
 rS q21 fun v23 =>
 dI .i64 v23 fun i24 =>
 uE c22 (cl ref9_Erase [(.agg [(.sl z0 z0n 5)]), (.g (.str z1))] H8 fun r25 H26 =>
 rT r25 fun c27 =>
 uR c27 fun q28 c29 =>
 rC q28 fun c30 =>
 uC c30 fun v31 c32 =>
 dL 5 v31 fun x33 n34 =>
 uN c32 (uR c29 fun q35 c36 =>
 rS q35 fun v37 =>
 dB v37 fun b38 =>
 uR c36 fun q39 c40 =>
 rS q39 fun v41 =>
 dI .i64 v41 fun i42 =>
 uE c40 (cl law0_Num [(.g (.int .i64 i24))] H26 fun r43 H44 =>
 rG r43 fun v45 =>
 dI .i64 v45 fun i46 =>
 bite (!(eqI i46 i42))
 (Q (.g (.bool false)) H44)
 (bite (!(eqB b20 b38))
  (Q (.g (.bool false)) H44)
  (cl law0_SameTree [(.agg [(.sl x5 n6 5)]), (.agg [(.sl z0 z0n 5)])] H44 fun r47 H48 =>
   rG r47 fun v49 =>
   dB v49 fun b50 =>
   bite (!b50)
   (Q (.g (.bool false)) H48)
   (bite (!b20)
    (cl law0_SameTree [(.agg [(.sl x15 n16 5)]), (.agg [(.sl x33 n34 5)])] H48 fun r51 H52 =>
     rG r51 fun v53 =>
     dB v53 fun b54 =>
     bite b54
     (cl law13_awake [] H52 fun r55 H56 =>
      rG r55 fun v57 =>
      dB v57 fun b58 =>
      Q (.g (.bool b58)) H56)
     (Q (.g (.bool false)) H52))
    (cl ref9_All [(.agg [(.sl x15 n16 5)])] H48 fun r59 H60 =>
     rT r59 fun c61 =>
     uR c61 fun q62 c63 =>
     rS q62 fun v64 =>
     dL 2 v64 fun x65 n66 =>
     uR c63 fun q67 c68 =>
     rS q67 fun v69 =>
     dI .i64 v69 fun i70 =>
     uE c68 (cl ref9_All [(.agg [(.sl x33 n34 5)])] H60 fun r71 H72 =>
     rT r71 fun c73 =>
     uR c73 fun q74 c75 =>
     rS q74 fun v76 =>
     dL 2 v76 fun x77 n78 =>
     uR c75 fun q79 c80 =>
     rS q79 fun v81 =>
     dI .i64 v81 fun i82 =>
     uE c80 (cl law0_SpoilTree [(.agg [(.sl x15 n16 5)])] H72 fun r83 H84 =>
     bite (eqI i70 0)
     (cl law0_SamePairs [(.g (.sl x65 n66 2)), (.g (.sl x77 n78 2))] H84 fun r85 H86 =>
      rG r85 fun v87 =>
      dB v87 fun b88 =>
      bite b88
      (cl law0_SameTree [(.agg [(.sl x5 n6 5)]), (.agg [(.sl z0 z0n 5)])] H86 fun r89 H90 =>
       rG r89 fun v91 =>
       dB v91 fun b92 =>
       bite b92
       (cl law13_awake [] H90 fun r93 H94 =>
        rG r93 fun v95 =>
        dB v95 fun b96 =>
        Q (.g (.bool b96)) H94)
       (Q (.g (.bool false)) H90))
      (Q (.g (.bool false)) H86))
     (Q (.g (.bool false)) H84))))))))))))) := by kernel_rfl
theorem law13_Erases_ok : Sound Go.Proofs.Try.prog 16 (law13_Erases) := prog_ok.sound (cx := law13_Erases.cx) rfl (EnvOK.cons ((law0_CopyTree_ok).c ⟨_, Go.Proofs.Try.func29, by kernel_rfl, by kernel_rfl⟩) (EnvOK.cons ((erase_Erase_ok).c ⟨_, Go.Proofs.Try.func50, by kernel_rfl, by kernel_rfl⟩) (EnvOK.cons ((ref9_Erase_ok).c ⟨_, Go.Proofs.Try.func51, by kernel_rfl, by kernel_rfl⟩) (EnvOK.cons ((law0_Num_ok).c ⟨_, Go.Proofs.Try.func23, by kernel_rfl, by kernel_rfl⟩) (EnvOK.cons ((law0_SameTree_ok).c ⟨_, Go.Proofs.Try.func35, by kernel_rfl, by kernel_rfl⟩) (EnvOK.cons ((law13_awake_ok).c ⟨_, Go.Proofs.Try.func52, by kernel_rfl, by kernel_rfl⟩) (EnvOK.cons ((ref9_All_ok).c ⟨_, Go.Proofs.Try.func27, by kernel_rfl, by kernel_rfl⟩) (EnvOK.cons ((law0_SpoilTree_ok).c ⟨_, Go.Proofs.Try.func53, by kernel_rfl, by kernel_rfl⟩) (EnvOK.cons ((law0_SamePairs_ok).c ⟨_, Go.Proofs.Try.func33, by kernel_rfl, by kernel_rfl⟩) (EnvOK.nil _)))))))))) (noDyn_ok _) Go.Proofs.Try.func16 rfl

end Go.Am
namespace Go.Am

/-! writing over -/
abbrev SRow (H : Hp) (l : Nat) (xs : List ByteArray) : Prop := H[l]? = some (.row true tS (xs.map GV.str))
abbrev IRow (H : Hp) (l : Nat) (xs : List Int) : Prop := H[l]? = some (.row true tI (xs.map (GV.int .i64)))
structure Wo (b hi d : Nat) (H H' : Hp) : Prop where
  len : H'.length = H.length
  low : ∀ l, ¬ (b ≤ l ∧ l < hi) → H'[l]? = H[l]?
  tx : ∀ l xs M, SRow H l xs → (∀ x ∈ xs, x.size ≤ M) → ∃ ys, SRow H' l ys ∧ ys.length = xs.length ∧ ∀ x ∈ ys, x.size ≤ M + d
  nu : ∀ l xs, IRow H l xs → ∃ ys, IRow H' l ys ∧ ys.length = xs.length
  pg : ∀ (l : Nat) (cs : List GV), H[l]? = some (Obj.row true tPg cs) → H'[l]? = some (Obj.row true tPg cs)
theorem Wo.refl (b hi d : Nat) (H : Hp) : Wo b hi d H H := ⟨rfl, fun _ _ => rfl, fun l xs M h hm => ⟨xs, h, rfl, fun x hx => by have := hm x hx; omega⟩, fun l xs h => ⟨xs, h, rfl⟩, fun _ _ h => h⟩
theorem Wo.trans {b hi d d' : Nat} {H H1 H2 : Hp} (h : Wo b hi d H H1) (h' : Wo b hi d' H1 H2) : Wo b hi (d + d') H H2 :=
  ⟨h'.len.trans h.len, fun l hl => (h'.low l hl).trans (h.low l hl), fun l xs M hr hm => by
    obtain ⟨ys, a1, a2, a3⟩ := h.tx l xs M hr hm
    obtain ⟨zs, b1, b2, b3⟩ := h'.tx l ys _ a1 a3
    exact ⟨zs, b1, by omega, fun x hx => by have := b3 x hx; omega⟩, fun l xs hr => by
    obtain ⟨ys, a1, a2⟩ := h.nu l xs hr
    obtain ⟨zs, b1, b2⟩ := h'.nu l ys a1
    exact ⟨zs, b1, by omega⟩, fun l cs hr => h'.pg l cs (h.pg l cs hr)⟩
theorem row_t {H : Hp} {l : Nat} {t t' : TypeId} {cs cs' : List GV} (h : H[l]? = some (.row true t cs)) (h' : H[l]? = some (.row true t' cs')) : t = t' ∧ cs = cs' := by
  rw [h] at h'; cases h'; exact ⟨rfl, rfl⟩
theorem str_inj {xs ys : List ByteArray} (h : xs.map GV.str = ys.map GV.str) : xs = ys := by
  have := congrArg (List.map fun | GV.str s => s | _ => mkS []) h
  simpa [List.map_map, Function.comp_def] using this
theorem int_inj {xs ys : List Int} (h : xs.map (GV.int .i64) = ys.map (GV.int .i64)) : xs = ys := by
  have := congrArg (List.map fun | GV.int _ s => s | _ => 0) h
  simpa [List.map_map, Function.comp_def] using this
theorem Wo.str {b hi : Nat} {H : Hp} {l j : Nat} {xs : List ByteArray} {s : ByteArray} (hb : b ≤ l ∧ l < hi) (h : SRow H l xs) (hs : ∀ M, (∀ x ∈ xs, x.size ≤ M) → s.size ≤ M + 1) : Wo b hi 1 H (H.set l (.row true tS ((xs.set j s).map GV.str))) := by
  have hl := (List.getElem?_eq_some_iff.1 h).1
  refine ⟨by simp, fun m hm => by rw [List.getElem?_set_ne]; omega, fun m ys M hr hm => ?_, fun m ys hr => ?_, fun m cs hr => ?_⟩
  · by_cases e : l = m
    · subst e
      obtain ⟨_, q⟩ := row_t h hr
      have q := str_inj q
      subst q
      refine ⟨_, List.getElem?_set_self hl, by simp, fun x hx => ?_⟩
      rcases List.mem_or_eq_of_mem_set hx with w | w
      · have := hm x w; omega
      · rw [w]; exact hs M hm
    · exact ⟨ys, by unfold SRow; rw [List.getElem?_set_ne e]; exact hr, rfl, fun x hx => by have := hm x hx; omega⟩
  · by_cases e : l = m
    · subst e
      have := (row_t h hr).1
      exact absurd this (by decide)
    · exact ⟨ys, by unfold IRow; rw [List.getElem?_set_ne e]; exact hr, rfl⟩
  · by_cases e : l = m
    · subst e
      have := (row_t h hr).1
      exact absurd this (by decide)
    · rw [List.getElem?_set_ne e]; exact hr
theorem Wo.int {b hi : Nat} {H : Hp} {l j : Nat} {xs : List Int} {s : Int} (hb : b ≤ l ∧ l < hi) (h : IRow H l xs) : Wo b hi 0 H (H.set l (.row true tI ((xs.set j s).map (GV.int .i64)))) := by
  have hl := (List.getElem?_eq_some_iff.1 h).1
  refine ⟨by simp, fun m hm => by rw [List.getElem?_set_ne]; omega, fun m ys M hr hm => ?_, fun m ys hr => ?_, fun m cs hr => ?_⟩
  · by_cases e : l = m
    · subst e
      have := (row_t h hr).1
      exact absurd this (by decide)
    · exact ⟨ys, by unfold SRow; rw [List.getElem?_set_ne e]; exact hr, rfl, hm⟩
  · by_cases e : l = m
    · subst e
      obtain ⟨_, q⟩ := row_t h hr
      have q := int_inj q
      subst q
      exact ⟨_, List.getElem?_set_self hl, by simp⟩
    · exact ⟨ys, by unfold IRow; rw [List.getElem?_set_ne e]; exact hr, rfl⟩
  · by_cases e : l = m
    · subst e
      have := (row_t h hr).1
      exact absurd this (by decide)
    · rw [List.getElem?_set_ne e]; exact hr

theorem catS_of {a b : ByteArray} {K : ByteArray → Prop} (h : a.size + b.size ≤ 9223372036854775807) (hK : K (a ++ b)) : catS a b K := ⟨h, hK⟩
/-- a slice that may be written over -/
def TxR (H : Hp) (b M : Nat) (a : Pl) (n : Nat) : Prop := n = 0 ∨ ∃ l o xs, a = some (l, o) ∧ b ≤ l ∧ SRow H l xs ∧ o + n ≤ xs.length ∧ ∀ x ∈ xs, x.size ≤ M
def NuR (H : Hp) (b : Nat) (a : Pl) (n : Nat) : Prop := n = 0 ∨ ∃ l o xs, a = some (l, o) ∧ b ≤ l ∧ IRow H l xs ∧ o + n ≤ xs.length
structure WoP (H : Hp) (b M : Nat) (c : PC) : Prop where
  t1 : TxR H b M c.a1 c.n1
  t2 : TxR H b M c.a2 c.n2
  t3 : NuR H b c.a3 c.n3
  s1 : c.n1 ≤ 1000
  s2 : c.n2 ≤ 1000
  s3 : c.n3 ≤ 1000
/-- a slice that may be written over -/
def TxS (H : Hp) (b hi M : Nat) (a : Pl) (n : Nat) : Prop := n = 0 ∨ ∃ l o xs, a = some (l, o) ∧ (b ≤ l ∧ l < hi) ∧ SRow H l xs ∧ o + n ≤ xs.length ∧ ∀ x ∈ xs, x.size ≤ M
def NuS (H : Hp) (b hi : Nat) (a : Pl) (n : Nat) : Prop := n = 0 ∨ ∃ l o xs, a = some (l, o) ∧ (b ≤ l ∧ l < hi) ∧ IRow H l xs ∧ o + n ≤ xs.length
theorem TxS.on {H H' : Hp} {b hi d M : Nat} {a : Pl} {n : Nat} (h : TxS H b hi M a n) (w : Wo b hi d H H') : TxS H' b hi (M + d) a n := by
  rcases h with h | ⟨l, o, xs, e, hb, hr, hl, hm⟩
  · exact .inl h
  · obtain ⟨ys, q1, q2, q3⟩ := w.tx l xs M hr hm
    exact .inr ⟨l, o, ys, e, hb, q1, by omega, q3⟩
theorem NuS.on {H H' : Hp} {b hi d : Nat} {a : Pl} {n : Nat} (h : NuS H b hi a n) (w : Wo b hi d H H') : NuS H' b hi a n := by
  rcases h with h | ⟨l, o, xs, e, hb, hr, hl⟩
  · exact .inl h
  · obtain ⟨ys, q1, q2⟩ := w.nu l xs hr
    exact .inr ⟨l, o, ys, e, hb, q1, by omega⟩
theorem TxS.big {H : Hp} {b hi M M' : Nat} {a : Pl} {n : Nat} (h : TxS H b hi M a n) (hM : M ≤ M') : TxS H b hi M' a n := by
  rcases h with h | ⟨l, o, xs, e, hb, hr, hl, hm⟩
  · exact .inl h
  · exact .inr ⟨l, o, xs, e, hb, hr, hl, fun x hx => Nat.le_trans (hm x hx) hM⟩

section
variable {H : Hp} {Q : Post} {b hi M : Nat} {a : Pl} {n : Nat}
theorem law0_SpoilTexts_spec (h : TxS H b hi M a n) (hn : n ≤ 100000) (hM : M ≤ 1000000000) (hQ : ∀ H', Wo b hi n H H' → Q (.tup []) H') : law0_SpoilTexts [.g (.sl a n 1)] H Q := by
  have loop : ∀ (F k : Nat) (H' : Hp), n - k < F → k ≤ n → Wo b hi k H H' → law0_SpoilTexts.l1 F a n (k : Int) H' Q := by
    intro F
    induction F with
    | zero => intro k _ h; omega
    | succ F ih =>
      intro k H' hF hk w
      rw [law0_SpoilTexts.l1_eq]
      by_cases hkn : k < n
      · rcases h.on w with q | ⟨l, o, xs, rfl, hb, hr, hl, hm⟩
        · omega
        have etN : tN (k : Int) = k := rfl
        have hj : o + k < xs.length := by omega
        have g0 : gt H' l (o + k * 1) = some (.str xs[o + k]) := by rw [gt_some hr, Nat.mul_one]; simp [hj]
        have hsz := hm _ (List.getElem_mem hj)
        rw [bite_t (by simp; omega), chk_true]
        refine chk_of (by simp; omega) ?_
        rw [pS_some, etN, rd_of g0, dS_str]
        refine catS_of ?_ ?_
        · have : (mkS [126]).size = 1 := rfl
          omega
        rw [chk_true]
        refine chk_of (by simp; omega) ?_
        rw [pS_some]
        refine wr_row hr (by simp; omega) ?_
        rw [← List.map_set, wrap_succ (by omega)]
        refine ih (k + 1) _ (by omega) (by omega) (w.trans (Wo.str hb hr fun M' hM' => ?_))
        have := hM' _ (List.getElem_mem hj)
        have e1 : (mkS [126] ++ xs[o + k]).size = (mkS [126]).size + (xs[o + k]).size := ByteArray.size_append
        have e2 : (mkS [126]).size = 1 := rfl
        omega
      · obtain rfl : k = n := by omega
        rw [bite_f (by simp)]
        exact hQ H' w
  refine ⟨n + 2, ?_⟩
  rw [law0_SpoilTexts_eq]
  exact loop (n + 1) 0 H (by omega) (by omega) (Wo.refl b hi 0 H)
theorem law0_SpoilInts_spec (h : NuS H b hi a n) (hn : n ≤ 100000) (hQ : ∀ H', Wo b hi 0 H H' → Q (.tup []) H') : law0_SpoilInts [.g (.sl a n 1)] H Q := by
  have loop : ∀ (F k : Nat) (H' : Hp), n - k < F → k ≤ n → Wo b hi 0 H H' → law0_SpoilInts.l1 F a n (k : Int) H' Q := by
    intro F
    induction F with
    | zero => intro k _ h; omega
    | succ F ih =>
      intro k H' hF hk w
      rw [law0_SpoilInts.l1_eq]
      by_cases hkn : k < n
      · rcases h.on w with q | ⟨l, o, xs, rfl, hb, hr, hl⟩
        · omega
        have etN : tN (k : Int) = k := rfl
        have hj : o + k < xs.length := by omega
        have g0 : gt H' l (o + k * 1) = some (.int .i64 xs[o + k]) := by rw [gt_some hr, Nat.mul_one]; simp [hj]
        rw [bite_t (by simp; omega), chk_true]
        refine chk_of (by simp; omega) ?_
        rw [pS_some, etN, rd_of g0, dI_int, chk_true]
        refine chk_of (by simp; omega) ?_
        rw [pS_some]
        refine wr_row hr (by simp; omega) ?_
        rw [← List.map_set, wrap_succ (by omega)]
        exact ih (k + 1) _ (by omega) (by omega) (w.trans (Wo.int hb hr))
      · obtain rfl : k = n := by omega
        rw [bite_f (by simp)]
        exact hQ H' w
  refine ⟨n + 2, ?_⟩
  rw [law0_SpoilInts_eq]
  exact loop (n + 1) 0 H (by omega) (by omega) (Wo.refl b hi 0 H)
/-- a page that may be written over -/
structure WoS (H : Hp) (b hi M : Nat) (c : PC) : Prop where
  t1 : TxS H b hi M c.a1 c.n1
  t2 : TxS H b hi M c.a2 c.n2
  t3 : NuS H b hi c.a3 c.n3
  s1 : c.n1 ≤ 1000
  s2 : c.n2 ≤ 1000
  s3 : c.n3 ≤ 1000
theorem WoS.on {c : PC} {H' : Hp} {d : Nat} (h : WoS H b hi M c) (w : Wo b hi d H H') : WoS H' b hi (M + d) c := ⟨h.t1.on w, h.t2.on w, h.t3.on w, h.s1, h.s2, h.s3⟩
theorem WoS.big {c : PC} {M' : Nat} (h : WoS H b hi M c) (hM : M ≤ M') : WoS H b hi M' c := ⟨h.t1.big hM, h.t2.big hM, h.t3, h.s1, h.s2, h.s3⟩
theorem Wo.big {H' : Hp} {d d' : Nat} (w : Wo b hi d H H') (hd : d ≤ d') : Wo b hi d' H H' :=
  ⟨w.len, w.low, fun l xs M hr hm => by obtain ⟨ys, q1, q2, q3⟩ := w.tx l xs M hr hm; exact ⟨ys, q1, q2, fun x hx => by have := q3 x hx; omega⟩, w.nu, w.pg⟩
theorem law0_SpoilPage_spec {c : PC} (h : WoS H b hi M c) (hM : M ≤ 100000000) (hQ : ∀ H', Wo b hi 2000 H H' → Q (.tup []) H') : law0_SpoilPage [.agg [.bool c.u, .bool c.l, .sl c.a1 c.n1 1, .sl c.a2 c.n2 1, .sl c.a3 c.n3 1]] H Q := by
  have s1 := h.s1
  have s2 := h.s2
  have s3 := h.s3
  refine ⟨1, ?_⟩
  rw [law0_SpoilPage_eq]
  refine law0_SpoilTexts_spec h.t1 (by omega) (by omega) fun H1 w1 => ?_
  refine law0_SpoilTexts_spec (h.t2.on w1) (by omega) (by omega) fun H2 w2 => ?_
  refine law0_SpoilInts_spec ((h.t3.on w1).on w2) (by omega) fun H3 w3 => ?_
  exact hQ H3 (((w1.trans w2).trans w3).big (by omega))
/-- a tree that may be written over -/
theorem law0_SpoilTree_spec {tp : Nat} {cs : List PC} (hr : H[tp]? = some (.row true tPg (pcells cs))) (hb : b ≤ tp ∧ tp < hi) (hc : ∀ c ∈ cs, WoS H b hi M c) (hl : cs.length = n) (hn : n ≤ 1000) (hM : M ≤ 1000000) (hQ : ∀ H', H'.length = H.length → (∀ l, ¬ (b ≤ l ∧ l < hi) → H'[l]? = H[l]?) → Q (.tup []) H') :
    law0_SpoilTree [.agg [.sl (some (tp, 0)) n 5]] H Q := by
  have loop : ∀ (F k : Nat) (H' : Hp) (ds : List PC), n - k < F → k ≤ n → H'.length = H.length → (∀ l, ¬ (b ≤ l ∧ l < hi) → H'[l]? = H[l]?) → H'[tp]? = some (.row true tPg (pcells ds)) → ds.length = n → (∀ d ∈ ds, WoS H' b hi (M + 2000 * k) d) → law0_SpoilTree.l2 F (some (tp, 0)) n (k : Int) H' Q := by
    intro F
    induction F with
    | zero => intro k _ _ h; omega
    | succ F ih =>
      intro k H' ds hF hk e1 e2 hr' hl' hd
      rw [law0_SpoilTree.l2_eq]
      by_cases hkn : k < n
      · have hkd : k < ds.length := by omega
        have etN : tN (k : Int) = k := rfl
        have gc : ∀ j, j < 5 → gt H' tp (k * 5 + j) = (ds[k].cells)[j]? := fun j hj => by rw [gt_some hr']; exact pcells_get hkd hj
        have g0 : gt H' tp (0 + k * 5) = some (.bool ds[k].u) := by rw [Nat.zero_add]; exact gc 0 (by omega)
        have g1 : gt H' tp (0 + k * 5 + 1) = some (.bool ds[k].l) := by rw [Nat.zero_add]; exact gc 1 (by omega)
        have g2 : gt H' tp (0 + k * 5 + 2) = some (.sl ds[k].a1 ds[k].n1 1) := by rw [Nat.zero_add]; exact gc 2 (by omega)
        have g3 : gt H' tp (0 + k * 5 + 3) = some (.sl ds[k].a2 ds[k].n2 1) := by rw [Nat.zero_add]; exact gc 3 (by omega)
        have g4 : gt H' tp (0 + k * 5 + 4) = some (.sl ds[k].a3 ds[k].n3 1) := by rw [Nat.zero_add]; exact gc 4 (by omega)
        rw [bite_t (by simp; omega), chk_true]
        refine chk_of (by simp; omega) ?_
        rw [pS_some, etN, rdPage_of g0 g1 g2 g3 g4]
        refine law0_SpoilPage_spec (hd _ (List.getElem_mem hkd)) (by omega) fun H2 w => ?_
        have hr2 := w.pg _ _ hr'
        have g0' : gt H2 tp (0 + k * 5 + 0) = some (.bool ds[k].u) := by rw [gt_some hr2, Nat.zero_add, Nat.add_zero]; exact pcells_get hkd (j := 0) (by omega)
        rw [chk_true]
        refine chk_of (by simp; omega) ?_
        rw [pS_some, rd_of g0', dB_bool, chk_true]
        refine chk_of (by simp; omega) ?_
        rw [pS_some, Nat.zero_add, Nat.add_zero]
        refine wr_row hr2 (by rw [pcells_length]; omega) ?_
        have hset : (pcells ds).set (k * 5) (.bool (!ds[k].u)) = pcells (ds.set k { ds[k] with u := !ds[k].u }) := by
          have q := pcells_set ds k { ds[k] with u := !ds[k].u } hkd
          rw [← q]
          have fix : ∀ (L : List GV) (i : Nat) (v : GV), L[i]? = some v → L.set i v = L := fun L i v h => set_same h
          have p : ∀ j, j < 5 → (pcells ds)[k * 5 + j]? = (ds[k].cells)[j]? := fun j hj => pcells_get hkd hj
          rw [fix _ (k * 5 + 1) _ (by rw [List.getElem?_set_ne (by omega)]; exact p 1 (by omega))]
          rw [fix _ (k * 5 + 1 + 1) _ (by rw [List.getElem?_set_ne (by omega)]; exact p 2 (by omega))]
          rw [fix _ (k * 5 + 1 + 1 + 1) _ (by rw [List.getElem?_set_ne (by omega)]; exact p 3 (by omega))]
          rw [fix _ (k * 5 + 1 + 1 + 1 + 1) _ (by rw [List.getElem?_set_ne (by omega)]; exact p 4 (by omega))]
        rw [hset, wrap_succ (by omega)]
        have htp := (List.getElem?_eq_some_iff.1 hr2).1
        have tkeep : ∀ {a m M}, TxS H2 b hi M a m → TxS (H2.set tp (.row true tPg (pcells (ds.set k { ds[k] with u := !ds[k].u })))) b hi M a m := by
          intro a m M h
          rcases h with h | ⟨l, o, xs, e, h1, h2, h3, h4⟩
          · exact .inl h
          · refine .inr ⟨l, o, xs, e, h1, ?_, h3, h4⟩
            have : tp ≠ l := fun q => by subst q; exact absurd (row_t h2 hr2).1 (by decide)
            unfold SRow; rw [List.getElem?_set_ne this]; exact h2
        have nkeep : ∀ {a m}, NuS H2 b hi a m → NuS (H2.set tp (.row true tPg (pcells (ds.set k { ds[k] with u := !ds[k].u })))) b hi a m := by
          intro a m h
          rcases h with h | ⟨l, o, xs, e, h1, h2, h3⟩
          · exact .inl h
          · refine .inr ⟨l, o, xs, e, h1, ?_, h3⟩
            have : tp ≠ l := fun q => by subst q; exact absurd (row_t h2 hr2).1 (by decide)
            unfold IRow; rw [List.getElem?_set_ne this]; exact h2
        refine ih (k + 1) _ _ (by omega) (by omega) (by simp [w.len, e1]) (fun l hl => by rw [List.getElem?_set_ne (by omega), w.low l hl]; exact e2 l hl) (List.getElem?_set_self htp) (by simp [hl']) fun d hd' => ?_
        rcases List.mem_or_eq_of_mem_set hd' with q | q
        · have := ((hd d q).on w).big (show M + 2000 * k + 2000 ≤ M + 2000 * (k + 1) by omega)
          exact ⟨tkeep this.t1, tkeep this.t2, nkeep this.t3, this.s1, this.s2, this.s3⟩
        · subst q
          have := ((hd _ (List.getElem_mem hkd)).on w).big (show M + 2000 * k + 2000 ≤ M + 2000 * (k + 1) by omega)
          exact ⟨tkeep this.t1, tkeep this.t2, nkeep this.t3, this.s1, this.s2, this.s3⟩
      · obtain rfl : k = n := by omega
        rw [bite_f (by simp)]
        exact hQ H' e1 e2
  refine ⟨n + 2, ?_⟩
  rw [law0_SpoilTree_eq]
  exact loop (n + 1) 0 H cs (by omega) (by omega) rfl (fun _ _ => rfl) hr hl (by simpa using hc)
end
end Go.Am
namespace Go.Am

section
variable {H : Hp} {Q : Post} {a : Pl} {n : Nat}
theorem clone_str {xs : List ByteArray} (h : Ss H a n xs) (hQ : ∀ a' H', H <+: H' → Own H' H.length tS a' n (xs.map GV.str) → (∀ l o, a' = some (l, o) → l < H'.length) → Q (.g (.sl a' n 1)) H') : slices_Clone__string_string [.g (.sl a n 1)] H Q := by
  have hn := h.len
  have hl := h.lim
  refine ⟨1, ?_⟩
  rw [slices_Clone__string_string_eq]
  refine bite_of (fun e => ?_) (fun e => ?_)
  · cases a with
    | some p => cases e
    | none =>
      have hc := h.cells
      simp [cells?] at hc
      obtain ⟨h1, h2⟩ := hc
      subst h2; subst h1
      exact hQ none H (List.prefix_refl _) (.inl ⟨rfl, rfl, rfl⟩) (fun _ _ e => (by cases e))
  · rw [chk_true, Nat.mul_one, rdN_of h.cells]
    refine ap0_of (by unfold Lim; omega) (by simp [hn]) ?_
    exact hQ _ _ (pre_pu _ _) (.inr ⟨_, rfl, Nat.le_refl _, by simp, by simp [hn]⟩) (fun _ _ e => (by cases e; simp))
theorem clone_int {xs : List Int} (h : Is H a n xs) (hQ : ∀ a' H', H <+: H' → Own H' H.length tI a' n (xs.map (GV.int .i64)) → (∀ l o, a' = some (l, o) → l < H'.length) → Q (.g (.sl a' n 1)) H') : slices_Clone__int_int [.g (.sl a n 1)] H Q := by
  have hn := h.len
  have hl := h.lim
  refine ⟨1, ?_⟩
  rw [slices_Clone__int_int_eq]
  refine bite_of (fun e => ?_) (fun e => ?_)
  · cases a with
    | some p => cases e
    | none =>
      have hc := h.cells
      simp [cells?] at hc
      obtain ⟨h1, h2⟩ := hc
      subst h2; subst h1
      exact hQ none H (List.prefix_refl _) (.inl ⟨rfl, rfl, rfl⟩) (fun _ _ e => (by cases e))
  · rw [chk_true, Nat.mul_one, rdN_of h.cells]
    refine ap0_of (by unfold Lim; omega) (by simp [hn]) ?_
    exact hQ _ _ (pre_pu _ _) (.inr ⟨_, rfl, Nat.le_refl _, by simp, by simp [hn]⟩) (fun _ _ e => (by cases e; simp))
theorem clip_str {b : Nat} {cs : List GV} (h : Own H b tS a n cs) (hQ : Q (.g (.sl a n 1)) H) : slices_Clip__string_string [.g (.sl a n 1)] H Q := by
  refine ⟨1, ?_⟩
  rw [slices_Clip__string_string_eq, chk_true]
  refine chk_of (by simp) (chk_of (by simp) ?_)
  rcases h with ⟨rfl, rfl, rfl⟩ | ⟨l, rfl, h1, h2, h3⟩
  · exact chk_of (by simp [ends]) hQ
  · refine chk_of ?_ ?_
    · simp [ends, h2, h3]
    · simpa using hQ
theorem clip_int {b : Nat} {cs : List GV} (h : Own H b tI a n cs) (hQ : Q (.g (.sl a n 1)) H) : slices_Clip__int_int [.g (.sl a n 1)] H Q := by
  refine ⟨1, ?_⟩
  rw [slices_Clip__int_int_eq, chk_true]
  refine chk_of (by simp) (chk_of (by simp) ?_)
  rcases h with ⟨rfl, rfl, rfl⟩ | ⟨l, rfl, h1, h2, h3⟩
  · exact chk_of (by simp [ends]) hQ
  · refine chk_of ?_ ?_
    · simp [ends, h2, h3]
    · simpa using hQ
end
def joinP (a : Pg) (k : ByteArray) (b : Pg) : Pg := ⟨a.used, a.leaf, (match a.leaf with | true => a.keys | false => a.keys ++ [k]) ++ b.keys, a.vals ++ b.vals, a.kids ++ b.kids⟩
def CanJoin (a : Pg) (k : ByteArray) (b : Pg) : Prop := MayP a ∧ MayP b ∧ a.leaf = b.leaf ∧ MayP (joinP a k b)

section
variable {H : Hp} {Q : Post} {u l : Bool} {a1 : Pl} {n1 : Nat} {a2 : Pl} {n2 : Nat} {a3 : Pl} {n3 : Nat} {p : Pg} {u' l' : Bool} {b1 : Pl} {m1 : Nat} {b2 : Pl} {m2 : Nat} {b3 : Pl} {m3 : Nat} {q : Pg} {key : ByteArray}
theorem page_Copy_spec (h : PgAt H u l a1 n1 a2 n2 a3 n3 p) (hs : n1 ≤ 1000 ∧ n2 ≤ 1000 ∧ n3 ≤ 1000)
    (hQ : ∀ a1 a2 a3 H', H <+: H' → PgOwn H' H.length u l a1 n1 a2 n2 a3 n3 p → Q (.agg [.bool u, .bool l, .sl a1 n1 1, .sl a2 n2 1, .sl a3 n3 1]) H') :
    page_Copy [.agg [.bool u, .bool l, .sl a1 n1 1, .sl a2 n2 1, .sl a3 n3 1]] H Q := by
  refine ⟨1, ?_⟩
  rw [page_Copy_eq]
  refine clone_str h.keys fun b1 H1 p1 o1 _ => ?_
  simp only [rG_g, dL_sl]
  refine clone_str (h.vals.mono p1) fun b2 H2 p2 o2 _ => ?_
  simp only [rG_g, dL_sl]
  refine clone_int (h.kids.mono (p1.trans p2)) fun b3 H3 p3 o3 _ => ?_
  simp only [rG_g, dL_sl]
  refine hQ _ _ _ _ (p1.trans (p2.trans p3)) ⟨h.used, h.leaf, o1.mono (p2.trans p3), (o2.base p1.length_le).mono p3, o3.base (p1.trans p2).length_le, fun m e1 e2 => ?_, fun m e1 e2 => ?_, fun m e1 e2 => ?_, hs⟩
  · have := o1.lt' e1; have := o2.ge e2; omega
  · have := o1.lt' e1; have := o3.ge e2; have := p2.length_le; omega
  · have := o2.lt' e1; have := o3.ge e2; omega
set_option maxRecDepth 4000 in
theorem node_Both_spec (h : PgAt H u l a1 n1 a2 n2 a3 n3 p) (h' : PgAt H u' l' b1 m1 b2 m2 b3 m3 q) (hs : n1 ≤ 100 ∧ n2 ≤ 100 ∧ n3 ≤ 100) (hs' : m1 ≤ 100 ∧ m2 ≤ 100 ∧ m3 ≤ 100)
    (hQ : ∀ u l a1 n1 a2 n2 a3 n3 H', H <+: H' → PgOwn H' H.length u l a1 n1 a2 n2 a3 n3 (joinP p key q) → Q (.agg [.bool u, .bool l, .sl a1 n1 1, .sl a2 n2 1, .sl a3 n3 1]) H') :
    node_Both [.agg [.bool u, .bool l, .sl a1 n1 1, .sl a2 n2 1, .sl a3 n3 1], .g (.str key), .agg [.bool u', .bool l', .sl b1 m1 1, .sl b2 m2 1, .sl b3 m3 1]] H Q := by
  refine ⟨2, ?_⟩
  rw [node_Both_eq]
  refine page_Copy_spec h (by omega) fun x1 x2 x3 H1 p1 o1 => ?_
  simp only [rA_agg, uC_cons, dB_bool, dL_sl, uN_nil]
  have key4 : ∀ (x1 : Pl) (k1 : Nat) (H1 : Hp) (r : Pg), k1 ≤ 101 → H <+: H1 → PgOwn H1 H.length u l x1 k1 x2 n2 x3 n3 r → (⟨r.used, r.leaf, r.keys ++ q.keys, r.vals ++ q.vals, r.kids ++ q.kids⟩ : Pg) = joinP p key q →
      node_Both.l4 1 u' l' b1 m1 b2 m2 b3 m3 false false none 0 none 0 none 0 u l x1 k1 x2 n2 x3 n3 H1 Q := by
    intro x1 k1 H1 r hk1 p1 o1 hks
    rw [node_Both.l4_eq, chk_true, Nat.mul_one, rdN_of (h'.mono p1).keys.cells, chk_true]
    refine o1.addKeys p1 q.keys rfl h'.keys.len (by omega) fun y1 H2 p2 o2 => ?_
    rw [chk_true, Nat.mul_one, rdN_of (h'.mono p2).vals.cells, chk_true]
    refine o2.addVals p2 q.vals rfl h'.vals.len (by omega) fun y2 H3 p3 o3 => ?_
    rw [chk_true, Nat.mul_one, rdN_of (h'.mono p3).kids.cells, chk_true]
    refine o3.addKids p3 q.kids rfl h'.kids.len (by omega) fun y3 H4 p4 o4 => ?_
    refine hQ _ _ _ _ _ _ _ _ _ p4 ?_
    rw [← hks]
    exact o4
  have hl := h.leaf
  cases l with
  | true =>
    rw [bite_f (by decide)]
    have e4 : (⟨p.used, p.leaf, p.keys ++ q.keys, p.vals ++ q.vals, p.kids ++ q.kids⟩ : Pg) = joinP p key q := by unfold joinP; rw [hl]
    have hk : n1 ≤ 101 := by omega
    have t0 := key4 x1
    have t00 := t0 n1
    have t01 := t00 H1
    have t1 := t01 p
    have t2 := t1 hk
    have := t2 p1
    have := this o1
    have := this e4
    exact this
  | false =>
    rw [bite_t (by decide), chk_true]
    refine o1.addKeys p1 [key] (m := 1) rfl rfl (by omega) fun y1 H2 p2 o2 => ?_
    exact key4 y1 (n1 + 1) H2 _ (by omega) p2 o2 (by unfold joinP; rw [hl])

theorem may_small (h : PgAt H u l a1 n1 a2 n2 a3 n3 p) (hm : MayP p) : n1 ≤ 100 ∧ n2 ≤ 100 ∧ n3 ≤ 100 := by
  have e1 := h.keys.len
  have e2 := h.vals.len
  have e3 := h.kids.len
  obtain ⟨h4, hf⟩ := hm
  cases hl : p.leaf with
  | true =>
    obtain ⟨f1, f2, f3⟩ := hf.leaf hl
    rw [f2, List.length_nil] at e3
    omega
  | false =>
    obtain ⟨f1, f2, f3, f4, f5⟩ := hf.inner hl
    rw [f2, List.length_nil] at e2
    omega

theorem PgOwn.base {b b' : Nat} (h : PgOwn H b u l a1 n1 a2 n2 a3 n3 p) (hb : b' ≤ b) : PgOwn H b' u l a1 n1 a2 n2 a3 n3 p :=
  ⟨h.used, h.leaf, h.keys.base hb, h.vals.base hb, h.kids.base hb, h.d12, h.d13, h.d23, h.small⟩

theorem node_Join_spec (h : PgAt H u l a1 n1 a2 n2 a3 n3 p) (h' : PgAt H u' l' b1 m1 b2 m2 b3 m3 q) (hQ1 : ¬ CanJoin p key q → ∀ H', H <+: H' → Q (.tup [.a [.bool false, .bool false, .sl none 0 1, .sl none 0 1, .sl none 0 1], .s (.int .i64 900)]) H')
    (hQ2 : CanJoin p key q → ∀ u l a1 n1 a2 n2 a3 n3 H', H <+: H' → PgOwn H' H.length u l a1 n1 a2 n2 a3 n3 (joinP p key q) → Q (.tup [.a [.bool u, .bool l, .sl a1 n1 1, .sl a2 n2 1, .sl a3 n3 1], .s (.int .i64 0)]) H') :
    node_Join [.agg [.bool u, .bool l, .sl a1 n1 1, .sl a2 n2 1, .sl a3 n3 1], .g (.str key), .agg [.bool u', .bool l', .sl b1 m1 1, .sl b2 m2 1, .sl b3 m3 1]] H Q := by
  refine ⟨1, ?_⟩
  rw [node_Join_eq]
  refine page_May_spec h fun b H1 p1 hb => ?_
  simp only [rG_g, dB_bool]
  refine bite_of (fun e => hQ1 (fun c => by have := hb.2 c.1; subst this; cases e) _ p1) (fun e => ?_)
  have hm1 : MayP p := hb.1 (by cases b <;> simp_all)
  refine page_May_spec (h'.mono p1) fun b' H2 p2 hb' => ?_
  simp only [rG_g, dB_bool]
  refine bite_of (fun e => hQ1 (fun c => by have := hb'.2 c.2.1; subst this; cases e) _ (p1.trans p2)) (fun e' => ?_)
  have hm2 : MayP q := hb'.1 (by cases b' <;> simp_all)
  refine bite_of (fun e => hQ1 (fun c => by have := c.2.2.1; rw [h.leaf, h'.leaf] at this; subst this; simp at e) _ (p1.trans p2)) (fun e2 => ?_)
  have hll : p.leaf = q.leaf := by rw [h.leaf, h'.leaf]; simpa using e2
  have p12 := p1.trans p2
  refine node_Both_spec (h.mono p12) (h'.mono p12) (may_small h hm1) (may_small h' hm2) fun ul ll c1 k1 c2 k2 c3 k3 H3 p3 o3 => ?_
  simp only [rA_agg, uC_cons, dB_bool, dL_sl, uN_nil]
  refine page_May_spec o3.at fun b3 H4 p4 hb3 => ?_
  simp only [rG_g, dB_bool]
  refine bite_of (fun e => hQ1 (fun c => by have := hb3.2 c.2.2.2; subst this; cases e) _ (p12.trans (p3.trans p4))) (fun e3 => ?_)
  have hm3 : MayP (joinP p key q) := hb3.1 (by cases b3 <;> simp_all)
  have o4 := o3.mono p4
  refine clip_str o4.keys ?_
  simp only [rG_g, dL_sl]
  refine clip_str o4.vals ?_
  simp only [rG_g, dL_sl]
  refine clip_int o4.kids ?_
  simp only [rG_g, dL_sl]
  exact hQ2 ⟨hm1, hm2, hll, hm3⟩ _ _ _ _ _ _ _ _ _ (p12.trans (p3.trans p4)) (o4.base p12.length_le)
end
end Go.Am
namespace Go.Am

theorem TxR.of_own {H : Hp} {b : Nat} {a : Pl} {n : Nat} {xs : List ByteArray} {M : Nat} (h : Own H b tS a n (xs.map GV.str)) (hs : ∀ s ∈ xs, s.size ≤ M) : TxR H b M a n := by
  rcases h with ⟨_, q, _⟩ | ⟨l, e, hb, hr, hl⟩
  · exact .inl q
  · exact .inr ⟨l, 0, _, e, hb, hr, by simp at hl; omega, hs⟩
theorem NuR.of_own {H : Hp} {b : Nat} {a : Pl} {n : Nat} {xs : List Int} (h : Own H b tI a n (xs.map (GV.int .i64))) : NuR H b a n := by
  rcases h with ⟨_, q, _⟩ | ⟨l, e, hb, hr, hl⟩
  · exact .inl q
  · exact .inr ⟨l, 0, _, e, hb, hr, by simp at hl; omega⟩
theorem TxR.part {H : Hp} {b : Nat} {a : Pl} {n M : Nat} (h : TxR H b M a n) (k m : Nat) (hm : k + m ≤ n) : TxR H b M (shf a k) m := by
  rcases h with q | ⟨l, o, xs, e, hb, hr, hl, hs⟩
  · exact .inl (by omega)
  · exact .inr ⟨l, o + k, xs, by rw [e]; rfl, hb, hr, by omega, hs⟩
theorem NuR.part {H : Hp} {b : Nat} {a : Pl} {n : Nat} (h : NuR H b a n) (k m : Nat) (hm : k + m ≤ n) : NuR H b (shf a k) m := by
  rcases h with q | ⟨l, o, xs, e, hb, hr, hl⟩
  · exact .inl (by omega)
  · exact .inr ⟨l, o + k, xs, by rw [e]; rfl, hb, hr, by omega⟩
theorem TxR.base {H : Hp} {b b' : Nat} {a : Pl} {n M : Nat} (h : TxR H b M a n) (hb' : b' ≤ b) : TxR H b' M a n := by
  rcases h with q | ⟨l, o, xs, e, hb, hr, hl, hs⟩
  · exact .inl q
  · exact .inr ⟨l, o, xs, e, by omega, hr, hl, hs⟩
theorem NuR.base {H : Hp} {b b' : Nat} {a : Pl} {n : Nat} (h : NuR H b a n) (hb' : b' ≤ b) : NuR H b' a n := by
  rcases h with q | ⟨l, o, xs, e, hb, hr, hl⟩
  · exact .inl q
  · exact .inr ⟨l, o, xs, e, by omega, hr, hl⟩
theorem WoP.base {H : Hp} {b b' M : Nat} {c : PC} (h : WoP H b M c) (hb : b' ≤ b) : WoP H b' M c := ⟨h.t1.base hb, h.t2.base hb, h.t3.base hb, h.s1, h.s2, h.s3⟩
/-- small pages -/
def small (p : Pg) : Prop := (∀ s ∈ p.keys, s.size ≤ 1000) ∧ (∀ s ∈ p.vals, s.size ≤ 1000) ∧ p.keys.length ≤ 1000 ∧ p.vals.length ≤ 1000 ∧ p.kids.length ≤ 1000
theorem small_may {p : Pg} (h : MayP p) : small p := by
  have hk := kids_le h
  have h1 := h.1
  refine ⟨fun s hs => by have := (h.2.keys s hs).2; omega, fun s hs => ?_, by omega, ?_, by omega⟩
  · cases hl : p.leaf with
    | true => have := (h.2.leaf hl).2.2 s hs; omega
    | false => rw [(h.2.inner hl).2.1] at hs; cases hs
  · cases hl : p.leaf with
    | true => have := (h.2.leaf hl).1; omega
    | false => rw [(h.2.inner hl).2.1]; simp
theorem small_no : small noPg := by simp [small, noPg]
theorem small_sound {T : List Pg} (h : 0 < heightD T) : ∀ p ∈ T, small p := fun p hp => by
  rcases sound_pages h p hp with q | rfl
  · exact small_may ((mayB_iff p).1 q)
  · exact small_no
theorem PC.own.wo {H : Hp} {b : Nat} {c : PC} {p : Pg} (h : c.own H b p) (hat : c.at H p) (hs : small p) : WoP H b 1000 c := by
  obtain ⟨s1, s2, s3, s4, s5⟩ := hs
  have e1 := hat.keys.len
  have e2 := hat.vals.len
  have e3 := hat.kids.len
  exact ⟨.of_own h.keys s1, .of_own h.vals s2, .of_own h.kids, by omega, by omega, by omega⟩

/-! cut -/
def cutL (p : Pg) (k : Nat) : Pg := match p.leaf with
  | true => ⟨p.used, true, p.keys.take k, p.vals.take k, p.kids⟩
  | false => ⟨p.used, false, p.keys.take k, p.vals, p.kids.take (k + 1)⟩
def cutR (p : Pg) (k : Nat) : Pg := match p.leaf with
  | true => ⟨p.used, true, p.keys.drop k, p.vals.drop k, p.kids⟩
  | false => ⟨p.used, false, p.keys.drop (k + 1), p.vals, p.kids.drop (k + 1)⟩
theorem on_shf {a : Pl} {k l o : Nat} (h : shf a k = some (l, o)) : ∃ o', a = some (l, o') := by
  cases a with
  | none => cases h
  | some q => obtain ⟨m, o'⟩ := q; simp [shf] at h; exact ⟨o', by rw [h.1]⟩
theorem Ss.nth {H : Hp} {a : Pl} {n : Nat} {xs : List ByteArray} (h : Ss H a n xs) {k : Nat} (hk : k < xs.length) : ∃ l o, a = some (l, o) ∧ gt H l (o + k) = some (.str xs[k]) := by
  have hc := h.cells
  have hl := h.len
  cases a with
  | none => simp [cells?] at hc; omega
  | some q =>
    obtain ⟨l, o⟩ := q
    exact ⟨l, o, rfl, by rw [cells_get hc (by omega)]; simp [hk]⟩
theorem Is.part' {H : Hp} {a : Pl} {n : Nat} {xs : List Int} (h : Is H a n xs) (k m : Nat) (hm : k + m ≤ n) : Is H (shf a k) m ((xs.drop k).take m) := by
  have hl := h.len
  have hlim := h.lim
  exact ⟨by have := cells_part h.cells k m hm; simpa [List.map_drop, List.map_take] using this, by simp; omega, by omega⟩

section
variable {H : Hp} {Q : Post} {u l : Bool} {a1 : Pl} {n1 : Nat} {a2 : Pl} {n2 : Nat} {a3 : Pl} {n3 : Nat} {p : Pg}
set_option maxRecDepth 10000 in
theorem node_Cut_at (h : PgAt H u l a1 n1 a2 n2 a3 n3 p) (hs : small p) {k : Nat} (hk : k < p.keys.length) (hL : p.leaf = true → p.vals.length = p.keys.length) (hI : p.leaf = false → p.kids.length = p.keys.length + 1)
    (hQ : ∀ (c d : PC) H', H <+: H' → c.at H' (cutL p k) → d.at H' (cutR p k) → WoP H' H.length 1000 c → WoP H' H.length 1000 d → (∀ m, c.on m → H.length ≤ m ∧ ¬ d.on m) → (∀ m, d.on m → H.length ≤ m) →
      Q (.tup [.a [.bool c.u, .bool c.l, .sl c.a1 c.n1 1, .sl c.a2 c.n2 1, .sl c.a3 c.n3 1], .s (.str p.keys[k]), .a [.bool d.u, .bool d.l, .sl d.a1 d.n1 1, .sl d.a2 d.n2 1, .sl d.a3 d.n3 1]]) H') :
    node_Cut [.agg [.bool u, .bool l, .sl a1 n1 1, .sl a2 n2 1, .sl a3 n3 1], .g (.int .i64 (k : Int))] H Q := by
  have e1 := h.keys.len
  have e2 := h.vals.len
  have e3 := h.kids.len
  have hu := h.used
  have hl := h.leaf
  have hs' := hs
  obtain ⟨s1, s2, s3, s4, s5⟩ := hs'
  have etN : tN (k : Int) = k := rfl
  refine ⟨1, ?_⟩
  rw [node_Cut_eq]
  obtain ⟨m, o, rfl, hg⟩ := h.keys.nth hk
  rw [chk_true]
  refine chk_of (by simp; omega) ?_
  rw [pS_some, etN, Nat.mul_one, rd_of hg, dS_str]
  refine page_Copy_spec h (by omega) fun x1 x2 x3 H1 p1 o1 => ?_
  simp only [rA_agg, uC_cons, dB_bool, dL_sl, uN_nil]
  rw [rd_of (gt_pre p1 hg), dS_str]
  refine ⟨rfl, ?_⟩
  refine page_Copy_spec (h.mono p1) (by omega) fun y1 y2 y3 H2 p2 o2 => ?_
  simp only [rA_agg, uC_cons, dB_bool, dL_sl, uN_nil]
  rw [rd_of (gt_pre (p1.trans p2) hg), dS_str]
  refine ⟨rfl, ?_⟩
  rw [chk_true]
  refine chk_of (by simp) (chk_of (by simp; omega) ?_)
  have A := (o1.mono p2).at
  have B := o2.at
  have wA : WoP H2 H.length 1000 ⟨u, l, x1, n1, x2, n2, x3, n3⟩ := (o1.mono p2).pc.wo A hs
  have wB : WoP H2 H.length 1000 ⟨u, l, y1, n1, y2, n2, y3, n3⟩ := (o2.pc.wo B hs).base p1.length_le
  have onA : ∀ m, (⟨u, l, x1, n1, x2, n2, x3, n3⟩ : PC).on m → H.length ≤ m ∧ m < H1.length := fun m hm => ⟨o1.fresh m hm, PC.at.lt (c := ⟨u, l, x1, n1, x2, n2, x3, n3⟩) o1.at hm⟩
  have onB : ∀ m, (⟨u, l, y1, n1, y2, n2, y3, n3⟩ : PC).on m → H1.length ≤ m := o2.fresh
  have hp1 := p1.length_le
  cases l with
  | true =>
    have hv := hL hl
    rw [bite_true, chk_true]
    refine chk_of (by simp) (chk_of (by simp; omega) ?_)
    rw [chk_true]
    refine chk_of (by simp) (chk_of (by simp; omega) ?_)
    rw [chk_true]
    refine chk_of (by simp) (chk_of (by simp; omega) ?_)
    have eA : cutL p k = ⟨p.used, true, p.keys.take k, p.vals.take k, p.kids⟩ := by unfold cutL; rw [hl]
    have eB : cutR p k = ⟨p.used, true, p.keys.drop k, p.vals.drop k, p.kids⟩ := by unfold cutR; rw [hl]
    rw [Nat.sub_zero]
    refine hQ ⟨u, true, shf x1 0, k, shf x2 0, k, x3, n3⟩ ⟨u, true, shf y1 k, n1 - k, shf y2 k, n2 - k, y3, n3⟩ H2 (p1.trans p2) ?_ ?_ ?_ ?_ ?_ ?_
    · rw [eA]
      have q1 := A.keys.part 0 k (by omega)
      have q2 := A.vals.part 0 k (by omega)
      rw [List.drop_zero] at q1 q2
      exact ⟨hu, rfl, q1, q2, A.kids⟩
    · rw [eB]
      have q1 := B.keys.part k (n1 - k) (by omega)
      have q2 := B.vals.part k (n2 - k) (by omega)
      rw [List.take_of_length_le (by simp; omega)] at q1 q2
      exact ⟨hu, rfl, q1, q2, B.kids⟩
    · exact ⟨wA.t1.part 0 k (by show 0 + k ≤ n1; omega), wA.t2.part 0 k (by show 0 + k ≤ n2; omega), wA.t3, by show k ≤ 1000; omega, by show k ≤ 1000; omega, wA.s3⟩
    · exact ⟨wB.t1.part k _ (by show k + (n1 - k) ≤ n1; omega), wB.t2.part k _ (by show k + (n2 - k) ≤ n2; omega), wB.t3, by show n1 - k ≤ 1000; omega, by show n2 - k ≤ 1000; omega, wB.s3⟩
    · intro m' hm'
      obtain ⟨o', q⟩ := hm'
      have hA : (⟨u, true, x1, n1, x2, n2, x3, n3⟩ : PC).on m' := by
        rcases q with q | q | q
        · obtain ⟨o'', q⟩ := on_shf q; exact ⟨o'', .inl q⟩
        · obtain ⟨o'', q⟩ := on_shf q; exact ⟨o'', .inr (.inl q)⟩
        · exact ⟨o', .inr (.inr q)⟩
      have := onA m' hA
      refine ⟨this.1, fun hd => ?_⟩
      obtain ⟨o', q⟩ := hd
      have hB : (⟨u, true, y1, n1, y2, n2, y3, n3⟩ : PC).on m' := by
        rcases q with q | q | q
        · obtain ⟨o'', q⟩ := on_shf q; exact ⟨o'', .inl q⟩
        · obtain ⟨o'', q⟩ := on_shf q; exact ⟨o'', .inr (.inl q)⟩
        · exact ⟨o', .inr (.inr q)⟩
      have := onB m' hB
      omega
    · intro m' hm'
      obtain ⟨o', q⟩ := hm'
      have hB : (⟨u, true, y1, n1, y2, n2, y3, n3⟩ : PC).on m' := by
        rcases q with q | q | q
        · obtain ⟨o'', q⟩ := on_shf q; exact ⟨o'', .inl q⟩
        · obtain ⟨o'', q⟩ := on_shf q; exact ⟨o'', .inr (.inl q)⟩
        · exact ⟨o', .inr (.inr q)⟩
      have := onB m' hB
      omega
  | false =>
    have hv := hI hl
    rw [bite_false, wrap_succ (by omega)]
    have etN1 : tN ((k + 1 : Nat) : Int) = k + 1 := rfl
    rw [chk_true]
    refine chk_of (by simp; omega) (chk_of (by simp; omega) ?_)
    rw [chk_true]
    refine chk_of (by simp; omega) (chk_of (by simp; omega) ?_)
    rw [chk_true]
    refine chk_of (by simp; omega) (chk_of (by simp; omega) ?_)
    have eA : cutL p k = ⟨p.used, false, p.keys.take k, p.vals, p.kids.take (k + 1)⟩ := by unfold cutL; rw [hl]
    have eB : cutR p k = ⟨p.used, false, p.keys.drop (k + 1), p.vals, p.kids.drop (k + 1)⟩ := by unfold cutR; rw [hl]
    rw [etN1, Nat.mul_one, Nat.sub_zero, Nat.sub_zero]
    refine hQ ⟨u, false, shf x1 0, k, x2, n2, shf x3 0, k + 1⟩ ⟨u, false, shf y1 (k + 1), n1 - (k + 1), y2, n2, shf y3 (k + 1), n3 - (k + 1)⟩ H2 (p1.trans p2) ?_ ?_ ?_ ?_ ?_ ?_
    · rw [eA]
      have q1 := A.keys.part 0 k (by omega)
      have q2 := A.kids.part' 0 (k + 1) (by omega)
      rw [List.drop_zero] at q1 q2
      exact ⟨hu, rfl, q1, A.vals, q2⟩
    · rw [eB]
      have q1 := B.keys.part (k + 1) (n1 - (k + 1)) (by omega)
      have q2 := B.kids.part' (k + 1) (n3 - (k + 1)) (by omega)
      rw [List.take_of_length_le (by simp; omega)] at q1 q2
      exact ⟨hu, rfl, q1, B.vals, q2⟩
    · exact ⟨wA.t1.part 0 k (by show 0 + k ≤ n1; omega), wA.t2, wA.t3.part 0 (k + 1) (by show 0 + (k + 1) ≤ n3; omega), by show k ≤ 1000; omega, wA.s2, by show k + 1 ≤ 1000; omega⟩
    · exact ⟨wB.t1.part (k + 1) _ (by show k + 1 + (n1 - (k + 1)) ≤ n1; omega), wB.t2, wB.t3.part (k + 1) _ (by show k + 1 + (n3 - (k + 1)) ≤ n3; omega), by show n1 - (k + 1) ≤ 1000; omega, wB.s2, by show n3 - (k + 1) ≤ 1000; omega⟩
    · intro m' hm'
      obtain ⟨o', q⟩ := hm'
      have hA : (⟨u, false, x1, n1, x2, n2, x3, n3⟩ : PC).on m' := by
        rcases q with q | q | q
        · obtain ⟨o'', q⟩ := on_shf q; exact ⟨o'', .inl q⟩
        · exact ⟨o', .inr (.inl q)⟩
        · obtain ⟨o'', q⟩ := on_shf q; exact ⟨o'', .inr (.inr q)⟩
      have := onA m' hA
      refine ⟨this.1, fun hd => ?_⟩
      obtain ⟨o', q⟩ := hd
      have hB : (⟨u, false, y1, n1, y2, n2, y3, n3⟩ : PC).on m' := by
        rcases q with q | q | q
        · obtain ⟨o'', q⟩ := on_shf q; exact ⟨o'', .inl q⟩
        · exact ⟨o', .inr (.inl q)⟩
        · obtain ⟨o'', q⟩ := on_shf q; exact ⟨o'', .inr (.inr q)⟩
      have := onB m' hB
      omega
    · intro m' hm'
      obtain ⟨o', q⟩ := hm'
      have hB : (⟨u, false, y1, n1, y2, n2, y3, n3⟩ : PC).on m' := by
        rcases q with q | q | q
        · obtain ⟨o'', q⟩ := on_shf q; exact ⟨o'', .inl q⟩
        · exact ⟨o', .inr (.inl q)⟩
        · obtain ⟨o'', q⟩ := on_shf q; exact ⟨o'', .inr (.inr q)⟩
      have := onB m' hB
      omega

/-! delete -/
theorem delete_str {xs : List ByteArray} {l n i : Nat} (hr : SRow H l xs) (hn : xs.length = n) (hi : i < n) (hl : n ≤ 1000000) (hQ : Q (.g (.sl (some (l, 0)) (n - 1) 1)) (H.set l (.row true tS ((xs.eraseIdx i ++ [mkS []]).map GV.str)))) :
    slices_Delete__string_string [.g (.sl (some (l, 0)) n 1), .g (.int .i64 (i : Int)), .g (.int .i64 ((i + 1 : Nat) : Int))] H Q := by
  have hlt := (List.getElem?_eq_some_iff.1 hr).1
  refine ⟨1, ?_⟩
  rw [slices_Delete__string_string_eq]
  have e0 : tN (i : Int) = i := rfl
  have e1 : tN ((i + 1 : Nat) : Int) = i + 1 := rfl
  have e2 : tN (nI n) = n := rfl
  rw [chk_true]
  refine chk_of (by simp) (chk_of (by simp; omega) (chk_of (by simp) (chk_of ?_ ?_)))
  · rw [e0, e1, e2]
    simp [ends, hr, hn]
    omega
  rw [bite_f (by simp; omega), chk_true]
  refine chk_of (by simp) (chk_of (by simp; omega) ?_)
  rw [chk_true]
  refine chk_of (by simp; omega) (chk_of (by simp; omega) ?_)
  rw [chk_true, e0, e1]
  have hc : cells? H (shf (some (l, 0)) ((i + 1) * 1)) ((n - (i + 1)) * 1) = some ((xs.drop (i + 1)).map GV.str) := by
    have h0 : cells? H (some (l, 0)) n = some (xs.map GV.str) := by simp [cells?, hr, hn]; exact List.take_of_length_le (by simp [hn])
    have := cells_part h0 (i + 1) (n - (i + 1)) (by omega)
    rw [Nat.mul_one, Nat.mul_one, this, List.take_of_length_le (by simp; omega), List.map_drop]
  rw [rdN_of hc, chk_true]
  have hap : app? H tS 1 16 (shf (some (l, 0)) 0) (i - 0) ((xs.drop (i + 1)).map GV.str) (n - (i + 1)) = some (some (l, 0), n - 1, H.set l (.row true tS ((xs.eraseIdx i ++ [xs[n - 1]'(by omega)]).map GV.str))) := by
    unfold app?
    rw [if_pos ⟨by unfold Lim; omega, by simp; omega⟩]
    simp only [shf, hr, Nat.add_zero, Nat.sub_zero, Nat.mul_one]
    rw [if_neg (by simp; omega), if_pos (by simp; omega)]
    have ex : List.take (0 + i) (xs.map GV.str) ++ (xs.drop (i + 1)).map GV.str ++ List.drop (0 + (i + (n - (i + 1)))) (xs.map GV.str) = (xs.eraseIdx i ++ [xs[n - 1]'(by omega)]).map GV.str := by
      rw [← List.map_take, ← List.map_drop, ← List.map_append, ← List.map_append, Nat.zero_add, Nat.zero_add, show i + (n - (i + 1)) = n - 1 by omega, List.eraseIdx_eq_take_drop_succ]
      congr 2
      rw [List.drop_eq_getElem_cons (by omega), List.drop_of_length_le (by omega)]
    rw [ex, show i + (n - (i + 1)) = n - 1 by omega]
  unfold ap
  rw [hap]
  simp only
  have e3 : tN (nI (n - 1)) = n - 1 := rfl
  have hlen : (xs.eraseIdx i).length = n - 1 := by rw [List.length_eraseIdx]; rw [if_pos (by omega)]; omega
  have hrow : (H.set l (.row true tS ((xs.eraseIdx i ++ [xs[n - 1]'(by omega)]).map GV.str)))[l]? = some (.row true tS ((xs.eraseIdx i ++ [xs[n - 1]'(by omega)]).map GV.str)) := List.getElem?_set_self hlt
  rw [chk_true]
  refine chk_of (by simp) (chk_of (by simp) (chk_of ?_ ?_))
  · rw [e2, e3]
    simp [room, hlt, hlen]
    omega
  rw [chk_true, e2, e3, show n - (n - 1) = 1 by omega]
  show clr _ (some (l, 0 + (n - 1) * 1)) 1 [.str (mkS [])] _
  unfold clr
  simp only [hrow]
  refine ⟨by simp [hlen], ?_⟩
  rw [List.set_set]
  have ex : List.take (0 + (n - 1) * 1) ((xs.eraseIdx i ++ [xs[n - 1]'(by omega)]).map GV.str) ++ (List.replicate (0 + 1) [GV.str (mkS [])]).flatten ++ List.drop (0 + (n - 1) * 1 + (0 + 1) * [GV.str (mkS [])].length) ((xs.eraseIdx i ++ [xs[n - 1]'(by omega)]).map GV.str) = (xs.eraseIdx i ++ [mkS []]).map GV.str := by
    rw [List.drop_of_length_le (by simp [hlen]), List.append_nil, Nat.zero_add, Nat.mul_one, List.map_append, List.take_left' (by simp [hlen])]
    simp
  rw [ex]
  exact hQ
theorem delete_int {xs : List Int} {l n i : Nat} (hr : IRow H l xs) (hn : xs.length = n) (hi : i < n) (hl : n ≤ 1000000) (hQ : Q (.g (.sl (some (l, 0)) (n - 1) 1)) (H.set l (.row true tI ((xs.eraseIdx i ++ [0]).map (GV.int .i64))))) :
    slices_Delete__int_int [.g (.sl (some (l, 0)) n 1), .g (.int .i64 (i : Int)), .g (.int .i64 ((i + 1 : Nat) : Int))] H Q := by
  have hlt := (List.getElem?_eq_some_iff.1 hr).1
  refine ⟨1, ?_⟩
  rw [slices_Delete__int_int_eq]
  have e0 : tN (i : Int) = i := rfl
  have e1 : tN ((i + 1 : Nat) : Int) = i + 1 := rfl
  have e2 : tN (nI n) = n := rfl
  rw [chk_true]
  refine chk_of (by simp) (chk_of (by simp; omega) (chk_of (by simp) (chk_of ?_ ?_)))
  · rw [e0, e1, e2]
    simp [ends, hr, hn]
    omega
  rw [bite_f (by simp; omega), chk_true]
  refine chk_of (by simp) (chk_of (by simp; omega) ?_)
  rw [chk_true]
  refine chk_of (by simp; omega) (chk_of (by simp; omega) ?_)
  rw [chk_true, e0, e1]
  have hc : cells? H (shf (some (l, 0)) ((i + 1) * 1)) ((n - (i + 1)) * 1) = some ((xs.drop (i + 1)).map (GV.int .i64)) := by
    have h0 : cells? H (some (l, 0)) n = some (xs.map (GV.int .i64)) := by simp [cells?, hr, hn]; exact List.take_of_length_le (by simp [hn])
    have := cells_part h0 (i + 1) (n - (i + 1)) (by omega)
    rw [Nat.mul_one, Nat.mul_one, this, List.take_of_length_le (by simp; omega), List.map_drop]
  rw [rdN_of hc, chk_true]
  have hap : app? H tI 1 8 (shf (some (l, 0)) 0) (i - 0) ((xs.drop (i + 1)).map (GV.int .i64)) (n - (i + 1)) = some (some (l, 0), n - 1, H.set l (.row true tI ((xs.eraseIdx i ++ [xs[n - 1]'(by omega)]).map (GV.int .i64)))) := by
    unfold app?
    rw [if_pos ⟨by unfold Lim; omega, by simp; omega⟩]
    simp only [shf, hr, Nat.add_zero, Nat.sub_zero, Nat.mul_one]
    rw [if_neg (by simp; omega), if_pos (by simp; omega)]
    have ex : List.take (0 + i) (xs.map (GV.int .i64)) ++ (xs.drop (i + 1)).map (GV.int .i64) ++ List.drop (0 + (i + (n - (i + 1)))) (xs.map (GV.int .i64)) = (xs.eraseIdx i ++ [xs[n - 1]'(by omega)]).map (GV.int .i64) := by
      rw [← List.map_take, ← List.map_drop, ← List.map_append, ← List.map_append, Nat.zero_add, Nat.zero_add, show i + (n - (i + 1)) = n - 1 by omega, List.eraseIdx_eq_take_drop_succ]
      congr 2
      rw [List.drop_eq_getElem_cons (by omega), List.drop_of_length_le (by omega)]
    rw [ex, show i + (n - (i + 1)) = n - 1 by omega]
  unfold ap
  rw [hap]
  simp only
  have e3 : tN (nI (n - 1)) = n - 1 := rfl
  have hlen : (xs.eraseIdx i).length = n - 1 := by rw [List.length_eraseIdx]; rw [if_pos (by omega)]; omega
  have hrow : (H.set l (.row true tI ((xs.eraseIdx i ++ [xs[n - 1]'(by omega)]).map (GV.int .i64))))[l]? = some (.row true tI ((xs.eraseIdx i ++ [xs[n - 1]'(by omega)]).map (GV.int .i64))) := List.getElem?_set_self hlt
  rw [chk_true]
  refine chk_of (by simp) (chk_of (by simp) (chk_of ?_ ?_))
  · rw [e2, e3]
    simp [room, hlt, hlen]
    omega
  rw [chk_true, e2, e3, show n - (n - 1) = 1 by omega]
  show clr _ (some (l, 0 + (n - 1) * 1)) 1 [.int .i64 0] _
  unfold clr
  simp only [hrow]
  refine ⟨by simp [hlen], ?_⟩
  rw [List.set_set]
  have ex : List.take (0 + (n - 1) * 1) ((xs.eraseIdx i ++ [xs[n - 1]'(by omega)]).map (GV.int .i64)) ++ (List.replicate (0 + 1) [GV.int .i64 0]).flatten ++ List.drop (0 + (n - 1) * 1 + (0 + 1) * [GV.int .i64 0].length) ((xs.eraseIdx i ++ [xs[n - 1]'(by omega)]).map (GV.int .i64)) = (xs.eraseIdx i ++ [0]).map (GV.int .i64) := by
    rw [List.drop_of_length_le (by simp [hlen]), List.append_nil, Nat.zero_add, Nat.mul_one, List.map_append, List.take_left' (by simp [hlen])]
    simp
  rw [ex]
  exact hQ
end
end Go.Am
namespace Go.Am

/-! kids, taken apart -/
section
variable {R R' : Nat → List Nat → KV → Prop}
/-- kids ahead of a place, each with the key behind it -/
def PreR (R : Nat → List Nat → KV → Prop) : List Int → List ByteArray → List Nat → KV → Prop
  | [], [], P, ps => P = [] ∧ ps = []
  | k :: ks, s :: ss, P, ps => ∃ P1 ps1 P2 ps2, R k.toNat P1 ps1 ∧ PreR R ks ss P2 ps2 ∧ P = P1 ++ P2 ∧ ps = ps1 ++ ps2 ∧ (∀ x ∈ ps1, blt x.1 s = true) ∧ (∀ y ∈ ps2, blt y.1 s = false)
  | [], _ :: _, _, _ => False
  | _ :: _, [], _, _ => False
/-- kids behind a place, each with the key ahead of it -/
def SufR (R : Nat → List Nat → KV → Prop) (kc : List Int) (sc : List ByteArray) (P : List Nat) (ps : KV) : Prop := match sc with
  | [] => kc = [] ∧ P = [] ∧ ps = []
  | s :: sc => KidsR R kc sc P ps ∧ ∀ y ∈ ps, blt y.1 s = false
theorem KidsR.split {rest : List Int} {ss : List ByteArray} : ∀ {ka : List Int} {sa : List ByteArray} {P : List Nat} {ps : KV}, ka.length = sa.length → rest ≠ [] → KidsR R (ka ++ rest) (sa ++ ss) P ps →
    ∃ PA psA P2 ps2, PreR R ka sa PA psA ∧ KidsR R rest ss P2 ps2 ∧ P = PA ++ P2 ∧ ps = psA ++ ps2 ∧ ∀ s ∈ sa, ∀ y ∈ ps2, blt y.1 s = false
  | [], [], P, ps, _, _, h => ⟨[], [], P, ps, ⟨rfl, rfl⟩, h, rfl, rfl, fun s hs => by cases hs⟩
  | k :: ka, s :: sa, P, ps, hl, hr, h => by
    obtain ⟨P1, ps1, P2, ps2, h1, h2, e1, e2, h3, h4⟩ := h
    obtain ⟨PA, psA, P3, ps3, q1, q2, q3, q4, q5⟩ := KidsR.split (ka := ka) (sa := sa) (by simpa using hl) hr h2
    subst e1; subst e2; subst q3; subst q4
    refine ⟨P1 ++ PA, ps1 ++ psA, P3, ps3, ⟨P1, ps1, PA, psA, h1, q1, rfl, rfl, h3, fun y hy => h4 y (by simp [hy])⟩, q2, by simp, by simp, fun t ht y hy => ?_⟩
    rcases List.mem_cons.1 ht with e | e
    · rw [e]; exact h4 y (by simp [hy])
    · exact q5 t e y hy
theorem PreR.glue {rest : List Int} {ss : List ByteArray} {P2 : List Nat} {ps2 : KV} : ∀ {ka : List Int} {sa : List ByteArray} {PA : List Nat} {psA : KV}, PreR R ka sa PA psA → KidsR R rest ss P2 ps2 → (∀ s ∈ sa, ∀ y ∈ ps2, blt y.1 s = false) →
    KidsR R (ka ++ rest) (sa ++ ss) (PA ++ P2) (psA ++ ps2)
  | [], [], _, _, h, h2, _ => by rw [h.1, h.2]; exact h2
  | k :: ka, s :: sa, PA, psA, h, h2, h3 => by
    obtain ⟨P1, ps1, P3, ps3, q1, q2, e1, e2, q3, q4⟩ := h
    subst e1; subst e2
    refine ⟨P1, ps1, P3 ++ P2, ps3 ++ ps2, q1, PreR.glue q2 h2 (fun t ht => h3 t (by simp [ht])), by simp, by simp, q3, fun y hy => ?_⟩
    rcases List.mem_append.1 hy with e | e
    · exact q4 y e
    · exact h3 s (by simp) y e
theorem PreR.imp : ∀ {ka : List Int} {sa : List ByteArray} {P : List Nat} {ps : KV}, (∀ k P' ps', R k P' ps' → (∀ i ∈ P', i ∈ P) → R' k P' ps') → PreR R ka sa P ps → PreR R' ka sa P ps
  | [], [], _, _, _, h => h
  | k :: ka, s :: sa, P, ps, f, ⟨P1, ps1, P2, ps2, h1, h2, e1, e2, h3, h4⟩ => by
    subst e1
    exact ⟨P1, ps1, P2, ps2, f _ _ _ h1 fun i hi => List.mem_append.2 (.inl hi), PreR.imp (fun k P' ps' h hs => f k P' ps' h fun i hi => List.mem_append.2 (.inr (hs i hi))) h2, rfl, e2, h3, h4⟩
theorem PreR.lt : ∀ {ka : List Int} {sa : List ByteArray} {P : List Nat} {ps : KV}, PreR R ka sa P ps → ∀ x ∈ ps, ∃ s ∈ sa, blt x.1 s = true
  | [], [], _, _, h, x, hx => by rw [h.2] at hx; cases hx
  | k :: ka, s :: sa, P, ps, ⟨P1, ps1, P2, ps2, h1, h2, e1, e2, h3, h4⟩, x, hx => by
    subst e2
    rcases List.mem_append.1 hx with e | e
    · exact ⟨s, by simp, h3 x e⟩
    · obtain ⟨t, ht, q⟩ := PreR.lt h2 x e
      exact ⟨t, by simp [ht], q⟩
theorem SufR.imp {kc : List Int} {sc : List ByteArray} {P : List Nat} {ps : KV} (f : ∀ k P' ps', R k P' ps' → (∀ i ∈ P', i ∈ P) → R' k P' ps') (h : SufR R kc sc P ps) : SufR R' kc sc P ps := by
  cases sc with
  | nil => exact h
  | cons s sc => exact ⟨KidsR.imp f h.1, h.2⟩
theorem SufR.ge {kc : List Int} {sc : List ByteArray} {P : List Nat} {ps : KV} (h : SufR R kc sc P ps) : ∀ y ∈ ps, ∃ s ∈ sc, blt y.1 s = false := by
  cases sc with
  | nil => intro y hy; rw [h.2.2] at hy; cases hy
  | cons s sc => intro y hy; exact ⟨s, by simp, h.2 y hy⟩
theorem KidsR.head {k : Int} {kc : List Int} {sc : List ByteArray} {P : List Nat} {ps : KV} (h : KidsR R (k :: kc) sc P ps) :
    ∃ P1 ps1 PC psC, R k.toNat P1 ps1 ∧ SufR R kc sc PC psC ∧ P = P1 ++ PC ∧ ps = ps1 ++ psC ∧ ∀ s, sc.head? = some s → ∀ x ∈ ps1, blt x.1 s = true := by
  cases sc with
  | nil => exact ⟨P, ps, [], [], h.2, ⟨h.1, rfl, rfl⟩, by simp, by simp, fun s e => by cases e⟩
  | cons s sc =>
    obtain ⟨P1, ps1, P2, ps2, h1, h2, e1, e2, h3, h4⟩ := h
    exact ⟨P1, ps1, P2, ps2, h1, ⟨h2, h4⟩, e1, e2, fun t e => by cases e; exact h3⟩
theorem SufR.glue {k : Int} {kc : List Int} {sc : List ByteArray} {P1 PC : List Nat} {ps1 psC : KV} (h1 : R k.toNat P1 ps1) (h2 : SufR R kc sc PC psC) (h3 : ∀ s, sc.head? = some s → ∀ x ∈ ps1, blt x.1 s = true) : KidsR R (k :: kc) sc (P1 ++ PC) (ps1 ++ psC) := by
  cases sc with
  | nil =>
    obtain ⟨e1, e2, e3⟩ := h2
    subst e1; subst e2; subst e3
    rw [List.append_nil, List.append_nil]
    exact ⟨rfl, h1⟩
  | cons s sc => exact ⟨P1, ps1, PC, psC, h1, h2.1, rfl, rfl, h3 s rfl, h2.2⟩
/-- two rows of kids beside a key -/
theorem KidsR.join {kb : List Int} {sb : List ByteArray} {s : ByteArray} {P2 : List Nat} {ps2 : KV} : ∀ {ka : List Int} {sa : List ByteArray} {P1 : List Nat} {ps1 : KV}, KidsR R ka sa P1 ps1 → KidsR R kb sb P2 ps2 → (∀ x ∈ ps1, blt x.1 s = true) → (∀ y ∈ ps2, blt y.1 s = false) → (∀ t ∈ sa, blt t s = true) →
    KidsR R (ka ++ kb) (sa ++ s :: sb) (P1 ++ P2) (ps1 ++ ps2)
  | [], _, _, _, h, _, _, _, _ => h.elim
  | k :: ka, [], P1, ps1, h, h2, h3, h4, _ => by
    obtain ⟨e, h⟩ := h
    subst e
    exact ⟨P1, ps1, P2, ps2, h, h2, rfl, rfl, h3, h4⟩
  | k :: ka, t :: sa, P1, ps1, h, h2, h3, h4, h5 => by
    obtain ⟨Q1, qs1, Q2, qs2, q1, q2, e1, e2, q3, q4⟩ := h
    subst e1; subst e2
    refine ⟨Q1, qs1, Q2 ++ P2, qs2 ++ ps2, q1, KidsR.join q2 h2 (fun x hx => h3 x (by simp [hx])) h4 (fun u hu => h5 u (by simp [hu])), by simp, by simp, q3, fun y hy => ?_⟩
    rcases List.mem_append.1 hy with e | e
    · exact q4 y e
    · exact le_le (blt_asy (h5 t (by simp))) (h4 y e)
theorem KidsR.cut {kb : List Int} {sb : List ByteArray} {s : ByteArray} (hkb : kb ≠ []) : ∀ {ka : List Int} {sa : List ByteArray} {P : List Nat} {ps : KV}, ka.length = sa.length + 1 → KidsR R (ka ++ kb) (sa ++ s :: sb) P ps → (∀ t ∈ sa, blt t s = true) →
    ∃ P1 ps1 P2 ps2, KidsR R ka sa P1 ps1 ∧ KidsR R kb sb P2 ps2 ∧ P = P1 ++ P2 ∧ ps = ps1 ++ ps2 ∧ (∀ x ∈ ps1, blt x.1 s = true) ∧ (∀ y ∈ ps2, blt y.1 s = false)
  | [], _, _, _, hl, _, _ => by simp at hl
  | [k], [], P, ps, _, h, _ => by
    obtain ⟨P1, ps1, P2, ps2, h1, h2, e1, e2, h3, h4⟩ := h
    exact ⟨P1, ps1, P2, ps2, ⟨rfl, h1⟩, h2, e1, e2, h3, h4⟩
  | k :: k' :: ka, [], _, _, hl, _, _ => by simp at hl
  | k :: ka, t :: sa, P, ps, hl, h, h5 => by
    obtain ⟨Q1, qs1, Q2, qs2, q1, q2, e1, e2, q3, q4⟩ := h
    obtain ⟨P1, ps1, P2, ps2, r1, r2, f1, f2, r3, r4⟩ := KidsR.cut hkb (ka := ka) (sa := sa) (by simpa using hl) q2 (fun u hu => h5 u (by simp [hu]))
    subst e1; subst e2; subst f1; subst f2
    refine ⟨Q1 ++ P1, qs1 ++ ps1, P2, ps2, ⟨Q1, qs1, P1, ps1, q1, r1, rfl, rfl, q3, fun y hy => q4 y (by simp [hy])⟩, r2, by simp, by simp, fun x hx => ?_, r4⟩
    rcases List.mem_append.1 hx with e | e
    · exact blt_le (q3 x e) (blt_asy (h5 t (by simp)))
    · exact r3 x e
theorem kids_keys_lt (hR : ∀ k P ps, R k P ps → ps ≠ []) {s : ByteArray} : ∀ {ks : List Int} {ss : List ByteArray} {P : List Nat} {ps : KV}, KidsR R ks ss P ps → (∀ e ∈ ps, blt e.1 s = true) → ps ≠ [] ∧ ∀ t ∈ ss, blt t s = true
  | [], _, _, _, h, _ => h.elim
  | k :: ks, [], P, ps, h, hs => ⟨hR _ _ _ h.2, fun t ht => by cases ht⟩
  | k :: ks, t :: ss, P, ps, ⟨P1, ps1, P2, ps2, h1, h2, e1, e2, h3, h4⟩, hs => by
    subst e2
    obtain ⟨n2, ih⟩ := kids_keys_lt hR h2 fun e he => hs e (by simp [he])
    refine ⟨by simp [n2], fun u hu => ?_⟩
    rcases List.mem_cons.1 hu with q | q
    · subst q
      obtain ⟨y, hy⟩ := List.exists_mem_of_ne_nil _ n2
      exact le_blt (h4 y hy) (hs y (by simp [hy]))
    · exact ih u q
theorem kids_keys_gt (hR : ∀ k P ps, R k P ps → ps ≠ []) {s : ByteArray} : ∀ {ks : List Int} {ss : List ByteArray} {P : List Nat} {ps : KV}, KidsR R ks ss P ps → (∀ e ∈ ps, blt e.1 s = false) → ∀ t ∈ ss, blt s t = true
  | [], _, _, _, h, _ => h.elim
  | k :: ks, [], P, ps, h, hs => fun t ht => by cases ht
  | k :: ks, t :: ss, P, ps, ⟨P1, ps1, P2, ps2, h1, h2, e1, e2, h3, h4⟩, hs => fun u hu => by
    subst e2
    rcases List.mem_cons.1 hu with q | q
    · subst q
      obtain ⟨x, hx⟩ := List.exists_mem_of_ne_nil _ (hR _ _ _ h1)
      exact le_blt (hs x (by simp [hx])) (h3 x hx)
    · exact kids_keys_gt hR h2 (fun e he => hs e (by simp [he])) u q
theorem kids_in (hR : ∀ k P ps, R k P ps → k ∈ P) : ∀ {ks : List Int} {ss : List ByteArray} {P : List Nat} {ps : KV}, KidsR R ks ss P ps → ∀ k ∈ ks, k.toNat ∈ P
  | [], _, _, _, h, _, hk => by cases hk
  | k :: ks, [], P, ps, h, j, hj => by
    rw [h.1] at hj
    rw [List.mem_singleton.1 hj]; exact hR _ _ _ h.2
  | k :: ks, t :: ss, P, ps, ⟨P1, ps1, P2, ps2, h1, h2, e1, e2, h3, h4⟩, j, hj => by
    subst e1
    rcases List.mem_cons.1 hj with q | q
    · rw [q]; exact List.mem_append.2 (.inl (hR _ _ _ h1))
    · exact List.mem_append.2 (.inr (kids_in hR h2 j q))
end

/-! an entry taken out -/
def delK : KV → ByteArray → KV
  | [], _ => []
  | x :: ps, k => match decide (x.1 = k) with
    | true => ps
    | false => x :: delK ps k
theorem delK_split {L R : KV} {k v : ByteArray} (h : ∀ x ∈ L, x.1 ≠ k) : delK (L ++ (k, v) :: R) k = L ++ R := by
  induction L with
  | nil => simp [delK]
  | cons x L ih =>
    show (match decide (x.1 = k) with | true => L ++ (k, v) :: R | false => x :: delK (L ++ (k, v) :: R) k) = _
    rw [decide_eq_false (h x (by simp)), ih fun y hy => h y (by simp [hy])]
    rfl
theorem delK_left {ps qs : KV} {k : ByteArray} (h : ∃ x ∈ ps, x.1 = k) : delK (ps ++ qs) k = delK ps k ++ qs := by
  induction ps with
  | nil => obtain ⟨x, hx, _⟩ := h; cases hx
  | cons x ps ih =>
    show (match decide (x.1 = k) with | true => ps ++ qs | false => x :: delK (ps ++ qs) k) = (match decide (x.1 = k) with | true => ps | false => x :: delK ps k) ++ qs
    by_cases e : x.1 = k
    · rw [decide_eq_true e]
    · rw [decide_eq_false e]
      obtain ⟨y, hy, q⟩ := h
      rcases List.mem_cons.1 hy with z | z
      · subst z; exact (e q).elim
      · rw [ih ⟨y, z, q⟩]; rfl
theorem delK_right {ps qs : KV} {k : ByteArray} (h : ∀ x ∈ ps, x.1 ≠ k) : delK (ps ++ qs) k = ps ++ delK qs k := by
  induction ps with
  | nil => rfl
  | cons x ps ih =>
    show (match decide (x.1 = k) with | true => ps ++ qs | false => x :: delK (ps ++ qs) k) = _
    rw [decide_eq_false (h x (by simp)), ih fun y hy => h y (by simp [hy])]
    rfl
theorem delK_mem {ps : KV} {k : ByteArray} : ∀ {x}, x ∈ delK ps k → x ∈ ps := by
  induction ps with
  | nil => intro x hx; cases hx
  | cons y ps ih =>
    intro x hx
    have hx : x ∈ (match decide (y.1 = k) with | true => ps | false => y :: delK ps k) := hx
    by_cases e : y.1 = k
    · rw [decide_eq_true e] at hx; exact List.mem_cons_of_mem _ hx
    · rw [decide_eq_false e] at hx
      rcases List.mem_cons.1 hx with q | q
      · rw [q]; simp
      · exact List.mem_cons_of_mem _ (ih q)
theorem kidN_split {key : ByteArray} : ∀ {ss : List ByteArray}, Pw ss → (∀ s ∈ ss.take (kidN ss key), blt key s = false) ∧ (∀ s ∈ ss.drop (kidN ss key), blt key s = true) ∧ kidN ss key ≤ ss.length
  | [], _ => by simp [kidN, slotN_nil, slotB_nil]
  | s :: ss, pw => by
    have pw' := (List.pairwise_cons.1 pw).2
    have hall := (List.pairwise_cons.1 pw).1
    obtain ⟨i1, i2, i3⟩ := kidN_split (key := key) pw'
    cases h : blt s key with
    | true =>
      have e : kidN (s :: ss) key = kidN ss key + 1 := by
        unfold kidN; rw [(slot_lt h).1, (slot_lt h).2]; omega
      rw [e]
      refine ⟨fun t ht => ?_, by simpa using i2, by simpa using i3⟩
      rw [List.take_succ_cons] at ht
      rcases List.mem_cons.1 ht with q | q
      · rw [q]; exact blt_asy h
      · exact i1 t q
    | false =>
      obtain ⟨e1, e2⟩ := slot_ge pw h
      by_cases q : s = key
      · have e : kidN (s :: ss) key = 1 := by unfold kidN; rw [e1, e2, decide_eq_true q]; rfl
        rw [e]
        refine ⟨fun t ht => ?_, fun t ht => ?_, by simp⟩
        · simp at ht; rw [ht, q]; exact blt_irr _
        · simp at ht; rw [← q]; exact hall t ht
      · have e : kidN (s :: ss) key = 0 := by unfold kidN; rw [e1, e2, decide_eq_false q]; rfl
        rw [e]
        have hk : blt key s = true := by
          rcases blt_tri s key with ⟨z, _⟩ | ⟨z, _⟩ | ⟨z, _⟩
          · rw [h] at z; cases z
          · exact (q z).elim
          · exact z
        refine ⟨fun t ht => by simp at ht, fun t ht => ?_, by simp⟩
        simp at ht
        rcases ht with z | z
        · rw [z]; exact hk
        · exact blt_le hk (blt_asy (hall t z))
end Go.Am
namespace Go.Am

section
variable {T T' : List Pg} {d a x y : Nat} {p px py : Pg} {s : ByteArray} {P PX PY : List Nat} {ps psX psY : KV}
theorem kids_never {R : Nat → List Nat → KV → Prop} (hR : ∀ k P ps, ¬ R k P ps) : ∀ {ks : List Int} {ss : List ByteArray} {P : List Nat} {ps : KV}, ¬ KidsR R ks ss P ps
  | [], _, _, _, h => h
  | k :: ks, [], _, _, h => hR _ _ _ h.2
  | k :: ks, s :: ss, _, _, ⟨P1, ps1, P2, ps2, h1, _⟩ => hR _ _ _ h1
theorem Sub.may (h : Sub T d a P ps) (hp : T[a]? = some p) : MayP p := by
  cases d with
  | zero => exact h.elim
  | succ d => obtain ⟨q, hq, hm, _⟩ := h; rw [hp] at hq; cases hq; exact hm
theorem Sub.leafD (h : Sub T d a P ps) (hp : T[a]? = some p) (hl : p.leaf = true) : d = 1 ∧ P = [a] ∧ ps = p.keys.zip p.vals := by
  cases d with
  | zero => exact h.elim
  | succ d =>
    obtain ⟨q, hq, hm, ⟨e, h1, h2, h3⟩ | ⟨h1, _⟩⟩ := h
    · rw [hp] at hq; cases hq; exact ⟨by omega, h2, h3⟩
    · rw [hp] at hq; cases hq; rw [hl] at h1; cases h1
theorem Sub.innD (h : Sub T d a P ps) (hp : T[a]? = some p) (hl : p.leaf = false) : ∃ d' P', d = d' + 2 ∧ P = a :: P' ∧ KidsR (SubB T (d' + 1)) p.kids p.keys P' ps := by
  cases d with
  | zero => exact h.elim
  | succ d =>
    obtain ⟨q, hq, hm, ⟨e, h1, h2, h3⟩ | ⟨h1, P', h2, h3⟩⟩ := h
    · rw [hp] at hq; cases hq; rw [hl] at h1; cases h1
    · rw [hp] at hq; cases hq
      cases d with
      | zero => exact (kids_never (fun k P ps h => h.1.elim) h3).elim
      | succ d => exact ⟨d, P', rfl, h2, h3⟩
theorem Sub.get (h : Sub T d a P ps) : ∃ p, T[a]? = some p := by
  cases d with
  | zero => exact h.elim
  | succ d => obtain ⟨q, hq, _⟩ := h; exact ⟨q, hq⟩
theorem zip_fst {ks vs : List ByteArray} (hl : vs.length = ks.length) {k : ByteArray} (h : k ∈ ks) : ∃ v, (k, v) ∈ ks.zip vs := by
  obtain ⟨i, hi, e⟩ := List.getElem_of_mem h
  exact ⟨vs[i]'(by omega), List.mem_iff_getElem.2 ⟨i, by simp; omega, by simp [e]⟩⟩
theorem join_leaf (hX : Sub T d x PX psX) (hY : Sub T d y PY psY) (hx : T[x]? = some px) (hy : T[y]? = some py) : px.leaf = py.leaf := by
  cases h1 : px.leaf <;> cases h2 : py.leaf
  · rfl
  · obtain ⟨d', _, e, _⟩ := hX.innD hx h1
    have := (hY.leafD hy h2).1
    omega
  · obtain ⟨d', _, e, _⟩ := hY.innD hy h2
    have := (hX.leafD hx h1).1
    omega
  · rfl
theorem join_fits (hX : Sub T d x PX psX) (hY : Sub T d y PY psY) (hx : T[x]? = some px) (hy : T[y]? = some py) (hnd : (PX ++ PY).Nodup) (hs : 1 ≤ s.size ∧ s.size ≤ 6) (lt : ∀ e ∈ psX, blt e.1 s = true) (ge : ∀ e ∈ psY, blt e.1 s = false) :
    FitsP (joinP px s py) := by
  have hl := join_leaf hX hY hx hy
  have mx := hX.may hx
  have my := hY.may hy
  cases h1 : px.leaf with
  | true =>
    rw [h1] at hl
    obtain ⟨-, -, ex⟩ := hX.leafD hx h1
    obtain ⟨-, -, ey⟩ := hY.leafD hy hl.symm
    obtain ⟨x1, x2, x3⟩ := mx.2.leaf h1
    obtain ⟨y1, y2, y3⟩ := my.2.leaf hl.symm
    have ej : joinP px s py = ⟨px.used, true, px.keys ++ py.keys, px.vals ++ py.vals, px.kids ++ py.kids⟩ := by unfold joinP; rw [h1]
    rw [ej]
    refine ⟨mx.2.used, pw_rising (List.pairwise_append.2 ⟨rising_pw mx.2.rising, rising_pw my.2.rising, fun a ha b hb => ?_⟩), fun k hk => ?_, fun _ => ⟨by simp; omega, by simp [x2, y2], fun v hv => ?_⟩, fun q => by cases q⟩
    · obtain ⟨v, hv⟩ := zip_fst x1 ha
      obtain ⟨w, hw⟩ := zip_fst y1 hb
      exact blt_le (lt _ (by rw [ex]; exact hv)) (ge _ (by rw [ey]; exact hw))
    · rcases List.mem_append.1 hk with q | q
      · exact mx.2.keys k q
      · exact my.2.keys k q
    · rcases List.mem_append.1 hv with q | q
      · exact x3 v q
      · exact y3 v q
  | false =>
    rw [h1] at hl
    obtain ⟨d', PX', ed, eX, kX⟩ := hX.innD hx h1
    obtain ⟨d'', PY', ed', eY, kY⟩ := hY.innD hy hl.symm
    obtain rfl : d' = d'' := by omega
    obtain ⟨x1, x2, x3, x4, x5⟩ := mx.2.inner h1
    obtain ⟨y1, y2, y3, y4, y5⟩ := my.2.inner hl.symm
    have ej : joinP px s py = ⟨px.used, false, px.keys ++ [s] ++ py.keys, px.vals ++ py.vals, px.kids ++ py.kids⟩ := by unfold joinP; rw [h1]
    rw [ej]
    have hne : ∀ k P ps, SubB T (d' + 1) k P ps → ps ≠ [] := fun k P ps h => h.ne
    have kl := (kids_keys_lt hne kX lt).2
    have kg := kids_keys_gt hne kY ge
    have hin : ∀ k P ps, SubB T (d' + 1) k P ps → k ∈ P := fun k P ps h => h.1.head
    refine ⟨mx.2.used, pw_rising ?_, fun k hk => ?_, fun q => (by cases q), fun _ => ⟨by simp; omega, by simp [x2, y2], by simp; omega, fun k hk => ?_, ?_⟩⟩
    · rw [List.append_assoc]
      refine List.pairwise_append.2 ⟨rising_pw mx.2.rising, List.pairwise_cons.2 ⟨kg, rising_pw my.2.rising⟩, fun a ha b hb => ?_⟩
      rcases List.mem_cons.1 hb with q | q
      · rw [q]; exact kl a ha
      · exact blt_le (kl a ha) (blt_asy (kg b q))
    · simp only [List.mem_append, List.mem_singleton] at hk
      rcases hk with (q | q) | q
      · exact mx.2.keys k q
      · rw [q]; exact hs
      · exact my.2.keys k q
    · rcases List.mem_append.1 hk with q | q
      · exact x4 k q
      · exact y4 k q
    · refine List.nodup_append.2 ⟨x5, y5, fun a ha b hb e => ?_⟩
      subst e
      have i1 := kids_in hin kX a ha
      have i2 := kids_in hin kY a hb
      rw [eX, eY] at hnd
      have := (List.nodup_append.1 hnd).2.2 a.toNat (by simp [i1]) a.toNat (by simp [i2])
      exact this rfl
theorem join_can (hX : Sub T d x PX psX) (hY : Sub T d y PY psY) (hx : T[x]? = some px) (hy : T[y]? = some py) (hf : FitsP (joinP px s py)) : CanJoin px s py ↔ (joinP px s py).keys.length ≤ 4 :=
  ⟨fun h => h.2.2.2.1, fun h => ⟨hX.may hx, hY.may hy, join_leaf hX hY hx hy, h, hf⟩⟩
theorem join_sub (hX : Sub T d x PX psX) (hY : Sub T d y PY psY) (hx : T[x]? = some px) (hy : T[y]? = some py) (hnd : (PX ++ PY).Nodup) (lt : ∀ e ∈ psX, blt e.1 s = true) (ge : ∀ e ∈ psY, blt e.1 s = false)
    (hm : MayP (joinP px s py)) (hT : ∀ j ∈ PX ++ PY, j ≠ x → j ≠ y → T'[j]? = T[j]?) (hx' : T'[x]? = some (joinP px s py)) :
    ∃ PZ, Sub T' d x PZ (psX ++ psY) ∧ PZ.Nodup ∧ (∀ j ∈ PZ, j ∈ PX ++ PY) ∧ y ∉ PZ ∧ ∀ j ∈ PX ++ PY, j ≠ y → j ∈ PZ := by
  have hl := join_leaf hX hY hx hy
  have mx := hX.may hx
  have my := hY.may hy
  cases h1 : px.leaf with
  | true =>
    rw [h1] at hl
    obtain ⟨ed, eX, ex⟩ := hX.leafD hx h1
    obtain ⟨-, eY, ey⟩ := hY.leafD hy hl.symm
    obtain ⟨x1, x2, x3⟩ := mx.2.leaf h1
    have ej : joinP px s py = ⟨px.used, true, px.keys ++ py.keys, px.vals ++ py.vals, px.kids ++ py.kids⟩ := by unfold joinP; rw [h1]
    subst ed; subst eX; subst eY
    have hxy : x ≠ y := by simp at hnd; exact hnd
    refine ⟨[x], ⟨_, hx', hm, .inl ⟨rfl, by rw [ej], rfl, ?_⟩⟩, by simp, by simp, by simp; exact fun q => hxy q.symm, fun j hj hne => ?_⟩
    · rw [ej, ex, ey]
      exact (List.zip_append (by omega)).symm
    · simp at hj; rcases hj with q | q
      · simp [q]
      · exact (hne q).elim
  | false =>
    rw [h1] at hl
    obtain ⟨d', PX', ed, eX, kX⟩ := hX.innD hx h1
    obtain ⟨d'', PY', ed', eY, kY⟩ := hY.innD hy hl.symm
    obtain rfl : d' = d'' := by omega
    have ej : joinP px s py = ⟨px.used, false, px.keys ++ [s] ++ py.keys, px.vals ++ py.vals, px.kids ++ py.kids⟩ := by unfold joinP; rw [h1]
    have hne : ∀ k P ps, SubB T (d' + 1) k P ps → ps ≠ [] := fun k P ps h => h.ne
    have kl := (kids_keys_lt hne kX lt).2
    subst ed; subst eX; subst eY
    have nd := List.nodup_append.1 hnd
    have n1 := List.nodup_cons.1 nd.1
    have n2 := List.nodup_cons.1 nd.2.1
    have kJ := KidsR.join kX kY lt ge kl
    have keep : ∀ j ∈ PX' ++ PY', T'[j]? = T[j]? := fun j hj => by
      refine hT j (by simp at hj ⊢; rcases hj with q | q <;> simp [q]) (fun e => ?_) (fun e => ?_)
      · subst e
        rcases List.mem_append.1 hj with q | q
        · exact n1.1 q
        · exact nd.2.2 j (by simp) j (by simp [q]) rfl
      · subst e
        rcases List.mem_append.1 hj with q | q
        · exact nd.2.2 j (by simp [q]) j (by simp) rfl
        · exact n2.1 q
    have hxy : x ≠ y := fun e => nd.2.2 x (by simp) y (by simp) e
    refine ⟨x :: (PX' ++ PY'), ⟨_, hx', hm, .inr ⟨by rw [ej], _, rfl, ?_⟩⟩, ?_, ?_, ?_, ?_⟩
    · rw [ej]
      show KidsR _ (px.kids ++ py.kids) (px.keys ++ [s] ++ py.keys) _ _
      rw [List.append_assoc]
      exact kJ.imp fun k Q qs h hin => SubB.keep h fun j hj => keep j (hin j hj)
    · refine List.nodup_cons.2 ⟨fun q => ?_, List.nodup_append.2 ⟨n1.2, n2.2, fun a ha b hb => nd.2.2 a (by simp [ha]) b (by simp [hb])⟩⟩
      rcases List.mem_append.1 q with q | q
      · exact n1.1 q
      · exact nd.2.2 x (by simp) x (by simp [q]) rfl
    · intro j hj; simp at hj ⊢; rcases hj with q | q | q <;> simp [q]
    · intro q
      rcases List.mem_cons.1 q with q | q
      · exact hxy q.symm
      · rcases List.mem_append.1 q with q | q
        · exact nd.2.2 y (by simp [q]) y (by simp) rfl
        · exact n2.1 q
    · intro j hj hne'
      simp at hj ⊢
      rcases hj with q | q | q | q
      · exact .inl q
      · exact .inr (.inl q)
      · exact (hne' q).elim
      · exact .inr (.inr q)

/-! cut -/
theorem zip_take (ks vs : List ByteArray) (k : Nat) : (ks.take k).zip (vs.take k) = (ks.zip vs).take k := by simp [List.zip, List.take_zipWith]
theorem zip_drop (ks vs : List ByteArray) (k : Nat) : (ks.drop k).zip (vs.drop k) = (ks.zip vs).drop k := by simp [List.zip, List.drop_zipWith]
theorem fits_cutL {b : Pg} (h : FitsP b) {k : Nat} (hk : k < b.keys.length) (h1 : 1 ≤ k) : FitsP (cutL b k) := by
  unfold cutL
  cases hl : b.leaf with
  | true =>
    obtain ⟨f1, f2, f3⟩ := h.leaf hl
    exact ⟨h.used, pw_rising ((rising_pw h.rising).sublist (List.take_sublist _ _)), fun q hq => h.keys q (List.mem_of_mem_take hq), fun _ => ⟨by simp; omega, f2, fun v hv => f3 v (List.mem_of_mem_take hv)⟩, fun q => by cases q⟩
  | false =>
    obtain ⟨f1, f2, f3, f4, f5⟩ := h.inner hl
    exact ⟨h.used, pw_rising ((rising_pw h.rising).sublist (List.take_sublist _ _)), fun q hq => h.keys q (List.mem_of_mem_take hq), fun q => (by cases q), fun _ => ⟨by simp; omega, f2, by simp; omega, fun q hq => f4 q (List.mem_of_mem_take hq), f5.sublist (List.take_sublist _ _)⟩⟩
theorem fits_cutR {b : Pg} (h : FitsP b) {k : Nat} (h1 : 1 ≤ (cutR b k).keys.length) : FitsP (cutR b k) := by
  unfold cutR at h1 ⊢
  cases hl : b.leaf with
  | true =>
    rw [hl] at h1
    obtain ⟨f1, f2, f3⟩ := h.leaf hl
    exact ⟨h.used, pw_rising ((rising_pw h.rising).sublist (List.drop_sublist _ _)), fun q hq => h.keys q (List.mem_of_mem_drop hq), fun _ => ⟨by simp; omega, f2, fun v hv => f3 v (List.mem_of_mem_drop hv)⟩, fun q => by cases q⟩
  | false =>
    rw [hl] at h1
    obtain ⟨f1, f2, f3, f4, f5⟩ := h.inner hl
    exact ⟨h.used, pw_rising ((rising_pw h.rising).sublist (List.drop_sublist _ _)), fun q hq => h.keys q (List.mem_of_mem_drop hq), fun q => (by cases q), fun _ => ⟨h1, f2, by simp at h1 ⊢; omega, fun q hq => f4 q (List.mem_of_mem_drop hq), f5.sublist (List.drop_sublist _ _)⟩⟩
theorem cut_sub {k : Nat} (hX : Sub T d x PX psX) (hY : Sub T d y PY psY) (hx : T[x]? = some px) (hy : T[y]? = some py) (hnd : (PX ++ PY).Nodup) (hs : 1 ≤ s.size ∧ s.size ≤ 6) (lt : ∀ e ∈ psX, blt e.1 s = true) (ge : ∀ e ∈ psY, blt e.1 s = false)
    (hk : k < (joinP px s py).keys.length) (h1 : 1 ≤ k) (hk4 : k ≤ 4) (hR : 1 ≤ (cutR (joinP px s py) k).keys.length) (hR4 : (cutR (joinP px s py) k).keys.length ≤ 4)
    (hT : ∀ j ∈ PX ++ PY, j ≠ x → j ≠ y → T'[j]? = T[j]?) (hx' : T'[x]? = some (cutL (joinP px s py) k)) (hy' : T'[y]? = some (cutR (joinP px s py) k)) :
    ∃ PX' psX' PY' psY', Sub T' d x PX' psX' ∧ Sub T' d y PY' psY' ∧ psX' ++ psY' = psX ++ psY ∧ (PX' ++ PY').Nodup ∧ (∀ j, j ∈ PX' ++ PY' ↔ j ∈ PX ++ PY) ∧ (∀ e ∈ psX', blt e.1 (joinP px s py).keys[k] = true) ∧ (∀ e ∈ psY', blt e.1 (joinP px s py).keys[k] = false) := by
  have hl := join_leaf hX hY hx hy
  have mx := hX.may hx
  have my := hY.may hy
  have hf := join_fits hX hY hx hy hnd hs lt ge
  have fL := fits_cutL hf hk h1
  have fR := fits_cutR hf hR
  have lenL : (cutL (joinP px s py) k).keys.length ≤ 4 := by unfold cutL; cases (joinP px s py).leaf <;> (simp; omega)
  have pwb := rising_pw hf.rising
  have hsplit : (joinP px s py).keys = (joinP px s py).keys.take k ++ (joinP px s py).keys[k] :: (joinP px s py).keys.drop (k + 1) := by rw [List.getElem_cons_drop, List.take_append_drop]
  have ltk : ∀ t ∈ (joinP px s py).keys.take k, blt t (joinP px s py).keys[k] = true := fun t ht => by
    rw [hsplit] at pwb
    exact (List.pairwise_append.1 pwb).2.2 t ht _ List.mem_cons_self
  have gtk : ∀ t ∈ (joinP px s py).keys.drop (k + 1), blt (joinP px s py).keys[k] t = true := fun t ht => by
    rw [hsplit] at pwb
    exact (List.pairwise_cons.1 (List.pairwise_append.1 pwb).2.1).1 t ht
  have nd := List.nodup_append.1 hnd
  cases h1' : px.leaf with
  | true =>
    rw [h1'] at hl
    obtain ⟨ed, eX, ex⟩ := hX.leafD hx h1'
    obtain ⟨-, eY, ey⟩ := hY.leafD hy hl.symm
    obtain ⟨x1, x2, x3⟩ := mx.2.leaf h1'
    have ej : joinP px s py = ⟨px.used, true, px.keys ++ py.keys, px.vals ++ py.vals, px.kids ++ py.kids⟩ := by unfold joinP; rw [h1']
    have ejl : (joinP px s py).leaf = true := by rw [ej]
    have ez : psX ++ psY = (joinP px s py).keys.zip (joinP px s py).vals := by rw [ej, ex, ey]; exact (List.zip_append (by omega)).symm
    have eL : (cutL (joinP px s py) k).keys = (joinP px s py).keys.take k ∧ (cutL (joinP px s py) k).vals = (joinP px s py).vals.take k ∧ (cutL (joinP px s py) k).leaf = true := by unfold cutL; rw [ejl]; exact ⟨rfl, rfl, rfl⟩
    have eR : (cutR (joinP px s py) k).keys = (joinP px s py).keys.drop k ∧ (cutR (joinP px s py) k).vals = (joinP px s py).vals.drop k ∧ (cutR (joinP px s py) k).leaf = true := by unfold cutR; rw [ejl]; exact ⟨rfl, rfl, rfl⟩
    subst ed; subst eX; subst eY
    refine ⟨[x], _, [y], _, ⟨_, hx', ⟨lenL, fL⟩, .inl ⟨rfl, eL.2.2, rfl, rfl⟩⟩, ⟨_, hy', ⟨hR4, fR⟩, .inl ⟨rfl, eR.2.2, rfl, rfl⟩⟩, ?_, hnd, fun j => Iff.rfl, fun e he => ?_, fun e he => ?_⟩
    · rw [eL.1, eL.2.1, eR.1, eR.2.1, zip_take, zip_drop, List.take_append_drop, ez]
    · rw [eL.1] at he
      exact ltk _ (zip_mem he).1
    · rw [eR.1] at he
      have := (zip_mem he).1
      rw [← List.getElem_cons_drop (h := hk)] at this
      rcases List.mem_cons.1 this with q | q
      · rw [q]; exact blt_irr _
      · exact blt_asy (gtk _ q)
  | false =>
    rw [h1'] at hl
    obtain ⟨d', PX', ed, eX, kX⟩ := hX.innD hx h1'
    obtain ⟨d'', PY', ed', eY, kY⟩ := hY.innD hy hl.symm
    obtain rfl : d' = d'' := by omega
    have ej : joinP px s py = ⟨px.used, false, px.keys ++ [s] ++ py.keys, px.vals ++ py.vals, px.kids ++ py.kids⟩ := by unfold joinP; rw [h1']
    have ejl : (joinP px s py).leaf = false := by rw [ej]
    have hne : ∀ k P ps, SubB T (d' + 1) k P ps → ps ≠ [] := fun k P ps h => h.ne
    have kl := (kids_keys_lt hne kX lt).2
    have kJ := KidsR.join kX kY lt ge kl
    have ekk : px.keys ++ s :: py.keys = (joinP px s py).keys := by rw [ej]; simp
    have eki : px.kids ++ py.kids = (joinP px s py).kids := by rw [ej]
    obtain ⟨g1, g2, g3, g4, g5⟩ := hf.inner ejl
    rw [ekk, eki] at kJ
    have eL : (cutL (joinP px s py) k).keys = (joinP px s py).keys.take k ∧ (cutL (joinP px s py) k).kids = (joinP px s py).kids.take (k + 1) ∧ (cutL (joinP px s py) k).leaf = false := by unfold cutL; rw [ejl]; exact ⟨rfl, rfl, rfl⟩
    have eR : (cutR (joinP px s py) k).keys = (joinP px s py).keys.drop (k + 1) ∧ (cutR (joinP px s py) k).kids = (joinP px s py).kids.drop (k + 1) ∧ (cutR (joinP px s py) k).leaf = false := by unfold cutR; rw [ejl]; exact ⟨rfl, rfl, rfl⟩
    rw [hsplit, ← List.take_append_drop (k + 1) (joinP px s py).kids] at kJ
    obtain ⟨P1, ps1, P2, ps2, c1, c2, e1, e2, c3, c4⟩ := KidsR.cut (by intro q; have := congrArg List.length q; simp at this; omega) (by simp; omega) kJ ltk
    subst ed; subst eX; subst eY
    have n1 := List.nodup_cons.1 nd.1
    have n2 := List.nodup_cons.1 nd.2.1
    have keep : ∀ j ∈ P1 ++ P2, T'[j]? = T[j]? := fun j hj => by
      rw [← e1] at hj
      refine hT j (by simp at hj ⊢; rcases hj with q | q <;> simp [q]) (fun e => ?_) (fun e => ?_)
      · subst e
        rcases List.mem_append.1 hj with q | q
        · exact n1.1 q
        · exact nd.2.2 j (by simp) j (by simp [q]) rfl
      · subst e
        rcases List.mem_append.1 hj with q | q
        · exact nd.2.2 j (by simp [q]) j (by simp) rfl
        · exact n2.1 q
    have hxy : x ≠ y := fun e => nd.2.2 x (by simp) y (by simp) e
    have nd12 : (P1 ++ P2).Nodup := by rw [← e1]; exact List.nodup_append.2 ⟨n1.2, n2.2, fun a ha b hb => nd.2.2 a (by simp [ha]) b (by simp [hb])⟩
    have nx : x ∉ P1 ++ P2 := fun q => by
      rw [← e1] at q
      rcases List.mem_append.1 q with q | q
      · exact n1.1 q
      · exact nd.2.2 x (by simp) x (by simp [q]) rfl
    have ny : y ∉ P1 ++ P2 := fun q => by
      rw [← e1] at q
      rcases List.mem_append.1 q with q | q
      · exact nd.2.2 y (by simp [q]) y (by simp) rfl
      · exact n2.1 q
    have m12 := List.nodup_append.1 nd12
    refine ⟨x :: P1, ps1, y :: P2, ps2, ⟨_, hx', ⟨lenL, fL⟩, .inr ⟨eL.2.2, P1, rfl, ?_⟩⟩, ⟨_, hy', ⟨hR4, fR⟩, .inr ⟨eR.2.2, P2, rfl, ?_⟩⟩, e2.symm, ?_, fun j => ?_, c3, c4⟩
    · rw [eL.1, eL.2.1]
      exact c1.imp fun k Q qs h hin => SubB.keep h fun j hj => keep j (by simp [hin j hj])
    · rw [eR.1, eR.2.1]
      exact c2.imp fun k Q qs h hin => SubB.keep h fun j hj => keep j (by simp [hin j hj])
    · refine List.nodup_append.2 ⟨List.nodup_cons.2 ⟨fun q => nx (by simp [q]), m12.1⟩, List.nodup_cons.2 ⟨fun q => ny (by simp [q]), m12.2.1⟩, fun a ha b hb e => ?_⟩
      subst e
      rcases List.mem_cons.1 ha with q | q
      · subst q
        rcases List.mem_cons.1 hb with z | z
        · exact hxy z
        · exact nx (by simp [z])
      · rcases List.mem_cons.1 hb with z | z
        · subst z; exact ny (by simp [q])
        · exact m12.2.2 a q a z rfl
    · have : j ∈ P1 ++ P2 ↔ j ∈ PX' ++ PY' := by rw [e1]
      simp only [List.mem_append, List.mem_cons] at this ⊢
      constructor
      · rintro ((q | q) | (q | q))
        · exact .inl (.inl q)
        · rcases this.1 (.inl q) with z | z
          · exact .inl (.inr z)
          · exact .inr (.inr z)
        · exact .inr (.inl q)
        · rcases this.1 (.inr q) with z | z
          · exact .inl (.inr z)
          · exact .inr (.inr z)
      · rintro ((q | q) | (q | q))
        · exact .inl (.inl q)
        · rcases this.2 (.inl q) with z | z
          · exact .inl (.inr z)
          · exact .inr (.inr z)
        · exact .inr (.inl q)
        · rcases this.2 (.inr q) with z | z
          · exact .inl (.inr z)
          · exact .inr (.inr z)
end
end Go.Am
namespace Go.Am

/-- a kid of which one may be short -/
def SubO (T : List Pg) (d short k : Nat) (P : List Nat) (ps : KV) : Prop := Sub T d k P ps ∧ ∃ q, T[k]? = some q ∧ 1 ≤ q.keys.length ∧ (k ≠ short → 2 ≤ q.keys.length)
/-- a subtree with an entry taken out -/
structure Dr2 (T T' : List Pg) (d a : Nat) (P P' : List Nat) (qs : KV) : Prop where
  len : T'.length = T.length
  out : ∀ j, j ∉ P → T'[j]? = T[j]?
  nd : P'.Nodup
  sub : ∀ j ∈ P', j ∈ P
  gone : ∀ j ∈ P, j ∉ P' → T'[j]? = some noPg
  pages : ∃ p p', T[a]? = some p ∧ T'[a]? = some p' ∧ p'.leaf = p.leaf ∧ p.keys.length ≤ p'.keys.length + 1 ∧
     (Sub T' d a P' qs ∨ (p'.leaf = false ∧ p'.keys = [] ∧ ∃ k P'', 1 ≤ k ∧ k < 48 ∧ p'.kids = [k] ∧ P' = a :: P'' ∧ SubB T' (d - 1) k.toNat P'' qs))
section
variable {T T1 T2 : List Pg} {D d a short : Nat} {p : Pg} {key : ByteArray} {P : List Nat} {ps : KV}
theorem zip_erase {ks vs : List ByteArray} {s : Nat} (hs : s < ks.length) (hl : vs.length = ks.length) : (ks.eraseIdx s).zip (vs.eraseIdx s) = (ks.zip vs).take s ++ (ks.zip vs).drop (s + 1) := by
  rw [List.eraseIdx_eq_take_drop_succ, List.eraseIdx_eq_take_drop_succ, List.zip_append (by simp; omega), zip_take, zip_drop]
def delP (p : Pg) (s : Nat) : Pg := ⟨p.used, p.leaf, p.keys.eraseIdx s, p.vals.eraseIdx s, p.kids⟩
theorem mem_erase {α : Type} {l : List α} {i : Nat} {x : α} (h : x ∈ l.eraseIdx i) : x ∈ l := (List.eraseIdx_sublist l i).mem h
theorem delP_may {s : Nat} (h : MayP p) (hl : p.leaf = true) (hs : s < p.keys.length) : MayP (delP p s) := by
  obtain ⟨f1, f2, f3⟩ := h.2.leaf hl
  have h4 := h.1
  refine ⟨?_, h.2.used, pw_rising ((rising_pw h.2.rising).sublist (List.eraseIdx_sublist _ _)), fun k hk => h.2.keys k (mem_erase hk), fun _ => ⟨?_, f2, fun v hv => f3 v (mem_erase hv)⟩, fun q => ?_⟩
  · show (p.keys.eraseIdx s).length ≤ 4
    rw [List.length_eraseIdx]; split <;> omega
  · show (p.vals.eraseIdx s).length = (p.keys.eraseIdx s).length
    rw [List.length_eraseIdx, List.length_eraseIdx, f1]
  · have q' : p.leaf = false := q
    rw [hl] at q'; cases q'
theorem drop_leaf (hS : Sub T d a P ps) (hp : T[a]? = some p) (hl : p.leaf = true) (hkey : ∃ e ∈ ps, e.1 = key) : slotB p.keys key = true ∧ Dr2 T (T.set a (delP p (slotN p.keys key))) d a P P (delK ps key) := by
  have hm := hS.may hp
  obtain ⟨e1, e2, e3⟩ := hS.leafD hp hl
  obtain ⟨f1, f2, f3⟩ := hm.2.leaf hl
  have pw := rising_pw hm.2.rising
  have hb : slotB p.keys key = true := by
    obtain ⟨e, he, q⟩ := hkey
    rw [e3] at he
    exact slotB_of_mem pw (by rw [← q]; exact (zip_mem he).1)
  obtain ⟨hs, hk⟩ := slot_at hb
  have hlt := (List.getElem?_eq_some_iff.1 hp).1
  refine ⟨hb, by simp, fun j hj => ?_, by rw [e2]; simp, fun j hj => hj, fun j h1 h2 => (h2 h1).elim, p, _, hp, List.getElem?_set_self hlt, rfl, ?_, .inl ?_⟩
  · rw [e2] at hj
    rw [List.getElem?_set_ne]; intro q; subst q; exact hj (by simp)
  · show p.keys.length ≤ (p.keys.eraseIdx _).length + 1
    rw [List.length_eraseIdx]; split <;> omega
  · subst e1; subst e2
    refine ⟨_, List.getElem?_set_self hlt, delP_may hm hl hs, .inl ⟨rfl, hl, rfl, ?_⟩⟩
    show delK ps key = (p.keys.eraseIdx _).zip (p.vals.eraseIdx _)
    rw [zip_erase hs f1, e3]
    have c1 := zip_cut hs f1
    rw [hk] at c1
    have hasc := zip_asc hm.2.rising f1
    rw [Asc, c1] at hasc
    rw [c1]
    have hlen : ((p.keys.zip p.vals).take (slotN p.keys key)).length = slotN p.keys key := by simp; omega
    have e4 : List.take (slotN p.keys key) (List.take (slotN p.keys key) (p.keys.zip p.vals) ++ (key, p.vals[slotN p.keys key]'(by omega)) :: List.drop (slotN p.keys key + 1) (p.keys.zip p.vals)) = List.take (slotN p.keys key) (p.keys.zip p.vals) := List.take_left' hlen
    have e5 : List.drop (slotN p.keys key + 1) (List.take (slotN p.keys key) (p.keys.zip p.vals) ++ (key, p.vals[slotN p.keys key]'(by omega)) :: List.drop (slotN p.keys key + 1) (p.keys.zip p.vals)) = List.drop (slotN p.keys key + 1) (p.keys.zip p.vals) := by
      rw [← List.drop_drop, List.drop_left' hlen]; rfl
    rw [e4, e5]
    exact delK_split fun x hx => blt_ne ((List.pairwise_append.1 hasc).2.2 x hx _ List.mem_cons_self)

/-- the kid that a key leads to -/
structure Kid (T : List Pg) (d a : Nat) (p : Pg) (i : Nat) (key : ByteArray) (P : List Nat) (ps : KV) (PA : List Nat) (psA : KV) (Pi : List Nat) (psi : KV) (PC : List Nat) (psC : KV) : Prop where
  hi : i < p.kids.length
  eP : P = a :: (PA ++ (Pi ++ PC))
  eps : ps = psA ++ (psi ++ psC)
  pre : PreR (SubB T d) (p.kids.take i) (p.keys.take i) PA psA
  kid : SubB T d (p.kids[i]'hi).toNat Pi psi
  suf : SufR (SubB T d) (p.kids.drop (i + 1)) (p.keys.drop i) PC psC
  c1 : ∀ s ∈ p.keys.take i, ∀ e ∈ psi ++ psC, blt e.1 s = false
  c2 : ∀ s, (p.keys.drop i).head? = some s → ∀ e ∈ psi, blt e.1 s = true
  mem : (∃ e ∈ ps, e.1 = key) → (∃ e ∈ psi, e.1 = key) ∧ delK ps key = psA ++ (delK psi key ++ psC)
theorem kid_split (hS : Sub T D a P ps) (hp : T[a]? = some p) (hl : p.leaf = false) : ∃ d PA psA Pi psi PC psC, D = d + 2 ∧ Kid T (d + 1) a p (kidN p.keys key) key P ps PA psA Pi psi PC psC := by
  have hm := hS.may hp
  obtain ⟨d, P', ed, eP, kk⟩ := hS.innD hp hl
  obtain ⟨f1, f2, f3, f4, f5⟩ := hm.2.inner hl
  have pw := rising_pw hm.2.rising
  obtain ⟨k1, k2, k3⟩ := kidN_split (key := key) pw
  have hi : kidN p.keys key < p.kids.length := by omega
  have kk' : KidsR (SubB T (d + 1)) (p.kids.take (kidN p.keys key) ++ p.kids.drop (kidN p.keys key)) (p.keys.take (kidN p.keys key) ++ p.keys.drop (kidN p.keys key)) P' ps := by rw [List.take_append_drop, List.take_append_drop]; exact kk
  obtain ⟨PA, psA, P2, ps2, q1, q2, e1, e2, q3⟩ := KidsR.split (by simp; omega) (by simp; omega) kk'
  rw [List.drop_eq_getElem_cons hi] at q2
  obtain ⟨Pi, psi, PC, psC, r1, r2, e3, e4, r3⟩ := q2.head
  subst e1; subst e2; subst e3; subst e4
  refine ⟨d, PA, psA, Pi, psi, PC, psC, ed, hi, eP, rfl, q1, r1, r2, q3, r3, fun hk => ?_⟩
  have nA : ∀ x ∈ psA, x.1 ≠ key := fun x hx => by
    obtain ⟨s, hs, z⟩ := q1.lt x hx
    exact blt_ne (blt_le z (k1 s hs))
  have nC : ∀ x ∈ psC, x.1 ≠ key := fun x hx => by
    obtain ⟨s, hs, z⟩ := r2.ge x hx
    exact (blt_ne (blt_le (k2 s hs) z)).symm
  have hin : ∃ e ∈ psi, e.1 = key := by
    obtain ⟨e, he, q⟩ := hk
    rcases List.mem_append.1 he with z | z
    · exact (nA e z q).elim
    · rcases List.mem_append.1 z with z | z
      · exact ⟨e, z, q⟩
      · exact (nC e z q).elim
  exact ⟨hin, by rw [delK_right nA, delK_left hin]⟩
section
variable {i : Nat} {PA Pi PC Pi' : List Nat} {psA psi psC qs : KV}
/-- the kids behind the drop below one of them -/
theorem Kid.glue (h : Kid T d a p i key P ps PA psA Pi psi PC psC) (hnd : P.Nodup) (hout : ∀ j, j ∉ Pi → T1[j]? = T[j]?) (hs : Sub T1 d (p.kids[i]'h.hi).toNat Pi' qs) (hsub : ∀ j ∈ Pi', j ∈ Pi) (hq : ∀ e ∈ qs, e ∈ psi) {q : Pg} (hq1 : T1[(p.kids[i]'h.hi).toNat]? = some q) (hq2 : 1 ≤ q.keys.length) :
    KidsR (SubO T1 d (p.kids[i]'h.hi).toNat) p.kids p.keys (PA ++ (Pi' ++ PC)) (psA ++ (qs ++ psC)) := by
  have hnd' := hnd
  rw [h.eP] at hnd'
  have n1 := (List.nodup_cons.1 hnd').2
  have n2 := List.nodup_append.1 n1
  have n3 := List.nodup_append.1 n2.2.1
  have hk := h.kid.1.head
  have other : ∀ {k : Nat} {Q : List Nat} {rs : KV}, SubB T d k Q rs → (∀ j ∈ Q, j ∉ Pi) → SubO T1 d (p.kids[i]'h.hi).toNat k Q rs := fun {k Q rs} hb hd => by
    have hb' := hb.keep (T' := T1) fun j hj => hout j (hd j hj)
    obtain ⟨r, h1, h2⟩ := hb'.2
    exact ⟨hb'.1, r, h1, by omega, fun _ => h2⟩
  have pre := h.pre.imp (R' := SubO T1 d (p.kids[i]'h.hi).toNat) fun k Q rs hb hin => other hb fun j hj hj' => n2.2.2 j (hin j hj) j (by simp [hj']) rfl
  have suf := h.suf.imp (R' := SubO T1 d (p.kids[i]'h.hi).toNat) fun k Q rs hb hin => other hb fun j hj hj' => n3.2.2 j hj' j (hin j hj) rfl
  have mid : SubO T1 d (p.kids[i]'h.hi).toNat (p.kids[i]'h.hi).toNat Pi' qs := ⟨hs, q, hq1, hq2, fun z => (z rfl).elim⟩
  have k1 := SufR.glue mid suf fun s e x hx => h.c2 s e x (hq x hx)
  rw [← List.drop_eq_getElem_cons h.hi] at k1
  have k2 := pre.glue k1 fun s hs e he => h.c1 s hs e (by rcases List.mem_append.1 he with z | z; exact List.mem_append.2 (.inl (hq e z)); exact List.mem_append.2 (.inr z))
  rw [List.take_append_drop, List.take_append_drop] at k2
  exact k2
theorem KidsR.noShort {ks : List Int} {ss : List ByteArray} (h : KidsR (SubO T1 d short) ks ss P ps) (hq : ∃ q, T1[short]? = some q ∧ 2 ≤ q.keys.length) : KidsR (SubB T1 d) ks ss P ps :=
  h.imp fun k Q rs hb _ => ⟨hb.1, by
    obtain ⟨q, h1, h2, h3⟩ := hb.2
    by_cases e : k = short
    · subst e; exact hq
    · exact ⟨q, h1, h3 e⟩⟩
end

/-- two kids beside a key, one of which is short -/
structure Pair (T1 : List Pg) (d : Nat) (kids : List Int) (keys : List ByteArray) (j x y : Nat) (s : ByteArray) (P : List Nat) (ps : KV) (short : Nat) (PA : List Nat) (psA : KV) (PX : List Nat) (psX : KV) (PY : List Nat) (psY : KV) (PC : List Nat) (psC : KV) : Prop where
  eP : P = PA ++ (PX ++ (PY ++ PC))
  eps : ps = psA ++ (psX ++ (psY ++ psC))
  pre : PreR (SubB T1 d) (kids.take j) (keys.take j) PA psA
  kx : SubO T1 d short x PX psX
  ky : SubO T1 d short y PY psY
  suf : SufR (SubB T1 d) (kids.drop (j + 2)) (keys.drop (j + 1)) PC psC
  c1 : ∀ t ∈ keys.take j, ∀ e ∈ psX ++ (psY ++ psC), blt e.1 t = false
  c2 : ∀ e ∈ psX, blt e.1 s = true
  c3 : ∀ e ∈ psY ++ psC, blt e.1 s = false
  c4 : ∀ u, (keys.drop (j + 1)).head? = some u → ∀ e ∈ psY, blt e.1 u = true
theorem pair_split {kids : List Int} {keys : List ByteArray} {j : Nat} (h : KidsR (SubO T1 d short) kids keys P ps) (hl : kids.length = keys.length + 1) (hj : j < keys.length) (hnd : P.Nodup)
    (hs : short = (kids[j]'(by omega)).toNat ∨ short = (kids[j + 1]'(by omega)).toNat) :
    ∃ PA psA PX psX PY psY PC psC, Pair T1 d kids keys j (kids[j]'(by omega)).toNat (kids[j + 1]'(by omega)).toNat keys[j] P ps short PA psA PX psX PY psY PC psC := by
  rw [← List.take_append_drop j kids, ← List.take_append_drop j keys] at h
  obtain ⟨PA, psA, P2, ps2, q1, q2, e1, e2, q3⟩ := KidsR.split (by simp; omega) (by simp; omega) h
  rw [List.drop_eq_getElem_cons (by omega : j < kids.length), List.drop_eq_getElem_cons hj, List.drop_eq_getElem_cons (by omega : j + 1 < kids.length)] at q2
  obtain ⟨PX, psX, P3, ps3, r1, r2, e3, e4, r3, r4⟩ := q2
  obtain ⟨PY, psY, PC, psC, t1, t2, e5, e6, t3⟩ := r2.head
  subst e1; subst e2; subst e3; subst e4; subst e5; subst e6
  have n1 := List.nodup_append.1 hnd
  have n2 := List.nodup_append.1 n1.2.1
  have n3 := List.nodup_append.1 n2.2.1
  have ix := r1.1.head
  have iy := t1.1.head
  have sh : ∀ {k : Nat} {Q : List Nat} {rs : KV}, SubO T1 d short k Q rs → k ∉ PX ++ PY → SubB T1 d k Q rs := fun {k Q rs} hb hk => by
    obtain ⟨q, h1, h2, h3⟩ := hb.2
    refine ⟨hb.1, q, h1, h3 fun e => hk ?_⟩
    rcases hs with z | z
    · rw [e, z]; simp [ix]
    · rw [e, z]; simp [iy]
  refine ⟨PA, psA, PX, psX, PY, psY, PC, psC, rfl, rfl, q1.imp fun k Q rs hb hin => sh hb fun z => ?_, r1, t1, t2.imp fun k Q rs hb hin => sh hb fun z => ?_, q3, r3, r4, t3⟩
  · have i1 := hin k hb.1.head
    exact n1.2.2 k i1 k (by rcases List.mem_append.1 z with z | z <;> simp [z]) rfl
  · have i1 := hin k hb.1.head
    rcases List.mem_append.1 z with z | z
    · exact n2.2.2 k z k (by simp [i1]) rfl
    · exact n3.2.2 k z k i1 rfl
section
variable {kids : List Int} {keys : List ByteArray} {j x y : Nat} {s : ByteArray} {PA PX PY PC PZ PX' PY' : List Nat} {psA psX psY psC psX' psY' : KV} {px py : Pg}
theorem erase_kids {j : Nat} (h : j + 1 < kids.length) : kids.eraseIdx (j + 1) = kids.take j ++ (kids[j]'(by omega)) :: kids.drop (j + 2) := by
  rw [List.eraseIdx_eq_take_drop_succ, List.take_succ_eq_append_getElem (by omega), List.append_assoc]; rfl
theorem Pair.joined (h : Pair T1 d kids keys j x y s P ps short PA psA PX psX PY psY PC psC) (pw : Pw keys) (hj : j < keys.length) (es : s = keys[j]) (hnd : P.Nodup)
    (hz : SubB T2 d x PZ (psX ++ psY)) (hT : ∀ i ∈ PA ++ PC, T2[i]? = T1[i]?) (hjk : j < kids.length) (ex : x = (kids[j]'hjk).toNat) :
    KidsR (SubB T2 d) (kids.take j ++ (kids[j]'hjk) :: kids.drop (j + 2)) (keys.eraseIdx j) (PA ++ (PZ ++ PC)) ps := by
  have hps : ps = psA ++ ((psX ++ psY) ++ psC) := by rw [h.eps]; simp
  rw [hps, List.eraseIdx_eq_take_drop_succ]
  rw [ex] at hz
  have suf := h.suf.imp (R' := SubB T2 d) fun k Q rs hb hin => hb.keep fun i hi => hT i (by simp [hin i hi])
  have pre := h.pre.imp (R' := SubB T2 d) fun k Q rs hb hin => hb.keep fun i hi => hT i (by simp [hin i hi])
  refine pre.glue (SufR.glue hz suf fun u hu e he => ?_) fun t ht e he => h.c1 t ht e (by simpa using he)
  rcases List.mem_append.1 he with z | z
  · refine blt_le (h.c2 e z) (blt_asy ?_)
    rw [es]
    have hu' : u ∈ keys.drop (j + 1) := List.mem_of_mem_head? hu
    have := List.pairwise_iff_getElem.1 pw
    obtain ⟨m, hm, e'⟩ := List.getElem_of_mem hu'
    rw [List.getElem_drop] at e'
    rw [← e']
    exact this j (j + 1 + m) hj (by simp at hm; omega) (by omega)
  · exact h.c4 u hu e z
theorem Pair.shared (h : Pair T1 d kids keys j x y s P ps short PA psA PX psX PY psY PC psC) (hj : j < keys.length) (hl : kids.length = keys.length + 1) {s' : ByteArray}
    (hx : SubB T2 d x PX' psX') (hy : SubB T2 d y PY' psY') (hXY : psX' ++ psY' = psX ++ psY) (lt : ∀ e ∈ psX', blt e.1 s' = true) (ge : ∀ e ∈ psY', blt e.1 s' = false) (hT : ∀ i ∈ PA ++ PC, T2[i]? = T1[i]?) (ex : x = (kids[j]'(by omega)).toNat) (ey : y = (kids[j + 1]'(by omega)).toNat) (pw : Pw keys) (es : s = keys[j]) :
    KidsR (SubB T2 d) kids (keys.set j s') (PA ++ (PX' ++ (PY' ++ PC))) ps ∧ Pw (keys.set j s') := by
  have hps : ps = psA ++ (psX' ++ (psY' ++ psC)) := by rw [h.eps, ← List.append_assoc psX psY, ← hXY]; simp
  have suf := h.suf.imp (R' := SubB T2 d) fun k Q rs hb hin => hb.keep fun i hi => hT i (by simp [hin i hi])
  have pre := h.pre.imp (R' := SubB T2 d) fun k Q rs hb hin => hb.keep fun i hi => hT i (by simp [hin i hi])
  have hk : kids = kids.take j ++ (kids[j]'(by omega)) :: (kids[j + 1]'(by omega)) :: kids.drop (j + 2) := by
    rw [List.getElem_cons_drop, List.getElem_cons_drop, List.take_append_drop]
  have hks : keys.set j s' = keys.take j ++ s' :: keys.drop (j + 1) := by rw [List.set_eq_take_append_cons_drop, if_pos hj]
  have allX : ∀ e ∈ psX' ++ (psY' ++ psC), e ∈ psX ++ (psY ++ psC) := fun e he => by
    rw [← List.append_assoc, hXY, List.append_assoc] at he; exact he
  have ltY : ∀ u, (keys.drop (j + 1)).head? = some u → ∀ e ∈ psX ++ psY, blt e.1 u = true := fun u hu e he => by
    rcases List.mem_append.1 he with z | z
    · refine blt_le (h.c2 e z) (blt_asy ?_)
      rw [es]
      have hu' : u ∈ keys.drop (j + 1) := List.mem_of_mem_head? hu
      obtain ⟨m, hm, e'⟩ := List.getElem_of_mem hu'
      rw [List.getElem_drop] at e'
      rw [← e']
      exact List.pairwise_iff_getElem.1 pw j (j + 1 + m) hj (by simp at hm; omega) (by omega)
    · exact h.c4 u hu e z
  have geC : ∀ e ∈ psC, blt e.1 s' = false := fun e he => by
    obtain ⟨u, hu, z⟩ := h.suf.ge e he
    -- s' is below every key behind it
    obtain ⟨y0, hy0⟩ := List.exists_mem_of_ne_nil _ hy.ne
    cases hd : keys.drop (j + 1) with
    | nil => rw [hd] at hu; cases hu
    | cons v vs =>
      have hv : (keys.drop (j + 1)).head? = some v := by rw [hd]; rfl
      have h1 : blt y0.1 v = true := ltY v hv y0 (by rw [← hXY]; simp [hy0])
      have h2 : blt s' v = true := le_blt (ge y0 hy0) h1
      have suf' := h.suf
      rw [hd] at suf'
      exact le_le (blt_asy h2) (suf'.2 e he)
  have mid : KidsR (SubB T2 d) ((kids[j]'(by omega)) :: (kids[j + 1]'(by omega)) :: kids.drop (j + 2)) (s' :: keys.drop (j + 1)) (PX' ++ (PY' ++ PC)) (psX' ++ (psY' ++ psC)) := by
    refine ⟨PX', psX', PY' ++ PC, psY' ++ psC, by rw [← ex]; exact hx, SufR.glue (by rw [← ey]; exact hy) suf fun u hu e he => ltY u hu e (by rw [← hXY]; simp [he]), rfl, rfl, lt, fun e he => ?_⟩
    rcases List.mem_append.1 he with z | z
    · exact ge e z
    · exact geC e z
  refine ⟨?_, ?_⟩
  · rw [hks, hps]
    have := pre.glue mid fun t ht e he => h.c1 t ht e (allX e he)
    rw [← hk] at this
    exact this
  · rw [hks]
    have pws : Pw (keys.take j ++ keys[j] :: keys.drop (j + 1)) := by rw [List.getElem_cons_drop, List.take_append_drop]; exact pw
    have q1 := List.pairwise_append.1 pws
    have q2 := List.pairwise_cons.1 q1.2.1
    obtain ⟨x0, hx0⟩ := List.exists_mem_of_ne_nil _ hx.ne
    obtain ⟨y0, hy0⟩ := List.exists_mem_of_ne_nil _ hy.ne
    refine List.pairwise_append.2 ⟨q1.1, List.pairwise_cons.2 ⟨fun u hu => ?_, q2.2⟩, fun t ht u hu => ?_⟩
    · cases hd : keys.drop (j + 1) with
      | nil => rw [hd] at hu; cases hu
      | cons v vs =>
        have hv : (keys.drop (j + 1)).head? = some v := by rw [hd]; rfl
        have h1 : blt y0.1 v = true := ltY v hv y0 (by rw [← hXY]; simp [hy0])
        have h2 : blt s' v = true := le_blt (ge y0 hy0) h1
        rw [hd] at hu q2
        rcases List.mem_cons.1 hu with z | z
        · rw [z]; exact h2
        · exact blt_le h2 (blt_asy ((List.pairwise_cons.1 q2.2).1 u z))
    · rcases List.mem_cons.1 hu with z | z
      · rw [z]
        have := h.c1 t ht x0 (by have : x0 ∈ psX ++ psY := by rw [← hXY]; simp [hx0]
                                 simp at this ⊢; rcases this with w | w <;> simp [w])
        exact le_blt this (lt x0 hx0)
      · exact q1.2.2 t ht u (List.mem_cons_of_mem _ z)
end
end
end Go.Am
namespace Go.Am

section
variable {T T1 T2 : List Pg} {D d a short j x y : Nat} {p px py : Pg} {key : ByteArray} {P Q : List Nat} {ps qs : KV}
theorem inner_erase (hm : MayP p) (hl : p.leaf = false) {j : Nat} (hj : j < p.keys.length) (h2 : 2 ≤ p.keys.length) : MayP ⟨p.used, p.leaf, p.keys.eraseIdx j, p.vals, p.kids.eraseIdx (j + 1)⟩ := by
  obtain ⟨f1, f2, f3, f4, f5⟩ := hm.2.inner hl
  have h4 := hm.1
  have e1 : (p.keys.eraseIdx j).length = p.keys.length - 1 := by rw [List.length_eraseIdx, if_pos hj]
  have e2 : (p.kids.eraseIdx (j + 1)).length = p.kids.length - 1 := by rw [List.length_eraseIdx, if_pos (by omega)]
  refine ⟨by show (p.keys.eraseIdx j).length ≤ 4; omega, hm.2.used, pw_rising ((rising_pw hm.2.rising).sublist (List.eraseIdx_sublist _ _)), fun k hk => hm.2.keys k (mem_erase hk), fun q => ?_, fun _ => ⟨?_, f2, ?_, fun k hk => f4 k (mem_erase hk), f5.sublist (List.eraseIdx_sublist _ _)⟩⟩
  · have q' : p.leaf = true := q
    rw [hl] at q'; cases q'
  · show 1 ≤ (p.keys.eraseIdx j).length; omega
  · show (p.kids.eraseIdx (j + 1)).length = (p.keys.eraseIdx j).length + 1; omega
theorem inner_set (hm : MayP p) (hl : p.leaf = false) {j : Nat} {s : ByteArray} (hs : 1 ≤ s.size ∧ s.size ≤ 6) (pw : Pw (p.keys.set j s)) : MayP ⟨p.used, p.leaf, p.keys.set j s, p.vals, p.kids⟩ := by
  obtain ⟨f1, f2, f3, f4, f5⟩ := hm.2.inner hl
  have h4 := hm.1
  refine ⟨by show (p.keys.set j s).length ≤ 4; simp; omega, hm.2.used, pw_rising pw, fun k hk => ?_, fun q => ?_, fun _ => ⟨by show 1 ≤ (p.keys.set j s).length; simp; omega, f2, by show p.kids.length = (p.keys.set j s).length + 1; simp; omega, f4, f5⟩⟩
  · rcases List.mem_or_eq_of_mem_set hk with q | q
    · exact hm.2.keys k q
    · rw [q]; exact hs
  · have q' : p.leaf = true := q
    rw [hl] at q'; cases q'
theorem joined_len (hl : px.leaf = py.leaf) (s : ByteArray) : (joinP px s py).keys.length = px.keys.length + py.keys.length + (match px.leaf with | true => 0 | false => 1) := by
  unfold joinP
  cases px.leaf <;> simp <;> omega
theorem mend_join (hK : KidsR (SubO T1 d short) p.kids p.keys Q qs) (hm : MayP p) (hl : p.leaf = false) (hQ : Q.Nodup) (hj : j < p.keys.length) (hjk : j + 1 < p.kids.length)
    (hs : short = (p.kids[j]'(by omega)).toNat ∨ short = (p.kids[j + 1]'hjk).toNat) (hx : T1[(p.kids[j]'(by omega)).toNat]? = some px) (hy : T1[(p.kids[j + 1]'hjk).toNat]? = some py) :
    (joinP px p.keys[j] py).keys.length ≤ 6 + (match decide (px.keys.length = 1 ∨ py.keys.length = 1) with | true => 0 | false => 4) ∧ FitsP (joinP px p.keys[j] py) ∧ (CanJoin px p.keys[j] py ↔ (joinP px p.keys[j] py).keys.length ≤ 4) ∧ (p.kids[j]'(by omega)).toNat ≠ (p.kids[j + 1]'hjk).toNat ∧ (p.kids[j]'(by omega)).toNat ∈ Q ∧ (p.kids[j + 1]'hjk).toNat ∈ Q ∧
    ((joinP px p.keys[j] py).keys.length ≤ 4 → T2[(p.kids[j]'(by omega)).toNat]? = some (joinP px p.keys[j] py) → (∀ i ∈ Q, i ≠ (p.kids[j]'(by omega)).toNat → i ≠ (p.kids[j + 1]'hjk).toNat → T2[i]? = T1[i]?) →
      ∃ Q', Q'.Nodup ∧ (∀ i ∈ Q', i ∈ Q) ∧ (∀ i ∈ Q, i ∉ Q' → i = (p.kids[j + 1]'hjk).toNat) ∧ KidsR (SubB T2 d) (p.kids.eraseIdx (j + 1)) (p.keys.eraseIdx j) Q' qs) ∧
    (5 ≤ (joinP px p.keys[j] py).keys.length → (px.keys.length = 1 ∨ py.keys.length = 1) →
      ∃ hk : (joinP px p.keys[j] py).keys.length / 2 < (joinP px p.keys[j] py).keys.length, MayP (cutL (joinP px p.keys[j] py) ((joinP px p.keys[j] py).keys.length / 2)) ∧ MayP (cutR (joinP px p.keys[j] py) ((joinP px p.keys[j] py).keys.length / 2)) ∧ (1 ≤ ((joinP px p.keys[j] py).keys[(joinP px p.keys[j] py).keys.length / 2]'hk).size ∧ ((joinP px p.keys[j] py).keys[(joinP px p.keys[j] py).keys.length / 2]'hk).size ≤ 6) ∧
      (T2[(p.kids[j]'(by omega)).toNat]? = some (cutL (joinP px p.keys[j] py) ((joinP px p.keys[j] py).keys.length / 2)) → T2[(p.kids[j + 1]'hjk).toNat]? = some (cutR (joinP px p.keys[j] py) ((joinP px p.keys[j] py).keys.length / 2)) →
        (∀ i ∈ Q, i ≠ (p.kids[j]'(by omega)).toNat → i ≠ (p.kids[j + 1]'hjk).toNat → T2[i]? = T1[i]?) →
        ∃ Q', Q'.Nodup ∧ (∀ i, i ∈ Q' ↔ i ∈ Q) ∧ KidsR (SubB T2 d) p.kids (p.keys.set j ((joinP px p.keys[j] py).keys[(joinP px p.keys[j] py).keys.length / 2]'hk)) Q' qs ∧ Pw (p.keys.set j ((joinP px p.keys[j] py).keys[(joinP px p.keys[j] py).keys.length / 2]'hk)))) := by
  obtain ⟨f1, f2, f3, f4, f5⟩ := hm.2.inner hl
  have pw := rising_pw hm.2.rising
  obtain ⟨PA, psA, PX, psX, PY, psY, PC, psC, pr⟩ := pair_split hK f3 hj hQ hs
  have hQ' := hQ
  rw [pr.eP] at hQ'
  have n1 := List.nodup_append.1 hQ'
  have n2 := List.nodup_append.1 n1.2.1
  have n3 := List.nodup_append.1 n2.2.1
  have nXY : (PX ++ PY).Nodup := List.nodup_append.2 ⟨n2.1, n3.1, fun u hu v hv => n2.2.2 u hu v (by simp [hv])⟩
  have hX := pr.kx.1
  have hY := pr.ky.1
  have ix := hX.head
  have iy := hY.head
  have hsz := hm.2.keys _ (List.getElem_mem hj)
  have hleaf := join_leaf hX hY hx hy
  have geY : ∀ e ∈ psY, blt e.1 p.keys[j] = false := fun e he => pr.c3 e (by simp [he])
  have hf := join_fits hX hY hx hy nXY hsz pr.c2 geY
  have hc := join_can (s := p.keys[j]) hX hY hx hy hf
  have hne : (p.kids[j]'(by omega)).toNat ≠ (p.kids[j + 1]'hjk).toNat := fun e => (List.nodup_append.1 nXY).2.2 _ ix _ iy e
  have mx := hX.may hx
  have my := hY.may hy
  have m1 := mx.1
  have m2 := my.1
  obtain ⟨qx, hqx, x1, x2⟩ := pr.kx.2
  obtain ⟨qy, hqy, y1, y2⟩ := pr.ky.2
  rw [hx] at hqx; cases hqx
  rw [hy] at hqy; cases hqy
  have jl := joined_len hleaf p.keys[j]
  have inQ : ∀ i, i ∈ Q ↔ (i ∈ PA ∨ i ∈ PX ∨ i ∈ PY ∨ i ∈ PC) := fun i => by rw [pr.eP]; simp
  refine ⟨?_, hf, hc, hne, (inQ _).2 (by simp [ix]), (inQ _).2 (by simp [iy]), fun h4 hx2 hT => ?_, fun h5 hsh => ?_⟩
  · rw [jl]
    by_cases e : px.keys.length = 1 ∨ py.keys.length = 1
    · rw [decide_eq_true e]; cases px.leaf <;> simp <;> omega
    · rw [decide_eq_false e]; cases px.leaf <;> simp <;> omega
  · have hmj : MayP (joinP px p.keys[j] py) := ⟨h4, hf⟩
    obtain ⟨PZ, z1, z2, z3, z4, z5⟩ := join_sub (T' := T2) hX hY hx hy nXY pr.c2 geY hmj (fun i hi h1 h2 => hT i ((inQ i).2 (by simp at hi; rcases hi with q | q <;> simp [q])) h1 h2) hx2
    have hz : SubB T2 d (p.kids[j]'(by omega)).toNat PZ (psX ++ psY) := ⟨z1, _, hx2, by rw [jl]; cases px.leaf <;> simp <;> omega⟩
    have apart : ∀ i ∈ PA ++ PC, i ∉ PX ++ PY := fun i hi hi' => by
      rcases List.mem_append.1 hi with q | q
      · rcases List.mem_append.1 hi' with z | z
        · exact n1.2.2 i q i (by simp [z]) rfl
        · exact n1.2.2 i q i (by simp [z]) rfl
      · rcases List.mem_append.1 hi' with z | z
        · exact n2.2.2 i z i (by simp [q]) rfl
        · exact n3.2.2 i z i q rfl
    have keep : ∀ i ∈ PA ++ PC, T2[i]? = T1[i]? := fun i hi => hT i ((inQ i).2 (by simp at hi; rcases hi with q | q <;> simp [q])) (fun e => apart i hi (by rw [e]; simp [ix])) (fun e => apart i hi (by rw [e]; simp [iy]))
    have kk := pr.joined pw hj rfl hQ hz keep (by omega) rfl
    rw [← erase_kids hjk] at kk
    refine ⟨PA ++ (PZ ++ PC), ?_, fun i hi => ?_, fun i hi hi' => ?_, kk⟩
    · refine List.nodup_append.2 ⟨n1.1, List.nodup_append.2 ⟨z2, n3.2.1, fun u hu v hv e => ?_⟩, fun u hu v hv e => ?_⟩
      · subst e; exact apart u (by simp [hv]) (z3 u hu)
      · subst e
        rcases List.mem_append.1 hv with q | q
        · exact apart u (by simp [hu]) (z3 u q)
        · exact n1.2.2 u hu u (by simp [q]) rfl
    · rw [inQ]
      simp only [List.mem_append] at hi
      rcases hi with q | q | q
      · exact .inl q
      · have := z3 i q
        simp only [List.mem_append] at this
        rcases this with w | w <;> simp [w]
      · simp [q]
    · rw [inQ] at hi
      simp only [List.mem_append, not_or] at hi'
      refine Decidable.byContradiction fun e => ?_
      rcases hi with q | q | q | q
      · exact hi'.1 q
      · exact hi'.2.1 (z5 i (by simp [q]) e)
      · exact hi'.2.1 (z5 i (by simp [q]) e)
      · exact hi'.2.2 q
  · have l6 : (joinP px p.keys[j] py).keys.length ≤ 6 := by rw [jl]; cases px.leaf <;> simp <;> omega
    have hk : (joinP px p.keys[j] py).keys.length / 2 < (joinP px p.keys[j] py).keys.length := by omega
    have hleafJ : (joinP px p.keys[j] py).leaf = px.leaf := rfl
    have lR : 1 ≤ (cutR (joinP px p.keys[j] py) ((joinP px p.keys[j] py).keys.length / 2)).keys.length ∧ 2 ≤ (cutR (joinP px p.keys[j] py) ((joinP px p.keys[j] py).keys.length / 2)).keys.length ∧ (cutR (joinP px p.keys[j] py) ((joinP px p.keys[j] py).keys.length / 2)).keys.length ≤ 4 := by
      unfold cutR
      rw [hleafJ]
      cases hpl : px.leaf with
      | true =>
        rw [hpl] at jl
        simp only [Nat.add_zero] at jl
        simp only [List.length_drop]
        omega
      | false => simp only [List.length_drop]; omega
    have lL : (cutL (joinP px p.keys[j] py) ((joinP px p.keys[j] py).keys.length / 2)).keys.length = (joinP px p.keys[j] py).keys.length / 2 := by
      unfold cutL
      rw [hleafJ]
      cases px.leaf <;> (simp only [List.length_take]; omega)
    refine ⟨hk, ⟨by omega, fits_cutL hf hk (by omega)⟩, ⟨lR.2.2, fits_cutR hf lR.1⟩, hf.keys _ (List.getElem_mem hk), fun hx2 hy2 hT => ?_⟩
    obtain ⟨PX', psX', PY', psY', w1, w2, w3, w4, w5, w6, w7⟩ := cut_sub (T' := T2) hX hY hx hy nXY hsz pr.c2 geY hk (by omega) (by omega) lR.1 lR.2.2 (fun i hi h1 h2 => hT i ((inQ i).2 (by simp at hi; rcases hi with q | q <;> simp [q])) h1 h2) hx2 hy2
    have apart : ∀ i ∈ PA ++ PC, i ∉ PX ++ PY := fun i hi hi' => by
      rcases List.mem_append.1 hi with q | q
      · rcases List.mem_append.1 hi' with z | z
        · exact n1.2.2 i q i (by simp [z]) rfl
        · exact n1.2.2 i q i (by simp [z]) rfl
      · rcases List.mem_append.1 hi' with z | z
        · exact n2.2.2 i z i (by simp [q]) rfl
        · exact n3.2.2 i z i q rfl
    have keep : ∀ i ∈ PA ++ PC, T2[i]? = T1[i]? := fun i hi => hT i ((inQ i).2 (by simp at hi; rcases hi with q | q <;> simp [q])) (fun e => apart i hi (by rw [e]; simp [ix])) (fun e => apart i hi (by rw [e]; simp [iy]))
    obtain ⟨kk, kp⟩ := pr.shared hj f3 (T2 := T2) ⟨w1, _, hx2, by omega⟩ ⟨w2, _, hy2, lR.2.1⟩ w3 w6 w7 keep rfl rfl pw rfl
    have n4 := List.nodup_append.1 w4
    refine ⟨_, ?_, fun i => ?_, kk, kp⟩
    · refine List.nodup_append.2 ⟨n1.1, List.nodup_append.2 ⟨n4.1, List.nodup_append.2 ⟨n4.2.1, n3.2.1, fun u hu v hv e => ?_⟩, fun u hu v hv e => ?_⟩, fun u hu v hv e => ?_⟩
      · subst e; exact apart u (by simp [hv]) ((w5 u).1 (by simp [hu]))
      · subst e
        rcases List.mem_append.1 hv with q | q
        · exact n4.2.2 u hu u q rfl
        · exact apart u (by simp [q]) ((w5 u).1 (by simp [hu]))
      · subst e
        rcases List.mem_append.1 hv with q | q
        · exact apart u (by simp [hu]) ((w5 u).1 (by simp [q]))
        · rcases List.mem_append.1 q with q | q
          · exact apart u (by simp [hu]) ((w5 u).1 (by simp [q]))
          · exact n1.2.2 u hu u (by simp [q]) rfl
    · rw [inQ]
      have := w5 i
      simp only [List.mem_append] at this ⊢
      constructor
      · rintro (q | q | q | q)
        · simp [q]
        · rcases this.1 (.inl q) with w | w <;> simp [w]
        · rcases this.1 (.inr q) with w | w <;> simp [w]
        · simp [q]
      · rintro (q | q | q | q)
        · simp [q]
        · rcases this.2 (.inl q) with w | w <;> simp [w]
        · rcases this.2 (.inr q) with w | w <;> simp [w]
        · simp [q]
end
end Go.Am
namespace Go.Am

/-- a tree that an eraser works on: its rows are all its own; pages of X stand as they were copied -/
structure CM (B H : Hp) (le tp : Nat) (ds : List PC) (T : List Pg) (X : Nat → Prop) : Prop where
  pre : B <+: H
  ot : OT H B.length tPg (some (tp, 0)) 48 ds T
  wo : ∀ i (h : i < ds.length), WoP H B.length 1000 ds[i]
  base : ∀ i (h : i < ds.length) l, (ds[i]).on l → B.length ≤ l
  own : ∀ i (h : i < ds.length) (h' : i < T.length), X i → (ds[i]).own H B.length T[i]
  ap : ∀ i j (hi : i < ds.length) (hj : j < ds.length), i ≠ j → ∀ l, (ds[i]).on l → ¬ (ds[j]).on l
  er : H[le]? = some (.row true tEraser [.sl (some (tp, 0)) 48 5])
  erB : B.length ≤ le
  offE : ∀ i (h : i < ds.length), ¬ (ds[i]).on le
section
variable {B H H' : Hp} {le tp : Nat} {ds : List PC} {T : List Pg} {X X' : Nat → Prop} {i : Nat} {c : PC} {p : Pg}
theorem CM.ne (g : CM B H le tp ds T X) : le ≠ tp := fun e => by
  have h1 := g.er
  have h2 := g.ot.at_row.2
  rw [e, h2] at h1
  simp at h1
  exact absurd h1.1 (by decide)
theorem CM.gtE (g : CM B H le tp ds T X) : gt H le 0 = some (.sl (some (tp, 0)) 48 5) := by rw [gt_some g.er]; rfl
theorem CM.mono (g : CM B H le tp ds T X) (hp : H <+: H') : CM B H' le tp ds T X := by
  have lt : ∀ i (h : i < ds.length) l, (ds[i]).on l → l < H.length := fun i h l hl => g.ot.onlt (List.getElem_mem h) hl
  refine ⟨g.pre.trans hp, g.ot.mono hp, fun i h => ?_, g.base, fun i h h' hx => (g.own i h h' hx).keep fun l hl => pre_at hp (lt i h l hl), g.ap, by rw [pre_at hp (List.getElem?_eq_some_iff.1 g.er).1]; exact g.er, g.erB, g.offE⟩
  have w := g.wo i h
  have k1 : ∀ {a n M}, TxR H B.length M a n → TxR H' B.length M a n := fun h => by
    rcases h with h | ⟨l, o, xs, e, h1, h2, h3, h4⟩
    · exact .inl h
    · exact .inr ⟨l, o, xs, e, h1, by unfold SRow; rw [pre_at hp (List.getElem?_eq_some_iff.1 h2).1]; exact h2, h3, h4⟩
  have k2 : ∀ {a n}, NuR H B.length a n → NuR H' B.length a n := fun h => by
    rcases h with h | ⟨l, o, xs, e, h1, h2, h3⟩
    · exact .inl h
    · exact .inr ⟨l, o, xs, e, h1, by unfold IRow; rw [pre_at hp (List.getElem?_eq_some_iff.1 h2).1]; exact h2, h3⟩
  exact ⟨k1 w.t1, k1 w.t2, k2 w.t3, w.s1, w.s2, w.s3⟩
theorem WoP.keepOn {b M : Nat} (w : WoP H b M c) (hk : ∀ l, c.on l → H'[l]? = H[l]?) : WoP H' b M c := by
  refine ⟨?_, ?_, ?_, w.s1, w.s2, w.s3⟩
  · rcases w.t1 with h | ⟨l, o, xs, e, h1, h2, h3, h4⟩
    · exact .inl h
    · exact .inr ⟨l, o, xs, e, h1, by unfold SRow; rw [hk l ⟨o, .inl e⟩]; exact h2, h3, h4⟩
  · rcases w.t2 with h | ⟨l, o, xs, e, h1, h2, h3, h4⟩
    · exact .inl h
    · exact .inr ⟨l, o, xs, e, h1, by unfold SRow; rw [hk l ⟨o, .inr (.inl e)⟩]; exact h2, h3, h4⟩
  · rcases w.t3 with h | ⟨l, o, xs, e, h1, h2, h3⟩
    · exact .inl h
    · exact .inr ⟨l, o, xs, e, h1, by unfold IRow; rw [hk l ⟨o, .inr (.inr e)⟩]; exact h2, h3⟩
/-- a page turned -/
theorem CM.turn (g : CM B H le tp ds T X) (hi : i < ds.length) (hlen : H.length ≤ H'.length) (hkeep : ∀ l, l < H.length → ¬ (ds[i]).on l → l ≠ tp → H'[l]? = H[l]?)
    (hrow : H'[tp]? = some (.row true tPg (pcells (ds.set i c)))) (hc : c.at H' p) (hw : WoP H' B.length 1000 c)
    (hon : ∀ l, c.on l → l ≠ tp ∧ l ≠ le ∧ B.length ≤ l ∧ ∀ j (hj : j < ds.length), j ≠ i → ¬ (ds[j]).on l) (hX : ∀ j, X' j → (j = i ∧ c.own H' B.length p) ∨ (j ≠ i ∧ X j)) :
    CM B H' le tp (ds.set i c) (T.set i p) X' := by
  have q1 := g.ot.len
  have q2 := g.ot.lenT
  obtain ⟨hb, hr⟩ := g.ot.at_row
  have htp := (List.getElem?_eq_some_iff.1 hr).1
  have lt : ∀ j (h : j < ds.length) l, (ds[j]).on l → l < H.length := fun j h l hl => g.ot.onlt (List.getElem_mem h) hl
  have other : ∀ j (h : j < ds.length), j ≠ i → ∀ l, (ds[j]).on l → H'[l]? = H[l]? := fun j h hne l hl => hkeep l (lt j h l hl) (g.ap j i h hi hne l hl) (fun e => g.ot.off _ (List.getElem_mem h) l hl (by rw [e]))
  have hpre : B <+: H' := by
    rw [List.prefix_iff_eq_take]
    apply List.ext_getElem?
    intro l
    rw [List.getElem?_take]
    split
    · rename_i hl
      have := g.pre.length_le
      rw [hkeep l (by omega) (fun h => by have := g.base i hi l h; omega) (by omega), pre_at g.pre hl]
    · rename_i hl
      exact List.getElem?_eq_none (by omega)
  refine ⟨hpre, ⟨.inr ⟨tp, rfl, hb, hrow, by rw [pcells_length]; simp [q1]⟩, by simp [q1], by simp [q2], fun j h1 h2 => ?_, fun d hd l hl e => ?_⟩, fun j h => ?_, fun j h l hl => ?_, fun j h h' hx => ?_, fun j k hj hk hne l h1 h2 => ?_, ?_, g.erB, fun j h hl => ?_⟩
  · rw [List.getElem_set, List.getElem_set]
    by_cases e : i = j
    · rw [if_pos e, if_pos e]; exact hc
    · rw [if_neg e, if_neg e]
      simp at h1 h2
      exact (g.ot.all j h1 h2).keep (other j h1 (Ne.symm e))
  · cases e
    rcases List.mem_or_eq_of_mem_set hd with q | q
    · exact g.ot.off d q tp hl rfl
    · subst q; exact (hon tp hl).1 rfl
  · rw [List.getElem_set]
    by_cases e : i = j
    · rw [if_pos e]; exact hw
    · rw [if_neg e]; simp at h; exact (g.wo j h).keepOn (other j h (Ne.symm e))
  · rw [List.getElem_set] at hl
    by_cases e : i = j
    · rw [if_pos e] at hl; exact (hon l hl).2.2.1
    · rw [if_neg e] at hl; simp at h; exact g.base j h l hl
  · rw [List.getElem_set, List.getElem_set]
    rcases hX j hx with ⟨e, ho⟩ | ⟨e, hx'⟩
    · rw [if_pos e.symm, if_pos e.symm]; exact ho
    · rw [if_neg (Ne.symm e), if_neg (Ne.symm e)]
      simp at h h'
      exact (g.own j h h' hx').keep (other j h e)
  · rw [List.getElem_set] at h1 h2
    simp at hj hk
    by_cases e1 : i = j
    · rw [if_pos e1] at h1
      by_cases e2 : i = k
      · omega
      · rw [if_neg e2] at h2
        exact (hon l h1).2.2.2 k hk (Ne.symm e2) h2
    · rw [if_neg e1] at h1
      by_cases e2 : i = k
      · rw [if_pos e2] at h2
        exact (hon l h2).2.2.2 j hj (Ne.symm e1) h1
      · rw [if_neg e2] at h2
        exact g.ap j k hj hk hne l h1 h2
  · rw [hkeep le (List.getElem?_eq_some_iff.1 g.er).1 (g.offE i hi) g.ne]; exact g.er
  · rw [List.getElem_set] at hl
    by_cases e : i = j
    · rw [if_pos e] at hl; exact (hon le hl).2.1 rfl
    · rw [if_neg e] at hl; simp at h; exact g.offE j h hl
/-- a page laid in anew -/
theorem CM.lay (g : CM B H le tp ds T X) (hi : i < ds.length) (hc : c.at H p) (hw : WoP H B.length 1000 c) (hon : ∀ l, c.on l → l ≠ tp ∧ l ≠ le ∧ B.length ≤ l ∧ ∀ j (hj : j < ds.length), j ≠ i → ¬ (ds[j]).on l) {K : Hp → Prop}
    (hK : ∀ H', CM B H' le tp (ds.set i c) (T.set i p) (fun j => j ≠ i ∧ X j) → H'.length = H.length → (∀ l, l ≠ tp → H'[l]? = H[l]?) → K H') :
    wr H tp (0 + i * 5) (.bool c.u) fun H1 => wr H1 tp (0 + i * 5 + 1) (.bool c.l) fun H2 => wr H2 tp (0 + i * 5 + 1 + 1) (.sl c.a1 c.n1 1) fun H3 => wr H3 tp (0 + i * 5 + 1 + 1 + 1) (.sl c.a2 c.n2 1) fun H4 => wr H4 tp (0 + i * 5 + 1 + 1 + 1 + 1) (.sl c.a3 c.n3 1) K := by
  obtain ⟨hb, hr⟩ := g.ot.at_row
  have htp := (List.getElem?_eq_some_iff.1 hr).1
  rw [Nat.zero_add]
  have kp : ∀ l, l ≠ tp → (H.set tp (.row true tPg (pcells (ds.set i c))))[l]? = H[l]? := fun l hl => by rw [List.getElem?_set_ne (Ne.symm hl)]
  refine wr5 hr hi (hK _ (g.turn hi (by simp) (fun l _ _ hl => kp l hl) (List.getElem?_set_self htp) (hc.keep fun l hl => kp l (hon l hl).1) (hw.keepOn fun l hl => kp l (hon l hl).1) hon fun j hj => .inr hj) (by simp) kp)
theorem no_at (H : Hp) : (⟨false, false, none, 0, none, 0, none, 0⟩ : PC).at H noPg := noPg_at H
theorem no_wo (H : Hp) (b M : Nat) : WoP H b M ⟨false, false, none, 0, none, 0, none, 0⟩ := ⟨.inl rfl, .inl rfl, .inl rfl, by show 0 ≤ 1000; omega, by show 0 ≤ 1000; omega, by show 0 ≤ 1000; omega⟩
theorem no_on {l : Nat} : ¬ (⟨false, false, none, 0, none, 0, none, 0⟩ : PC).on l := by rintro ⟨o, q | q | q⟩ <;> cases q

theorem own_row {t : TypeId} {b : Nat} {a : Pl} {n : Nat} {cs : List GV} (h : Own H b t a n cs) (hn : 0 < n) : ∃ l, a = some (l, 0) ∧ b ≤ l ∧ H[l]? = some (.row true t cs) ∧ cs.length = n := by
  rcases h with ⟨_, q, _⟩ | ⟨l, e, hb, hr, hl⟩
  · omega
  · exact ⟨l, e, hb, hr, hl⟩
theorem tx_erase {b l i : Nat} {xs : List ByteArray} {n : Nat} (hb : b ≤ l) (hr : SRow H l (xs.eraseIdx i ++ [mkS []])) (hn : xs.length = n) (hi : i < n) (hs : ∀ s ∈ xs, s.size ≤ 1000) : TxR H b 1000 (some (l, 0)) (n - 1) := by
  refine .inr ⟨l, 0, _, rfl, hb, hr, ?_, fun x hx => ?_⟩
  · rw [List.length_append, List.length_eraseIdx, if_pos (by omega)]; simp; omega
  · rcases List.mem_append.1 hx with q | q
    · exact hs x (mem_erase q)
    · rw [List.mem_singleton.1 q]; decide
theorem ss_erase {l i : Nat} {xs : List ByteArray} {n : Nat} (hr : SRow H l (xs.eraseIdx i ++ [mkS []])) (hn : xs.length = n) (hi : i < n) (hlim : n ≤ 1000) : Ss H (some (l, 0)) (n - 1) (xs.eraseIdx i) := by
  have e : (xs.eraseIdx i).length = n - 1 := by rw [List.length_eraseIdx, if_pos (by omega)]; omega
  refine ⟨?_, e.symm, by omega⟩
  simp only [cells?, hr]
  rw [if_pos (by simp [e])]
  simp only [List.drop_zero, List.map_append]
  rw [List.take_left' (by simp [e])]
theorem is_erase {l i : Nat} {xs : List Int} {n : Nat} (hr : IRow H l (xs.eraseIdx i ++ [0])) (hn : xs.length = n) (hi : i < n) (hlim : n ≤ 1000) : Is H (some (l, 0)) (n - 1) (xs.eraseIdx i) := by
  have e : (xs.eraseIdx i).length = n - 1 := by rw [List.length_eraseIdx, if_pos (by omega)]; omega
  refine ⟨?_, e.symm, by omega⟩
  simp only [cells?, hr]
  rw [if_pos (by simp [e])]
  simp only [List.drop_zero, List.map_append]
  rw [List.take_left' (by simp [e])]
end
end Go.Am
namespace Go.Am

section
variable {B H H' : Hp} {le tp : Nat} {ds : List PC} {T : List Pg} {X : Nat → Prop} {i : Nat} {p : Pg} {Q : Post}
theorem wr_23 {b1 b2 : Pl} {m1 m2 : Nat} {K : Hp → Prop} (hr : H[tp]? = some (.row true tPg (pcells ds))) (hi : i < ds.length) (hK : K (H.set tp (.row true tPg (pcells (ds.set i ⟨ds[i].u, ds[i].l, b1, m1, b2, m2, ds[i].a3, ds[i].n3⟩))))) :
    wr H tp (0 + i * 5 + 2) (.sl b1 m1 1) fun H2 => wr H2 tp (0 + i * 5 + 3) (.sl b2 m2 1) K := by
  have htp := (List.getElem?_eq_some_iff.1 hr).1
  rw [Nat.zero_add]
  refine wr_row hr (by rw [pcells_length]; omega) ?_
  rw [pcells_set1 ds i 2 _ ⟨ds[i].u, ds[i].l, b1, m1, ds[i].a2, ds[i].n2, ds[i].a3, ds[i].n3⟩ hi (by omega) rfl]
  refine wr_row (List.getElem?_set_self htp) (by rw [pcells_length]; simp; omega) ?_
  rw [pcells_set1 _ i 3 _ ⟨ds[i].u, ds[i].l, b1, m1, b2, m2, ds[i].a3, ds[i].n3⟩ (by simpa using hi) (by omega) (by rw [List.getElem_set_self]; rfl), List.set_set, List.set_set]
  exact hK
theorem wr_24 {b1 b2 : Pl} {m1 m2 : Nat} {K : Hp → Prop} (hr : H[tp]? = some (.row true tPg (pcells ds))) (hi : i < ds.length) (hK : K (H.set tp (.row true tPg (pcells (ds.set i ⟨ds[i].u, ds[i].l, b1, m1, ds[i].a2, ds[i].n2, b2, m2⟩))))) :
    wr H tp (0 + i * 5 + 2) (.sl b1 m1 1) fun H2 => wr H2 tp (0 + i * 5 + 4) (.sl b2 m2 1) K := by
  have htp := (List.getElem?_eq_some_iff.1 hr).1
  rw [Nat.zero_add]
  refine wr_row hr (by rw [pcells_length]; omega) ?_
  rw [pcells_set1 ds i 2 _ ⟨ds[i].u, ds[i].l, b1, m1, ds[i].a2, ds[i].n2, ds[i].a3, ds[i].n3⟩ hi (by omega) rfl]
  refine wr_row (List.getElem?_set_self htp) (by rw [pcells_length]; simp; omega) ?_
  rw [pcells_set1 _ i 4 _ ⟨ds[i].u, ds[i].l, b1, m1, ds[i].a2, ds[i].n2, b2, m2⟩ (by simpa using hi) (by omega) (by rw [List.getElem_set_self]; rfl), List.set_set, List.set_set]
  exact hK

/-- an entry of a leaf taken out -/
theorem CM.delLeaf (g : CM B H le tp ds T X) (hi : i < ds.length) (hi' : i < T.length) (hx : X i) {s : Nat} (hs : s < (T[i]).keys.length) (hv : (T[i]).vals.length = (T[i]).keys.length) (hsm : small T[i])
    (hQ : ∀ H' ds', CM B H' le tp ds' (T.set i (delP T[i] s)) (fun j => j ≠ i ∧ X j) → Q (.tup []) H') :
    (rd H tp (0 + i * 5 + 2) fun v23 =>
  dL 1 v23 fun x24 n25 =>
  rd H tp (0 + i * 5 + 3) fun v26 =>
  dL 1 v26 fun x27 n28 =>
  cl slices_Delete__string_string [(.g (.sl x24 n25 1)), (.g (.int .i64 (s : Int))), (.g (.int .i64 (wrapI .i64 ((s : Int) + 1))))] H fun r29 H30 =>
  rG r29 fun v31 =>
  dL 1 v31 fun x32 n33 =>
  rd H30 tp (0 + i * 5 + 3) fun v34 =>
  dL 1 v34 fun x35 n36 =>
  eqv (.g (.sl x27 n28 1)) (.g (.sl x35 n36 1)) (cl slices_Delete__string_string [(.g (.sl x27 n28 1)), (.g (.int .i64 (s : Int))), (.g (.int .i64 (wrapI .i64 ((s : Int) + 1))))] H30 fun r37 H38 =>
  rG r37 fun v39 =>
  dL 1 v39 fun x40 n41 =>
  wr H38 tp (0 + i * 5 + 2) (.sl x32 n33 1) fun H42 =>
  wr H42 tp (0 + i * 5 + 3) (.sl x40 n41 1) fun H43 =>
  Q (.tup []) H43)) := by
  obtain ⟨s1, s2, s3, s4, s5⟩ := hsm
  have ho := g.own i hi hi' hx
  have hat := g.ot.all i hi hi'
  have e1 := hat.keys.len
  have e2 := hat.vals.len
  obtain ⟨lk, k1, k2, k3, k4⟩ := own_row ho.keys (by omega)
  obtain ⟨lv, v1, v2, v3, v4⟩ := own_row ho.vals (by omega)
  have hne : lk ≠ lv := fun e => ho.d12 lk 0 0 k1 (by rw [v1, e])
  obtain ⟨hb, hr⟩ := g.ot.at_row
  have htp := (List.getElem?_eq_some_iff.1 hr).1
  have hlk := (List.getElem?_eq_some_iff.1 k3).1
  have hlv := (List.getElem?_eq_some_iff.1 v3).1
  have onk : (ds[i]).on lk := ⟨0, .inl k1⟩
  have onv : (ds[i]).on lv := ⟨0, .inr (.inl v1)⟩
  have nkt : lk ≠ tp := fun e => by subst e; exact g.ot.off _ (List.getElem_mem hi) _ onk rfl
  have nvt : lv ≠ tp := fun e => by subst e; exact g.ot.off _ (List.getElem_mem hi) _ onv rfl
  have g2 : gt H tp (0 + i * 5 + 2) = some (.sl ds[i].a1 ds[i].n1 1) := by rw [Nat.zero_add]; exact g.ot.gt hi (by omega)
  have g3 : gt H tp (0 + i * 5 + 3) = some (.sl ds[i].a2 ds[i].n2 1) := by rw [Nat.zero_add]; exact g.ot.gt hi (by omega)
  rw [rd_of g2, dL_sl, rd_of g3, dL_sl, wrap_succ (by omega), k1]
  refine delete_str (xs := (T[i]).keys) k3 (by omega) (by omega) (by omega) ?_
  simp only [rG_g, dL_sl]
  have hr1 : (H.set lk (.row true tS (((T[i]).keys.eraseIdx s ++ [mkS []]).map GV.str)))[tp]? = some (.row true tPg (pcells ds)) := by rw [List.getElem?_set_ne nkt]; exact hr
  have g3' : gt (H.set lk (.row true tS (((T[i]).keys.eraseIdx s ++ [mkS []]).map GV.str))) tp (0 + i * 5 + 3) = some (.sl ds[i].a2 ds[i].n2 1) := by
    rw [gt_some hr1, Nat.zero_add]; exact pcells_get hi (by omega)
  rw [rd_of g3', dL_sl]
  refine ⟨rfl, ?_⟩
  rw [v1]
  have v3' : SRow (H.set lk (.row true tS (((T[i]).keys.eraseIdx s ++ [mkS []]).map GV.str))) lv (T[i]).vals := by unfold SRow; rw [List.getElem?_set_ne hne]; exact v3
  refine delete_str (xs := (T[i]).vals) v3' (by omega) (by omega) (by omega) ?_
  simp only [rG_g, dL_sl]
  refine wr_23 (by rw [List.getElem?_set_ne nvt]; exact hr1) hi ?_
  refine hQ _ (ds.set i ⟨ds[i].u, ds[i].l, some (lk, 0), ds[i].n1 - 1, some (lv, 0), ds[i].n2 - 1, ds[i].a3, ds[i].n3⟩) ?_
  have kk : SRow (((H.set lk (.row true tS (((T[i]).keys.eraseIdx s ++ [mkS []]).map GV.str))).set lv (.row true tS (((T[i]).vals.eraseIdx s ++ [mkS []]).map GV.str))).set tp (.row true tPg (pcells (ds.set i ⟨ds[i].u, ds[i].l, some (lk, 0), ds[i].n1 - 1, some (lv, 0), ds[i].n2 - 1, ds[i].a3, ds[i].n3⟩)))) lk ((T[i]).keys.eraseIdx s ++ [mkS []]) := by
    unfold SRow; rw [List.getElem?_set_ne (Ne.symm nkt), List.getElem?_set_ne (Ne.symm hne), List.getElem?_set_self hlk]
  have kv : SRow (((H.set lk (.row true tS (((T[i]).keys.eraseIdx s ++ [mkS []]).map GV.str))).set lv (.row true tS (((T[i]).vals.eraseIdx s ++ [mkS []]).map GV.str))).set tp (.row true tPg (pcells (ds.set i ⟨ds[i].u, ds[i].l, some (lk, 0), ds[i].n1 - 1, some (lv, 0), ds[i].n2 - 1, ds[i].a3, ds[i].n3⟩)))) lv ((T[i]).vals.eraseIdx s ++ [mkS []]) := by
    unfold SRow; rw [List.getElem?_set_ne (Ne.symm nvt), List.getElem?_set_self (by simpa using hlv)]
  have keep : ∀ l, l ≠ lk → l ≠ lv → l ≠ tp → (((H.set lk (.row true tS (((T[i]).keys.eraseIdx s ++ [mkS []]).map GV.str))).set lv (.row true tS (((T[i]).vals.eraseIdx s ++ [mkS []]).map GV.str))).set tp (.row true tPg (pcells (ds.set i ⟨ds[i].u, ds[i].l, some (lk, 0), ds[i].n1 - 1, some (lv, 0), ds[i].n2 - 1, ds[i].a3, ds[i].n3⟩))))[l]? = H[l]? := fun l h1 h2 h3 => by
    rw [List.getElem?_set_ne (Ne.symm h3), List.getElem?_set_ne (Ne.symm h2), List.getElem?_set_ne (Ne.symm h1)]
  have w := g.wo i hi
  refine g.turn hi (by simp) (fun l _ hn ht => keep l (fun e => hn (by rw [e]; exact onk)) (fun e => hn (by rw [e]; exact onv)) ht) (List.getElem?_set_self (by simpa using htp)) ?_ ?_ (fun l hl => ?_) (fun j hj => .inr hj)
  · refine ⟨hat.used, hat.leaf, ss_erase kk (by omega) (by omega) (by omega), ss_erase kv (by omega) (by omega) (by omega), ⟨?_, hat.kids.len, hat.kids.lim⟩⟩
    refine Eq.trans (cells_at (a := ds[i].a3) fun l o e => keep l (fun q => ?_) (fun q => ?_) (fun q => ?_)) hat.kids.cells
    · subst q; exact ho.d13 l 0 o k1 e
    · subst q; exact ho.d23 l 0 o v1 e
    · subst q; exact g.ot.off _ (List.getElem_mem hi) _ ⟨o, .inr (.inr e)⟩ rfl
  · refine ⟨tx_erase k2 kk (by omega) (by omega) s1, tx_erase v2 kv (by omega) (by omega) s2, ?_, by have := w.s1; show ds[i].n1 - 1 ≤ 1000; omega, by have := w.s2; show ds[i].n2 - 1 ≤ 1000; omega, w.s3⟩
    rcases w.t3 with h | ⟨l, o, xs, e, h1, h2, h3⟩
    · exact .inl h
    · refine .inr ⟨l, o, xs, e, h1, ?_, h3⟩
      unfold IRow
      rw [keep l (fun q => ?_) (fun q => ?_) (fun q => ?_)]
      · exact h2
      · subst q; exact ho.d13 l 0 o k1 e
      · subst q; exact ho.d23 l 0 o v1 e
      · subst q; exact g.ot.off _ (List.getElem_mem hi) _ ⟨o, .inr (.inr e)⟩ rfl
  · have on' : (ds[i]).on l := by
      obtain ⟨o, q | q | q⟩ := hl
      · exact ⟨0, .inl (by have : l = lk := by cases q; rfl
                           rw [this]; exact k1)⟩
      · exact ⟨0, .inr (.inl (by have : l = lv := by cases q; rfl
                                 rw [this]; exact v1))⟩
      · exact ⟨o, .inr (.inr q)⟩
    exact ⟨fun e => by subst e; exact g.ot.off _ (List.getElem_mem hi) _ on' rfl, fun e => by subst e; exact g.offE i hi on', g.base i hi l on', fun j hj hne => g.ap i j hi hj (Ne.symm hne) l on'⟩

/-- a key of an inner page taken out, with the kid behind it -/
theorem CM.delInner (g : CM B H le tp ds T X) (hi : i < ds.length) (hi' : i < T.length) (hx : X i) {s : Nat} (hs : s < (T[i]).keys.length) (hv : (T[i]).kids.length = (T[i]).keys.length + 1) (hsm : small T[i])
    (hQ : ∀ H' ds', CM B H' le tp ds' (T.set i ⟨T[i].used, T[i].leaf, T[i].keys.eraseIdx s, T[i].vals, T[i].kids.eraseIdx (s + 1)⟩) (fun j => j ≠ i ∧ X j) → Q (.tup []) H') :
    (pS (some (tp, 0 + i * 5)) fun n119 n120 =>
  rd H n119 (n120 + 2) fun v121 =>
  dL 1 v121 fun x122 n123 =>
  pS (some (tp, 0 + i * 5)) fun n124 n125 =>
  rd H n124 (n125 + 4) fun v126 =>
  dL 1 v126 fun x127 n128 =>
  cl slices_Delete__string_string [(.g (.sl x122 n123 1)), (.g (.int .i64 (s : Int))), (.g (.int .i64 (wrapI .i64 ((s : Int) + 1))))] H fun r129 H130 =>
  rG r129 fun v131 =>
  dL 1 v131 fun x132 n133 =>
  rd H130 n124 (n125 + 4) fun v134 =>
  dL 1 v134 fun x135 n136 =>
  eqv (.g (.sl x127 n128 1)) (.g (.sl x135 n136 1)) (cl slices_Delete__int_int [(.g (.sl x127 n128 1)), (.g (.int .i64 (wrapI .i64 ((s : Int) + 1)))), (.g (.int .i64 (wrapI .i64 ((s : Int) + 2))))] H130 fun r137 H138 =>
  rG r137 fun v139 =>
  dL 1 v139 fun x140 n141 =>
  pS (some (tp, 0 + i * 5)) fun n142 n143 =>
  wr H138 n142 (n143 + 2) (.sl x132 n133 1) fun H144 =>
  pS (some (tp, 0 + i * 5)) fun n145 n146 =>
  wr H144 n145 (n146 + 4) (.sl x140 n141 1) fun H147 =>
  Q (.tup []) H147)) := by
  obtain ⟨s1, s2, s3, s4, s5⟩ := hsm
  have ho := g.own i hi hi' hx
  have hat := g.ot.all i hi hi'
  have e1 := hat.keys.len
  have e2 := hat.kids.len
  obtain ⟨lk, k1, k2, k3, k4⟩ := own_row ho.keys (by omega)
  obtain ⟨lv, v1, v2, v3, v4⟩ := own_row ho.kids (by omega)
  have hne : lk ≠ lv := fun e => ho.d13 lk 0 0 k1 (by rw [v1, e])
  obtain ⟨hb, hr⟩ := g.ot.at_row
  have htp := (List.getElem?_eq_some_iff.1 hr).1
  have hlk := (List.getElem?_eq_some_iff.1 k3).1
  have hlv := (List.getElem?_eq_some_iff.1 v3).1
  have onk : (ds[i]).on lk := ⟨0, .inl k1⟩
  have onv : (ds[i]).on lv := ⟨0, .inr (.inr v1)⟩
  have nkt : lk ≠ tp := fun e => by subst e; exact g.ot.off _ (List.getElem_mem hi) _ onk rfl
  have nvt : lv ≠ tp := fun e => by subst e; exact g.ot.off _ (List.getElem_mem hi) _ onv rfl
  have g2 : gt H tp (0 + i * 5 + 2) = some (.sl ds[i].a1 ds[i].n1 1) := by rw [Nat.zero_add]; exact g.ot.gt hi (by omega)
  have g3 : gt H tp (0 + i * 5 + 4) = some (.sl ds[i].a3 ds[i].n3 1) := by rw [Nat.zero_add]; exact g.ot.gt hi (by omega)
  rw [pS_some, rd_of g2, dL_sl, pS_some, rd_of g3, dL_sl, wrap_succ (by omega), k1]
  refine delete_str (xs := (T[i]).keys) k3 (by omega) (by omega) (by omega) ?_
  simp only [rG_g, dL_sl]
  have hr1 : (H.set lk (.row true tS (((T[i]).keys.eraseIdx s ++ [mkS []]).map GV.str)))[tp]? = some (.row true tPg (pcells ds)) := by rw [List.getElem?_set_ne nkt]; exact hr
  have g3' : gt (H.set lk (.row true tS (((T[i]).keys.eraseIdx s ++ [mkS []]).map GV.str))) tp (0 + i * 5 + 4) = some (.sl ds[i].a3 ds[i].n3 1) := by
    rw [gt_some hr1, Nat.zero_add]; exact pcells_get hi (by omega)
  rw [rd_of g3', dL_sl]
  refine ⟨rfl, ?_⟩
  rw [v1, show wrapI .i64 ((s : Int) + 2) = ((s + 1 + 1 : Nat) : Int) from wrap64 (by omega) (by omega)]
  have v3' : IRow (H.set lk (.row true tS (((T[i]).keys.eraseIdx s ++ [mkS []]).map GV.str))) lv (T[i]).kids := by unfold IRow; rw [List.getElem?_set_ne hne]; exact v3
  refine delete_int (xs := (T[i]).kids) (i := s + 1) v3' (by omega) (by omega) (by omega) ?_
  simp only [rG_g, dL_sl, pS_some]
  refine wr_24 (by rw [List.getElem?_set_ne nvt]; exact hr1) hi ?_
  refine hQ _ (ds.set i ⟨ds[i].u, ds[i].l, some (lk, 0), ds[i].n1 - 1, ds[i].a2, ds[i].n2, some (lv, 0), ds[i].n3 - 1⟩) ?_
  have kk : SRow (((H.set lk (.row true tS (((T[i]).keys.eraseIdx s ++ [mkS []]).map GV.str))).set lv (.row true tI (((T[i]).kids.eraseIdx (s + 1) ++ [0]).map (GV.int .i64)))).set tp (.row true tPg (pcells (ds.set i ⟨ds[i].u, ds[i].l, some (lk, 0), ds[i].n1 - 1, ds[i].a2, ds[i].n2, some (lv, 0), ds[i].n3 - 1⟩)))) lk ((T[i]).keys.eraseIdx s ++ [mkS []]) := by
    unfold SRow; rw [List.getElem?_set_ne (Ne.symm nkt), List.getElem?_set_ne (Ne.symm hne), List.getElem?_set_self hlk]
  have kv : IRow (((H.set lk (.row true tS (((T[i]).keys.eraseIdx s ++ [mkS []]).map GV.str))).set lv (.row true tI (((T[i]).kids.eraseIdx (s + 1) ++ [0]).map (GV.int .i64)))).set tp (.row true tPg (pcells (ds.set i ⟨ds[i].u, ds[i].l, some (lk, 0), ds[i].n1 - 1, ds[i].a2, ds[i].n2, some (lv, 0), ds[i].n3 - 1⟩)))) lv ((T[i]).kids.eraseIdx (s + 1) ++ [0]) := by
    unfold IRow; rw [List.getElem?_set_ne (Ne.symm nvt), List.getElem?_set_self (by simpa using hlv)]
  have keep : ∀ l, l ≠ lk → l ≠ lv → l ≠ tp → (((H.set lk (.row true tS (((T[i]).keys.eraseIdx s ++ [mkS []]).map GV.str))).set lv (.row true tI (((T[i]).kids.eraseIdx (s + 1) ++ [0]).map (GV.int .i64)))).set tp (.row true tPg (pcells (ds.set i ⟨ds[i].u, ds[i].l, some (lk, 0), ds[i].n1 - 1, ds[i].a2, ds[i].n2, some (lv, 0), ds[i].n3 - 1⟩))))[l]? = H[l]? := fun l h1 h2 h3 => by
    rw [List.getElem?_set_ne (Ne.symm h3), List.getElem?_set_ne (Ne.symm h2), List.getElem?_set_ne (Ne.symm h1)]
  have w := g.wo i hi
  refine g.turn hi (by simp) (fun l _ hn ht => keep l (fun e => hn (by rw [e]; exact onk)) (fun e => hn (by rw [e]; exact onv)) ht) (List.getElem?_set_self (by simpa using htp)) ?_ ?_ (fun l hl => ?_) (fun j hj => .inr hj)
  · refine ⟨hat.used, hat.leaf, ss_erase kk (by omega) (by omega) (by omega), ⟨?_, hat.vals.len, hat.vals.lim⟩, is_erase kv (by omega) (by omega) (by omega)⟩
    rw [← hat.vals.cells]
    refine cells_at fun l o e => keep l (fun q => ?_) (fun q => ?_) (fun q => ?_)
    · subst q; exact ho.d12 l 0 o k1 e
    · subst q; exact ho.d23 l o 0 e v1
    · subst q; exact g.ot.off _ (List.getElem_mem hi) _ ⟨o, .inr (.inl e)⟩ rfl
  · refine ⟨tx_erase k2 kk (by omega) (by omega) s1, ?_, ?_, by have := w.s1; show ds[i].n1 - 1 ≤ 1000; omega, w.s2, by have := w.s3; show ds[i].n3 - 1 ≤ 1000; omega⟩
    · rcases w.t2 with h | ⟨l, o, xs, e, h1, h2, h3, h4⟩
      · exact .inl h
      · refine .inr ⟨l, o, xs, e, h1, ?_, h3, h4⟩
        unfold SRow
        rw [keep l (fun q => ?_) (fun q => ?_) (fun q => ?_)]
        · exact h2
        · subst q; exact ho.d12 l 0 o k1 e
        · subst q; exact ho.d23 l o 0 e v1
        · subst q; exact g.ot.off _ (List.getElem_mem hi) _ ⟨o, .inr (.inl e)⟩ rfl
    · refine .inr ⟨lv, 0, _, rfl, v2, kv, ?_⟩
      rw [List.length_append, List.length_eraseIdx, if_pos (by omega)]; simp; omega
  · have on' : (ds[i]).on l := by
      obtain ⟨o, q | q | q⟩ := hl
      · exact ⟨0, .inl (by have : l = lk := by cases q; rfl
                           rw [this]; exact k1)⟩
      · exact ⟨o, .inr (.inl q)⟩
      · exact ⟨0, .inr (.inr (by have : l = lv := by cases q; rfl
                                 rw [this]; exact v1))⟩
    exact ⟨fun e => by subst e; exact g.ot.off _ (List.getElem_mem hi) _ on' rfl, fun e => by subst e; exact g.offE i hi on', g.base i hi l on', fun j hj hne => g.ap i j hi hj (Ne.symm hne) l on'⟩

/-- a key of a page turned -/
theorem CM.setKey (g : CM B H le tp ds T X) (hi : i < ds.length) (hi' : i < T.length) (hx : X i) {s : Nat} (hs : s < (T[i]).keys.length) (hsm : small T[i]) {k : ByteArray} (hk : k.size ≤ 1000) {K : Hp → Prop}
    (hK : ∀ H', CM B H' le tp ds (T.set i ⟨T[i].used, T[i].leaf, T[i].keys.set s k, T[i].vals, T[i].kids⟩) (fun j => j ≠ i ∧ X j) → H'.length = H.length → (∀ l, (∀ o, ds[i].a1 ≠ some (l, o)) → H'[l]? = H[l]?) → K H') : ∃ lk, ds[i].a1 = some (lk, 0) ∧ wr H lk s (.str k) K := by
  obtain ⟨s1, s2, s3, s4, s5⟩ := hsm
  have ho := g.own i hi hi' hx
  have hat := g.ot.all i hi hi'
  have e1 := hat.keys.len
  obtain ⟨lk, k1, k2, k3, k4⟩ := own_row ho.keys (by omega)
  obtain ⟨hb, hr⟩ := g.ot.at_row
  have hlk := (List.getElem?_eq_some_iff.1 k3).1
  have onk : (ds[i]).on lk := ⟨0, .inl k1⟩
  have nkt : lk ≠ tp := fun e => by subst e; exact g.ot.off _ (List.getElem_mem hi) _ onk rfl
  refine ⟨lk, k1, wr_row k3 (by simpa using hs) ?_⟩
  rw [← List.map_set]
  refine hK _ ?_ (by simp) (fun l hl => by rw [List.getElem?_set_ne]; intro q; subst q; exact hl 0 k1)
  have keep : ∀ l, l ≠ lk → (H.set lk (.row true tS (((T[i]).keys.set s k).map GV.str)))[l]? = H[l]? := fun l h => by rw [List.getElem?_set_ne (Ne.symm h)]
  have kk : SRow (H.set lk (.row true tS (((T[i]).keys.set s k).map GV.str))) lk ((T[i]).keys.set s k) := List.getElem?_set_self hlk
  have eself : ds.set i ds[i] = ds := by simp
  have w := g.wo i hi
  have := g.turn (c := ds[i]) (p := ⟨T[i].used, T[i].leaf, T[i].keys.set s k, T[i].vals, T[i].kids⟩) (X' := fun j => j ≠ i ∧ X j) (H' := H.set lk (.row true tS (((T[i]).keys.set s k).map GV.str))) hi (by simp) (fun l _ hn _ => keep l fun e => hn (by rw [e]; exact onk)) (by rw [eself, keep tp (Ne.symm nkt)]; exact hr)
    ⟨hat.used, hat.leaf, ⟨?_, by simpa using e1, hat.keys.lim⟩, ⟨?_, hat.vals.len, hat.vals.lim⟩, ⟨?_, hat.kids.len, hat.kids.lim⟩⟩ ⟨?_, ?_, ?_, w.s1, w.s2, w.s3⟩
    (fun l on' => ⟨fun e => by subst e; exact g.ot.off _ (List.getElem_mem hi) _ on' rfl, fun e => by subst e; exact g.offE i hi on', g.base i hi l on', fun j hj hne => g.ap i j hi hj (Ne.symm hne) l on'⟩) (fun j hj => .inr hj)
  · rw [eself] at this; exact this
  · rw [k1]
    simp only [cells?, kk]
    rw [if_pos (by simp; omega)]
    simp only [List.drop_zero]
    rw [List.take_of_length_le (by simp; omega)]
  · rw [← hat.vals.cells]
    exact cells_at fun l o e => keep l fun q => by subst q; exact ho.d12 l 0 o k1 e
  · rw [← hat.kids.cells]
    exact cells_at fun l o e => keep l fun q => by subst q; exact ho.d13 l 0 o k1 e
  · refine .inr ⟨lk, 0, _, k1, k2, kk, by simp; omega, fun x hx' => ?_⟩
    rcases List.mem_or_eq_of_mem_set hx' with q | q
    · exact s1 x q
    · rw [q]; exact hk
  · rcases w.t2 with h | ⟨l, o, xs, e, h1, h2, h3, h4⟩
    · exact .inl h
    · exact .inr ⟨l, o, xs, e, h1, by unfold SRow; rw [keep l fun q => by subst q; exact ho.d12 l 0 o k1 e]; exact h2, h3, h4⟩
  · rcases w.t3 with h | ⟨l, o, xs, e, h1, h2, h3⟩
    · exact .inl h
    · exact .inr ⟨l, o, xs, e, h1, by unfold IRow; rw [keep l fun q => by subst q; exact ho.d13 l 0 o k1 e]; exact h2, h3⟩
end
end Go.Am
