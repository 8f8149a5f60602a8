import Derived.Test.YtiemhjehieipdaaM6
set_option linter.unusedVariables false
set_option linter.unusedSimpArgs false
namespace Go.Am
/-! 91: cryostat/page.sized -/
def page_sized.cx : Cx := ⟨tys, [], [], [], [], noDyn, [.tmp 4]⟩
def page_sized : Sm := fun xs H Q => ∃ k, callK (page_sized.cx) Go.Proofs.Try.f91 k xs H Q
theorem page_sized_eq (k : Nat) (z0 : Pl) (z0n : Nat) (z1 : ByteArray) (H : Hp) (Q : Post) : callK (page_sized.cx) Go.Proofs.Try.f91 (k + 1) [.g (.sl z0 z0n 1), .g (.str z1)] H Q = (
 chk true (ap H 5 1 1 z0 z0n [(.int .u8 (wrapI .u8 (sz z1)))] 1 fun x0 n1 H2 =>
 chk true (ap H2 5 1 1 x0 n1 (bytesOf z1) (szN z1) fun x3 n4 H5 =>
 Q (.g (.sl x3 n4 1)) H5))) := by kernel_rfl
theorem page_sized_ok : Sound Go.Proofs.Try.prog 91 (page_sized) := prog_ok.sound (cx := page_sized.cx) rfl (EnvOK.nil _) (noDyn_ok _) Go.Proofs.Try.func91 rfl

/-! 70: cryostat/page.Put -/
def page_Put.cx : Cx := ⟨tys, [16], [(7, [1, 4, 22, 23, 24]), (14, [4, 43, 44, 45])], [(6, [1, 4])], [(80, page_May), (91, page_sized)], noDyn, [.tmp 2, .tmp 3]⟩
def page_Put : Sm := fun xs H Q => ∃ k, callK (page_Put.cx) Go.Proofs.Try.f70 k xs H Q
def page_Put.l6 (k : Nat) (bx0 : Bool) (bx1 : Bool) (xx2 : Pl) (nx3 : Nat) (xx4 : Pl) (nx5 : Nat) (xx6 : Pl) (nx7 : Nat) (ax8 : Pl) (nx9 : Nat) (H : Hp) (Q : Post) : Prop := loopK (page_Put.cx) Go.Proofs.Try.f70 6 k (.bad :: (.bx [(.bool bx0), (.bool bx1), (.sl xx2 nx3 1), (.sl xx4 nx5 1), (.sl xx6 nx7 1)]) :: .bad :: .bad :: (.g (.sl ax8 nx9 1)) :: B 52 ([])) H Q
def page_Put.l7 (k : Nat) (bx0 : Bool) (bx1 : Bool) (xx2 : Pl) (nx3 : Nat) (xx4 : Pl) (nx5 : Nat) (xx6 : Pl) (nx7 : Nat) (ax8 : Pl) (nx9 : Nat) (xx10 : Pl) (nx11 : Nat) (ix12 : Int) (ix13 : Int) (H : Hp) (Q : Post) : Prop := loopK (page_Put.cx) Go.Proofs.Try.f70 7 k (.bad :: (.bx [(.bool bx0), (.bool bx1), (.sl xx2 nx3 1), (.sl xx4 nx5 1), (.sl xx6 nx7 1)]) :: .bad :: .bad :: (.g (.sl ax8 nx9 1)) :: B 17 ((.g (.sl xx10 nx11 1)) :: (.g (.int .i64 ix12)) :: (.g (.int .i64 ix13)) :: B 32 ([]))) H Q
def page_Put.l14 (k : Nat) (ax0 : Pl) (nx1 : Nat) (xx2 : Pl) (nx3 : Nat) (ix4 : Int) (ix5 : Int) (H : Hp) (Q : Post) : Prop := loopK (page_Put.cx) Go.Proofs.Try.f70 14 k (B 4 ((.g (.sl ax0 nx1 1)) :: B 38 ((.g (.sl xx2 nx3 1)) :: (.g (.int .i64 ix4)) :: (.g (.int .i64 ix5)) :: B 11 ([])))) H Q
theorem page_Put_eq (k : Nat) (z0 : Bool) (z1 : Bool) (z2 : Pl) (z2n : Nat) (z3 : Pl) (z3n : Nat) (z4 : Pl) (z4n : Nat) (H : Hp) (Q : Post) : callK (page_Put.cx) Go.Proofs.Try.f70 (k + 1) [.agg [.bool z0, .bool z1, .sl z2 z2n 1, .sl z3 z3n 1, .sl z4 z4n 1]] H Q = (
 cl page_May [(.agg [(.bool z0), (.bool z1), (.sl z2 z2n 1), (.sl z3 z3n 1), (.sl z4 z4n 1)])] H fun r0 H1 =>
 rG r0 fun v2 =>
 dB v2 fun b3 =>
 bite (!b3)
 (Q (.tup [(.s (.str (mkS []))), (.s (.int .i64 600))]) H1)
 (bite z1
  (chk true (wr (pu H1 (.row true 5 [(.int .u8 2), (.int .u8 (wrapI .u8 (nI z2n)))])) (ln H1) (0 + ((tN 0) * 1)) (.int .u8 1) fun H4 =>
   page_Put.l6 k z0 z1 z2 z2n z3 z3n z4 z4n (some ((ln H1), 0)) 2 H4 Q))
  (page_Put.l6 k z0 z1 z2 z2n z3 z3n z4 z4n (some ((ln H1), 0)) 2 (pu H1 (.row true 5 [(.int .u8 2), (.int .u8 (wrapI .u8 (nI z2n)))])) Q))) := by kernel_rfl
theorem page_Put.l6_eq (k : Nat) (bx0 : Bool) (bx1 : Bool) (xx2 : Pl) (nx3 : Nat) (xx4 : Pl) (nx5 : Nat) (xx6 : Pl) (nx7 : Nat) (ax8 : Pl) (nx9 : Nat) (H : Hp) (Q : Post) : page_Put.l6 (k + 1) bx0 bx1 xx2 nx3 xx4 nx5 xx6 nx7 ax8 nx9 H Q = (
 page_Put.l7 k bx0 bx1 xx2 nx3 xx4 nx5 xx6 nx7 ax8 nx9 xx2 nx3 (nI nx3) 0 H Q) := by kernel_rfl
theorem page_Put.l7_eq (k : Nat) (bx0 : Bool) (bx1 : Bool) (xx2 : Pl) (nx3 : Nat) (xx4 : Pl) (nx5 : Nat) (xx6 : Pl) (nx7 : Nat) (ax8 : Pl) (nx9 : Nat) (xx10 : Pl) (nx11 : Nat) (ix12 : Int) (ix13 : Int) (H : Hp) (Q : Post) : page_Put.l7 (k + 1) bx0 bx1 xx2 nx3 xx4 nx5 xx6 nx7 ax8 nx9 xx10 nx11 ix12 ix13 H Q = (
 bite (ltI ix13 ix12)
 (chk true (chk ((leI 0 ix13) && (ltI ix13 (nI nx11))) (pS xx10 fun n0 n1 =>
  rd H n0 (n1 + ((tN ix13) * 1)) fun v2 =>
  dS v2 fun s3 =>
  cl page_sized [(.g (.sl ax8 nx9 1)), (.g (.str s3))] H fun r4 H5 =>
  rG r4 fun v6 =>
  dL 1 v6 fun x7 n8 =>
  bite bx1
  (chk true (chk ((leI 0 ix13) && (ltI ix13 (nI nx5))) (pS xx4 fun n9 n10 =>
   rd H5 n9 (n10 + ((tN ix13) * 1)) fun v11 =>
   dS v11 fun s12 =>
   cl page_sized [(.g (.sl x7 n8 1)), (.g (.str s12))] H5 fun r13 H14 =>
   rG r13 fun v15 =>
   dL 1 v15 fun x16 n17 =>
   page_Put.l7 k bx0 bx1 xx2 nx3 xx4 nx5 xx6 nx7 x16 n17 xx10 nx11 ix12 (wrapI .i64 (ix13 + 1)) H14 Q)))
  (page_Put.l7 k bx0 bx1 xx2 nx3 xx4 nx5 xx6 nx7 x7 n8 xx10 nx11 ix12 (wrapI .i64 (ix13 + 1)) H5 Q))))
 (page_Put.l14 k ax8 nx9 xx6 nx7 (nI nx7) 0 H Q)) := by kernel_rfl
theorem page_Put.l14_eq (k : Nat) (ax0 : Pl) (nx1 : Nat) (xx2 : Pl) (nx3 : Nat) (ix4 : Int) (ix5 : Int) (H : Hp) (Q : Post) : page_Put.l14 (k + 1) ax0 nx1 xx2 nx3 ix4 ix5 H Q = (
 bite (ltI ix5 ix4)
 (chk true (chk ((leI 0 ix5) && (ltI ix5 (nI nx3))) (pS xx2 fun n0 n1 =>
  rd H n0 (n1 + ((tN ix5) * 1)) fun v2 =>
  dI .i64 v2 fun i3 =>
  chk true (ap H 5 1 1 ax0 nx1 [(.int .u8 (wrapI .u8 i3))] 1 fun x4 n5 H6 =>
  page_Put.l14 k x4 n5 xx2 nx3 ix4 (wrapI .i64 (ix5 + 1)) H6 Q))))
 (rdN H ax0 nx1 fun c7 =>
  txt c7 fun s8 =>
  Q (.tup [(.s (.str s8)), (.s (.int .i64 0))]) H)) := by kernel_rfl
theorem page_Put_ok : Sound Go.Proofs.Try.prog 70 (page_Put) := prog_ok.sound (cx := page_Put.cx) rfl (EnvOK.cons ((page_May_ok).c ⟨_, Go.Proofs.Try.func80, by kernel_rfl, by kernel_rfl⟩) (EnvOK.cons ((page_sized_ok).c ⟨_, Go.Proofs.Try.func91, by kernel_rfl, by kernel_rfl⟩) (EnvOK.nil _))) (noDyn_ok _) Go.Proofs.Try.func70 rfl

/-! 45: cryostat/diff.Images -/
def diff_Images.cx : Cx := ⟨tys, [], [(5, [4, 13, 14, 15])], [], [(25, sound_Sound), (70, page_Put)], noDyn, [.tmp 2, .tmp 3]⟩
def diff_Images : Sm := fun xs H Q => ∃ k, callK (diff_Images.cx) Go.Proofs.Try.f45 k xs H Q
def diff_Images.l5 (k : Nat) (ax0 : Pl) (nx1 : Nat) (xx2 : Pl) (nx3 : Nat) (ix4 : Int) (ix5 : Int) (H : Hp) (Q : Post) : Prop := loopK (diff_Images.cx) Go.Proofs.Try.f45 5 k (B 4 ((.g (.sl ax0 nx1 2)) :: B 8 ((.g (.sl xx2 nx3 5)) :: (.g (.int .i64 ix4)) :: (.g (.int .i64 ix5)) :: B 17 ([])))) H Q
theorem diff_Images_eq (k : Nat) (z0 : Pl) (z0n : Nat) (H : Hp) (Q : Post) : callK (diff_Images.cx) Go.Proofs.Try.f45 (k + 1) [.agg [.sl z0 z0n 5]] H Q = (
 cl sound_Sound [(.agg [(.sl z0 z0n 5)])] H fun r0 H1 =>
 rG r0 fun v2 =>
 dB v2 fun b3 =>
 bite (!b3)
 (Q (.tup [(.s (.sl none 0 2)), (.s (.int .i64 1500))]) H1)
 (diff_Images.l5 k none 0 z0 z0n (nI z0n) 0 H1 Q)) := by kernel_rfl
theorem diff_Images.l5_eq (k : Nat) (ax0 : Pl) (nx1 : Nat) (xx2 : Pl) (nx3 : Nat) (ix4 : Int) (ix5 : Int) (H : Hp) (Q : Post) : diff_Images.l5 (k + 1) ax0 nx1 xx2 nx3 ix4 ix5 H Q = (
 bite (ltI ix5 ix4)
 (chk true (chk ((leI 0 ix5) && (ltI ix5 (nI nx3))) (pS xx2 fun n0 n1 =>
  rd H n0 (n1 + ((tN ix5) * 5)) fun v2 =>
  dB v2 fun b3 =>
  rd H n0 ((n1 + ((tN ix5) * 5)) + 1) fun v4 =>
  dB v4 fun b5 =>
  rd H n0 (((n1 + ((tN ix5) * 5)) + 1) + 1) fun v6 =>
  dL 1 v6 fun x7 n8 =>
  rd H n0 ((((n1 + ((tN ix5) * 5)) + 1) + 1) + 1) fun v9 =>
  dL 1 v9 fun x10 n11 =>
  rd H n0 (((((n1 + ((tN ix5) * 5)) + 1) + 1) + 1) + 1) fun v12 =>
  dL 1 v12 fun x13 n14 =>
  cl page_Put [(.agg [(.bool b3), (.bool b5), (.sl x7 n8 1), (.sl x10 n11 1), (.sl x13 n14 1)])] H fun r15 H16 =>
  rT r15 fun c17 =>
  uR c17 fun q18 c19 =>
  rS q18 fun v20 =>
  dS v20 fun s21 =>
  uR c19 fun q22 c23 =>
  rS q22 fun v24 =>
  dI .i64 v24 fun i25 =>
  uE c23 (chk true (ap H16 76 2 24 ax0 nx1 [(.int .i64 ix5), (.str s21)] 1 fun x26 n27 H28 =>
  diff_Images.l5 k x26 n27 xx2 nx3 ix4 (wrapI .i64 (ix5 + 1)) H28 Q)))))
 (Q (.tup [(.s (.sl ax0 nx1 2)), (.s (.int .i64 0))]) H)) := by kernel_rfl
theorem diff_Images_ok : Sound Go.Proofs.Try.prog 45 (diff_Images) := prog_ok.sound (cx := diff_Images.cx) rfl (EnvOK.cons ((sound_Sound_ok).c ⟨_, Go.Proofs.Try.func25, by kernel_rfl, by kernel_rfl⟩) (EnvOK.cons ((page_Put_ok).c ⟨_, Go.Proofs.Try.func70, by kernel_rfl, by kernel_rfl⟩) (EnvOK.nil _))) (noDyn_ok _) Go.Proofs.Try.func45 rfl

/-! 46: cryostat/diff.Changed -/
def diff_Changed.cx : Cx := ⟨tys, [], [(7, [6, 10, 29, 30, 31])], [], [(45, diff_Images)], noDyn, [.tmp 4, .tmp 5]⟩
def diff_Changed : Sm := fun xs H Q => ∃ k, callK (diff_Changed.cx) Go.Proofs.Try.f46 k xs H Q
def diff_Changed.l7 (k : Nat) (xx0 : Pl) (nx1 : Nat) (ax2 : Pl) (nx3 : Nat) (xx4 : Pl) (nx5 : Nat) (ix6 : Int) (ix7 : Int) (H : Hp) (Q : Post) : Prop := loopK (diff_Changed.cx) Go.Proofs.Try.f46 7 k (B 6 ((.g (.sl xx0 nx1 2)) :: B 3 ((.g (.sl ax2 nx3 2)) :: B 18 ((.g (.sl xx4 nx5 2)) :: (.g (.int .i64 ix6)) :: (.g (.int .i64 ix7)) :: B 16 ([]))))) H Q
theorem diff_Changed_eq (k : Nat) (z0 : Pl) (z0n : Nat) (z1 : Pl) (z1n : Nat) (H : Hp) (Q : Post) : callK (diff_Changed.cx) Go.Proofs.Try.f46 (k + 1) [.agg [.sl z0 z0n 5], .agg [.sl z1 z1n 5]] H Q = (
 cl diff_Images [(.agg [(.sl z0 z0n 5)])] H fun r0 H1 =>
 rT r0 fun c2 =>
 uR c2 fun q3 c4 =>
 rS q3 fun v5 =>
 dL 2 v5 fun x6 n7 =>
 uR c4 fun q8 c9 =>
 rS q8 fun v10 =>
 dI .i64 v10 fun i11 =>
 uE c9 (cl diff_Images [(.agg [(.sl z1 z1n 5)])] H1 fun r12 H13 =>
 rT r12 fun c14 =>
 uR c14 fun q15 c16 =>
 rS q15 fun v17 =>
 dL 2 v17 fun x18 n19 =>
 uR c16 fun q20 c21 =>
 rS q20 fun v22 =>
 dI .i64 v22 fun i23 =>
 uE c21 (bite (!(eqI i11 0))
 (Q (.tup [(.s (.sl none 0 2)), (.s (.int .i64 1500))]) H13)
 (bite (!(eqI i23 0))
  (Q (.tup [(.s (.sl none 0 2)), (.s (.int .i64 1500))]) H13)
  (diff_Changed.l7 k x6 n7 none 0 x18 n19 (nI n19) 0 H13 Q))))) := by kernel_rfl
theorem diff_Changed.l7_eq (k : Nat) (xx0 : Pl) (nx1 : Nat) (ax2 : Pl) (nx3 : Nat) (xx4 : Pl) (nx5 : Nat) (ix6 : Int) (ix7 : Int) (H : Hp) (Q : Post) : diff_Changed.l7 (k + 1) xx0 nx1 ax2 nx3 xx4 nx5 ix6 ix7 H Q = (
 bite (ltI ix7 ix6)
 (chk true (chk ((leI 0 ix7) && (ltI ix7 (nI nx5))) (pS xx4 fun n0 n1 =>
  rd H n0 (n1 + ((tN ix7) * 2)) fun v2 =>
  dI .i64 v2 fun i3 =>
  rd H n0 ((n1 + ((tN ix7) * 2)) + 1) fun v4 =>
  dS v4 fun s5 =>
  chk true (chk ((leI 0 ix7) && (ltI ix7 (nI nx1))) (pS xx0 fun n6 n7 =>
  rd H n6 (n7 + ((tN ix7) * 2)) fun v8 =>
  dI .i64 v8 fun i9 =>
  rd H n6 ((n7 + ((tN ix7) * 2)) + 1) fun v10 =>
  dS v10 fun s11 =>
  bite (!((eqI i3 i9) && ((strEq s5 s11) && true)))
  (chk true (ap H 76 2 24 ax2 nx3 [(.int .i64 i3), (.str s5)] 1 fun x12 n13 H14 =>
   diff_Changed.l7 k xx0 nx1 x12 n13 xx4 nx5 ix6 (wrapI .i64 (ix7 + 1)) H14 Q))
  (diff_Changed.l7 k xx0 nx1 ax2 nx3 xx4 nx5 ix6 (wrapI .i64 (ix7 + 1)) H Q))))))
 (Q (.tup [(.s (.sl ax2 nx3 2)), (.s (.int .i64 0))]) H)) := by kernel_rfl
theorem diff_Changed_ok : Sound Go.Proofs.Try.prog 46 (diff_Changed) := prog_ok.sound (cx := diff_Changed.cx) rfl (EnvOK.cons ((diff_Images_ok).c ⟨_, Go.Proofs.Try.func45, by kernel_rfl, by kernel_rfl⟩) (EnvOK.nil _)) (noDyn_ok _) Go.Proofs.Try.func46 rfl

/-! 47: cryostat/cryostatref1.Blank -/
def ref1_Blank.cx : Cx := ⟨tys, [], [], [], [], noDyn, [.cell 0 73]⟩
def ref1_Blank : Sm := fun xs H Q => ∃ k, callK (ref1_Blank.cx) Go.Proofs.Try.f47 k xs H Q
theorem ref1_Blank_eq (k : Nat)  (H : Hp) (Q : Post) : callK (ref1_Blank.cx) Go.Proofs.Try.f47 (k + 1) [] H Q = (
 Q (.agg [(.int .i64 0), (.int .i64 1), (.int .i64 1), (.int .i64 0), (.sl (some ((ln H), 0)) (tN 48) 1)]) (pu H (.row true 9 (repN (tN 48) [(.str (mkS []))])))) := by kernel_rfl
theorem ref1_Blank_ok : Sound Go.Proofs.Try.prog 47 (ref1_Blank) := prog_ok.sound (cx := ref1_Blank.cx) rfl (EnvOK.nil _) (noDyn_ok _) Go.Proofs.Try.func47 rfl

/-! 94: cryostat/record.Seq -/
def record_Seq.cx : Cx := ⟨tys, [], [], [], [], noDyn, [.tmp 2]⟩
def record_Seq : Sm := fun xs H Q => ∃ k, callK (record_Seq.cx) Go.Proofs.Try.f94 k xs H Q
theorem record_Seq_eq (k : Nat) (z0 : Int) (H : Hp) (Q : Post) : callK (record_Seq.cx) Go.Proofs.Try.f94 (k + 1) [.g (.int .i64 z0)] H Q = (
 bite (leI 1 z0)
 (Q (.g (.bool (leI z0 2147483647))) H)
 (Q (.g (.bool false)) H)) := by kernel_rfl
theorem record_Seq_ok : Sound Go.Proofs.Try.prog 94 (record_Seq) := prog_ok.sound (cx := record_Seq.cx) rfl (EnvOK.nil _) (noDyn_ok _) Go.Proofs.Try.func94 rfl

/-! 93: cryostat/head.May -/
def head_May.cx : Cx := ⟨tys, [], [], [], [(94, record_Seq)], noDyn, [.tmp 2]⟩
def head_May : Sm := fun xs H Q => ∃ k, callK (head_May.cx) Go.Proofs.Try.f93 k xs H Q
theorem head_May_eq (k : Nat) (z0 : Int) (z1 : Int) (H : Hp) (Q : Post) : callK (head_May.cx) Go.Proofs.Try.f93 (k + 1) [.agg [.int .i64 z0, .int .i64 z1]] H Q = (
 bite (leI 0 z0)
 (bite (leI z0 2147483647)
  (cl record_Seq [(.g (.int .i64 z1))] H fun r0 H1 =>
   rG r0 fun v2 =>
   dB v2 fun b3 =>
   Q (.g (.bool b3)) H1)
  (Q (.g (.bool false)) H))
 (Q (.g (.bool false)) H)) := by kernel_rfl
theorem head_May_ok : Sound Go.Proofs.Try.prog 93 (head_May) := prog_ok.sound (cx := head_May.cx) rfl (EnvOK.cons ((record_Seq_ok).c ⟨_, Go.Proofs.Try.func94, by kernel_rfl, by kernel_rfl⟩) (EnvOK.nil _)) (noDyn_ok _) Go.Proofs.Try.func93 rfl

/-! 92: cryostat/plan.May$1 -/
def plan_May_1.cx : Cx := ⟨tys, [], [], [], [], noDyn, [.tmp 2]⟩
def plan_May_1 : Sm := fun xs H Q => ∃ k, callK (plan_May_1.cx) Go.Proofs.Try.f92 k xs H Q
theorem plan_May_1_eq (k : Nat) (z0 : ByteArray) (H : Hp) (Q : Post) : callK (plan_May_1.cx) Go.Proofs.Try.f92 (k + 1) [.g (.str z0)] H Q = (
 Q (.g (.bool (ltI 96 (sz z0)))) H) := by kernel_rfl
theorem plan_May_1_ok : Sound Go.Proofs.Try.prog 92 (plan_May_1) := prog_ok.sound (cx := plan_May_1.cx) rfl (EnvOK.nil _) (noDyn_ok _) Go.Proofs.Try.func92 rfl

/-! 71: cryostat/plan.May -/
def plan_May.cx : Cx := ⟨tys, [], [], [], [(93, head_May), (94, record_Seq), (95, (slices_ContainsFunc__string_string (dynOf [(92, plan_May_1)])))], noDyn, [.tmp 2]⟩
def plan_May : Sm := fun xs H Q => ∃ k, callK (plan_May.cx) Go.Proofs.Try.f71 k xs H Q
theorem plan_May_eq (k : Nat) (z0 : Int) (z1 : Int) (z2 : Int) (z3 : Int) (z4 : Pl) (z4n : Nat) (H : Hp) (Q : Post) : callK (plan_May.cx) Go.Proofs.Try.f71 (k + 1) [.agg [.int .i64 z0, .int .i64 z1, .int .i64 z2, .int .i64 z3, .sl z4 z4n 1]] H Q = (
 cl head_May [(.agg [(.int .i64 z0), (.int .i64 z1)])] H fun r0 H1 =>
 rG r0 fun v2 =>
 dB v2 fun b3 =>
 bite b3
 (cl record_Seq [(.g (.int .i64 z2))] H1 fun r4 H5 =>
  rG r4 fun v6 =>
  dB v6 fun b7 =>
  bite b7
  (bite (leI 0 z3)
   (bite (leI z3 200)
    (bite (eqI (nI z4n) 48)
     (cl (slices_ContainsFunc__string_string (dynOf [(92, plan_May_1)])) [(.g (.sl z4 z4n 1)), (.g (.fn 92 []))] H5 fun r8 H9 =>
      rG r8 fun v10 =>
      dB v10 fun b11 =>
      Q (.g (.bool (!b11))) H9)
     (Q (.g (.bool false)) H5))
    (Q (.g (.bool false)) H5))
   (Q (.g (.bool false)) H5))
  (Q (.g (.bool false)) H5))
 (Q (.g (.bool false)) H1)) := by kernel_rfl
theorem plan_May_ok : Sound Go.Proofs.Try.prog 71 (plan_May) := prog_ok.sound (cx := plan_May.cx) rfl (EnvOK.cons ((head_May_ok).c ⟨_, Go.Proofs.Try.func93, by kernel_rfl, by kernel_rfl⟩) (EnvOK.cons ((record_Seq_ok).c ⟨_, Go.Proofs.Try.func94, by kernel_rfl, by kernel_rfl⟩) (EnvOK.cons ((slices_ContainsFunc__string_string_ok (dynOf [(92, plan_May_1)]) (dynOf_ok (EnvOK.cons ((plan_May_1_ok).c ⟨_, Go.Proofs.Try.func92, by kernel_rfl, by kernel_rfl⟩) (EnvOK.nil _)))).c ⟨_, Go.Proofs.Try.func95, by kernel_rfl, by kernel_rfl⟩) (EnvOK.nil _)))) (noDyn_ok _) Go.Proofs.Try.func71 rfl

/-! 96: (*cryostat/page.taker).byte -/
def page_taker_byte.cx : Cx := ⟨tys, [], [], [], [], noDyn, [.tmp 2]⟩
def page_taker_byte : Sm := fun xs H Q => ∃ k, callK (page_taker_byte.cx) Go.Proofs.Try.f96 k xs H Q
theorem page_taker_byte_eq (k : Nat) (z0 : Pl) (H : Hp) (Q : Post) : callK (page_taker_byte.cx) Go.Proofs.Try.f96 (k + 1) [.g (.ptr z0)] H Q = (
 pS z0 fun n0 n1 =>
 rd H n0 (n1 + 0) fun v2 =>
 dS v2 fun s3 =>
 bite (strEq s3 (mkS []))
 (Q (.g (.int .i64 0)) H)
 (pS z0 fun n4 n5 =>
  rd H n4 (n5 + 0) fun v6 =>
  dS v6 fun s7 =>
  chk ((leI 0 0) && (ltI 0 (sz s7))) (pS z0 fun n8 n9 =>
  rd H n8 (n9 + 0) fun v10 =>
  dS v10 fun s11 =>
  chk ((leN (tN 1) (szN s11)) && (leN (szN s11) (szN s11))) (pS z0 fun n12 n13 =>
  wr H n12 (n13 + 0) (.str (sub s11 (tN 1) (szN s11))) fun H14 =>
  Q (.g (.int .i64 (wrapI .i64 (byt s7 (tN 0))))) H14)))) := by kernel_rfl
theorem page_taker_byte_ok : Sound Go.Proofs.Try.prog 96 (page_taker_byte) := prog_ok.sound (cx := page_taker_byte.cx) rfl (EnvOK.nil _) (noDyn_ok _) Go.Proofs.Try.func96 rfl

/-! 97: (*cryostat/page.taker).text -/
def page_taker_text.cx : Cx := ⟨tys, [], [], [], [(96, page_taker_byte)], noDyn, [.tmp 2]⟩
def page_taker_text : Sm := fun xs H Q => ∃ k, callK (page_taker_text.cx) Go.Proofs.Try.f97 k xs H Q
theorem page_taker_text_eq (k : Nat) (z0 : Pl) (H : Hp) (Q : Post) : callK (page_taker_text.cx) Go.Proofs.Try.f97 (k + 1) [.g (.ptr z0)] H Q = (
 cl page_taker_byte [(.g (.ptr z0))] H fun r0 H1 =>
 rG r0 fun v2 =>
 dI .i64 v2 fun i3 =>
 pS z0 fun n4 n5 =>
 rd H1 n4 (n5 + 0) fun v6 =>
 dS v6 fun s7 =>
 pS z0 fun n8 n9 =>
 rd H1 n8 (n9 + 0) fun v10 =>
 dS v10 fun s11 =>
 chk (leI 0 (mnI i3 (sz s7))) (chk ((leN 0 (tN (mnI i3 (sz s7)))) && (leN (tN (mnI i3 (sz s7))) (szN s11))) (pS z0 fun n12 n13 =>
 rd H1 n12 (n13 + 0) fun v14 =>
 dS v14 fun s15 =>
 chk (leI 0 (mnI i3 (sz s7))) (chk ((leN (tN (mnI i3 (sz s7))) (szN s15)) && (leN (szN s15) (szN s15))) (pS z0 fun n16 n17 =>
 wr H1 n16 (n17 + 0) (.str (sub s15 (tN (mnI i3 (sz s7))) (szN s15))) fun H18 =>
 Q (.g (.str (sub s11 0 (tN (mnI i3 (sz s7)))))) H18))))) := by kernel_rfl
theorem page_taker_text_ok : Sound Go.Proofs.Try.prog 97 (page_taker_text) := prog_ok.sound (cx := page_taker_text.cx) rfl (EnvOK.cons ((page_taker_byte_ok).c ⟨_, Go.Proofs.Try.func96, by kernel_rfl, by kernel_rfl⟩) (EnvOK.nil _)) (noDyn_ok _) Go.Proofs.Try.func97 rfl

/-! 72: cryostat/page.Get -/
def page_Get.cx : Cx := ⟨tys, [12], [(5, [0, 2, 4, 5, 6, 12, 20, 21]), (11, [0, 2, 4, 5, 6, 7, 12])], [], [(96, page_taker_byte), (97, page_taker_text), (70, page_Put)], noDyn, [.cell 2 41, .tmp 3]⟩
def page_Get : Sm := fun xs H Q => ∃ k, callK (page_Get.cx) Go.Proofs.Try.f72 k xs H Q
def page_Get.l5 (k : Nat) (sx0 : ByteArray) (bx1 : Bool) (bx2 : Bool) (ax3 : Pl) (nx4 : Nat) (ax5 : Pl) (nx6 : Nat) (ax7 : Pl) (nx8 : Nat) (nx9 : Nat) (nx10 : Nat) (bx11 : Bool) (bx12 : Bool) (ax13 : Pl) (nx14 : Nat) (ax15 : Pl) (nx16 : Nat) (ax17 : Pl) (nx18 : Nat) (ix19 : Int) (nx20 : Nat) (nx21 : Nat) (ix22 : Int) (ix23 : Int) (H : Hp) (Q : Post) : Prop := loopK (page_Get.cx) Go.Proofs.Try.f72 5 k ((.g (.str sx0)) :: .bad :: (.bx [(.bool bx1), (.bool bx2), (.sl ax3 nx4 1), (.sl ax5 nx6 1), (.sl ax7 nx8 1)]) :: .bad :: (.g (.ptr (some (nx9, nx10)))) :: (.bx [(.bool bx11), (.bool bx12), (.sl ax13 nx14 1), (.sl ax15 nx16 1), (.sl ax17 nx18 1)]) :: (.g (.int .i64 ix19)) :: B 5 ((.g (.ptr (some (nx20, nx21)))) :: B 7 ((.g (.int .i64 ix22)) :: (.g (.int .i64 ix23)) :: B 49 ([])))) H Q
def page_Get.l11 (k : Nat) (sx0 : ByteArray) (bx1 : Bool) (bx2 : Bool) (ax3 : Pl) (nx4 : Nat) (ax5 : Pl) (nx6 : Nat) (ax7 : Pl) (nx8 : Nat) (nx9 : Nat) (nx10 : Nat) (bx11 : Bool) (bx12 : Bool) (ax13 : Pl) (nx14 : Nat) (ax15 : Pl) (nx16 : Nat) (ax17 : Pl) (nx18 : Nat) (ix19 : Int) (ix20 : Int) (nx21 : Nat) (nx22 : Nat) (H : Hp) (Q : Post) : Prop := loopK (page_Get.cx) Go.Proofs.Try.f72 11 k ((.g (.str sx0)) :: .bad :: (.bx [(.bool bx1), (.bool bx2), (.sl ax3 nx4 1), (.sl ax5 nx6 1), (.sl ax7 nx8 1)]) :: .bad :: (.g (.ptr (some (nx9, nx10)))) :: (.bx [(.bool bx11), (.bool bx12), (.sl ax13 nx14 1), (.sl ax15 nx16 1), (.sl ax17 nx18 1)]) :: (.g (.int .i64 ix19)) :: (.g (.int .i64 ix20)) :: B 4 ((.g (.ptr (some (nx21, nx22)))) :: B 58 ([]))) H Q
theorem page_Get_eq (k : Nat) (z0 : ByteArray) (H : Hp) (Q : Post) : callK (page_Get.cx) Go.Proofs.Try.f72 (k + 1) [.g (.str z0)] H Q = (
 cl page_taker_byte [(.g (.ptr (some ((ln H), 0))))] (pu H (.row true 141 [(.str z0)])) fun r0 H1 =>
 rG r0 fun v2 =>
 dI .i64 v2 fun i3 =>
 cl page_taker_byte [(.g (.ptr (some ((ln H), 0))))] H1 fun r4 H5 =>
 rG r4 fun v6 =>
 dI .i64 v6 fun i7 =>
 page_Get.l5 k z0 false false none 0 none 0 none 0 (ln H) 0 true (eqI i3 1) none 0 none 0 none 0 (mnI i7 4) (ln H) 0 (mnI i7 4) 0 H5 Q) := by kernel_rfl
theorem page_Get.l5_eq (k : Nat) (sx0 : ByteArray) (bx1 : Bool) (bx2 : Bool) (ax3 : Pl) (nx4 : Nat) (ax5 : Pl) (nx6 : Nat) (ax7 : Pl) (nx8 : Nat) (nx9 : Nat) (nx10 : Nat) (bx11 : Bool) (bx12 : Bool) (ax13 : Pl) (nx14 : Nat) (ax15 : Pl) (nx16 : Nat) (ax17 : Pl) (nx18 : Nat) (ix19 : Int) (nx20 : Nat) (nx21 : Nat) (ix22 : Int) (ix23 : Int) (H : Hp) (Q : Post) : page_Get.l5 (k + 1) sx0 bx1 bx2 ax3 nx4 ax5 nx6 ax7 nx8 nx9 nx10 bx11 bx12 ax13 nx14 ax15 nx16 ax17 nx18 ix19 nx20 nx21 ix22 ix23 H Q = (
 bite (ltI ix23 ix22)
 (cl page_taker_text [(.g (.ptr (some (nx9, nx10))))] H fun r0 H1 =>
  rG r0 fun v2 =>
  dS v2 fun s3 =>
  chk true (ap H1 9 1 16 ax13 nx14 [(.str s3)] 1 fun x4 n5 H6 =>
  bite bx12
  (cl page_taker_text [(.g (.ptr (some (nx9, nx10))))] H6 fun r7 H8 =>
   rG r7 fun v9 =>
   dS v9 fun s10 =>
   chk true (ap H8 9 1 16 ax15 nx16 [(.str s10)] 1 fun x11 n12 H13 =>
   page_Get.l5 k sx0 bx1 bx2 ax3 nx4 ax5 nx6 ax7 nx8 nx9 nx10 bx11 bx12 x4 n5 x11 n12 ax17 nx18 ix19 nx20 nx21 ix22 (wrapI .i64 (ix23 + 1)) H13 Q))
  (page_Get.l5 k sx0 bx1 bx2 ax3 nx4 ax5 nx6 ax7 nx8 nx9 nx10 bx11 bx12 x4 n5 ax15 nx16 ax17 nx18 ix19 nx20 nx21 ix22 (wrapI .i64 (ix23 + 1)) H6 Q)))
 (page_Get.l11 k sx0 bx1 bx2 ax3 nx4 ax5 nx6 ax7 nx8 nx9 nx10 bx11 bx12 ax13 nx14 ax15 nx16 ax17 nx18 ix19 0 nx20 nx21 H Q)) := by kernel_rfl
theorem page_Get.l11_eq (k : Nat) (sx0 : ByteArray) (bx1 : Bool) (bx2 : Bool) (ax3 : Pl) (nx4 : Nat) (ax5 : Pl) (nx6 : Nat) (ax7 : Pl) (nx8 : Nat) (nx9 : Nat) (nx10 : Nat) (bx11 : Bool) (bx12 : Bool) (ax13 : Pl) (nx14 : Nat) (ax15 : Pl) (nx16 : Nat) (ax17 : Pl) (nx18 : Nat) (ix19 : Int) (ix20 : Int) (nx21 : Nat) (nx22 : Nat) (H : Hp) (Q : Post) : page_Get.l11 (k + 1) sx0 bx1 bx2 ax3 nx4 ax5 nx6 ax7 nx8 nx9 nx10 bx11 bx12 ax13 nx14 ax15 nx16 ax17 nx18 ix19 ix20 nx21 nx22 H Q = (
 bite (leI ix20 ix19)
 (bite (!bx12)
  (cl page_taker_byte [(.g (.ptr (some (nx9, nx10))))] H fun r0 H1 =>
   rG r0 fun v2 =>
   dI .i64 v2 fun i3 =>
   chk true (ap H1 3 1 8 ax17 nx18 [(.int .i64 i3)] 1 fun x4 n5 H6 =>
   page_Get.l11 k sx0 bx1 bx2 ax3 nx4 ax5 nx6 ax7 nx8 nx9 nx10 bx11 bx12 ax13 nx14 ax15 nx16 x4 n5 ix19 (wrapI .i64 (ix20 + 1)) nx21 nx22 H6 Q))
  (cl page_Put [(.agg [(.bool bx11), (.bool bx12), (.sl ax13 nx14 1), (.sl ax15 nx16 1), (.sl ax17 nx18 1)])] H fun r7 H8 =>
   rT r7 fun c9 =>
   uR c9 fun q10 c11 =>
   rS q10 fun v12 =>
   dS v12 fun s13 =>
   uR c11 fun q14 c15 =>
   rS q14 fun v16 =>
   dI .i64 v16 fun i17 =>
   uE c15 (bite (!(eqI i17 0))
   (Q (.tup [(.a [(.bool false), (.bool false), (.sl none 0 1), (.sl none 0 1), (.sl none 0 1)]), (.s (.int .i64 600))]) H8)
   (bite (!(strEq s13 sx0))
    (Q (.tup [(.a [(.bool false), (.bool false), (.sl none 0 1), (.sl none 0 1), (.sl none 0 1)]), (.s (.int .i64 600))]) H8)
    (Q (.tup [(.a [(.bool bx11), (.bool bx12), (.sl ax13 nx14 1), (.sl ax15 nx16 1), (.sl ax17 nx18 1)]), (.s (.int .i64 0))]) H8)))))
 (cl page_Put [(.agg [(.bool bx11), (.bool bx12), (.sl ax13 nx14 1), (.sl ax15 nx16 1), (.sl ax17 nx18 1)])] H fun r18 H19 =>
  rT r18 fun c20 =>
  uR c20 fun q21 c22 =>
  rS q21 fun v23 =>
  dS v23 fun s24 =>
  uR c22 fun q25 c26 =>
  rS q25 fun v27 =>
  dI .i64 v27 fun i28 =>
  uE c26 (bite (!(eqI i28 0))
  (Q (.tup [(.a [(.bool false), (.bool false), (.sl none 0 1), (.sl none 0 1), (.sl none 0 1)]), (.s (.int .i64 600))]) H19)
  (bite (!(strEq s24 sx0))
   (Q (.tup [(.a [(.bool false), (.bool false), (.sl none 0 1), (.sl none 0 1), (.sl none 0 1)]), (.s (.int .i64 600))]) H19)
   (Q (.tup [(.a [(.bool bx11), (.bool bx12), (.sl ax13 nx14 1), (.sl ax15 nx16 1), (.sl ax17 nx18 1)]), (.s (.int .i64 0))]) H19))))) := by kernel_rfl
theorem page_Get_ok : Sound Go.Proofs.Try.prog 72 (page_Get) := prog_ok.sound (cx := page_Get.cx) rfl (EnvOK.cons ((page_taker_byte_ok).c ⟨_, Go.Proofs.Try.func96, by kernel_rfl, by kernel_rfl⟩) (EnvOK.cons ((page_taker_text_ok).c ⟨_, Go.Proofs.Try.func97, by kernel_rfl, by kernel_rfl⟩) (EnvOK.cons ((page_Put_ok).c ⟨_, Go.Proofs.Try.func70, by kernel_rfl, by kernel_rfl⟩) (EnvOK.nil _)))) (noDyn_ok _) Go.Proofs.Try.func72 rfl

/-! 48: cryostat/diff.Tree -/
def diff_Tree.cx : Cx := ⟨tys, [], [(5, [2, 4, 5, 16, 17, 18])], [(11, [2, 4, 5, 8, 9, 16, 17, 18])], [(71, plan_May), (72, page_Get), (57, sound_New), (25, sound_Sound)], noDyn, [.cell 2 34, .tmp 3]⟩
def diff_Tree : Sm := fun xs H Q => ∃ k, callK (diff_Tree.cx) Go.Proofs.Try.f48 k xs H Q
def diff_Tree.l5 (k : Nat) (ax0 : Pl) (nx1 : Nat) (ax2 : Pl) (nx3 : Nat) (bx4 : Bool) (xx5 : Pl) (nx6 : Nat) (ix7 : Int) (ix8 : Int) (H : Hp) (Q : Post) : Prop := loopK (diff_Tree.cx) Go.Proofs.Try.f48 5 k (.bad :: .bad :: (.bx [(.sl ax0 nx1 5)]) :: .bad :: (.bx [(.sl ax2 nx3 5)]) :: (.g (.bool bx4)) :: B 10 ((.g (.sl xx5 nx6 1)) :: (.g (.int .i64 ix7)) :: (.g (.int .i64 ix8)) :: B 28 ([]))) H Q
def diff_Tree.l11 (k : Nat) (ax0 : Pl) (nx1 : Nat) (ax2 : Pl) (nx3 : Nat) (bx4 : Bool) (bx5 : Bool) (bx6 : Bool) (xx7 : Pl) (nx8 : Nat) (xx9 : Pl) (nx10 : Nat) (xx11 : Pl) (nx12 : Nat) (ix13 : Int) (xx14 : Pl) (nx15 : Nat) (ix16 : Int) (ix17 : Int) (H : Hp) (Q : Post) : Prop := loopK (diff_Tree.cx) Go.Proofs.Try.f48 11 k (.bad :: .bad :: (.bx [(.sl ax0 nx1 5)]) :: .bad :: (.bx [(.sl ax2 nx3 5)]) :: (.g (.bool bx4)) :: .bad :: .bad :: (.bx [(.bool bx5), (.bool bx6), (.sl xx7 nx8 1), (.sl xx9 nx10 1), (.sl xx11 nx12 1)]) :: (.g (.int .i64 ix13)) :: B 6 ((.g (.sl xx14 nx15 1)) :: (.g (.int .i64 ix16)) :: (.g (.int .i64 ix17)) :: B 28 ([]))) H Q
theorem diff_Tree_eq (k : Nat) (z0 : Int) (z1 : Int) (z2 : Int) (z3 : Int) (z4 : Pl) (z4n : Nat) (H : Hp) (Q : Post) : callK (diff_Tree.cx) Go.Proofs.Try.f48 (k + 1) [.agg [.int .i64 z0, .int .i64 z1, .int .i64 z2, .int .i64 z3, .sl z4 z4n 1]] H Q = (
 cl plan_May [(.agg [(.int .i64 z0), (.int .i64 z1), (.int .i64 z2), (.int .i64 z3), (.sl z4 z4n 1)])] H fun r0 H1 =>
 rG r0 fun v2 =>
 dB v2 fun b3 =>
 bite (!b3)
 (Q (.tup [(.a [(.sl none 0 5)]), (.s (.int .i64 1500))]) H1)
 (diff_Tree.l5 k none 0 none 0 true z4 z4n (nI z4n) 0 H1 Q)) := by kernel_rfl
theorem diff_Tree.l5_eq (k : Nat) (ax0 : Pl) (nx1 : Nat) (ax2 : Pl) (nx3 : Nat) (bx4 : Bool) (xx5 : Pl) (nx6 : Nat) (ix7 : Int) (ix8 : Int) (H : Hp) (Q : Post) : diff_Tree.l5 (k + 1) ax0 nx1 ax2 nx3 bx4 xx5 nx6 ix7 ix8 H Q = (
 bite (ltI ix8 ix7)
 (chk true (chk ((leI 0 ix8) && (ltI ix8 (nI nx6))) (pS xx5 fun n0 n1 =>
  rd H n0 (n1 + ((tN ix8) * 1)) fun v2 =>
  dS v2 fun s3 =>
  bite (!(strEq s3 (mkS [])))
  (cl page_Get [(.g (.str s3))] H fun r4 H5 =>
   rT r4 fun c6 =>
   uR c6 fun q7 c8 =>
   rC q7 fun c9 =>
   uC c9 fun v10 c11 =>
   dB v10 fun b12 =>
   uC c11 fun v13 c14 =>
   dB v13 fun b15 =>
   uC c14 fun v16 c17 =>
   dL 1 v16 fun x18 n19 =>
   uC c17 fun v20 c21 =>
   dL 1 v20 fun x22 n23 =>
   uC c21 fun v24 c25 =>
   dL 1 v24 fun x26 n27 =>
   uN c25 (uR c8 fun q28 c29 =>
   rS q28 fun v30 =>
   dI .i64 v30 fun i31 =>
   uE c29 (diff_Tree.l11 k ax0 nx1 ax2 nx3 false b12 b15 x18 n19 x22 n23 x26 n27 i31 xx5 nx6 ix7 ix8 H5 Q)))
  (diff_Tree.l11 k ax0 nx1 ax2 nx3 bx4 false false none 0 none 0 none 0 0 xx5 nx6 ix7 ix8 H Q))))
 (bite bx4
  (cl sound_New [] H fun r32 H33 =>
   rA r32 fun c34 =>
   uC c34 fun v35 c36 =>
   dL 5 v35 fun x37 n38 =>
   uN c36 (Q (.tup [(.a [(.sl x37 n38 5)]), (.s (.int .i64 0))]) H33))
  (cl sound_Sound [(.agg [(.sl ax2 nx3 5)])] H fun r39 H40 =>
   rG r39 fun v41 =>
   dB v41 fun b42 =>
   bite (!b42)
   (Q (.tup [(.a [(.sl none 0 5)]), (.s (.int .i64 1500))]) H40)
   (Q (.tup [(.a [(.sl ax2 nx3 5)]), (.s (.int .i64 0))]) H40)))) := by kernel_rfl
theorem diff_Tree.l11_eq (k : Nat) (ax0 : Pl) (nx1 : Nat) (ax2 : Pl) (nx3 : Nat) (bx4 : Bool) (bx5 : Bool) (bx6 : Bool) (xx7 : Pl) (nx8 : Nat) (xx9 : Pl) (nx10 : Nat) (xx11 : Pl) (nx12 : Nat) (ix13 : Int) (xx14 : Pl) (nx15 : Nat) (ix16 : Int) (ix17 : Int) (H : Hp) (Q : Post) : diff_Tree.l11 (k + 1) ax0 nx1 ax2 nx3 bx4 bx5 bx6 xx7 nx8 xx9 nx10 xx11 nx12 ix13 xx14 nx15 ix16 ix17 H Q = (
 bite (!(eqI ix13 0))
 (Q (.tup [(.a [(.sl none 0 5)]), (.s (.int .i64 1500))]) H)
 (chk true (ap H 41 5 80 ax2 nx3 [(.bool bx5), (.bool bx6), (.sl xx7 nx8 1), (.sl xx9 nx10 1), (.sl xx11 nx12 1)] 1 fun x0 n1 H2 =>
  diff_Tree.l5 k ax0 nx1 x0 n1 bx4 xx14 nx15 ix16 (wrapI .i64 (ix17 + 1)) H2 Q))) := by kernel_rfl
theorem diff_Tree_ok : Sound Go.Proofs.Try.prog 48 (diff_Tree) := prog_ok.sound (cx := diff_Tree.cx) rfl (EnvOK.cons ((plan_May_ok).c ⟨_, Go.Proofs.Try.func71, by kernel_rfl, by kernel_rfl⟩) (EnvOK.cons ((page_Get_ok).c ⟨_, Go.Proofs.Try.func72, by kernel_rfl, by kernel_rfl⟩) (EnvOK.cons ((sound_New_ok).c ⟨_, Go.Proofs.Try.func57, by kernel_rfl, by kernel_rfl⟩) (EnvOK.cons ((sound_Sound_ok).c ⟨_, Go.Proofs.Try.func25, by kernel_rfl, by kernel_rfl⟩) (EnvOK.nil _))))) (noDyn_ok _) Go.Proofs.Try.func48 rfl

/-! 69: cryostat/cryostatlaw0.SameImages -/
def law0_SameImages.cx : Cx := ⟨tys, [], [(4, [0, 1, 5])], [], [], noDyn, [.tmp 4]⟩
def law0_SameImages : Sm := fun xs H Q => ∃ k, callK (law0_SameImages.cx) Go.Proofs.Try.f69 k xs H Q
def law0_SameImages.l4 (k : Nat) (xx0 : Pl) (nx1 : Nat) (xx2 : Pl) (nx3 : Nat) (ix4 : Int) (H : Hp) (Q : Post) : Prop := loopK (law0_SameImages.cx) Go.Proofs.Try.f69 4 k ((.g (.sl xx0 nx1 2)) :: (.g (.sl xx2 nx3 2)) :: B 3 ((.g (.int .i64 ix4)) :: B 20 ([]))) H Q
theorem law0_SameImages_eq (k : Nat) (z0 : Pl) (z0n : Nat) (z1 : Pl) (z1n : Nat) (H : Hp) (Q : Post) : callK (law0_SameImages.cx) Go.Proofs.Try.f69 (k + 1) [.g (.sl z0 z0n 2), .g (.sl z1 z1n 2)] H Q = (
 bite (!(eqI (nI z0n) (nI z1n)))
 (Q (.g (.bool false)) H)
 (law0_SameImages.l4 k z0 z0n z1 z1n 0 H Q)) := by kernel_rfl
theorem law0_SameImages.l4_eq (k : Nat) (xx0 : Pl) (nx1 : Nat) (xx2 : Pl) (nx3 : Nat) (ix4 : Int) (H : Hp) (Q : Post) : law0_SameImages.l4 (k + 1) xx0 nx1 xx2 nx3 ix4 H Q = (
 bite (ltI ix4 (nI nx1))
 (chk true (chk ((leI 0 ix4) && (ltI ix4 (nI nx1))) (pS xx0 fun n0 n1 =>
  rd H n0 (n1 + ((tN ix4) * 2)) fun v2 =>
  dI .i64 v2 fun i3 =>
  rd H n0 ((n1 + ((tN ix4) * 2)) + 1) fun v4 =>
  dS v4 fun s5 =>
  chk true (chk ((leI 0 ix4) && (ltI ix4 (nI nx3))) (pS xx2 fun n6 n7 =>
  rd H n6 (n7 + ((tN ix4) * 2)) fun v8 =>
  dI .i64 v8 fun i9 =>
  rd H n6 ((n7 + ((tN ix4) * 2)) + 1) fun v10 =>
  dS v10 fun s11 =>
  bite (!((eqI i3 i9) && ((strEq s5 s11) && true)))
  (Q (.g (.bool false)) H)
  (law0_SameImages.l4 k xx0 nx1 xx2 nx3 (wrapI .i64 (ix4 + 1)) H Q))))))
 (Q (.g (.bool true)) H)) := by kernel_rfl
theorem law0_SameImages_ok : Sound Go.Proofs.Try.prog 69 (law0_SameImages) := prog_ok.sound (cx := law0_SameImages.cx) rfl (EnvOK.nil _) (noDyn_ok _) Go.Proofs.Try.func69 rfl

/-! 44: cryostat/cryostatlaw15.awake -/
def law15_awake.cx : Cx := ⟨tys, [], [], [], [(58, ref9_New), (39, ref9_Insert), (45, diff_Images), (46, diff_Changed), (47, ref1_Blank), (48, diff_Tree), (23, law0_Num), (69, law0_SameImages), (35, law0_SameTree)], noDyn, [.tmp 0]⟩
def law15_awake : Sm := fun xs H Q => ∃ k, callK (law15_awake.cx) Go.Proofs.Try.f44 k xs H Q
theorem law15_awake_eq (k : Nat)  (H : Hp) (Q : Post) : callK (law15_awake.cx) Go.Proofs.Try.f44 (k + 1) [] H Q = (
 cl ref9_New [] H fun r0 H1 =>
 rA r0 fun c2 =>
 uC c2 fun v3 c4 =>
 dL 5 v3 fun x5 n6 =>
 uN c4 (cl ref9_Insert [(.agg [(.sl x5 n6 5)]), (.g (.str (mkS [97]))), (.g (.str (mkS [49])))] H1 fun r7 H8 =>
 rT r7 fun c9 =>
 uR c9 fun q10 c11 =>
 rC q10 fun c12 =>
 uC c12 fun v13 c14 =>
 dL 5 v13 fun x15 n16 =>
 uN c14 (uR c11 fun q17 c18 =>
 rS q17 fun v19 =>
 dI .i64 v19 fun i20 =>
 uE c18 (cl diff_Images [(.agg [(.sl x5 n6 5)])] H8 fun r21 H22 =>
 rT r21 fun c23 =>
 uR c23 fun q24 c25 =>
 rS q24 fun v26 =>
 dL 2 v26 fun x27 n28 =>
 uR c25 fun q29 c30 =>
 rS q29 fun v31 =>
 dI .i64 v31 fun i32 =>
 uE c30 (cl diff_Changed [(.agg [(.sl x5 n6 5)]), (.agg [(.sl x15 n16 5)])] H22 fun r33 H34 =>
 rT r33 fun c35 =>
 uR c35 fun q36 c37 =>
 rS q36 fun v38 =>
 dL 2 v38 fun x39 n40 =>
 uR c37 fun q41 c42 =>
 rS q41 fun v43 =>
 dI .i64 v43 fun i44 =>
 uE c42 (cl ref1_Blank [] H34 fun r45 H46 =>
 rA r45 fun c47 =>
 uC c47 fun v48 c49 =>
 dI .i64 v48 fun i50 =>
 uC c49 fun v51 c52 =>
 dI .i64 v51 fun i53 =>
 uC c52 fun v54 c55 =>
 dI .i64 v54 fun i56 =>
 uC c55 fun v57 c58 =>
 dI .i64 v57 fun i59 =>
 uC c58 fun v60 c61 =>
 dL 1 v60 fun x62 n63 =>
 uN c61 (cl diff_Tree [(.agg [(.int .i64 i50), (.int .i64 i53), (.int .i64 i56), (.int .i64 i59), (.sl x62 n63 1)])] H46 fun r64 H65 =>
 rT r64 fun c66 =>
 uR c66 fun q67 c68 =>
 rC q67 fun c69 =>
 uC c69 fun v70 c71 =>
 dL 5 v70 fun x72 n73 =>
 uN c71 (uR c68 fun q74 c75 =>
 rS q74 fun v76 =>
 dI .i64 v76 fun i77 =>
 uE c75 (cl diff_Images [(.agg [(.sl none 0 5)])] H65 fun r78 H79 =>
 rT r78 fun c80 =>
 uR c80 fun q81 c82 =>
 rS q81 fun v83 =>
 dL 2 v83 fun x84 n85 =>
 uR c82 fun q86 c87 =>
 rS q86 fun v88 =>
 dI .i64 v88 fun i89 =>
 uE c87 (cl diff_Tree [(.agg [(.int .i64 0), (.int .i64 0), (.int .i64 0), (.int .i64 0), (.sl none 0 1)])] H79 fun r90 H91 =>
 rT r90 fun c92 =>
 uR c92 fun q93 c94 =>
 rC q93 fun c95 =>
 uC c95 fun v96 c97 =>
 dL 5 v96 fun x98 n99 =>
 uN c97 (uR c94 fun q100 c101 =>
 rS q100 fun v102 =>
 dI .i64 v102 fun i103 =>
 uE c101 (bite (!(eqI (nI n28) 48))
 (Q (.g (.bool false)) H91)
 (chk true (chk ((leI 0 0) && (ltI 0 (nI n28))) (pS x27 fun n104 n105 =>
  rd H91 n104 ((n105 + ((tN 0) * 2)) + 1) fun v106 =>
  dS v106 fun s107 =>
  bite (strEq s107 (mkS [1, 0]))
  (chk true (chk ((leI 0 1) && (ltI 1 (nI n28))) (pS x27 fun n108 n109 =>
   rd H91 n108 ((n109 + ((tN 1) * 2)) + 1) fun v110 =>
   dS v110 fun s111 =>
   bite (strEq s111 (mkS []))
   (cl law0_Num [(.g (.int .i64 i32))] H91 fun r112 H113 =>
    rG r112 fun v114 =>
    dI .i64 v114 fun i115 =>
    bite (eqI i115 0)
    (cl law0_SameImages [(.g (.sl x39 n40 2)), (.g (.sl (some ((ln H113), 0)) 1 2))] (pu H113 (.row false 0 [(.int .i64 0), (.str (mkS [1, 1, 1, 97, 1, 49]))])) fun r116 H117 =>
     rG r116 fun v118 =>
     dB v118 fun b119 =>
     bite b119
     (cl law0_Num [(.g (.int .i64 i44))] H117 fun r120 H121 =>
      rG r120 fun v122 =>
      dI .i64 v122 fun i123 =>
      bite (eqI i123 0)
      (cl law0_SameTree [(.agg [(.sl x72 n73 5)]), (.agg [(.sl x5 n6 5)])] H121 fun r124 H125 =>
       rG r124 fun v126 =>
       dB v126 fun b127 =>
       bite b127
       (cl law0_Num [(.g (.int .i64 i77))] H125 fun r128 H129 =>
        rG r128 fun v130 =>
        dI .i64 v130 fun i131 =>
        bite (eqI i131 0)
        (cl law0_Num [(.g (.int .i64 i89))] H129 fun r132 H133 =>
         rG r132 fun v134 =>
         dI .i64 v134 fun i135 =>
         bite (eqI i135 1500)
         (cl law0_Num [(.g (.int .i64 i103))] H133 fun r136 H137 =>
          rG r136 fun v138 =>
          dI .i64 v138 fun i139 =>
          Q (.g (.bool (eqI i139 1500))) H137)
         (Q (.g (.bool false)) H133))
        (Q (.g (.bool false)) H129))
       (Q (.g (.bool false)) H125))
      (Q (.g (.bool false)) H121))
     (Q (.g (.bool false)) H117))
    (Q (.g (.bool false)) H113))
   (Q (.g (.bool false)) H91))))
  (Q (.g (.bool false)) H91)))))))))))))))) := by kernel_rfl
theorem law15_awake_ok : Sound Go.Proofs.Try.prog 44 (law15_awake) := prog_ok.sound (cx := law15_awake.cx) rfl (EnvOK.cons ((ref9_New_ok).c ⟨_, Go.Proofs.Try.func58, by kernel_rfl, by kernel_rfl⟩) (EnvOK.cons ((ref9_Insert_ok).c ⟨_, Go.Proofs.Try.func39, by kernel_rfl, by kernel_rfl⟩) (EnvOK.cons ((diff_Images_ok).c ⟨_, Go.Proofs.Try.func45, by kernel_rfl, by kernel_rfl⟩) (EnvOK.cons ((diff_Changed_ok).c ⟨_, Go.Proofs.Try.func46, by kernel_rfl, by kernel_rfl⟩) (EnvOK.cons ((ref1_Blank_ok).c ⟨_, Go.Proofs.Try.func47, by kernel_rfl, by kernel_rfl⟩) (EnvOK.cons ((diff_Tree_ok).c ⟨_, Go.Proofs.Try.func48, by kernel_rfl, by kernel_rfl⟩) (EnvOK.cons ((law0_Num_ok).c ⟨_, Go.Proofs.Try.func23, by kernel_rfl, by kernel_rfl⟩) (EnvOK.cons ((law0_SameImages_ok).c ⟨_, Go.Proofs.Try.func69, by kernel_rfl, by kernel_rfl⟩) (EnvOK.cons ((law0_SameTree_ok).c ⟨_, Go.Proofs.Try.func35, by kernel_rfl, by kernel_rfl⟩) (EnvOK.nil _)))))))))) (noDyn_ok _) Go.Proofs.Try.func44 rfl

/-! 13: cryostat/cryostatlaw15.DiffBack -/
def law15_DiffBack.cx : Cx := ⟨tys, [], [(11, [2, 3, 5, 7, 9, 10]), (16, [2, 3, 7, 9, 11, 12, 13])], [], [(44, law15_awake), (45, diff_Images), (46, diff_Changed), (23, law0_Num), (47, ref1_Blank), (48, diff_Tree), (35, law0_SameTree)], noDyn, [.tmp 4]⟩
def law15_DiffBack : Sm := fun xs H Q => ∃ k, callK (law15_DiffBack.cx) Go.Proofs.Try.f13 k xs H Q
def law15_DiffBack.l11 (k : Nat) (xx0 : Pl) (nx1 : Nat) (xx2 : Pl) (nx3 : Nat) (xx4 : Pl) (nx5 : Nat) (xx6 : Pl) (nx7 : Nat) (ix8 : Int) (ix9 : Int) (ix10 : Int) (ix11 : Int) (xx12 : Pl) (nx13 : Nat) (ix14 : Int) (H : Hp) (Q : Post) : Prop := loopK (law15_DiffBack.cx) Go.Proofs.Try.f13 11 k (.bad :: .bad :: (.bx [(.sl xx0 nx1 5)]) :: (.bx [(.sl xx2 nx3 5)]) :: .bad :: (.g (.sl xx4 nx5 2)) :: .bad :: (.g (.sl xx6 nx7 2)) :: .bad :: (.bx [(.int .i64 ix8), (.int .i64 ix9), (.int .i64 ix10), (.int .i64 ix11), (.sl xx12 nx13 1)]) :: (.g (.int .i64 ix14)) :: B 118 ([])) H Q
def law15_DiffBack.l16 (k : Nat) (xx0 : Pl) (nx1 : Nat) (xx2 : Pl) (nx3 : Nat) (xx4 : Pl) (nx5 : Nat) (ix6 : Int) (ix7 : Int) (ix8 : Int) (ix9 : Int) (xx10 : Pl) (nx11 : Nat) (xx12 : Pl) (nx13 : Nat) (ix14 : Int) (ix15 : Int) (H : Hp) (Q : Post) : Prop := loopK (law15_DiffBack.cx) Go.Proofs.Try.f13 16 k (.bad :: .bad :: (.bx [(.sl xx0 nx1 5)]) :: (.bx [(.sl xx2 nx3 5)]) :: B 3 ((.g (.sl xx4 nx5 2)) :: .bad :: (.bx [(.int .i64 ix6), (.int .i64 ix7), (.int .i64 ix8), (.int .i64 ix9), (.sl xx10 nx11 1)]) :: .bad :: (.bx [(.sl xx12 nx13 5)]) :: (.g (.int .i64 ix14)) :: (.g (.int .i64 ix15)) :: B 115 ([]))) H Q
theorem law15_DiffBack_eq (k : Nat) (z0 : Pl) (z0n : Nat) (z1 : Pl) (z1n : Nat) (H : Hp) (Q : Post) : callK (law15_DiffBack.cx) Go.Proofs.Try.f13 (k + 1) [.agg [.sl z0 z0n 5], .agg [.sl z1 z1n 5]] H Q = (
 cl law15_awake [] H fun r0 H1 =>
 rG r0 fun v2 =>
 dB v2 fun b3 =>
 bite (!b3)
 (Q (.g (.bool false)) H1)
 (cl diff_Images [(.agg [(.sl z0 z0n 5)])] H1 fun r4 H5 =>
  rT r4 fun c6 =>
  uR c6 fun q7 c8 =>
  rS q7 fun v9 =>
  dL 2 v9 fun x10 n11 =>
  uR c8 fun q12 c13 =>
  rS q12 fun v14 =>
  dI .i64 v14 fun i15 =>
  uE c13 (cl diff_Changed [(.agg [(.sl z0 z0n 5)]), (.agg [(.sl z1 z1n 5)])] H5 fun r16 H17 =>
  rT r16 fun c18 =>
  uR c18 fun q19 c20 =>
  rS q19 fun v21 =>
  dL 2 v21 fun x22 n23 =>
  uR c20 fun q24 c25 =>
  rS q24 fun v26 =>
  dI .i64 v26 fun i27 =>
  uE c25 (cl law0_Num [(.g (.int .i64 i15))] H17 fun r28 H29 =>
  rG r28 fun v30 =>
  dI .i64 v30 fun i31 =>
  bite (!(eqI i31 0))
  (Q (.g (.bool (eqI (nI n23) 0))) H29)
  (cl law0_Num [(.g (.int .i64 i27))] H29 fun r32 H33 =>
   rG r32 fun v34 =>
   dI .i64 v34 fun i35 =>
   bite (!(eqI i35 0))
   (Q (.g (.bool (eqI (nI n23) 0))) H33)
   (bite (!(eqI (nI n11) 48))
    (Q (.g (.bool false)) H33)
    (cl ref1_Blank [] H33 fun r36 H37 =>
     rA r36 fun c38 =>
     uC c38 fun v39 c40 =>
     dI .i64 v39 fun i41 =>
     uC c40 fun v42 c43 =>
     dI .i64 v42 fun i44 =>
     uC c43 fun v45 c46 =>
     dI .i64 v45 fun i47 =>
     uC c46 fun v48 c49 =>
     dI .i64 v48 fun i50 =>
     uC c49 fun v51 c52 =>
     dL 1 v51 fun x53 n54 =>
     uN c52 (law15_DiffBack.l11 k z0 z0n z1 z1n x10 n11 x22 n23 i41 i44 i47 i50 x53 n54 0 H37 Q)))))))) := by kernel_rfl
theorem law15_DiffBack.l11_eq (k : Nat) (xx0 : Pl) (nx1 : Nat) (xx2 : Pl) (nx3 : Nat) (xx4 : Pl) (nx5 : Nat) (xx6 : Pl) (nx7 : Nat) (ix8 : Int) (ix9 : Int) (ix10 : Int) (ix11 : Int) (xx12 : Pl) (nx13 : Nat) (ix14 : Int) (H : Hp) (Q : Post) : law15_DiffBack.l11 (k + 1) xx0 nx1 xx2 nx3 xx4 nx5 xx6 nx7 ix8 ix9 ix10 ix11 xx12 nx13 ix14 H Q = (
 bite (ltI ix14 (nI nx5))
 (chk true (chk ((leI 0 ix14) && (ltI ix14 (nI nx5))) (pS xx4 fun n0 n1 =>
  rd H n0 ((n1 + ((tN ix14) * 2)) + 1) fun v2 =>
  dS v2 fun s3 =>
  chk true (chk ((leI 0 ix14) && (ltI ix14 (nI nx13))) (pS xx12 fun n4 n5 =>
  wr H n4 (n5 + ((tN ix14) * 1)) (.str s3) fun H6 =>
  law15_DiffBack.l11 k xx0 nx1 xx2 nx3 xx4 nx5 xx6 nx7 ix8 ix9 ix10 ix11 xx12 nx13 (wrapI .i64 (ix14 + 1)) H6 Q)))))
 (cl diff_Tree [(.agg [(.int .i64 ix8), (.int .i64 ix9), (.int .i64 ix10), (.int .i64 ix11), (.sl xx12 nx13 1)])] H fun r7 H8 =>
  rT r7 fun c9 =>
  uR c9 fun q10 c11 =>
  rC q10 fun c12 =>
  uC c12 fun v13 c14 =>
  dL 5 v13 fun x15 n16 =>
  uN c14 (uR c11 fun q17 c18 =>
  rS q17 fun v19 =>
  dI .i64 v19 fun i20 =>
  uE c18 (law15_DiffBack.l16 k xx0 nx1 xx2 nx3 xx6 nx7 ix8 ix9 ix10 ix11 xx12 nx13 x15 n16 i20 0 H8 Q)))) := by kernel_rfl
theorem law15_DiffBack.l16_eq (k : Nat) (xx0 : Pl) (nx1 : Nat) (xx2 : Pl) (nx3 : Nat) (xx4 : Pl) (nx5 : Nat) (ix6 : Int) (ix7 : Int) (ix8 : Int) (ix9 : Int) (xx10 : Pl) (nx11 : Nat) (xx12 : Pl) (nx13 : Nat) (ix14 : Int) (ix15 : Int) (H : Hp) (Q : Post) : law15_DiffBack.l16 (k + 1) xx0 nx1 xx2 nx3 xx4 nx5 ix6 ix7 ix8 ix9 xx10 nx11 xx12 nx13 ix14 ix15 H Q = (
 bite (ltI ix15 (nI nx5))
 (chk true (chk ((leI 0 ix15) && (ltI ix15 (nI nx5))) (pS xx4 fun n0 n1 =>
  rd H n0 ((n1 + ((tN ix15) * 2)) + 0) fun v2 =>
  dI .i64 v2 fun i3 =>
  bite (ltI i3 0)
  (Q (.g (.bool false)) H)
  (chk true (chk ((leI 0 ix15) && (ltI ix15 (nI nx5))) (pS xx4 fun n4 n5 =>
   rd H n4 ((n5 + ((tN ix15) * 2)) + 0) fun v6 =>
   dI .i64 v6 fun i7 =>
   bite (leI 48 i7)
   (Q (.g (.bool false)) H)
   (chk true (chk ((leI 0 ix15) && (ltI ix15 (nI nx5))) (pS xx4 fun n8 n9 =>
    rd H n8 ((n9 + ((tN ix15) * 2)) + 0) fun v10 =>
    dI .i64 v10 fun i11 =>
    chk true (chk ((leI 0 ix15) && (ltI ix15 (nI nx5))) (pS xx4 fun n12 n13 =>
    rd H n12 ((n13 + ((tN ix15) * 2)) + 1) fun v14 =>
    dS v14 fun s15 =>
    chk true (chk ((leI 0 i11) && (ltI i11 (nI nx11))) (pS xx10 fun n16 n17 =>
    wr H n16 (n17 + ((tN i11) * 1)) (.str s15) fun H18 =>
    law15_DiffBack.l16 k xx0 nx1 xx2 nx3 xx4 nx5 ix6 ix7 ix8 ix9 xx10 nx11 xx12 nx13 ix14 (wrapI .i64 (ix15 + 1)) H18 Q)))))))))))))
 (cl diff_Tree [(.agg [(.int .i64 ix6), (.int .i64 ix7), (.int .i64 ix8), (.int .i64 ix9), (.sl xx10 nx11 1)])] H fun r19 H20 =>
  rT r19 fun c21 =>
  uR c21 fun q22 c23 =>
  rC q22 fun c24 =>
  uC c24 fun v25 c26 =>
  dL 5 v25 fun x27 n28 =>
  uN c26 (uR c23 fun q29 c30 =>
  rS q29 fun v31 =>
  dI .i64 v31 fun i32 =>
  uE c30 (cl law0_Num [(.g (.int .i64 ix14))] H20 fun r33 H34 =>
  rG r33 fun v35 =>
  dI .i64 v35 fun i36 =>
  bite (eqI i36 0)
  (cl law0_SameTree [(.agg [(.sl xx12 nx13 5)]), (.agg [(.sl xx0 nx1 5)])] H34 fun r37 H38 =>
   rG r37 fun v39 =>
   dB v39 fun b40 =>
   bite b40
   (cl law0_Num [(.g (.int .i64 i32))] H38 fun r41 H42 =>
    rG r41 fun v43 =>
    dI .i64 v43 fun i44 =>
    bite (eqI i44 0)
    (cl law0_SameTree [(.agg [(.sl x27 n28 5)]), (.agg [(.sl xx2 nx3 5)])] H42 fun r45 H46 =>
     rG r45 fun v47 =>
     dB v47 fun b48 =>
     bite b48
     (cl law0_SameTree [(.agg [(.sl xx0 nx1 5)]), (.agg [(.sl xx2 nx3 5)])] H46 fun r49 H50 =>
      rG r49 fun v51 =>
      dB v51 fun b52 =>
      Q (.g (.bool (eqB (eqI (nI nx5) 0) b52))) H50)
     (Q (.g (.bool false)) H46))
    (Q (.g (.bool false)) H42))
   (Q (.g (.bool false)) H38))
  (Q (.g (.bool false)) H34))))) := by kernel_rfl
theorem law15_DiffBack_ok : Sound Go.Proofs.Try.prog 13 (law15_DiffBack) := prog_ok.sound (cx := law15_DiffBack.cx) rfl (EnvOK.cons ((law15_awake_ok).c ⟨_, Go.Proofs.Try.func44, by kernel_rfl, by kernel_rfl⟩) (EnvOK.cons ((diff_Images_ok).c ⟨_, Go.Proofs.Try.func45, by kernel_rfl, by kernel_rfl⟩) (EnvOK.cons ((diff_Changed_ok).c ⟨_, Go.Proofs.Try.func46, by kernel_rfl, by kernel_rfl⟩) (EnvOK.cons ((law0_Num_ok).c ⟨_, Go.Proofs.Try.func23, by kernel_rfl, by kernel_rfl⟩) (EnvOK.cons ((ref1_Blank_ok).c ⟨_, Go.Proofs.Try.func47, by kernel_rfl, by kernel_rfl⟩) (EnvOK.cons ((diff_Tree_ok).c ⟨_, Go.Proofs.Try.func48, by kernel_rfl, by kernel_rfl⟩) (EnvOK.cons ((law0_SameTree_ok).c ⟨_, Go.Proofs.Try.func35, by kernel_rfl, by kernel_rfl⟩) (EnvOK.nil _)))))))) (noDyn_ok _) Go.Proofs.Try.func13 rfl

/-! 14: cryostat/cryostatlaw15.DiffFew -/
def law15_DiffFew.cx : Cx := ⟨tys, [], [(12, [2, 5, 7, 9, 11, 12])], [], [(44, law15_awake), (45, diff_Images), (46, diff_Changed), (23, law0_Num)], noDyn, [.tmp 4]⟩
def law15_DiffFew : Sm := fun xs H Q => ∃ k, callK (law15_DiffFew.cx) Go.Proofs.Try.f14 k xs H Q
def law15_DiffFew.l12 (k : Nat) (xx0 : Pl) (nx1 : Nat) (xx2 : Pl) (nx3 : Nat) (xx4 : Pl) (nx5 : Nat) (xx6 : Pl) (nx7 : Nat) (ix8 : Int) (ix9 : Int) (H : Hp) (Q : Post) : Prop := loopK (law15_DiffFew.cx) Go.Proofs.Try.f14 12 k (.bad :: .bad :: (.bx [(.sl xx0 nx1 5)]) :: .bad :: .bad :: (.g (.sl xx2 nx3 2)) :: .bad :: (.g (.sl xx4 nx5 2)) :: .bad :: (.g (.sl xx6 nx7 2)) :: .bad :: (.g (.int .i64 ix8)) :: (.g (.int .i64 ix9)) :: B 117 ([])) H Q
theorem law15_DiffFew_eq (k : Nat) (z0 : Pl) (z0n : Nat) (z1 : Pl) (z1n : Nat) (H : Hp) (Q : Post) : callK (law15_DiffFew.cx) Go.Proofs.Try.f14 (k + 1) [.agg [.sl z0 z0n 5], .agg [.sl z1 z1n 5]] H Q = (
 cl law15_awake [] H fun r0 H1 =>
 rG r0 fun v2 =>
 dB v2 fun b3 =>
 bite (!b3)
 (Q (.g (.bool false)) H1)
 (cl diff_Images [(.agg [(.sl z0 z0n 5)])] H1 fun r4 H5 =>
  rT r4 fun c6 =>
  uR c6 fun q7 c8 =>
  rS q7 fun v9 =>
  dL 2 v9 fun x10 n11 =>
  uR c8 fun q12 c13 =>
  rS q12 fun v14 =>
  dI .i64 v14 fun i15 =>
  uE c13 (cl diff_Images [(.agg [(.sl z1 z1n 5)])] H5 fun r16 H17 =>
  rT r16 fun c18 =>
  uR c18 fun q19 c20 =>
  rS q19 fun v21 =>
  dL 2 v21 fun x22 n23 =>
  uR c20 fun q24 c25 =>
  rS q24 fun v26 =>
  dI .i64 v26 fun i27 =>
  uE c25 (cl diff_Changed [(.agg [(.sl z0 z0n 5)]), (.agg [(.sl z1 z1n 5)])] H17 fun r28 H29 =>
  rT r28 fun c30 =>
  uR c30 fun q31 c32 =>
  rS q31 fun v33 =>
  dL 2 v33 fun x34 n35 =>
  uR c32 fun q36 c37 =>
  rS q36 fun v38 =>
  dI .i64 v38 fun i39 =>
  uE c37 (cl law0_Num [(.g (.int .i64 i15))] H29 fun r40 H41 =>
  rG r40 fun v42 =>
  dI .i64 v42 fun i43 =>
  bite (!(eqI i43 0))
  (cl law0_Num [(.g (.int .i64 i39))] H41 fun r44 H45 =>
   rG r44 fun v46 =>
   dI .i64 v46 fun i47 =>
   bite (eqI i47 1500)
   (Q (.g (.bool (eqI (nI n35) 0))) H45)
   (Q (.g (.bool false)) H45))
  (cl law0_Num [(.g (.int .i64 i27))] H41 fun r48 H49 =>
   rG r48 fun v50 =>
   dI .i64 v50 fun i51 =>
   bite (!(eqI i51 0))
   (cl law0_Num [(.g (.int .i64 i39))] H49 fun r52 H53 =>
    rG r52 fun v54 =>
    dI .i64 v54 fun i55 =>
    bite (eqI i55 1500)
    (Q (.g (.bool (eqI (nI n35) 0))) H53)
    (Q (.g (.bool false)) H53))
   (cl law0_Num [(.g (.int .i64 i39))] H49 fun r56 H57 =>
    rG r56 fun v58 =>
    dI .i64 v58 fun i59 =>
    bite (!(eqI i59 0))
    (Q (.g (.bool false)) H57)
    (bite (!(eqI (nI n11) 48))
     (Q (.g (.bool false)) H57)
     (bite (!(eqI (nI n23) 48))
      (Q (.g (.bool false)) H57)
      (law15_DiffFew.l12 k z0 z0n x10 n11 x22 n23 x34 n35 0 0 H57 Q)))))))))) := by kernel_rfl
theorem law15_DiffFew.l12_eq (k : Nat) (xx0 : Pl) (nx1 : Nat) (xx2 : Pl) (nx3 : Nat) (xx4 : Pl) (nx5 : Nat) (xx6 : Pl) (nx7 : Nat) (ix8 : Int) (ix9 : Int) (H : Hp) (Q : Post) : law15_DiffFew.l12 (k + 1) xx0 nx1 xx2 nx3 xx4 nx5 xx6 nx7 ix8 ix9 H Q = (
 bite (ltI ix9 48)
 (chk true (chk ((leI 0 ix9) && (ltI ix9 (nI nx3))) (pS xx2 fun n0 n1 =>
  rd H n0 ((n1 + ((tN ix9) * 2)) + 0) fun v2 =>
  dI .i64 v2 fun i3 =>
  bite (!(eqI i3 ix9))
  (Q (.g (.bool false)) H)
  (chk true (chk ((leI 0 ix9) && (ltI ix9 (nI nx5))) (pS xx4 fun n4 n5 =>
   rd H n4 ((n5 + ((tN ix9) * 2)) + 0) fun v6 =>
   dI .i64 v6 fun i7 =>
   bite (!(eqI i7 ix9))
   (Q (.g (.bool false)) H)
   (chk true (chk ((leI 0 ix9) && (ltI ix9 (nI nx3))) (pS xx2 fun n8 n9 =>
    rd H n8 ((n9 + ((tN ix9) * 2)) + 1) fun v10 =>
    dS v10 fun s11 =>
    chk true (chk ((leI 0 ix9) && (ltI ix9 (nI nx5))) (pS xx4 fun n12 n13 =>
    rd H n12 ((n13 + ((tN ix9) * 2)) + 1) fun v14 =>
    dS v14 fun s15 =>
    bite (!(strEq s11 s15))
    (bite (leI (nI nx7) ix8)
     (Q (.g (.bool false)) H)
     (chk true (chk ((leI 0 ix8) && (ltI ix8 (nI nx7))) (pS xx6 fun n16 n17 =>
      rd H n16 (n17 + ((tN ix8) * 2)) fun v18 =>
      dI .i64 v18 fun i19 =>
      rd H n16 ((n17 + ((tN ix8) * 2)) + 1) fun v20 =>
      dS v20 fun s21 =>
      chk true (chk ((leI 0 ix9) && (ltI ix9 (nI nx5))) (pS xx4 fun n22 n23 =>
      rd H n22 (n23 + ((tN ix9) * 2)) fun v24 =>
      dI .i64 v24 fun i25 =>
      rd H n22 ((n23 + ((tN ix9) * 2)) + 1) fun v26 =>
      dS v26 fun s27 =>
      bite (!((eqI i19 i25) && ((strEq s21 s27) && true)))
      (Q (.g (.bool false)) H)
      (law15_DiffFew.l12 k xx0 nx1 xx2 nx3 xx4 nx5 xx6 nx7 (wrapI .i64 (ix8 + 1)) (wrapI .i64 (ix9 + 1)) H Q)))))))
    (law15_DiffFew.l12 k xx0 nx1 xx2 nx3 xx4 nx5 xx6 nx7 ix8 (wrapI .i64 (ix9 + 1)) H Q))))))))))))
 (cl diff_Changed [(.agg [(.sl xx0 nx1 5)]), (.agg [(.sl xx0 nx1 5)])] H fun r28 H29 =>
  rT r28 fun c30 =>
  uR c30 fun q31 c32 =>
  rS q31 fun v33 =>
  dL 2 v33 fun x34 n35 =>
  uR c32 fun q36 c37 =>
  rS q36 fun v38 =>
  dI .i64 v38 fun i39 =>
  uE c37 (bite (eqI ix8 (nI nx7))
  (bite (eqI (nI n35) 0)
   (cl law0_Num [(.g (.int .i64 i39))] H29 fun r40 H41 =>
    rG r40 fun v42 =>
    dI .i64 v42 fun i43 =>
    Q (.g (.bool (eqI i43 0))) H41)
   (Q (.g (.bool false)) H29))
  (Q (.g (.bool false)) H29)))) := by kernel_rfl
theorem law15_DiffFew_ok : Sound Go.Proofs.Try.prog 14 (law15_DiffFew) := prog_ok.sound (cx := law15_DiffFew.cx) rfl (EnvOK.cons ((law15_awake_ok).c ⟨_, Go.Proofs.Try.func44, by kernel_rfl, by kernel_rfl⟩) (EnvOK.cons ((diff_Images_ok).c ⟨_, Go.Proofs.Try.func45, by kernel_rfl, by kernel_rfl⟩) (EnvOK.cons ((diff_Changed_ok).c ⟨_, Go.Proofs.Try.func46, by kernel_rfl, by kernel_rfl⟩) (EnvOK.cons ((law0_Num_ok).c ⟨_, Go.Proofs.Try.func23, by kernel_rfl, by kernel_rfl⟩) (EnvOK.nil _))))) (noDyn_ok _) Go.Proofs.Try.func14 rfl

/-! 15: cryostat/cryostatlaw15.DiffStays -/
def law15_DiffStays.cx : Cx := ⟨tys, [], [(8, [1, 3, 5, 6])], [], [(44, law15_awake), (45, diff_Images), (23, law0_Num), (49, ref9_Sound), (47, ref1_Blank), (48, diff_Tree), (35, law0_SameTree)], noDyn, [.tmp 2]⟩
def law15_DiffStays : Sm := fun xs H Q => ∃ k, callK (law15_DiffStays.cx) Go.Proofs.Try.f15 k xs H Q
def law15_DiffStays.l8 (k : Nat) (xx0 : Pl) (nx1 : Nat) (xx2 : Pl) (nx3 : Nat) (ix4 : Int) (ix5 : Int) (ix6 : Int) (ix7 : Int) (xx8 : Pl) (nx9 : Nat) (ix10 : Int) (H : Hp) (Q : Post) : Prop := loopK (law15_DiffStays.cx) Go.Proofs.Try.f15 8 k (.bad :: (.bx [(.sl xx0 nx1 5)]) :: .bad :: (.g (.sl xx2 nx3 2)) :: .bad :: (.bx [(.int .i64 ix4), (.int .i64 ix5), (.int .i64 ix6), (.int .i64 ix7), (.sl xx8 nx9 1)]) :: (.g (.int .i64 ix10)) :: B 90 ([])) H Q
theorem law15_DiffStays_eq (k : Nat) (z0 : Pl) (z0n : Nat) (H : Hp) (Q : Post) : callK (law15_DiffStays.cx) Go.Proofs.Try.f15 (k + 1) [.agg [.sl z0 z0n 5]] H Q = (
 cl law15_awake [] H fun r0 H1 =>
 rG r0 fun v2 =>
 dB v2 fun b3 =>
 bite (!b3)
 (Q (.g (.bool false)) H1)
 (cl diff_Images [(.agg [(.sl z0 z0n 5)])] H1 fun r4 H5 =>
  rT r4 fun c6 =>
  uR c6 fun q7 c8 =>
  rS q7 fun v9 =>
  dL 2 v9 fun x10 n11 =>
  uR c8 fun q12 c13 =>
  rS q12 fun v14 =>
  dI .i64 v14 fun i15 =>
  uE c13 (cl law0_Num [(.g (.int .i64 i15))] H5 fun r16 H17 =>
  rG r16 fun v18 =>
  dI .i64 v18 fun i19 =>
  bite (!(eqI i19 0))
  (bite (eqI (nI n11) 0)
   (cl ref9_Sound [(.agg [(.sl z0 z0n 5)])] H17 fun r20 H21 =>
    rG r20 fun v22 =>
    dB v22 fun b23 =>
    Q (.g (.bool (!b23))) H21)
   (Q (.g (.bool false)) H17))
  (cl ref1_Blank [] H17 fun r24 H25 =>
   rA r24 fun c26 =>
   uC c26 fun v27 c28 =>
   dI .i64 v27 fun i29 =>
   uC c28 fun v30 c31 =>
   dI .i64 v30 fun i32 =>
   uC c31 fun v33 c34 =>
   dI .i64 v33 fun i35 =>
   uC c34 fun v36 c37 =>
   dI .i64 v36 fun i38 =>
   uC c37 fun v39 c40 =>
   dL 1 v39 fun x41 n42 =>
   uN c40 (law15_DiffStays.l8 k z0 z0n x10 n11 i29 i32 i35 i38 x41 n42 0 H25 Q))))) := by kernel_rfl
theorem law15_DiffStays.l8_eq (k : Nat) (xx0 : Pl) (nx1 : Nat) (xx2 : Pl) (nx3 : Nat) (ix4 : Int) (ix5 : Int) (ix6 : Int) (ix7 : Int) (xx8 : Pl) (nx9 : Nat) (ix10 : Int) (H : Hp) (Q : Post) : law15_DiffStays.l8 (k + 1) xx0 nx1 xx2 nx3 ix4 ix5 ix6 ix7 xx8 nx9 ix10 H Q = (
 bite (ltI ix10 (nI nx3))
 (bite (ltI ix10 (nI nx9))
  (bite (ltI ix10 (nI nx1))
   (chk true (chk ((leI 0 ix10) && (ltI ix10 (nI nx3))) (pS xx2 fun n0 n1 =>
    rd H n0 ((n1 + ((tN ix10) * 2)) + 1) fun v2 =>
    dS v2 fun s3 =>
    bite (ltI 96 (sz s3))
    (Q (.g (.bool false)) H)
    (chk true (chk ((leI 0 ix10) && (ltI ix10 (nI nx3))) (pS xx2 fun n4 n5 =>
     rd H n4 ((n5 + ((tN ix10) * 2)) + 1) fun v6 =>
     dS v6 fun s7 =>
     chk true (chk ((leI 0 ix10) && (ltI ix10 (nI nx1))) (pS xx0 fun n8 n9 =>
     rd H n8 ((n9 + ((tN ix10) * 5)) + 0) fun v10 =>
     dB v10 fun b11 =>
     bite (!(eqB (!(strEq s7 (mkS []))) b11))
     (Q (.g (.bool false)) H)
     (chk true (chk ((leI 0 ix10) && (ltI ix10 (nI nx3))) (pS xx2 fun n12 n13 =>
      rd H n12 ((n13 + ((tN ix10) * 2)) + 1) fun v14 =>
      dS v14 fun s15 =>
      chk true (chk ((leI 0 ix10) && (ltI ix10 (nI nx9))) (pS xx8 fun n16 n17 =>
      wr H n16 (n17 + ((tN ix10) * 1)) (.str s15) fun H18 =>
      law15_DiffStays.l8 k xx0 nx1 xx2 nx3 ix4 ix5 ix6 ix7 xx8 nx9 (wrapI .i64 (ix10 + 1)) H18 Q)))))))))))))
   (cl diff_Tree [(.agg [(.int .i64 ix4), (.int .i64 ix5), (.int .i64 ix6), (.int .i64 ix7), (.sl xx8 nx9 1)])] H fun r19 H20 =>
    rT r19 fun c21 =>
    uR c21 fun q22 c23 =>
    rC q22 fun c24 =>
    uC c24 fun v25 c26 =>
    dL 5 v25 fun x27 n28 =>
    uN c26 (uR c23 fun q29 c30 =>
    rS q29 fun v31 =>
    dI .i64 v31 fun i32 =>
    uE c30 (bite (eqI (nI nx3) 48)
    (cl law0_Num [(.g (.int .i64 i32))] H20 fun r33 H34 =>
     rG r33 fun v35 =>
     dI .i64 v35 fun i36 =>
     bite (eqI i36 0)
     (cl law0_SameTree [(.agg [(.sl xx0 nx1 5)]), (.agg [(.sl x27 n28 5)])] H34 fun r37 H38 =>
      rG r37 fun v39 =>
      dB v39 fun b40 =>
      Q (.g (.bool b40)) H38)
     (Q (.g (.bool false)) H34))
    (Q (.g (.bool false)) H20)))))
  (cl diff_Tree [(.agg [(.int .i64 ix4), (.int .i64 ix5), (.int .i64 ix6), (.int .i64 ix7), (.sl xx8 nx9 1)])] H fun r41 H42 =>
   rT r41 fun c43 =>
   uR c43 fun q44 c45 =>
   rC q44 fun c46 =>
   uC c46 fun v47 c48 =>
   dL 5 v47 fun x49 n50 =>
   uN c48 (uR c45 fun q51 c52 =>
   rS q51 fun v53 =>
   dI .i64 v53 fun i54 =>
   uE c52 (bite (eqI (nI nx3) 48)
   (cl law0_Num [(.g (.int .i64 i54))] H42 fun r55 H56 =>
    rG r55 fun v57 =>
    dI .i64 v57 fun i58 =>
    bite (eqI i58 0)
    (cl law0_SameTree [(.agg [(.sl xx0 nx1 5)]), (.agg [(.sl x49 n50 5)])] H56 fun r59 H60 =>
     rG r59 fun v61 =>
     dB v61 fun b62 =>
     Q (.g (.bool b62)) H60)
    (Q (.g (.bool false)) H56))
   (Q (.g (.bool false)) H42)))))
 (cl diff_Tree [(.agg [(.int .i64 ix4), (.int .i64 ix5), (.int .i64 ix6), (.int .i64 ix7), (.sl xx8 nx9 1)])] H fun r63 H64 =>
  rT r63 fun c65 =>
  uR c65 fun q66 c67 =>
  rC q66 fun c68 =>
  uC c68 fun v69 c70 =>
  dL 5 v69 fun x71 n72 =>
  uN c70 (uR c67 fun q73 c74 =>
  rS q73 fun v75 =>
  dI .i64 v75 fun i76 =>
  uE c74 (bite (eqI (nI nx3) 48)
  (cl law0_Num [(.g (.int .i64 i76))] H64 fun r77 H78 =>
   rG r77 fun v79 =>
   dI .i64 v79 fun i80 =>
   bite (eqI i80 0)
   (cl law0_SameTree [(.agg [(.sl xx0 nx1 5)]), (.agg [(.sl x71 n72 5)])] H78 fun r81 H82 =>
    rG r81 fun v83 =>
    dB v83 fun b84 =>
    Q (.g (.bool b84)) H82)
   (Q (.g (.bool false)) H78))
  (Q (.g (.bool false)) H64))))) := by kernel_rfl
theorem law15_DiffStays_ok : Sound Go.Proofs.Try.prog 15 (law15_DiffStays) := prog_ok.sound (cx := law15_DiffStays.cx) rfl (EnvOK.cons ((law15_awake_ok).c ⟨_, Go.Proofs.Try.func44, by kernel_rfl, by kernel_rfl⟩) (EnvOK.cons ((diff_Images_ok).c ⟨_, Go.Proofs.Try.func45, by kernel_rfl, by kernel_rfl⟩) (EnvOK.cons ((law0_Num_ok).c ⟨_, Go.Proofs.Try.func23, by kernel_rfl, by kernel_rfl⟩) (EnvOK.cons ((ref9_Sound_ok).c ⟨_, Go.Proofs.Try.func49, by kernel_rfl, by kernel_rfl⟩) (EnvOK.cons ((ref1_Blank_ok).c ⟨_, Go.Proofs.Try.func47, by kernel_rfl, by kernel_rfl⟩) (EnvOK.cons ((diff_Tree_ok).c ⟨_, Go.Proofs.Try.func48, by kernel_rfl, by kernel_rfl⟩) (EnvOK.cons ((law0_SameTree_ok).c ⟨_, Go.Proofs.Try.func35, by kernel_rfl, by kernel_rfl⟩) (EnvOK.nil _)))))))) (noDyn_ok _) Go.Proofs.Try.func15 rfl


end Go.Am
namespace Go.Am

/-- a row of bytes of one's own -/
def OwnB (H : Hp) (b : Nat) (a : Pl) (L : List UInt8) : Prop := Own H b tU8 a L.length (u8s L)
theorem apB {H0 H : Hp} {a : Pl} {L : List UInt8} {K : Pl → Nat → Hp → Prop} {cs : List GV} {m : Nat} (h0 : H0 <+: H) (h : OwnB H H0.length a L) (ds : List UInt8) (hcs : cs = u8s ds) (hm : m = ds.length) (hl : L.length + ds.length ≤ 1000000)
    (hK : ∀ a' H', OwnB H' H0.length a' (L ++ ds) → H0 <+: H' → K a' (L ++ ds).length H') : ap H tU8 1 1 a L.length cs m K := by
  subst hcs; subst hm
  refine ap_own h0 h (by simp [u8s]) (by unfold Lim; omega) fun a' H' h1 h2 _ => ?_
  rw [← List.length_append]
  refine hK a' H' ?_ h2.pre
  unfold OwnB
  rw [List.length_append, u8s_append]
  exact h1
theorem OwnB.txt {H : Hp} {b : Nat} {a : Pl} {L : List UInt8} {K : ByteArray → Prop} (h : OwnB H b a L) : (rdN H a L.length fun c => txt c K) = K (mkS L) := by
  rw [rdN_of h.cells, txt_u8s]

def szd (s : ByteArray) : List UInt8 := bof s.size :: bs s
@[simp] theorem szd_length (s : ByteArray) : (szd s).length = s.size + 1 := by simp [szd]
theorem u8s_one {n : Int} (h1 : 0 ≤ n) (h2 : n ≤ 255) : [GV.int .u8 (wrapI .u8 n)] = u8s [bof n] := by rw [u8_eq h1 h2]; rfl

theorem page_sized_spec {H0 H : Hp} {a : Pl} {L : List UInt8} {s : ByteArray} {Q : Post} (h0 : H0 <+: H) (h : OwnB H H0.length a L) (hs : s.size ≤ 255) (hl : L.length ≤ 10000)
    (hQ : ∀ a' H', OwnB H' H0.length a' (L ++ szd s) → H0 <+: H' → Q (.g (.sl a' (L ++ szd s).length 1)) H') : page_sized [.g (.sl a L.length 1), .g (.str s)] H Q := by
  refine ⟨1, ?_⟩
  rw [page_sized_eq, chk_true]
  refine apB h0 h [bof s.size] (by rw [sz_def, u8s_one (by omega) (by omega)]) rfl (by simp; omega) fun a1 H1 h1 p1 => ?_
  rw [chk_true]
  refine apB p1 h1 (bs s) (bytesOf_eq s) (by simp) (by simp; omega) fun a2 H2 h2 p2 => ?_
  have e : L ++ [bof s.size] ++ bs s = L ++ szd s := by simp [szd]
  rw [e] at h2 ⊢
  exact hQ _ _ h2 p2

/-- a page's text -/
def entL (p : Pg) (i : Nat) : List UInt8 := szd (p.keys[i]?.getD ⟨#[]⟩) ++ (match p.leaf with | true => szd (p.vals[i]?.getD ⟨#[]⟩) | false => [])
def ents (p : Pg) (k : Nat) : List UInt8 := (List.range k).flatMap (entL p)
def kidB (k : Int) : UInt8 := bof k
def hdr (p : Pg) : List UInt8 := [match p.leaf with | true => 1 | false => 2, bof p.keys.length]
def textL (p : Pg) : List UInt8 := hdr p ++ ents p p.keys.length ++ p.kids.map bof
def text (p : Pg) : ByteArray := mkS (textL p)
theorem ents_succ (p : Pg) (k : Nat) : ents p (k + 1) = ents p k ++ entL p k := by simp [ents, List.range_succ]
theorem entL_le {p : Pg} (h : FitsP p) (i : Nat) : (entL p i).length ≤ 18 := by
  have hk : (p.keys[i]?.getD ⟨#[]⟩).size ≤ 6 := by
    by_cases hi : i < p.keys.length
    · rw [getD_of_lt _ hi]; exact (h.keys _ (List.getElem_mem hi)).2
    · rw [List.getElem?_eq_none (by omega)]; show (0 : Nat) ≤ 6; omega
  unfold entL
  cases hL : p.leaf with
  | false => simp; omega
  | true =>
    have hv : (p.vals[i]?.getD ⟨#[]⟩).size ≤ 10 := by
      by_cases hi : i < p.vals.length
      · rw [getD_of_lt _ hi]; exact (h.leaf hL).2.2 _ (List.getElem_mem hi)
      · rw [List.getElem?_eq_none (by omega)]; show (0 : Nat) ≤ 10; omega
    simp; omega
theorem ents_le {p : Pg} (h : FitsP p) : ∀ k, (ents p k).length ≤ 18 * k
  | 0 => by simp [ents]
  | k + 1 => by rw [ents_succ, List.length_append]; have := ents_le h k; have := entL_le h k; omega

section
variable {H : Hp} {Q : Post} {u l : Bool} {a1 : Pl} {n1 : Nat} {a2 : Pl} {n2 : Nat} {a3 : Pl} {n3 : Nat} {p : Pg}

theorem kids_le (hm : MayP p) : p.kids.length ≤ 5 := by
  have hm1 := hm.1
  cases hL : p.leaf with
  | true => rw [(hm.2.leaf hL).2.1]; simp
  | false => have := (hm.2.inner hL).2.2.1; omega
theorem kids_u8 (hm : MayP p) {k : Nat} (hkn : k < p.kids.length) : 0 ≤ p.kids[k] ∧ p.kids[k] ≤ 255 := by
  cases hL : p.leaf with
  | true => have := (hm.2.leaf hL).2.1; simp [this] at hkn
  | false => have := (hm.2.inner hL).2.2.2.1 _ (List.getElem_mem hkn); omega
def upK (p : Pg) (k : Nat) : List UInt8 := hdr p ++ ents p p.keys.length ++ (p.kids.take k).map bof
theorem upK_succ {k : Nat} (hkn : k < p.kids.length) : upK p k ++ [bof p.kids[k]] = upK p (k + 1) := by
  unfold upK; rw [List.take_succ_eq_append_getElem hkn, List.map_append, ← List.append_assoc]; rfl
theorem upK_le (hm : MayP p) (k : Nat) : (upK p k).length ≤ 100 := by
  have hle := ents_le hm.2 p.keys.length
  have hm1 := hm.1
  have := kids_le hm
  unfold upK; simp [hdr]; omega
theorem upK_all {k : Nat} (hk : p.kids.length ≤ k) : upK p k = textL p := by
  unfold upK textL; rw [List.take_of_length_le hk]
def upE (p : Pg) (k : Nat) : List UInt8 := hdr p ++ ents p k
theorem upE_le (hm : MayP p) {k : Nat} (hk : k ≤ 4) : (upE p k).length ≤ 100 := by
  have hle := ents_le hm.2 k
  unfold upE; simp [hdr]; omega

theorem page_Put_l14 (h : PgAt H u l a1 n1 a2 n2 a3 n3 p) (hm : MayP p) (hQ : ∀ H', H <+: H' → Q (.tup [.s (.str (text p)), .s (.int .i64 0)]) H') :
    ∀ (f k : Nat) (a : Pl) (H' : Hp), p.kids.length - k < f → k ≤ p.kids.length → H <+: H' → OwnB H' H.length a (upK p k) → page_Put.l14 f a (upK p k).length a3 n3 (nI n3) (k : Int) H' Q := by
  have hi := h.kids
  have n3e := hi.len
  have l3 := hi.lim
  intro f
  induction f with
  | zero => intro k a H' hf; omega
  | succ f ih =>
    intro k a H' hf hk hp ho
    rw [page_Put.l14_eq]
    by_cases hkn : k < p.kids.length
    · have hb := kids_u8 hm hkn
      have := upK_le hm k
      rw [bite_t (by simp; omega), chk_true, (hi.mono hp).rd k rfl hkn, chk_true]
      refine apB hp ho [bof p.kids[k]] (u8s_one hb.1 hb.2) rfl (by simp; omega) fun a' H'' h1 h2 => ?_
      rw [upK_succ hkn] at h1 ⊢
      rw [wrap_succ (by omega)]
      exact ih (k + 1) a' H'' (by omega) (by omega) h2 h1
    · rw [bite_f (by simp; omega), ho.txt, upK_all (by omega)]
      exact hQ _ hp

theorem page_Put_l7 (h : PgAt H u l a1 n1 a2 n2 a3 n3 p) (hm : MayP p) (hQ : ∀ H', H <+: H' → Q (.tup [.s (.str (text p)), .s (.int .i64 0)]) H') :
    ∀ (f k : Nat) (a : Pl) (H' : Hp), p.keys.length - k + p.kids.length + 1 < f → k ≤ p.keys.length → H <+: H' → OwnB H' H.length a (upE p k) → page_Put.l7 f u l a1 n1 a2 n2 a3 n3 a (upE p k).length a1 n1 (nI n1) (k : Int) H' Q := by
  obtain ⟨hu, hl, hk, hv, hi⟩ := id h
  have n1e := hk.len
  have n2e := hv.len
  have l1 := hk.lim
  have hm1 := hm.1
  intro f
  induction f with
  | zero => intro k a H' hf; omega
  | succ f ih =>
    intro k a H' hf hkn0 hp ho
    rw [page_Put.l7_eq]
    by_cases hkn : k < p.keys.length
    · have hks := (hm.2.keys _ (List.getElem_mem hkn)).2
      have hle := upE_le hm (k := k) (by omega)
      rw [bite_t (by simp; omega), chk_true, (hk.mono hp).rd k rfl hkn]
      refine page_sized_spec hp ho (by omega) (by omega) fun a' H2 o2 p2 => ?_
      simp only [rG_g, dL_sl]
      cases hL : p.leaf with
      | true =>
        have hvl := (hm.2.leaf hL).1
        have hvn : k < p.vals.length := by omega
        have hvs := (hm.2.leaf hL).2.2 _ (List.getElem_mem hvn)
        rw [bite_t (by rw [← hl]; exact hL), chk_true, (hv.mono p2).rd k rfl hvn]
        refine page_sized_spec p2 o2 (by omega) (by simp; omega) fun a'' H3 o3 p3 => ?_
        simp only [rG_g, dL_sl]
        have e : upE p k ++ szd p.keys[k] ++ szd p.vals[k] = upE p (k + 1) := by
          unfold upE; rw [ents_succ]; simp [entL, hL, hkn, hvn]
        rw [e] at o3 ⊢
        rw [wrap_succ (by omega)]
        exact ih (k + 1) a'' H3 (by omega) (by omega) p3 o3
      | false =>
        rw [bite_f (by rw [← hl]; exact hL)]
        have e : upE p k ++ szd p.keys[k] = upE p (k + 1) := by
          unfold upE; rw [ents_succ]; simp [entL, hL, hkn]
        rw [e] at o2 ⊢
        rw [wrap_succ (by omega)]
        exact ih (k + 1) a' H2 (by omega) (by omega) p2 o2
    · rw [bite_f (by simp; omega)]
      have hke : k = p.keys.length := by omega
      subst hke
      have e : upE p p.keys.length = upK p 0 := by simp [upE, upK]
      rw [e] at ho ⊢
      exact page_Put_l14 h hm hQ f 0 a H' (by omega) (by omega) hp ho

theorem page_Put_spec (h : PgAt H u l a1 n1 a2 n2 a3 n3 p) (hQ1 : ¬ MayP p → ∀ H', H <+: H' → Q (.tup [.s (.str (mkS [])), .s (.int .i64 600)]) H')
    (hQ2 : MayP p → ∀ H', H <+: H' → Q (.tup [.s (.str (text p)), .s (.int .i64 0)]) H') : page_Put [.agg [.bool u, .bool l, .sl a1 n1 1, .sl a2 n2 1, .sl a3 n3 1]] H Q := by
  refine ⟨p.keys.length + p.kids.length + 5, ?_⟩
  rw [page_Put_eq]
  refine page_May_spec h fun b H1 p1 hb => ?_
  simp only [rG_g, dB_bool]
  refine bite_of (fun e => hQ1 (fun q => ?_) _ p1) (fun e => ?_)
  · rw [hb.2 q] at e; cases e
  have hm : MayP p := hb.1 (by cases b <;> simp_all)
  have hm1 := hm.1
  have hl := h.leaf
  have n1e := h.keys.len
  have hh : OwnB (H1 ++ [.row true tU8 [.int .u8 2, .int .u8 (wrapI .u8 (nI n1))]]) H.length (some (H1.length, 0)) [2, bof p.keys.length] := by
    refine .inr ⟨H1.length, rfl, pre_len p1, ?_, rfl⟩
    rw [List.getElem?_append_right (Nat.le_refl _)]
    simp only [Nat.sub_self, List.getElem?_cons_zero, nI_def]
    rw [u8_eq (by omega) (by omega), n1e]
    rfl
  have p2 : H <+: H1 ++ [.row true tU8 [.int .u8 2, .int .u8 (wrapI .u8 (nI n1))]] := p1.trans (List.prefix_append _ _)
  have go : ∀ H2, H <+: H2 → OwnB H2 H.length (some (H1.length, 0)) (upE p 0) → page_Put.l6 (p.keys.length + p.kids.length + 4) u l a1 n1 a2 n2 a3 n3 (some (H1.length, 0)) 2 H2 Q := fun H2 q2 o2 => by
    rw [show p.keys.length + p.kids.length + 4 = (p.keys.length + p.kids.length + 3) + 1 by omega, page_Put.l6_eq]
    exact page_Put_l7 h hm (hQ2 hm) _ 0 _ H2 (by omega) (Nat.zero_le _) q2 o2
  cases hL : p.leaf with
  | false =>
    rw [bite_f (by rw [← hl]; exact hL)]
    exact go _ p2 (by simpa [upE, hdr, ents, hL] using hh)
  | true =>
    rw [bite_t (by rw [← hl]; exact hL), chk_true]
    simp only [pu_def, ln_def, tN_def, Int.toNat_zero, Nat.zero_mul, Nat.zero_add]
    rw [wr_of (t := tU8) (cs := [.int .u8 2, .int .u8 (wrapI .u8 (nI n1))]) (by simp) (by simp)]
    refine go _ (pre_set p2 (pre_len p1) _) (.inr ⟨H1.length, rfl, pre_len p1, ?_, rfl⟩)
    rw [List.getElem?_set_self (by simp)]
    simp only [List.set_cons_zero, nI_def, upE, hdr, ents, hL]
    rw [u8_eq (by omega) (by omega), n1e]
    rfl

end
end Go.Am
namespace Go.Am

def tkB : List UInt8 → Nat × List UInt8
  | [] => (0, [])
  | b :: r => (b.toNat, r)
def tkT (L : List UInt8) : List UInt8 × List UInt8 := ((tkB L).2.take (tkB L).1, (tkB L).2.drop (tkB L).1)
theorem tkB_le (L : List UInt8) : (tkB L).1 ≤ 255 := by
  cases L with
  | nil => simp [tkB]
  | cons b r => have := b.toNat_lt; simp [tkB]; omega

theorem bs_sub (s : ByteArray) (a b : Nat) : bs (sub s a b) = ((bs s).drop a).take (b - a) := Lib.extract_data s a b
theorem sub_all (s : ByteArray) (a : Nat) : sub s a s.size = mkS ((bs s).drop a) := bs_inj (by rw [bs_sub, bs_mkS, List.take_of_length_le (by simp)])
theorem byt_eq (s : ByteArray) (j : Nat) : byt s j = (((bs s)[j]?.getD 0).toNat : Int) := by unfold byt; simp [bs]
theorem empty_iff (s : ByteArray) : s = mkS [] ↔ bs s = [] := ⟨fun h => by rw [h]; rfl, fun h => bs_inj (by rw [h]; rfl)⟩
section
variable {H : Hp} {Q : Post} {l : Nat} {L : List UInt8}
theorem page_taker_byte_spec (hl : H[l]? = some (.row true tTaker [.str (mkS L)])) (hQ : Q (.g (.int .i64 (tkB L).1)) (H.set l (.row true tTaker [.str (mkS (tkB L).2)]))) : page_taker_byte [.g (.ptr (some (l, 0)))] H Q := by
  have hg : gt H l 0 = some (.str (mkS L)) := by rw [gt_some hl]; rfl
  refine ⟨1, ?_⟩
  rw [page_taker_byte_eq, pS_some]
  simp only [Nat.zero_add]
  rw [rd_of hg, dS_str]
  cases L with
  | nil =>
    rw [bite_t (by simp)]
    simp only [tkB] at hQ
    rw [set_same hl] at hQ
    exact hQ
  | cons b r =>
    have hne : strEq (mkS (b :: r)) (mkS []) = false := by simp; intro e; have := mkS_inj e; cases this
    rw [bite_f hne, pS_some]
    simp only [Nat.zero_add]
    rw [rd_of hg, dS_str]
    refine chk_of (by simp) ?_
    rw [pS_some]
    simp only [Nat.zero_add]
    rw [rd_of hg, dS_str]
    refine chk_of (by simp) ?_
    rw [pS_some]
    simp only [Nat.zero_add]
    rw [wr_of hl (by simp)]
    simp only [tkB] at hQ
    have hb := b.toNat_lt
    have e1 : wrapI .i64 (byt (mkS (b :: r)) (tN 0)) = (b.toNat : Int) := by
      rw [byt_eq]
      simp only [bs_mkS, tN_def, Int.toNat_zero, List.getElem?_cons_zero, Option.getD_some]
      exact wrap64 (by omega) (by omega)
    have e2 : sub (mkS (b :: r)) (tN 1) (szN (mkS (b :: r))) = mkS r := by
      rw [szN_def, sub_all]; simp
    rw [e1, e2]
    exact hQ
theorem page_taker_text_spec (hl : H[l]? = some (.row true tTaker [.str (mkS L)])) (hQ : Q (.g (.str (mkS (tkT L).1))) (H.set l (.row true tTaker [.str (mkS (tkT L).2)]))) : page_taker_text [.g (.ptr (some (l, 0)))] H Q := by
  refine ⟨1, ?_⟩
  rw [page_taker_text_eq]
  refine page_taker_byte_spec hl ?_
  simp only [rG_g, dI_int, pS_some, Nat.zero_add]
  have hl2 : (H.set l (.row true tTaker [.str (mkS (tkB L).2)]))[l]? = some (.row true tTaker [.str (mkS (tkB L).2)]) := List.getElem?_set_self (List.getElem?_eq_some_iff.1 hl).1
  have hg : gt (H.set l (.row true tTaker [.str (mkS (tkB L).2)])) l 0 = some (.str (mkS (tkB L).2)) := by rw [gt_some hl2]; rfl
  rw [rd_of hg, dS_str, rd_of hg, dS_str]
  have hmn : mnI ((tkB L).1 : Int) (sz (mkS (tkB L).2)) = (min (tkB L).1 (tkB L).2.length : Nat) := by
    simp [mnI]; split <;> omega
  rw [hmn]
  refine chk_of (by simp) (chk_of (by simp; omega) ?_)
  rw [rd_of hg, dS_str]
  refine chk_of (by simp) (chk_of (by simp; omega) ?_)
  rw [wr_of hl2 (by simp)]
  have e1 : sub (mkS (tkB L).2) (tN (min (tkB L).1 (tkB L).2.length : Nat)) (szN (mkS (tkB L).2)) = mkS (tkT L).2 := by
    rw [szN_def, sub_all]
    simp only [bs_mkS, tN_def, Int.toNat_natCast, tkT]
    congr 1
    by_cases h : (tkB L).1 ≤ (tkB L).2.length
    · rw [Nat.min_eq_left h]
    · rw [Nat.min_eq_right (by omega), List.drop_of_length_le (Nat.le_refl _), List.drop_of_length_le (by omega)]
  have e2 : sub (mkS (tkB L).2) 0 (tN (min (tkB L).1 (tkB L).2.length : Nat)) = mkS (tkT L).1 := by
    apply bs_inj
    rw [bs_sub]
    simp only [bs_mkS, tN_def, Int.toNat_natCast, tkT, List.drop_zero, Nat.sub_zero]
    by_cases h : (tkB L).1 ≤ (tkB L).2.length
    · rw [Nat.min_eq_left h]
    · rw [Nat.min_eq_right (by omega), List.take_of_length_le (Nat.le_refl _), List.take_of_length_le (by omega)]
  rw [e1, e2, List.set_set]
  exact hQ
end

/-! the parse -/
structure Pa where
  ks : List ByteArray
  vs : List ByteArray
  R : List UInt8
def takeE (leaf : Bool) : Nat → List UInt8 → List ByteArray → List ByteArray → Pa
  | 0, R, ks, vs => ⟨ks, vs, R⟩
  | n + 1, R, ks, vs => match leaf with
    | true => takeE leaf n (tkT (tkT R).2).2 (ks ++ [mkS (tkT R).1]) (vs ++ [mkS (tkT (tkT R).2).1])
    | false => takeE leaf n (tkT R).2 (ks ++ [mkS (tkT R).1]) vs
def takeK : Nat → List UInt8 → List Int → List Int
  | 0, _, ks => ks
  | n + 1, R, ks => takeK n (tkB R).2 (ks ++ [((tkB R).1 : Int)])
def pLeaf (L : List UInt8) : Bool := (tkB L).1 == 1
def pN (L : List UInt8) : Nat := min (tkB (tkB L).2).1 4
def pE (L : List UInt8) : Pa := takeE (pLeaf L) (pN L) (tkB (tkB L).2).2 [] []
def parse (L : List UInt8) : Pg := ⟨true, pLeaf L, (pE L).ks, (pE L).vs, match pLeaf L with | true => [] | false => takeK (pN L + 1) (pE L).R []⟩

theorem tkT_szd {s : ByteArray} (h : s.size ≤ 255) (R : List UInt8) : tkT (szd s ++ R) = (bs s, R) := by
  have e : (bof (s.size : Int)).toNat = s.size := by simp [bof]; omega
  simp only [tkT, szd, List.cons_append, tkB, e]
  rw [List.take_left' (by simp), List.drop_left' (by simp)]

def tailE (p : Pg) (k m : Nat) : List UInt8 := (List.range' k m).flatMap (entL p)
theorem tailE_succ (p : Pg) (k m : Nat) : tailE p k (m + 1) = entL p k ++ tailE p (k + 1) m := by simp [tailE, List.range'_succ]
theorem ents_tail (p : Pg) (n : Nat) : ents p n = tailE p 0 n := by simp [ents, tailE, List.range_eq_range']

theorem takeE_ents {p : Pg} (hf : FitsP p) (T : List UInt8) : ∀ m k : Nat, k + m = p.keys.length → takeE p.leaf m (tailE p k m ++ T) (p.keys.take k) (p.vals.take k) = ⟨p.keys, p.vals, T⟩ := by
  intro m
  induction m with
  | zero =>
    intro k hk
    simp only [takeE, tailE, List.range'_zero, List.flatMap_nil, List.nil_append]
    rw [List.take_of_length_le (by omega)]
    cases hL : p.leaf with
    | true => have := (hf.leaf hL).1; rw [List.take_of_length_le (by omega)]
    | false => rw [(hf.inner hL).2.1]; simp
  | succ m ih =>
    intro k hk
    have hkn : k < p.keys.length := by omega
    have hks := (hf.keys _ (List.getElem_mem hkn)).2
    have ih' := ih (k + 1) (by omega)
    rw [List.take_succ_eq_append_getElem hkn] at ih'
    cases hL : p.leaf with
    | true =>
      have hvl := (hf.leaf hL).1
      have hvn : k < p.vals.length := by omega
      have hvs := (hf.leaf hL).2.2 _ (List.getElem_mem hvn)
      rw [List.take_succ_eq_append_getElem hvn, hL] at ih'
      have e : tailE p k (m + 1) ++ T = szd p.keys[k] ++ (szd p.vals[k] ++ (tailE p (k + 1) m ++ T)) := by
        rw [tailE_succ]; simp [entL, hL, hkn, hvn]
      rw [e]
      simp only [takeE]
      rw [tkT_szd (by omega)]
      simp only
      rw [tkT_szd (by omega)]
      simp only [mkS_bs]
      exact ih'
    | false =>
      have hv := (hf.inner hL).2.1
      rw [hL] at ih'
      have e : tailE p k (m + 1) ++ T = szd p.keys[k] ++ (tailE p (k + 1) m ++ T) := by
        rw [tailE_succ]; simp [entL, hL, hkn]
      rw [e]
      simp only [takeE]
      rw [tkT_szd (by omega)]
      simp only [mkS_bs]
      rw [hv] at ih' ⊢
      simpa using ih'
theorem bof_toNat {x : Int} (h1 : 0 ≤ x) (h2 : x ≤ 255) : ((bof x).toNat : Int) = x := by simp [bof]; omega
theorem takeK_kids {ks : List Int} (T : List UInt8) (h : ∀ k ∈ ks, 0 ≤ k ∧ k ≤ 255) : ∀ m k : Nat, k + m = ks.length → takeK m ((ks.drop k).map bof ++ T) (ks.take k) = ks := by
  intro m
  induction m with
  | zero => intro k hk; simp only [takeK]; rw [List.take_of_length_le (by omega)]
  | succ m ih =>
    intro k hk
    have hkn : k < ks.length := by omega
    have hb := h _ (List.getElem_mem hkn)
    rw [List.drop_eq_getElem_cons hkn]
    simp only [List.map_cons, List.cons_append, takeK, tkB]
    rw [bof_toNat hb.1 hb.2, ← List.take_succ_eq_append_getElem hkn]
    exact ih (k + 1) (by omega)

theorem parse_more {p : Pg} (hm : MayP p) (T : List UInt8) : parse (textL p ++ T) = p := by
  have hf := hm.2
  have hm1 := hm.1
  have hl : pLeaf (textL p ++ T) = p.leaf := by cases hL : p.leaf <;> simp [pLeaf, textL, hdr, tkB, hL]
  have hb : (bof (p.keys.length : Int)).toNat = p.keys.length := by simp [bof]; omega
  have hn : pN (textL p ++ T) = p.keys.length := by simp only [pN, textL, hdr, List.cons_append, tkB, hb]; omega
  have hR : (tkB (tkB (textL p ++ T)).2).2 = tailE p 0 p.keys.length ++ (p.kids.map bof ++ T) := by simp [textL, hdr, tkB, ents_tail]
  have hE : pE (textL p ++ T) = ⟨p.keys, p.vals, p.kids.map bof ++ T⟩ := by
    unfold pE
    rw [hl, hn, hR]
    have := takeE_ents hf (p.kids.map bof ++ T) p.keys.length 0 (by omega)
    simpa using this
  unfold parse
  rw [hE, hl, hn]
  obtain ⟨pu, pl, pk, pv, pi⟩ := p
  have hu : pu = true := hf.used
  subst hu
  cases pl with
  | true =>
    have := (hf.leaf rfl).2.1
    simp only at this ⊢
    rw [this]
  | false =>
    have h1 := (hf.inner rfl).2.2.1
    have h2 := (hf.inner rfl).2.2.2.1
    simp only at h1 h2 ⊢
    have := takeK_kids (ks := pi) T (fun k hk => by have := h2 k hk; omega) (pk.length + 1) 0 (by omega)
    simp only [List.drop_zero, List.take_zero] at this
    rw [this]
theorem parse_text {p : Pg} (hm : MayP p) : parse (textL p) = p := by have := parse_more hm []; rwa [List.append_nil] at this
theorem text_pre {p q : Pg} (hp : MayP p) (hq : MayP q) {T : List UInt8} (h : textL q = textL p ++ T) : T = [] := by
  have e : q = p := by rw [← parse_text hq, h, parse_more hp]
  subst e
  exact List.self_eq_append_right.1 h
theorem text_inj {p q : Pg} (hp : MayP p) (hq : MayP q) (h : text p = text q) : p = q := by
  have := mkS_inj h
  rw [← parse_text hp, ← parse_text hq, this]
end Go.Am
namespace Go.Am

/-- what Get and GetPage answer -/
def GetQ (s : ByteArray) (b : Nat) (Q : Post) (H : Hp) : Prop := ∀ u l a1 n1 a2 n2 a3 n3 p e H', H <+: H' → PgOwn H' b u l a1 n1 a2 n2 a3 n3 p →
  ((e = 0 ∧ MayP p ∧ text p = s) ∨ (e = 600 ∧ p = noPg ∧ ∀ p', MayP p' → text p' ≠ s)) → Q (.tup [.a [.bool u, .bool l, .sl a1 n1 1, .sl a2 n2 1, .sl a3 n3 1], .s (.int .i64 e)]) H'

structure GI (H0 H : Hp) (lt : Nat) (R : List UInt8) (a1 : Pl) (ks : List ByteArray) (a2 : Pl) (vs : List ByteArray) (a3 : Pl) (is : List Int) : Prop where
  pre : H0 <+: H
  row : H[lt]? = some (.row true tTaker [.str (mkS R)])
  o1 : Own H H0.length tS a1 ks.length (ks.map GV.str)
  o2 : Own H H0.length tS a2 vs.length (vs.map GV.str)
  o3 : Own H H0.length tI a3 is.length (is.map (GV.int .i64))
  d1 : a1 ≠ some (lt, 0)
  d2 : a2 ≠ some (lt, 0)
  d3 : a3 ≠ some (lt, 0)
  d12 : Dj a1 a2
  d13 : Dj a1 a3
  d23 : Dj a2 a3
  b : H0.length ≤ lt

section
variable {H0 H : Hp} {lt : Nat} {R : List UInt8} {a1 : Pl} {ks : List ByteArray} {a2 : Pl} {vs : List ByteArray} {a3 : Pl} {is : List Int}
theorem GI.turn (g : GI H0 H lt R a1 ks a2 vs a3 is) (R' : List UInt8) : GI H0 (H.set lt (.row true tTaker [.str (mkS R')])) lt R' a1 ks a2 vs a3 is :=
  ⟨pre_set g.pre g.b _, List.getElem?_set_self (List.getElem?_eq_some_iff.1 g.row).1, g.o1.set g.d1 _, g.o2.set g.d2 _, g.o3.set g.d3 _, g.d1, g.d2, g.d3, g.d12, g.d13, g.d23, g.b⟩
theorem GI.in_ (g : GI H0 H lt R a1 ks a2 vs a3 is) : lt < H.length := (List.getElem?_eq_some_iff.1 g.row).1
theorem GI.key (g : GI H0 H lt R a1 ks a2 vs a3 is) (s : ByteArray) (hk : ks.length ≤ 100) {K : Pl → Nat → Hp → Prop} (hK : ∀ a' H', GI H0 H' lt R a' (ks ++ [s]) a2 vs a3 is → K a' (ks.length + 1) H') : ap H tS 1 16 a1 ks.length [.str s] 1 K := by
  refine ap_own g.pre g.o1 rfl (by unfold Lim; omega) fun a' H' h1 h2 h3 => hK a' H' ?_
  refine ⟨h2.pre, by rw [h2.row lt g.in_ g.d1]; exact g.row, by simpa using h1, g.o2.after g.d12 h2, g.o3.after g.d13 h2, fun e => ?_, g.d2, g.d3, Dj.fresh g.o2 h3, Dj.fresh g.o3 h3, g.d23, g.b⟩
  have := h3 lt 0 e; have := g.in_; omega
theorem GI.val (g : GI H0 H lt R a1 ks a2 vs a3 is) (s : ByteArray) (hk : vs.length ≤ 100) {K : Pl → Nat → Hp → Prop} (hK : ∀ a' H', GI H0 H' lt R a1 ks a' (vs ++ [s]) a3 is → K a' (vs.length + 1) H') : ap H tS 1 16 a2 vs.length [.str s] 1 K := by
  refine ap_own g.pre g.o2 rfl (by unfold Lim; omega) fun a' H' h1 h2 h3 => hK a' H' ?_
  refine ⟨h2.pre, by rw [h2.row lt g.in_ g.d2]; exact g.row, g.o1.after g.d12.symm h2, by simpa using h1, g.o3.after g.d23 h2, g.d1, fun e => ?_, g.d3, (Dj.fresh g.o1 h3).symm, g.d13, Dj.fresh g.o3 h3, g.b⟩
  have := h3 lt 0 e; have := g.in_; omega
theorem GI.kid (g : GI H0 H lt R a1 ks a2 vs a3 is) (s : Int) (hk : is.length ≤ 1000) {K : Pl → Nat → Hp → Prop} (hK : ∀ a' H', GI H0 H' lt R a1 ks a2 vs a' (is ++ [s]) → K a' (is.length + 1) H') : ap H tI 1 8 a3 is.length [.int .i64 s] 1 K := by
  refine ap_own g.pre g.o3 rfl (by unfold Lim; omega) fun a' H' h1 h2 h3 => hK a' H' ?_
  refine ⟨h2.pre, by rw [h2.row lt g.in_ g.d3]; exact g.row, g.o1.after g.d13.symm h2, g.o2.after g.d23.symm h2, by simpa using h1, g.d1, g.d2, fun e => ?_, g.d12, (Dj.fresh g.o1 h3).symm, (Dj.fresh g.o2 h3).symm, g.b⟩
  have := h3 lt 0 e; have := g.in_; omega
theorem GI.pg (g : GI H0 H lt R a1 ks a2 vs a3 is) (u l : Bool) (h1 : ks.length ≤ 1000) (h2 : vs.length ≤ 1000) (h3 : is.length ≤ 1000) : PgOwn H H0.length u l a1 ks.length a2 vs.length a3 is.length ⟨u, l, ks, vs, is⟩ :=
  ⟨rfl, rfl, g.o1, g.o2, g.o3, g.d12, g.d13, g.d23, h1, h2, h3⟩
end

section
variable {H0 : Hp} {Q : Post} {s : ByteArray}

/-- the end of both: is it that page's text? -/
theorem get_end {H : Hp} {u l : Bool} {a1 : Pl} {n1 : Nat} {a2 : Pl} {n2 : Nat} {a3 : Pl} {n3 : Nat} {p : Pg} (h : PgOwn H H0.length u l a1 n1 a2 n2 a3 n3 p) (hp : H0 <+: H) (hu : ∀ p', MayP p' → text p' = s → p = p') (hQ : GetQ s H0.length Q H0)
    {F : List FV → Hp → Post → Prop} (hF : ∀ Q' : Post, (¬ MayP p → ∀ H', H <+: H' → Q' (.tup [.s (.str (mkS [])), .s (.int .i64 600)]) H') → (MayP p → ∀ H', H <+: H' → Q' (.tup [.s (.str (text p)), .s (.int .i64 0)]) H') →
      F [.agg [.bool u, .bool l, .sl a1 n1 1, .sl a2 n2 1, .sl a3 n3 1]] H Q') :
    cl F [.agg [.bool u, .bool l, .sl a1 n1 1, .sl a2 n2 1, .sl a3 n3 1]] H fun r7 H8 => rT r7 fun c9 => uR c9 fun q10 c11 => rS q10 fun v12 => dS v12 fun s13 => uR c11 fun q14 c15 => rS q14 fun v16 => dI .i64 v16 fun i17 =>
      uE c15 (bite (!(eqI i17 0))
       (Q (.tup [(.a [(.bool false), (.bool false), (.sl none 0 1), (.sl none 0 1), (.sl none 0 1)]), (.s (.int .i64 600))]) H8)
       (bite (!(strEq s13 s))
        (Q (.tup [(.a [(.bool false), (.bool false), (.sl none 0 1), (.sl none 0 1), (.sl none 0 1)]), (.s (.int .i64 600))]) H8)
        (Q (.tup [(.a [(.bool u), (.bool l), (.sl a1 n1 1), (.sl a2 n2 1), (.sl a3 n3 1)]), (.s (.int .i64 0))]) H8))) := by
  refine hF _ (fun hn H' p' => ?_) (fun hm H' p' => ?_)
  · simp only [rT_tup, uR_cons, rS_s, dS_str, dI_int, uE_nil]
    rw [bite_t (by decide)]
    exact hQ _ _ _ _ _ _ _ _ _ _ _ (hp.trans p') (noPg_own _ _) (.inr ⟨rfl, rfl, fun p2 h1 h2 => hn (by rw [hu p2 h1 h2]; exact h1)⟩)
  · simp only [rT_tup, uR_cons, rS_s, dS_str, dI_int, uE_nil]
    rw [bite_f (by decide)]
    by_cases e : text p = s
    · rw [bite_f (by simpa using e)]
      exact hQ _ _ _ _ _ _ _ _ _ _ _ (hp.trans p') (h.mono p') (.inl ⟨rfl, hm, e⟩)
    · rw [bite_t (by simpa using e)]
      exact hQ _ _ _ _ _ _ _ _ _ _ _ (hp.trans p') (noPg_own _ _) (.inr ⟨rfl, rfl, fun p2 h1 h2 => e (by rw [hu p2 h1 h2]; exact h2)⟩)

theorem page_Get_l11 {lt : Nat} {a1 : Pl} {ks : List ByteArray} {a2 : Pl} {vs : List ByteArray} (lf : Bool) (n : Nat) (hk : ks.length ≤ 100) (hv : vs.length ≤ 100) (hn : n ≤ 4) (hQ : GetQ s H0.length Q H0) (pEnd : Pg)
    (hu : ∀ p', MayP p' → text p' = s → pEnd = p') :
    ∀ (f k : Nat) (H : Hp) (R : List UInt8) (a3 : Pl) (is : List Int), n + 1 - k < f → k ≤ n + 1 → is.length ≤ k → GI H0 H lt R a1 ks a2 vs a3 is →
      pEnd = ⟨true, lf, ks, vs, match lf with | true => is | false => takeK (n + 1 - k) R is⟩ →
      page_Get.l11 f s false false none 0 none 0 none 0 lt 0 true lf a1 ks.length a2 vs.length a3 is.length (n : Int) (k : Int) lt 0 H Q := by
  intro f
  induction f with
  | zero => intro k H R a3 is hf; omega
  | succ f ih =>
    intro k H R a3 is hf hk1 hi g he
    rw [page_Get.l11_eq]
    by_cases hkn : k ≤ n
    · rw [bite_t (by simp; omega)]
      cases lf with
      | true =>
        rw [bite_f (b := !true) rfl]
        have ho : PgOwn H H0.length true true a1 ks.length a2 vs.length a3 is.length pEnd := by rw [he]; exact g.pg true true (by omega) (by omega) (by omega)
        exact get_end ho g.pre hu hQ fun Q' h1 h2 => page_Put_spec ho.at h1 h2
      | false =>
        rw [bite_t (b := !false) rfl]
        refine page_taker_byte_spec g.row ?_
        simp only [rG_g, dI_int]
        rw [chk_true]
        refine (g.turn _).kid _ (by omega) fun a' H' g' => ?_
        rw [wrap_succ (by omega)]
        have := ih (k + 1) H' _ a' (is ++ [((tkB R).1 : Int)]) (by omega) (by omega) (by simp; omega) g' (by
          rw [he, show n + 1 - k = (n + 1 - (k + 1)) + 1 by omega]; rfl)
        simpa using this
    · rw [bite_f (by simp; omega)]
      have ho : PgOwn H H0.length true lf a1 ks.length a2 vs.length a3 is.length pEnd := by
        rw [he, show n + 1 - k = 0 by omega]
        have := g.pg true lf (by omega) (by omega) (by omega)
        cases lf <;> exact this
      exact get_end ho g.pre hu hQ fun Q' h1 h2 => page_Put_spec ho.at h1 h2

theorem page_Get_l5 {lt : Nat} (lf : Bool) (n : Nat) (hn : n ≤ 4) (hQ : GetQ s H0.length Q H0) (pEnd : Pg) (hu : ∀ p', MayP p' → text p' = s → pEnd = p') :
    ∀ (f k : Nat) (H : Hp) (R : List UInt8) (a1 : Pl) (ks : List ByteArray) (a2 : Pl) (vs : List ByteArray), n - k + n + 3 < f → k ≤ n → ks.length ≤ k → vs.length ≤ k → GI H0 H lt R a1 ks a2 vs none [] →
      pEnd = ⟨true, lf, (takeE lf (n - k) R ks vs).ks, (takeE lf (n - k) R ks vs).vs, match lf with | true => [] | false => takeK (n + 1) (takeE lf (n - k) R ks vs).R []⟩ →
      page_Get.l5 f s false false none 0 none 0 none 0 lt 0 true lf a1 ks.length a2 vs.length none 0 (n : Int) lt 0 (n : Int) (k : Int) H Q := by
  intro f
  induction f with
  | zero => intro k H R a1 ks a2 vs hf; omega
  | succ f ih =>
    intro k H R a1 ks a2 vs hf hkn hk hv g he
    rw [page_Get.l5_eq]
    by_cases hlt : k < n
    · rw [bite_t (by simp; omega)]
      refine page_taker_text_spec g.row ?_
      simp only [rG_g, dS_str]
      rw [chk_true]
      refine (g.turn _).key _ (by omega) fun a' H' g' => ?_
      cases lf with
      | true =>
        rw [bite_t rfl]
        refine page_taker_text_spec g'.row ?_
        simp only [rG_g, dS_str]
        rw [chk_true]
        refine (g'.turn _).val _ (by omega) fun a'' H'' g'' => ?_
        rw [wrap_succ (by omega)]
        have := ih (k + 1) H'' _ a' (ks ++ [mkS (tkT R).1]) a'' (vs ++ [mkS (tkT (tkT R).2).1]) (by omega) (by omega) (by simp; omega) (by simp; omega) g'' (by
          rw [he, show n - k = (n - (k + 1)) + 1 by omega]; rfl)
        simpa using this
      | false =>
        rw [bite_f rfl]
        rw [wrap_succ (by omega)]
        have := ih (k + 1) H' _ a' (ks ++ [mkS (tkT R).1]) a2 vs (by omega) (by omega) (by simp; omega) (by omega) g' (by
          rw [he, show n - k = (n - (k + 1)) + 1 by omega]; rfl)
        simpa using this
    · rw [bite_f (by simp; omega)]
      rw [show n - k = 0 by omega] at he
      exact page_Get_l11 lf n (by omega) (by omega) hn hQ pEnd hu f 0 H R none [] (by omega) (by omega) (by simp) g (by rw [he]; cases lf <;> rfl)

theorem page_Get_spec (hQ : GetQ s H0.length Q H0) : page_Get [.g (.str s)] H0 Q := by
  refine ⟨16, ?_⟩
  rw [page_Get_eq]
  have g0 : GI H0 (H0 ++ [.row true tTaker [.str (mkS (bs s))]]) H0.length (bs s) none [] none [] none [] :=
    ⟨List.prefix_append _ _, by simp, .inl ⟨rfl, rfl, rfl⟩, .inl ⟨rfl, rfl, rfl⟩, .inl ⟨rfl, rfl, rfl⟩, by simp, by simp, by simp, fun _ e => (by cases e), fun _ e => (by cases e), fun _ e => (by cases e), Nat.le_refl _⟩
  simp only [mkS_bs] at g0
  have g0' := g0
  rw [← mkS_bs s] at g0'
  refine page_taker_byte_spec (L := bs s) (by simp) ?_
  simp only [rG_g, dI_int]
  have g1 := g0'.turn (tkB (bs s)).2
  refine page_taker_byte_spec (L := (tkB (bs s)).2) g1.row ?_
  simp only [rG_g, dI_int]
  have g2 := g1.turn (tkB (tkB (bs s)).2).2
  have hn : mnI ((tkB (tkB (bs s)).2).1 : Int) 4 = (pN (bs s) : Int) := by
    simp [mnI, pN]; split <;> omega
  have hl : eqI ((tkB (bs s)).1 : Int) 1 = pLeaf (bs s) := by
    simp only [eqI_def, pLeaf]
    rw [Bool.eq_iff_iff]; simp; omega
  have hn4 : pN (bs s) ≤ 4 := by unfold pN; omega
  rw [hn, hl]
  have := page_Get_l5 (H0 := H0) (Q := Q) (s := s) (lt := H0.length) (pLeaf (bs s)) (pN (bs s)) hn4 hQ (parse (bs s)) (fun p' h1 h2 => by
    rw [← h2]; exact parse_text h1) 15 0 _ _ none [] none [] (by omega) (Nat.zero_le _) (by simp) (by simp) g2 rfl
  simpa using this
end
end Go.Am
namespace Go.Am

/-! images -/
abbrev IM := List (Int × ByteArray)
def imCells (xs : IM) : List GV := xs.flatMap fun x => [.int .i64 x.1, .str x.2]
theorem imCells_append (xs ys : IM) : imCells (xs ++ ys) = imCells xs ++ imCells ys := by simp [imCells]
theorem imCells_length (xs : IM) : (imCells xs).length = xs.length * 2 := by
  unfold imCells
  induction xs with
  | nil => rfl
  | cons c cs ih => simp [ih]; omega
theorem imCells_get {ps : IM} {i : Nat} (hi : i < ps.length) : (imCells ps)[i * 2]? = some (.int .i64 ps[i].1) ∧ (imCells ps)[i * 2 + 1]? = some (.str ps[i].2) := by
  unfold imCells
  induction ps generalizing i with
  | nil => simp at hi
  | cons c cs ih =>
    simp only [List.flatMap_cons]
    cases i with
    | zero => simp
    | succ i =>
      have := ih (i := i) (by simpa using hi)
      rw [List.getElem?_append_right (by simp; omega), List.getElem?_append_right (by simp; omega)]
      have e1 : (i + 1) * 2 - [GV.int .i64 c.1, GV.str c.2].length = i * 2 := by simp; omega
      have e2 : (i + 1) * 2 + 1 - [GV.int .i64 c.1, GV.str c.2].length = i * 2 + 1 := by simp; omega
      rw [e1, e2]
      simpa using this
structure Im (H : Hp) (a : Pl) (n : Nat) (ps : IM) : Prop where
  cells : cells? H a (n * 2) = some (imCells ps)
  len : ps.length = n
theorem Im.mono {H H' : Hp} (hp : H <+: H') {a : Pl} {n : Nat} {ps : IM} (h : Im H a n ps) : Im H' a n ps := ⟨cells_mono hp h.cells, h.len⟩
theorem Im.get {H : Hp} {a : Pl} {n : Nat} {ps : IM} (h : Im H a n ps) {i : Nat} (hi : i < ps.length) : ∃ l o, a = some (l, o) ∧ gt H l (o + i * 2) = some (.int .i64 ps[i].1) ∧ gt H l (o + i * 2 + 1) = some (.str ps[i].2) := by
  have hc := h.cells
  have hl := h.len
  cases a with
  | none => simp [cells?] at hc; omega
  | some q =>
    obtain ⟨l, o⟩ := q
    obtain ⟨k1, k2⟩ := imCells_get hi
    refine ⟨l, o, rfl, ?_, ?_⟩
    · rw [cells_get hc (by omega), k1]
    · rw [Nat.add_assoc, cells_get hc (by omega), k2]
theorem Own.im {H : Hp} {b : Nat} {t : TypeId} {a : Pl} {m : Nat} {ps : IM} (h : Own H b t a (m * 2) (imCells ps)) (hl : ps.length = m) : Im H a m ps := ⟨h.cells, hl⟩
theorem Im.get? {H : Hp} {a : Pl} {n : Nat} {ps : IM} (h : Im H a n ps) {i : Nat} {x : Int × ByteArray} (hi : ps[i]? = some x) : ∃ l o, a = some (l, o) ∧ gt H l (o + i * 2) = some (.int .i64 x.1) ∧ gt H l (o + i * 2 + 1) = some (.str x.2) := by
  obtain ⟨h1, h2⟩ := List.getElem?_eq_some_iff.1 hi
  obtain ⟨l, o, e, g1, g2⟩ := h.get h1
  rw [h2] at g1 g2
  exact ⟨l, o, e, g1, g2⟩

/-- a page's text, empty where it may not be -/
def ptext (p : Pg) : ByteArray := match mayB_ p with
  | true => text p
  | false => mkS []
def ptx (T : List Pg) (i : Nat) : ByteArray := ptext (T[i]?.getD noPg)
def imgs (T : List Pg) (k : Nat) : IM := (List.range k).map fun i : Nat => ((i : Int), ptx T i)
theorem imgs_succ (T : List Pg) (k : Nat) : imgs T (k + 1) = imgs T k ++ [((k : Int), ptx T k)] := by simp [imgs, List.range_succ]
@[simp] theorem imgs_length (T : List Pg) (k : Nat) : (imgs T k).length = k := by simp [imgs]
theorem imgs_get (T : List Pg) {k i : Nat} (h : i < k) : (imgs T k)[i]? = some ((i : Int), ptx T i) := by simp [imgs, h]
/-- what turned -/
def chg (S T : List Pg) (k : Nat) : IM := (List.range k).flatMap fun i : Nat => match decide (ptx S i = ptx T i) with
  | true => []
  | false => [((i : Int), ptx T i)]
theorem chg_same {S T : List Pg} {k : Nat} (h : ptx S k = ptx T k) : chg S T (k + 1) = chg S T k := by simp [chg, List.range_succ, h]
theorem chg_turn {S T : List Pg} {k : Nat} (h : ¬ ptx S k = ptx T k) : chg S T (k + 1) = chg S T k ++ [((k : Int), ptx T k)] := by simp [chg, List.range_succ, h]
theorem chg_le (S T : List Pg) : ∀ k, (chg S T k).length ≤ k
  | 0 => by simp [chg]
  | k + 1 => by
    have := chg_le S T k
    by_cases h : ptx S k = ptx T k
    · rw [chg_same h]; omega
    · rw [chg_turn h]; simp; omega
theorem chg_pre (S T : List Pg) : ∀ m k : Nat, chg S T k <+: chg S T (k + m)
  | 0, k => List.prefix_refl _
  | m + 1, k => (chg_pre S T m k).trans (show chg S T (k + m) <+: chg S T (k + m + 1) by
    by_cases h : ptx S (k + m) = ptx T (k + m)
    · rw [chg_same h]; exact List.prefix_refl _
    · rw [chg_turn h]; exact List.prefix_append _ _)
theorem chg_mem {S T : List Pg} : ∀ {k : Nat} {y : Int × ByteArray}, y ∈ chg S T k → ∃ i : Nat, i < k ∧ y = ((i : Int), ptx T i)
  | 0, y, h => by simp [chg] at h
  | k + 1, y, h => by
    by_cases e : ptx S k = ptx T k
    · rw [chg_same e] at h
      obtain ⟨i, h1, h2⟩ := chg_mem h
      exact ⟨i, by omega, h2⟩
    · rw [chg_turn e] at h
      rcases List.mem_append.1 h with q | q
      · obtain ⟨i, h1, h2⟩ := chg_mem q
        exact ⟨i, by omega, h2⟩
      · exact ⟨k, by omega, List.mem_singleton.1 q⟩
theorem chg_nil {S T : List Pg} : ∀ {k : Nat}, chg S T k = [] ↔ ∀ i, i < k → ptx S i = ptx T i
  | 0 => by simp [chg]
  | k + 1 => by
    by_cases e : ptx S k = ptx T k
    · rw [chg_same e, chg_nil]
      exact ⟨fun h i hi => by by_cases q : i = k; (subst q; exact e); exact h i (by omega), fun h i hi => h i (by omega)⟩
    · rw [chg_turn e]
      exact ⟨fun h => by simp at h, fun h => (e (h k (by omega))).elim⟩

/-- texts laid over texts -/
def lay (L : List ByteArray) (ys : IM) : List ByteArray := ys.foldl (fun L y => L.set y.1.toNat y.2) L
theorem lay_append (L : List ByteArray) (xs ys : IM) : lay L (xs ++ ys) = lay (lay L xs) ys := by simp [lay]
@[simp] theorem lay_length (ys : IM) : ∀ L : List ByteArray, (lay L ys).length = L.length := by
  induction ys with
  | nil => intro L; rfl
  | cons y ys ih => intro L; show (lay (L.set _ _) ys).length = _; rw [ih]; simp
theorem lay_chg (S T : List Pg) (n : Nat) : ∀ k : Nat, k ≤ n → ∀ i, i < n → (lay ((List.range n).map (ptx S)) (chg S T k))[i]? = some (if i < k then ptx T i else ptx S i)
  | 0, hk, i, hi => by simp [chg, lay, hi]
  | k + 1, hk, i, hi => by
    have ih := lay_chg S T n k (by omega) i hi
    by_cases e : ptx S k = ptx T k
    · rw [chg_same e, ih]
      by_cases q : i = k
      · subst q; simp [e]
      · congr 1
        by_cases q2 : i < k
        · rw [if_pos q2, if_pos (by omega)]
        · rw [if_neg q2, if_neg (by omega)]
    · rw [chg_turn e, lay_append]
      show ((lay ((List.range n).map (ptx S)) (chg S T k)).set ((k : Int)).toNat (ptx T k))[i]? = _
      rw [Int.toNat_natCast, List.getElem?_set]
      by_cases q : k = i
      · subst q
        rw [if_pos rfl, if_pos (by simp; omega), if_pos (by omega)]
      · rw [if_neg q, ih]
        congr 1
        by_cases q2 : i < k
        · rw [if_pos q2, if_pos (by omega)]
        · rw [if_neg q2, if_neg (by omega)]
theorem lay_all (S T : List Pg) (n : Nat) : lay ((List.range n).map (ptx S)) (chg S T n) = (List.range n).map (ptx T) := by
  apply List.ext_getElem?
  intro i
  by_cases h : i < n
  · rw [lay_chg S T n n (Nat.le_refl _) i h, if_pos h]; simp [h]
  · rw [List.getElem?_eq_none (by simp; omega), List.getElem?_eq_none (by simp; omega)]
theorem lay_imgs (T : List Pg) (n : Nat) : ∀ k : Nat, k ≤ n → ∀ (L : List ByteArray), L.length = n → ∀ i, i < k → (lay L (imgs T k))[i]? = some (ptx T i)
  | 0, hk, L, hL, i, hi => by omega
  | k + 1, hk, L, hL, i, hi => by
    rw [imgs_succ, lay_append]
    show ((lay L (imgs T k)).set ((k : Int)).toNat (ptx T k))[i]? = _
    rw [Int.toNat_natCast, List.getElem?_set]
    by_cases q : k = i
    · subst q
      rw [if_pos rfl, if_pos (by simp; omega)]
    · rw [if_neg q]
      exact lay_imgs T n k (by omega) L hL i (by omega)

/-! facts -/
theorem textL_le {p : Pg} (hm : MayP p) : (textL p).length ≤ 96 := by
  have h1 := ents_le hm.2 p.keys.length
  have h2 := hm.1
  have h3 := kids_le hm
  unfold textL; simp [hdr]; omega
theorem text_size (p : Pg) : (text p).size = (textL p).length := by simp [text]
theorem text_two (p : Pg) : 2 ≤ (text p).size := by simp [text, textL, hdr]
theorem text_ne (p : Pg) : text p ≠ mkS [] := fun e => by
  have := text_two p; rw [e] at this; exact absurd this (by decide)
theorem ptext_le (p : Pg) : (ptext p).size ≤ 96 := by
  unfold ptext
  cases h : mayB_ p with
  | true => exact (text_size p).symm ▸ textL_le ((mayB_iff p).1 h)
  | false => show (mkS []).size ≤ 96; decide
theorem nothing_no {p : Pg} (h : nothingB p = true) : p = noPg := by
  obtain ⟨u, l, ks, vs, is⟩ := p
  simp only [nothingB, Bool.and_eq_true, Bool.not_eq_true', List.isEmpty_iff] at h
  obtain ⟨rfl, rfl, rfl, rfl, rfl⟩ := h
  rfl
theorem mayB_no : mayB_ noPg = false := by
  cases h : mayB_ noPg with
  | false => rfl
  | true => have := ((mayB_iff _).1 h).2.used; cases this
/-- each page of a sound tree may be, or is none -/
theorem SF.page {T : List Pg} {st : WS} (s : SF T st) {i : Nat} {p : Pg} (hp : T[i]? = some p) : mayB_ p = true ∧ p.used = true ∨ p = noPg := by
  cases hu : p.used with
  | true => exact .inl ⟨(s.used hp hu).2.1, rfl⟩
  | false =>
    refine .inr ?_
    obtain ⟨hi, _⟩ := List.getElem?_eq_some_iff.1 hp
    rcases rest_at s.rest hi hp with q | q
    · exfalso
      have hl := s.len
      have hm : st.met[i]? = some true := by
        rw [List.getElem?_eq_getElem (by rw [s.metlen]; omega)] at q ⊢
        simpa using q
      rcases (walkD_met T _ _ _ _ _ _ _ s.walk).2.2 i hm with h | ⟨r, hr, h1, h2⟩
      · rw [ws0_met i (by omega)] at h; cases h
      · rw [hp] at hr; cases hr
        rw [((mayB_iff _).1 h1).2.used] at hu; cases hu
    · exact nothing_no q
end Go.Am
namespace Go.Am

section
variable {H : Hp} {Q : Post} {x : Pl} {n : Nat} {cs : List PC} {T : List Pg}
theorem sound_no {T : List Pg} (h : 0 < heightD T) : T.length = 48 := by obtain ⟨st, s⟩ := SF.of h; exact s.len

theorem diff_Images_spec (hT : Tr H x n cs T) (hQ1 : heightD T = 0 → ∀ H', H <+: H' → Q (.tup [.s (.sl none 0 2), .s (.int .i64 1500)]) H')
    (hQ2 : 0 < heightD T → ∀ a H', H <+: H' → Own H' H.length tImg a (48 * 2) (imCells (imgs T 48)) → Q (.tup [.s (.sl a 48 2), .s (.int .i64 0)]) H') : diff_Images [.agg [.sl x n 5]] H Q := by
  refine ⟨52, ?_⟩
  rw [diff_Images_eq]
  refine sound_Sound_spec hT fun H1 p1 => ?_
  simp only [rG_g, dB_bool]
  refine bite_of (fun e => hQ1 (by simp at e; omega) H1 p1) (fun e => ?_)
  have hs : 0 < heightD T := by simp at e; omega
  have hn : n = 48 := by rw [← hT.lenT]; exact sound_no hs
  subst hn
  have loop : ∀ (F k : Nat) (a : Pl) (H' : Hp), 48 - k < F → k ≤ 48 → H <+: H' → Own H' H.length tImg a (k * 2) (imCells (imgs T k)) → diff_Images.l5 F a k x 48 (nI 48) (k : Int) H' Q := by
    intro F
    induction F with
    | zero => intro k _ _ h; omega
    | succ F ih =>
      intro k a H' hF hk hp ho
      rw [diff_Images.l5_eq]
      by_cases hkn : k < 48
      · obtain ⟨l, o, c, p, rfl, hc, hpp, hpc, g0, g1, g2, g3, g4⟩ := (hT.mono hp).get hkn
        have etN : tN (k : Int) = k := rfl
        rw [bite_t (by simp; omega), chk_true]
        refine chk_of (by simp; omega) ?_
        rw [pS_some, etN, rdPage_of g0 g1 g2 g3 g4]
        have hpx : ptx T k = ptext p := by unfold ptx; rw [hpp]; rfl
        have cont : ∀ (H2 : Hp) (e : Int), H' <+: H2 → (rT (.tup [.s (.str (ptext p)), .s (.int .i64 e)]) fun c17 =>
            uR c17 fun q18 c19 =>
            rS q18 fun v20 =>
            dS v20 fun s21 =>
            uR c19 fun q22 c23 =>
            rS q22 fun v24 =>
            dI .i64 v24 fun i25 =>
            uE c23 (chk true (ap H2 76 2 24 a k [(.int .i64 (k : Int)), (.str s21)] 1 fun x26 n27 H28 =>
            diff_Images.l5 F x26 n27 (some (l, o)) 48 (nI 48) (wrapI .i64 ((k : Int) + 1)) H28 Q))) := by
          intro H2 e p2
          simp only [rT_tup, uR_cons, rS_s, dS_str, dI_int, uE_nil]
          rw [chk_true]
          refine ap_z (t := tImg) (by omega) (hp.trans p2) (ho.mono p2) (by rfl) (by unfold Lim; omega) fun a' H3 o3 e3 f3 => ?_
          rw [wrap_succ (by omega)]
          refine ih (k + 1) a' H3 (by omega) (by omega) e3.pre ?_
          rw [imgs_succ, imCells_append, hpx]
          exact o3
        refine page_Put_spec hpc (fun hm H2 p2 => ?_) (fun hm H2 p2 => ?_)
        · have : ptext p = mkS [] := by
            unfold ptext
            cases h : mayB_ p with
            | false => rfl
            | true => exact (hm ((mayB_iff p).1 h)).elim
          have := this ▸ cont H2 600 p2
          exact this
        · have : ptext p = text p := by unfold ptext; rw [(mayB_iff p).2 hm]
          have := this ▸ cont H2 0 p2
          exact this
      · obtain rfl : k = 48 := by omega
        rw [bite_f (by simp)]
        exact hQ2 hs a H' hp ho
  exact loop 51 0 none H1 (by omega) (by omega) p1 (.inl ⟨rfl, rfl, rfl⟩)

theorem diff_Changed_spec {y : Pl} {m : Nat} {ds : List PC} {S : List Pg} (hS : Tr H y m ds S) (hT : Tr H x n cs T) (hQ1 : (heightD S = 0 ∨ heightD T = 0) → ∀ H', H <+: H' → Q (.tup [.s (.sl none 0 2), .s (.int .i64 1500)]) H')
    (hQ2 : 0 < heightD S → 0 < heightD T → ∀ a k H', H <+: H' → Own H' H.length tImg a (k * 2) (imCells (chg S T 48)) → (chg S T 48).length = k → Q (.tup [.s (.sl a k 2), .s (.int .i64 0)]) H') : diff_Changed [.agg [.sl y m 5], .agg [.sl x n 5]] H Q := by
  refine ⟨52, ?_⟩
  rw [diff_Changed_eq]
  refine diff_Images_spec hS (fun h1 H1 p1 => ?_) (fun h1 a H1 p1 o1 => ?_)
  · simp only [rT_tup, uR_cons, rS_s, dL_sl, dI_int, uE_nil]
    refine diff_Images_spec (hT.mono p1) (fun h2 H2 p2 => ?_) (fun h2 b H2 p2 o2 => ?_)
    · simp only [rT_tup, uR_cons, rS_s, dL_sl, dI_int, uE_nil]
      rw [bite_t (by decide)]
      exact hQ1 (.inl h1) _ (p1.trans p2)
    · simp only [rT_tup, uR_cons, rS_s, dL_sl, dI_int, uE_nil]
      rw [bite_t (by decide)]
      exact hQ1 (.inl h1) _ (p1.trans p2)
  · simp only [rT_tup, uR_cons, rS_s, dL_sl, dI_int, uE_nil]
    refine diff_Images_spec (hT.mono p1) (fun h2 H2 p2 => ?_) (fun h2 b H2 p2 o2 => ?_)
    · simp only [rT_tup, uR_cons, rS_s, dL_sl, dI_int, uE_nil]
      rw [bite_f (by decide), bite_t (by decide)]
      exact hQ1 (.inr h2) _ (p1.trans p2)
    · simp only [rT_tup, uR_cons, rS_s, dL_sl, dI_int, uE_nil]
      rw [bite_f (by decide), bite_f (by decide)]
      have ha : Im H2 a 48 (imgs S 48) := (o1.mono p2).im (by simp)
      have hb : Im H2 b 48 (imgs T 48) := o2.im (by simp)
      have p02 := p1.trans p2
      have loop : ∀ (F k j : Nat) (c : Pl) (H' : Hp), 48 - k < F → k ≤ 48 → H2 <+: H' → Own H' H2.length tImg c (j * 2) (imCells (chg S T k)) → (chg S T k).length = j → diff_Changed.l7 F a 48 c j b 48 (nI 48) (k : Int) H' Q := by
        intro F
        induction F with
        | zero => intro k j _ _ h; omega
        | succ F ih =>
          intro k j c H' hF hk hp ho hj
          rw [diff_Changed.l7_eq]
          by_cases hkn : k < 48
          · obtain ⟨l, o, ea, q1, q2⟩ := (ha.mono hp).get? (imgs_get S hkn)
            obtain ⟨l', o', ea', q1', q2'⟩ := (hb.mono hp).get? (imgs_get T hkn)
            subst ea; subst ea'
            have etN : tN (k : Int) = k := rfl
            have hle := chg_le S T k
            rw [bite_t (by simp; omega), chk_true]
            refine chk_of (by simp; omega) ?_
            rw [pS_some, etN, rd_of q1', dI_int, rd_of q2', dS_str, chk_true]
            refine chk_of (by simp; omega) ?_
            rw [pS_some, rd_of q1, dI_int, rd_of q2, dS_str, wrap_succ (by omega)]
            by_cases e : ptx S k = ptx T k
            · rw [bite_f (by simp [e])]
              exact ih (k + 1) j c H' (by omega) (by omega) hp (by rw [chg_same e]; exact ho) (by rw [chg_same e]; exact hj)
            · rw [bite_t (by simp; exact fun q => e q.symm), chk_true]
              refine ap_z (t := tImg) (by omega) hp ho (by rfl) (by unfold Lim; omega) fun a' H3 o3 e3 f3 => ?_
              refine ih (k + 1) (j + 1) a' H3 (by omega) (by omega) e3.pre ?_ (by rw [chg_turn e]; simp [hj])
              rw [chg_turn e, imCells_append]
              exact o3
          · obtain rfl : k = 48 := by omega
            rw [bite_f (by simp)]
            exact hQ2 h1 h2 c j H' (p02.trans hp) (ho.base p02.length_le) hj
      exact loop 51 0 0 none H2 (by omega) (by omega) (List.prefix_refl _) (.inl ⟨rfl, rfl, rfl⟩) rfl

/-! pagers -/
def seqB (k : Int) : Bool := decide (1 ≤ k) && decide (k ≤ 2147483647)
theorem record_Seq_spec {k : Int} (hQ : Q (.g (.bool (seqB k))) H) : record_Seq [.g (.int .i64 k)] H Q := by
  refine ⟨1, ?_⟩
  rw [record_Seq_eq]
  unfold seqB at hQ
  refine bite_of (fun e => ?_) (fun e => ?_)
  · have : 1 ≤ k := by simpa using e
    rw [decide_eq_true this] at hQ
    simpa using hQ
  · have : ¬ 1 ≤ k := by simpa using e
    rw [decide_eq_false this] at hQ
    simpa using hQ
def headB (a b : Int) : Bool := decide (0 ≤ a) && (decide (a ≤ 2147483647) && seqB b)
theorem head_May_spec {a b : Int} (hQ : Q (.g (.bool (headB a b))) H) : head_May [.agg [.int .i64 a, .int .i64 b]] H Q := by
  refine ⟨1, ?_⟩
  rw [head_May_eq]
  unfold headB at hQ
  refine bite_of (fun e => ?_) (fun e => ?_)
  · have h1 : 0 ≤ a := by simpa using e
    rw [decide_eq_true h1, Bool.true_and] at hQ
    refine bite_of (fun e => ?_) (fun e => ?_)
    · have h2 : a ≤ 2147483647 := by simpa using e
      rw [decide_eq_true h2, Bool.true_and] at hQ
      refine record_Seq_spec ?_
      simp only [rG_g, dB_bool]
      exact hQ
    · have h2 : ¬ a ≤ 2147483647 := by simpa using e
      rw [decide_eq_false h2, Bool.false_and] at hQ
      exact hQ
  · have h1 : ¬ 0 ≤ a := by simpa using e
    rw [decide_eq_false h1, Bool.false_and] at hQ
    exact hQ
theorem index_string_loop0 {E : Nat → Sm} {p : ByteArray → Bool} {g : Nat} {H : Hp} (hE : ∀ (s : ByteArray) (Q : Post), Q (.g (.bool (p s))) H → E g [.g (.str s)] H Q)
    {Q : Post} {a : Pl} {n : Nat} {xs : List ByteArray} (h : Ss H a n xs) (hQ : ∀ i : Int, (0 ≤ i ↔ ∃ s ∈ xs, p s = true) → Q (.g (.int .i64 i)) H) :
    ∀ m k : Nat, xs.length - k = m → k ≤ xs.length → (∀ i, (hi : i < xs.length) → i < k → p xs[i] = false) → ∃ f, slices_IndexFunc__string_string.l2 E f a n g [] (nI n) (k : Int) H Q := by
  intro m
  have hn := h.len
  have hlim := h.lim
  induction m with
  | zero =>
    intro k hm hle hk
    refine ⟨1, ?_⟩
    rw [slices_IndexFunc__string_string.l2_eq, show ltI (k : Int) (nI n) = false by simp; omega, bite_false]
    refine hQ _ ⟨fun q => by omega, fun ⟨s, hs, hp⟩ => ?_⟩
    obtain ⟨i, hi, rfl⟩ := List.getElem_of_mem hs
    rw [hk i hi (by omega)] at hp; cases hp
  | succ m ih =>
    intro k hm hle hk
    have hkn : k < xs.length := by omega
    have hlt : ltI (k : Int) (nI n) = true := by simp; omega
    cases hs : p xs[k] with
    | false =>
      obtain ⟨f, hf⟩ := ih (k + 1) (by omega) (by omega) (fun i hi hik => by
        by_cases e : i = k
        · subst e; exact hs
        · exact hk i hi (by omega))
      refine ⟨f + 1, ?_⟩
      rw [slices_IndexFunc__string_string.l2_eq, bite_t hlt, chk_true, h.rd k rfl hkn]
      refine hE _ _ ?_
      rw [rG_g, dB_bool, hs, bite_false, wrap_succ (by omega)]
      exact hf
    | true =>
      refine ⟨1, ?_⟩
      rw [slices_IndexFunc__string_string.l2_eq, bite_t hlt, chk_true, h.rd k rfl hkn]
      refine hE _ _ ?_
      rw [rG_g, dB_bool, hs, bite_true]
      exact hQ _ ⟨fun _ => ⟨_, List.getElem_mem hkn, hs⟩, fun _ => by omega⟩
def longB (L : List ByteArray) : Bool := L.any fun s => decide (96 < s.size)
def planB (z0 z1 z2 z3 : Int) (L : List ByteArray) : Bool := headB z0 z1 && (seqB z2 && (decide (0 ≤ z3) && (decide (z3 ≤ 200) && (decide (L.length = 48) && !longB L))))
theorem plan_May_1_spec {s : ByteArray} (hQ : Q (.g (.bool (decide (96 < s.size)))) H) : plan_May_1 [.g (.str s)] H Q := by
  refine ⟨1, ?_⟩
  rw [plan_May_1_eq]
  have : ltI 96 (sz s) = decide (96 < s.size) := by rw [Bool.eq_iff_iff]; simp; omega
  rw [this]; exact hQ
theorem plan_May_spec {z0 z1 z2 z3 : Int} {a : Pl} {n : Nat} {L : List ByteArray} (h : Ss H a n L) (hQ : Q (.g (.bool (planB z0 z1 z2 z3 L))) H) : plan_May [.agg [.int .i64 z0, .int .i64 z1, .int .i64 z2, .int .i64 z3, .sl a n 1]] H Q := by
  have hl := h.len
  refine ⟨1, ?_⟩
  rw [plan_May_eq]
  unfold planB at hQ
  refine head_May_spec ?_
  simp only [rG_g, dB_bool]
  cases e1 : headB z0 z1 with
  | false => rw [bite_false]; rw [e1, Bool.false_and] at hQ; exact hQ
  | true =>
    rw [bite_true]
    rw [e1, Bool.true_and] at hQ
    refine record_Seq_spec ?_
    simp only [rG_g, dB_bool]
    cases e2 : seqB z2 with
    | false => rw [bite_false]; rw [e2, Bool.false_and] at hQ; exact hQ
    | true =>
      rw [bite_true]
      rw [e2, Bool.true_and] at hQ
      refine bite_of (fun e => ?_) (fun e => by rw [decide_eq_false (by simpa using e), Bool.false_and] at hQ; exact hQ)
      rw [decide_eq_true (by simpa using e), Bool.true_and] at hQ
      refine bite_of (fun e => ?_) (fun e => by rw [decide_eq_false (by simpa using e), Bool.false_and] at hQ; exact hQ)
      rw [decide_eq_true (by simpa using e), Bool.true_and] at hQ
      refine bite_of (fun e => ?_) (fun e => by rw [decide_eq_false (by simp at e; omega), Bool.false_and] at hQ; exact hQ)
      rw [decide_eq_true (by simp at e; omega), Bool.true_and] at hQ
      refine ⟨1, ?_⟩
      rw [slices_ContainsFunc__string_string_eq]
      obtain ⟨k, hk⟩ := index_string_loop0 (E := dynOf [(92, plan_May_1)]) (p := fun s => decide (96 < s.size)) (g := 92) (H := H)
        (fun s Q hQ => by rw [dynOf_hit]; exact plan_May_1_spec hQ) (Q := fun r H1 => rG r fun v2 => dI .i64 v2 fun i3 => rG (.g (.bool (leI 0 i3))) fun v2 => dB v2 fun b3 => Q (.g (.bool (!b3))) H1) h
        (fun i hi => by
          simp only [rG_g, dI_int, dB_bool]
          have : leI 0 i = longB L := by
            unfold longB
            rw [Bool.eq_iff_iff, List.any_eq_true]
            simpa using hi
          rw [this]; exact hQ) _ 0 rfl (Nat.zero_le _) (fun i hi h => by omega)
      exact ⟨k + 1, by rw [slices_IndexFunc__string_string_eq]; exact hk⟩
theorem ref1_Blank_spec (hQ : ∀ H', H' = H ++ [.row true tS ((List.replicate 48 (mkS [])).map GV.str)] → Q (.agg [.int .i64 0, .int .i64 1, .int .i64 1, .int .i64 0, .sl (some (H.length, 0)) 48 1]) H') : ref1_Blank [] H Q := by
  refine ⟨1, ?_⟩
  rw [ref1_Blank_eq]
  exact hQ _ rfl
end
end Go.Am
namespace Go.Am

/-- the page of a text -/
def pgOf (s : ByteArray) : Option Pg := match decide (s = mkS []) with
  | true => some noPg
  | false => match mayB_ (parse (bs s)) && decide (text (parse (bs s)) = s) with
    | true => some (parse (bs s))
    | false => none
def pgsOf : List ByteArray → Option (List Pg)
  | [] => some []
  | s :: r => match pgOf s with
    | none => none
    | some p => match pgsOf r with
      | none => none
      | some P => some (p :: P)
def emptyB (L : List ByteArray) : Bool := L.all fun s => decide (s = mkS [])
def endT (b : Bool) (T : List Pg) : Option (List Pg) := match b with
  | true => some newT
  | false => match decide (0 < heightD T) with
    | true => some T
    | false => none
def goT (b : Bool) (T0 : List Pg) (L : List ByteArray) : Option (List Pg) := match pgsOf L with
  | none => none
  | some P => endT (b && emptyB L) (T0 ++ P)
def treeR (z0 z1 z2 z3 : Int) (L : List ByteArray) : Option (List Pg) := match planB z0 z1 z2 z3 L with
  | false => none
  | true => goT true [] L
theorem pgOf_empty : pgOf (mkS []) = some noPg := by unfold pgOf; rw [decide_eq_true rfl]
theorem pgOf_text {p : Pg} (h : MayP p) : pgOf (text p) = some p := by
  have e : parse (bs (text p)) = p := parse_text h
  unfold pgOf
  rw [decide_eq_false (text_ne p), e, (mayB_iff p).2 h, decide_eq_true rfl]
  rfl
theorem pgOf_none {s : ByteArray} (h : s ≠ mkS []) (hn : ∀ p, MayP p → text p ≠ s) : pgOf s = none := by
  unfold pgOf
  rw [decide_eq_false h]
  cases e : mayB_ (parse (bs s)) && decide (text (parse (bs s)) = s) with
  | false => rfl
  | true =>
    rw [Bool.and_eq_true, decide_eq_true_eq] at e
    exact (hn _ ((mayB_iff _).1 e.1) e.2).elim
theorem goT_cons {b : Bool} {T0 : List Pg} {s : ByteArray} {p : Pg} {L : List ByteArray} (h : pgOf s = some p) : goT b T0 (s :: L) = goT (b && decide (s = mkS [])) (T0 ++ [p]) L := by
  unfold goT
  simp only [pgsOf, h]
  cases e : pgsOf L with
  | none => rfl
  | some P => simp [emptyB, Bool.and_assoc]
theorem goT_bad {b : Bool} {T0 : List Pg} {s : ByteArray} {L : List ByteArray} (h : pgOf s = none) : goT b T0 (s :: L) = none := by
  unfold goT; simp only [pgsOf, h]

theorem PgOwn.pc {H : Hp} {b : Nat} {u l : Bool} {a1 : Pl} {n1 : Nat} {a2 : Pl} {n2 : Nat} {a3 : Pl} {n3 : Nat} {p : Pg} (h : PgOwn H b u l a1 n1 a2 n2 a3 n3 p) : (⟨u, l, a1, n1, a2, n2, a3, n3⟩ : PC).own H b p :=
  ⟨h.used, h.leaf, h.keys, h.vals, h.kids, fun l o o' e1 e2 => h.d12 l (h.keys.zero e1) (h.vals.zero e2), fun l o o' e1 e2 => h.d13 l (h.keys.zero e1) (h.kids.zero e2), fun l o o' e1 e2 => h.d23 l (h.vals.zero e1) (h.kids.zero e2)⟩
theorem Own.ge {H : Hp} {b : Nat} {t : TypeId} {a : Pl} {n : Nat} {cs : List GV} (h : Own H b t a n cs) {l o : Nat} (e : a = some (l, o)) : b ≤ l := by
  rcases h with ⟨q, _⟩ | ⟨m, q, hb, _⟩
  · rw [q] at e; cases e
  · rw [q] at e; cases e; exact hb
theorem PgOwn.fresh {H : Hp} {b : Nat} {u l : Bool} {a1 : Pl} {n1 : Nat} {a2 : Pl} {n2 : Nat} {a3 : Pl} {n3 : Nat} {p : Pg} (h : PgOwn H b u l a1 n1 a2 n2 a3 n3 p) : ∀ m, (⟨u, l, a1, n1, a2, n2, a3, n3⟩ : PC).on m → b ≤ m := by
  rintro m ⟨o, e | e | e⟩
  · exact h.keys.ge e
  · exact h.vals.ge e
  · exact h.kids.ge e

section
variable {H : Hp} {Q : Post} {x : Pl} {n : Nat} {L : List ByteArray} {z0 z1 z2 z3 : Int}
theorem new_ct {H0 H : Hp} {x0 : Nat} (h0 : H0 <+: H) (h : OT H H0.length tPg (some (x0, 0)) 48 newC newT) : CT H0 H tPg (some (x0, 0)) 48 newC newT := by
  refine ⟨h0, h, fun i h1 h2 => ?_, fun i j hi hj _ l hl => (newC_off _ (List.getElem_mem hi) l hl).elim⟩
  rw [newC_get i h1, newT_get i h2]
  by_cases e : i = 0
  · rw [if_pos e, if_pos e]
    exact ⟨rfl, rfl, .inl ⟨rfl, rfl, rfl⟩, .inl ⟨rfl, rfl, rfl⟩, .inl ⟨rfl, rfl, rfl⟩, fun _ _ _ q => (by cases q), fun _ _ _ q => (by cases q), fun _ _ _ q => (by cases q)⟩
  · rw [if_neg e, if_neg e]
    exact ⟨rfl, rfl, .inl ⟨rfl, rfl, rfl⟩, .inl ⟨rfl, rfl, rfl⟩, .inl ⟨rfl, rfl, rfl⟩, fun _ _ _ q => (by cases q), fun _ _ _ q => (by cases q), fun _ _ _ q => (by cases q)⟩

theorem diff_Tree_spec (h : Ss H x n L) (hQ1 : treeR z0 z1 z2 z3 L = none → ∀ H', H <+: H' → Q (.tup [.a [.sl none 0 5], .s (.int .i64 1500)]) H')
    (hQ2 : ∀ T, treeR z0 z1 z2 z3 L = some T → ∀ a ds H', CT H H' tPg a 48 ds T → Q (.tup [.a [.sl a 48 5], .s (.int .i64 0)]) H') :
    diff_Tree [.agg [.int .i64 z0, .int .i64 z1, .int .i64 z2, .int .i64 z3, .sl x n 1]] H Q := by
  have hl := h.len
  refine ⟨n + n + 4, ?_⟩
  rw [diff_Tree_eq]
  refine plan_May_spec h ?_
  simp only [rG_g, dB_bool]
  unfold treeR at hQ1 hQ2
  cases ep : planB z0 z1 z2 z3 L with
  | false =>
    rw [bite_t (b := !false) rfl]
    rw [ep] at hQ1
    exact hQ1 rfl H (List.prefix_refl _)
  | true =>
    rw [bite_f (b := !true) rfl]
    rw [ep] at hQ1 hQ2
    simp only at hQ1 hQ2
    have hn : n = 48 := by
      unfold planB at ep
      simp only [Bool.and_eq_true, decide_eq_true_eq] at ep
      omega
    subst hn
    have loop : ∀ (F k : Nat) (b : Bool) (T0 : List Pg) (ds : List PC) (a : Pl) (H' : Hp), (48 - k) + (48 - k) < F → k ≤ 48 → CT H H' tPg a k ds T0 → goT b T0 (L.drop k) = goT true [] L →
        diff_Tree.l5 F none 0 a k b x 48 (nI 48) (k : Int) H' Q := by
      intro F
      induction F using Nat.strongRecOn with
      | _ F ih =>
      intro k b T0 ds a H' hF hk g hg
      obtain ⟨F, rfl⟩ : ∃ G, F = G + 1 := ⟨F - 1, by omega⟩
      rw [diff_Tree.l5_eq]
      have hp := g.pre
      by_cases hkn : k < 48
      · have hkL : k < L.length := by omega
        rw [bite_t (by simp; omega), chk_true, (h.mono hp).rd k rfl hkL]
        rw [List.drop_eq_getElem_cons hkL] at hg
        -- behind the text
        have next : ∀ (b' : Bool) (d : PC) (p : Pg) (H2 : Hp), H' <+: H2 → PgOwn H2 H'.length d.u d.l d.a1 d.n1 d.a2 d.n2 d.a3 d.n3 p → goT b' (T0 ++ [p]) (L.drop (k + 1)) = goT true [] L →
            diff_Tree.l11 F none 0 a k b' d.u d.l d.a1 d.n1 d.a2 d.n2 d.a3 d.n3 0 x 48 (nI 48) (k : Int) H2 Q := by
          intro b' d p H2 p2 o2 g2
          obtain ⟨F, rfl⟩ : ∃ G, F = G + 1 := ⟨F - 1, by omega⟩
          rw [diff_Tree.l11_eq, bite_f (by decide), chk_true]
          refine g.add (d := d) p2 o2.at o2.pc o2.fresh (by unfold Lim; omega) fun a' H3 g3 => ?_
          rw [wrap_succ (by omega)]
          exact ih F (by omega) (k + 1) b' _ _ a' H3 (by omega) (by omega) g3 g2
        by_cases es : L[k] = mkS []
        · rw [bite_f (by simp [es])]
          refine next b ⟨false, false, none, 0, none, 0, none, 0⟩ noPg H' (List.prefix_refl _) (noPg_own _ _) ?_
          rw [← hg, goT_cons (p := noPg) (by rw [es]; exact pgOf_empty), decide_eq_true es, Bool.and_true]
        · rw [bite_t (by simpa using es)]
          refine page_Get_spec fun u l a1 n1 a2 n2 a3 n3 p e H2 p2 o2 hc => ?_
          simp only [rT_tup, uR_cons, rC_a, uC_cons, dB_bool, dL_sl, uN_nil, rS_s, dI_int, uE_nil]
          rcases hc with ⟨rfl, hm, ht⟩ | ⟨rfl, rfl, hno⟩
          · refine next false ⟨u, l, a1, n1, a2, n2, a3, n3⟩ p H2 p2 o2 ?_
            rw [← hg, goT_cons (p := p) (by rw [← ht]; exact pgOf_text hm), decide_eq_false es, Bool.and_false]
          · obtain ⟨F, rfl⟩ : ∃ G, F = G + 1 := ⟨F - 1, by omega⟩
            rw [diff_Tree.l11_eq, bite_t (by decide)]
            refine hQ1 ?_ H2 (hp.trans p2)
            rw [← hg]
            exact goT_bad (pgOf_none es hno)
      · obtain rfl : k = 48 := by omega
        rw [bite_f (by simp)]
        have e0 : goT b T0 (L.drop 48) = endT b T0 := by
          rw [List.drop_of_length_le (by omega)]
          simp [goT, pgsOf, emptyB]
        rw [e0] at hg
        cases b with
        | true =>
          rw [bite_t rfl]
          refine sound_New_spec fun H2 p2 o2 => ?_
          simp only [rA_agg, uC_cons, dL_sl, uN_nil]
          have ct := new_ct (hp.trans p2) (o2.base hp.length_le)
          exact hQ2 newT (by rw [← hg]; rfl) _ _ H2 ct
        | false =>
          rw [bite_f rfl]
          refine sound_Sound_spec g.ot.tr fun H2 p2 => ?_
          simp only [rG_g, dB_bool]
          simp only [endT] at hg
          refine bite_of (fun e => hQ1 ?_ H2 (hp.trans p2)) (fun e => hQ2 T0 ?_ a ds H2 (g.mono p2))
          · rw [← hg, decide_eq_false (by simpa using e)]
          · rw [← hg, decide_eq_true (by simpa using e)]
    exact loop (48 + 48 + 3) 0 true [] [] none H (by omega) (by omega) (CT.nil H tPg) rfl
end
end Go.Am
namespace Go.Am

theorem pgsOf_map {P : List Pg} (h : ∀ p ∈ P, mayB_ p = true ∨ p = noPg) : pgsOf (P.map ptext) = some P := by
  induction P with
  | nil => rfl
  | cons p P ih =>
    have e : pgOf (ptext p) = some p := by
      rcases h p (by simp) with q | rfl
      · have : ptext p = text p := by unfold ptext; rw [q]
        rw [this]; exact pgOf_text ((mayB_iff p).1 q)
      · have : ptext noPg = mkS [] := by unfold ptext; rw [mayB_no]
        rw [this]; exact pgOf_empty
    simp only [List.map_cons, pgsOf, e, ih fun p hp => h p (by simp [hp])]
theorem ptx_map {T : List Pg} : (List.range T.length).map (ptx T) = T.map ptext := by
  apply List.ext_getElem?
  intro i
  by_cases h : i < T.length
  · simp [h, ptx]
  · rw [List.getElem?_eq_none (by simp; omega), List.getElem?_eq_none (by simp; omega)]
section
variable {T : List Pg}
def txs (T : List Pg) : List ByteArray := (List.range 48).map (ptx T)
@[simp] theorem txs_length : (txs T).length = 48 := by simp [txs]
theorem sound_pages (h : 0 < heightD T) : ∀ p ∈ T, mayB_ p = true ∨ p = noPg := fun p hp => by
  obtain ⟨st, s⟩ := SF.of h
  obtain ⟨i, hi, e⟩ := List.getElem_of_mem hp
  rcases s.page (List.getElem?_eq_some_iff.2 ⟨hi, e⟩) with q | q
  · exact .inl q.1
  · exact .inr q
theorem sound_pgs (h : 0 < heightD T) : pgsOf (txs T) = some T := by
  have hl := sound_no h
  have : txs T = T.map ptext := by unfold txs; rw [← hl]; exact ptx_map
  rw [this]
  exact pgsOf_map (sound_pages h)
theorem sound_root (h : 0 < heightD T) : ptx T 0 ≠ mkS [] := by
  obtain ⟨st, s⟩ := SF.of h
  have hm := (walkD_met T _ _ _ _ _ _ _ s.walk)
  rcases hm.2.2 0 hm.2.1 with q | ⟨p, hp, h1, _⟩
  · rw [ws0_met 0 (by omega)] at q; cases q
  · unfold ptx
    rw [hp, Option.getD_some]
    unfold ptext
    rw [h1]
    exact text_ne p
theorem emptyB_get {L : List ByteArray} {i : Nat} {s : ByteArray} (h : L[i]? = some s) (hs : s ≠ mkS []) : emptyB L = false := by
  cases e : emptyB L with
  | false => rfl
  | true =>
    unfold emptyB at e
    rw [List.all_eq_true] at e
    obtain ⟨hi, rfl⟩ := List.getElem?_eq_some_iff.1 h
    have := e _ (List.getElem_mem hi)
    simp at this
    exact (hs this).elim
theorem txs_get {i : Nat} (h : i < 48) : (txs T)[i]? = some (ptx T i) := by simp [txs, h]
theorem txs_plan {L : List ByteArray} (hl : L.length = 48) (hs : ∀ s ∈ L, s.size ≤ 96) : planB 0 1 1 0 L = true := by
  have : longB L = false := by
    unfold longB
    rw [List.any_eq_false]
    intro s h
    have := hs s h
    simp; omega
  unfold planB
  rw [this, decide_eq_true hl]
  decide
theorem txs_le : ∀ s ∈ txs T, s.size ≤ 96 := fun s hs => by
  simp only [txs, List.mem_map] at hs
  obtain ⟨i, _, rfl⟩ := hs
  exact ptext_le _
theorem treeR_sound (h : 0 < heightD T) : treeR 0 1 1 0 (txs T) = some T := by
  unfold treeR
  rw [txs_plan txs_length txs_le]
  simp only [goT]
  rw [sound_pgs h, emptyB_get (txs_get (i := 0) (by omega)) (sound_root h)]
  show (match decide (0 < heightD T) with | true => some T | false => none) = some T
  rw [decide_eq_true h]
theorem treeR_blank : treeR 0 1 1 0 (List.replicate 48 (mkS [])) = some newT := by
  unfold treeR
  rw [txs_plan (by simp) (fun s hs => by rw [List.eq_of_mem_replicate hs]; decide)]
  have e : ∀ n, pgsOf (List.replicate n (mkS [])) = some (List.replicate n noPg) := by
    intro n
    induction n with
    | zero => rfl
    | succ n ih => simp only [List.replicate_succ, pgsOf, pgOf_empty, ih]
  have e2 : emptyB (List.replicate 48 (mkS [])) = true := by unfold emptyB; rw [List.all_eq_true]; intro s hs; rw [List.eq_of_mem_replicate hs]; simp
  simp only [goT]
  rw [e, e2]
  rfl
theorem treeR_zero : treeR 0 0 0 0 [] = none := rfl
theorem txs_inj {S : List Pg} (h1 : 0 < heightD S) (h2 : 0 < heightD T) (h : ∀ i, i < 48 → ptx S i = ptx T i) : S = T := by
  have e : txs S = txs T := by unfold txs; exact List.map_congr_left fun i hi => h i (List.mem_range.1 hi)
  have := sound_pgs h1
  rw [e, sound_pgs h2] at this
  exact (Option.some.inj this).symm
theorem chg_same_iff {S : List Pg} (h1 : 0 < heightD S) (h2 : 0 < heightD T) : chg S T 48 = [] ↔ S = T :=
  ⟨fun e => txs_inj h1 h2 (chg_nil.1 e), fun e => chg_nil.2 fun i _ => by rw [e]⟩
theorem sound_used (h : 0 < heightD T) {i : Nat} {p : Pg} (hp : T[i]? = some p) : (ptx T i ≠ mkS []) ↔ p.used = true := by
  obtain ⟨st, s⟩ := SF.of h
  unfold ptx
  rw [hp, Option.getD_some]
  unfold ptext
  rcases s.page hp with ⟨q, hu⟩ | rfl
  · rw [q]; exact ⟨fun _ => hu, fun _ => text_ne p⟩
  · rw [mayB_no]; exact ⟨fun q => (q rfl).elim, fun q => (by cases q)⟩
end

def awT : List Pg := buildD [(mkS [97], mkS [49])]
theorem h_newT : heightD newT = 1 := by decide +kernel
theorem h_aw : heightD awT = 1 := by decide +kernel
theorem chg_aw : chg newT awT 48 = [(0, mkS [1, 1, 1, 97, 1, 49])] := by decide +kernel
theorem img_new0 : ptx newT 0 = mkS [1, 0] := by decide +kernel
theorem img_new1 : ptx newT 1 = mkS [] := by decide +kernel
theorem ent_new : entD newT = [] := by decide +kernel

section
variable {H : Hp} {Q : Post}
theorem law0_SameImages_spec {a1 a2 : Pl} {n1 n2 : Nat} {xs ys : IM} (h1 : Im H a1 n1 xs) (h2 : Im H a2 n2 ys) (hn : n1 ≤ 100000) (hQ : ∀ b, (b = true ↔ xs = ys) → Q (.g (.bool b)) H) : law0_SameImages [.g (.sl a1 n1 2), .g (.sl a2 n2 2)] H Q := by
  have l1 := h1.len
  have l2 := h2.len
  refine ⟨n1 + 2, ?_⟩
  rw [law0_SameImages_eq]
  refine bite_of (fun e => hQ false ⟨fun q => (by cases q), fun q => ?_⟩) (fun e => ?_)
  · subst q
    simp at e; omega
  have hnn : n1 = n2 := by simp at e; omega
  have loop : ∀ (F i : Nat), n1 - i < F → i ≤ n1 → (∀ j (h : j < xs.length) (h' : j < ys.length), j < i → xs[j] = ys[j]) → law0_SameImages.l4 F a1 n1 a2 n2 (i : Int) H Q := by
    intro F
    induction F with
    | zero => intro i h; omega
    | succ F ih =>
      intro i hF hi he
      rw [law0_SameImages.l4_eq]
      by_cases hik : i < n1
      · obtain ⟨l, o, ea, q1, q2⟩ := h1.get (i := i) (by omega)
        obtain ⟨l', o', ea', q1', q2'⟩ := h2.get (i := i) (by omega)
        subst ea; subst ea'
        have etN : tN (i : Int) = i := rfl
        rw [bite_t (by simp; omega), chk_true]
        refine chk_of (by simp; omega) ?_
        rw [pS_some, etN, rd_of q1, dI_int, rd_of q2, dS_str, chk_true]
        refine chk_of (by simp; omega) ?_
        rw [pS_some, rd_of q1', dI_int, rd_of q2', dS_str]
        refine bite_of (fun e => hQ false ⟨fun q => (by cases q), fun q => ?_⟩) (fun e => ?_)
        · subst q; simp at e
        · rw [wrap_succ (by omega)]
          refine ih (i + 1) (by omega) (by omega) fun j h h' hj => ?_
          by_cases ej : j = i
          · subst ej
            simp at e
            exact Prod.ext e.1 e.2
          · exact he j h h' (by omega)
      · rw [bite_f (by simp; omega)]
        exact hQ true ⟨fun _ => List.ext_getElem (by omega) fun j h h' => he j h h' (by omega), fun _ => rfl⟩
  exact loop (n1 + 1) 0 (by omega) (by omega) fun j _ _ h => by omega

set_option maxRecDepth 100000 in
theorem law15_awake_spec (hQ : ∀ H', H <+: H' → Q (.g (.bool true)) H') : law15_awake [] H Q := by
  refine ⟨1, ?_⟩
  rw [law15_awake_eq]
  simp only [pu_def, ln_def]
  refine ref9_New_spec fun H1 p1 oT => ?_
  simp only [rA_agg, uC_cons, dL_sl, uN_nil]
  have hins : insE newT (mkS [97]) (mkS [49]) = 0 := by decide +kernel
  refine ref9_Insert_spec oT.tr (by omega) (fun H2 hne p2 => (hne hins).elim) (fun _ _ x cs A H2 p2 hA hI => ?_)
  have eA : A = awT := by
    have := hI.anew (by rw [ent_new]; rfl)
    rw [ent_new] at this
    exact this
  subst eA
  simp only [rT_tup, uR_cons, rC_a, uC_cons, dL_sl, uN_nil, rS_s, dI_int, uE_nil]
  have hN : ∀ {H'}, H1 <+: H' → Tr H' _ _ _ newT := fun p => oT.tr.mono p
  have n1 : 0 < heightD newT := by rw [h_newT]; omega
  have n2 : 0 < heightD awT := by rw [h_aw]; omega
  refine diff_Images_spec (hN p2) (fun e => by omega) (fun _ a H3 p3 o3 => ?_)
  simp only [rT_tup, uR_cons, rS_s, dL_sl, dI_int, uE_nil]
  refine diff_Changed_spec (hN (p2.trans p3)) (hA.mono p3) (fun e => by omega) (fun _ _ b k H4 p4 o4 l4 => ?_)
  simp only [rT_tup, uR_cons, rS_s, dL_sl, dI_int, uE_nil]
  refine ref1_Blank_spec fun H5 e5 => ?_
  simp only [rA_agg, uC_cons, dL_sl, dI_int, uN_nil]
  have p5 : H4 <+: H5 := e5 ▸ List.prefix_append _ _
  have hB : Ss H5 (some (H4.length, 0)) 48 (List.replicate 48 (mkS [])) := by
    subst e5
    exact ⟨by simp [cells?], by simp, by omega⟩
  refine diff_Tree_spec hB (fun e => by rw [treeR_blank] at e; cases e) (fun T eT c ds H6 g => ?_)
  rw [treeR_blank] at eT
  obtain rfl := Option.some.inj eT
  simp only [rT_tup, uR_cons, rC_a, uC_cons, dL_sl, uN_nil, rS_s, dI_int, uE_nil]
  have p6 := g.pre
  refine diff_Images_spec (tr_nil H6) (fun _ H7 p7 => ?_) (fun e => absurd e (by decide +kernel))
  simp only [rT_tup, uR_cons, rS_s, dL_sl, dI_int, uE_nil]
  refine diff_Tree_spec (L := []) (⟨rfl, rfl, by omega⟩) (fun _ H8 p8 => ?_) (fun T e => by rw [treeR_zero] at e; cases e)
  simp only [rT_tup, uR_cons, rC_a, uC_cons, dL_sl, uN_nil, rS_s, dI_int, uE_nil]
  have p38 : H3 <+: H8 := p4.trans (p5.trans (p6.trans (p7.trans p8)))
  have p48 : H4 <+: H8 := p5.trans (p6.trans (p7.trans p8))
  have im : Im H8 a 48 (imgs newT 48) := (o3.mono p38).im (by simp)
  obtain ⟨l, o, ea, q1, q2⟩ := im.get? (imgs_get newT (i := 0) (by omega))
  obtain ⟨l', o', ea', q1', q2'⟩ := im.get? (imgs_get newT (i := 1) (by omega))
  rw [ea] at ea'
  obtain ⟨rfl, rfl⟩ : l = l' ∧ o = o' := by cases ea'; exact ⟨rfl, rfl⟩
  subst ea
  rw [bite_f (by decide), chk_true]
  refine chk_of (by decide) ?_
  have et0 : tN 0 = 0 := rfl
  have et1 : tN 1 = 1 := rfl
  rw [pS_some, et0, rd_of q2, dS_str, img_new0, bite_t (by simp), chk_true]
  refine chk_of (by decide) ?_
  rw [pS_some, et1, rd_of q2', dS_str, img_new1, bite_t (by simp)]
  refine law0_Num_spec ?_
  simp only [rG_g, dI_int]
  rw [bite_t (by decide)]
  rw [chg_aw] at o4 l4
  have p9 : H8 <+: H8 ++ [.row false 0 [(.int .i64 0), (.str (mkS [1, 1, 1, 97, 1, 49]))]] := List.prefix_append _ _
  refine law0_SameImages_spec ((o4.mono (p48.trans p9)).im l4) (a2 := some (H8.length, 0)) (n2 := 1) (ys := [(0, mkS [1, 1, 1, 97, 1, 49])]) ⟨by simp [cells?, imCells], rfl⟩ (by simp at l4; omega) fun b hb => ?_
  simp only [rG_g, dB_bool]
  rw [bite_t (hb.2 rfl)]
  refine law0_Num_spec ?_
  simp only [rG_g, dI_int]
  rw [bite_t (by decide)]
  have p69 : H6 <+: H8 ++ [.row false 0 [(.int .i64 0), (.str (mkS [1, 1, 1, 97, 1, 49]))]] := p7.trans (p8.trans p9)
  have p19 := p2.trans (p3.trans (p38.trans p9))
  refine law0_SameTree_spec (g.ot.tr.mono p69) (hN p19) (by omega) fun b hb => ?_
  simp only [rG_g, dB_bool]
  rw [bite_t (hb.2 rfl)]
  refine law0_Num_spec ?_
  simp only [rG_g, dI_int]
  rw [bite_t (by decide)]
  refine law0_Num_spec ?_
  simp only [rG_g, dI_int]
  rw [bite_t (by decide)]
  refine law0_Num_spec ?_
  simp only [rG_g, dI_int]
  exact hQ _ (p1.trans p19)
end
end Go.Am
namespace Go.Am

section
variable {H : Hp} {Q : Post}
/-- a row of texts of one's own, one text turned -/
theorem txt_set {G : Hp} {l j : Nat} {X : List ByteArray} {s : ByteArray} {K : Hp → Prop} (hr : G[l]? = some (.row true tS (X.map GV.str))) (hj : j < X.length) (hK : K (G.set l (.row true tS ((X.set j s).map GV.str)))) : wr G l j (.str s) K := by
  refine wr_row hr (by simpa using hj) ?_
  rw [← List.map_set]
  exact hK
theorem ss_row {G : Hp} {l : Nat} {X : List ByteArray} (hr : G[l]? = some (.row true tS (X.map GV.str))) (hl : X.length = 48) : Ss G (some (l, 0)) 48 X := ⟨by simp [cells?, hr, hl]; exact List.take_of_length_le (by simp [hl]), by omega, by omega⟩
theorem lay_full {T : List Pg} {L : List ByteArray} (hL : L.length = 48) : lay L (imgs T 48) = txs T := by
  apply List.ext_getElem?
  intro i
  by_cases h : i < 48
  · rw [lay_imgs T 48 48 (by omega) L hL i h, txs_get h]
  · rw [List.getElem?_eq_none (by simp; omega), List.getElem?_eq_none (by simp; omega)]

set_option maxRecDepth 100000 in
theorem law15_DiffFew_spec {x y : Pl} {n m : Nat} {cs ds : List PC} {S T : List Pg} (hS : Tr H x n cs S) (_ : n * 80 ≤ 140737488351232) (hT : Tr H y m ds T) (_ : m * 80 ≤ 140737488351232) (hQ : ∀ H', Q (.g (.bool true)) H') : law15_DiffFew [.agg [.sl x n 5], .agg [.sl y m 5]] H Q := by
  refine ⟨60, ?_⟩
  rw [law15_DiffFew_eq]
  refine law15_awake_spec fun H1 p1 => ?_
  simp only [rG_g, dB_bool]
  rw [bite_f (by decide)]
  have S1 := hS.mono p1
  have T1 := hT.mono p1
  have err : (heightD S = 0 ∨ heightD T = 0) → ∀ (i15 i27 : Int) (x10 : Pl) (n11 : Nat) (x22 : Pl) (n23 : Nat) (H2 : Hp), H1 <+: H2 → (i15 ≠ 0 ∨ i27 ≠ 0) → (cl diff_Changed [(.agg [(.sl x n 5)]), (.agg [(.sl y m 5)])] H2 fun r28 H29 =>
  rT r28 fun c30 =>
  uR c30 fun q31 c32 =>
  rS q31 fun v33 =>
  dL 2 v33 fun x34 n35 =>
  uR c32 fun q36 c37 =>
  rS q36 fun v38 =>
  dI .i64 v38 fun i39 =>
  uE c37 (cl law0_Num [(.g (.int .i64 i15))] H29 fun r40 H41 =>
  rG r40 fun v42 =>
  dI .i64 v42 fun i43 =>
  bite (!(eqI i43 0))
  (cl law0_Num [(.g (.int .i64 i39))] H41 fun r44 H45 =>
   rG r44 fun v46 =>
   dI .i64 v46 fun i47 =>
   bite (eqI i47 1500)
   (Q (.g (.bool (eqI (nI n35) 0))) H45)
   (Q (.g (.bool false)) H45))
  (cl law0_Num [(.g (.int .i64 i27))] H41 fun r48 H49 =>
   rG r48 fun v50 =>
   dI .i64 v50 fun i51 =>
   bite (!(eqI i51 0))
   (cl law0_Num [(.g (.int .i64 i39))] H49 fun r52 H53 =>
    rG r52 fun v54 =>
    dI .i64 v54 fun i55 =>
    bite (eqI i55 1500)
    (Q (.g (.bool (eqI (nI n35) 0))) H53)
    (Q (.g (.bool false)) H53))
   (cl law0_Num [(.g (.int .i64 i39))] H49 fun r56 H57 =>
    rG r56 fun v58 =>
    dI .i64 v58 fun i59 =>
    bite (!(eqI i59 0))
    (Q (.g (.bool false)) H57)
    (bite (!(eqI (nI n11) 48))
     (Q (.g (.bool false)) H57)
     (bite (!(eqI (nI n23) 48))
      (Q (.g (.bool false)) H57)
      (law15_DiffFew.l12 59 x n x10 n11 x22 n23 x34 n35 0 0 H57 Q))))))) := by
    intro h0 i15 i27 x10 n11 x22 n23 H2 p2 hi
    refine diff_Changed_spec (S1.mono p2) (T1.mono p2) (fun _ H3 p3 => ?_) (fun h1 h2 => by omega)
    simp only [rT_tup, uR_cons, rS_s, dL_sl, dI_int, uE_nil]
    refine law0_Num_spec ?_
    simp only [rG_g, dI_int]
    refine bite_of (fun e => ?_) (fun e => ?_)
    · refine law0_Num_spec ?_
      simp only [rG_g, dI_int]
      rw [bite_t (by decide)]
      exact hQ _
    · refine law0_Num_spec ?_
      simp only [rG_g, dI_int]
      rw [bite_t (by simp at e; simp; omega)]
      refine law0_Num_spec ?_
      simp only [rG_g, dI_int]
      rw [bite_t (by decide)]
      exact hQ _
  refine diff_Images_spec S1 (fun e H2 p2 => ?_) (fun s0 a H2 p2 o2 => ?_)
  · simp only [rT_tup, uR_cons, rS_s, dL_sl, dI_int, uE_nil]
    refine diff_Images_spec (T1.mono p2) (fun e' H3 p3 => ?_) (fun t0 b H3 p3 o3 => ?_)
    · simp only [rT_tup, uR_cons, rS_s, dL_sl, dI_int, uE_nil]
      exact err (.inl e) _ _ _ _ _ _ _ (p2.trans p3) (.inl (by decide))
    · simp only [rT_tup, uR_cons, rS_s, dL_sl, dI_int, uE_nil]
      exact err (.inl e) _ _ _ _ _ _ _ (p2.trans p3) (.inl (by decide))
  simp only [rT_tup, uR_cons, rS_s, dL_sl, dI_int, uE_nil]
  refine diff_Images_spec (T1.mono p2) (fun e' H3 p3 => ?_) (fun t0 b H3 p3 o3 => ?_)
  · simp only [rT_tup, uR_cons, rS_s, dL_sl, dI_int, uE_nil]
    exact err (.inr e') _ _ _ _ _ _ _ (p2.trans p3) (.inr (by decide))
  simp only [rT_tup, uR_cons, rS_s, dL_sl, dI_int, uE_nil]
  refine diff_Changed_spec (S1.mono (p2.trans p3)) (T1.mono (p2.trans p3)) (fun e => by omega) (fun _ _ c q H4 p4 o4 l4 => ?_)
  simp only [rT_tup, uR_cons, rS_s, dL_sl, dI_int, uE_nil]
  refine law0_Num_spec ?_
  simp only [rG_g, dI_int]
  rw [bite_f (by decide)]
  refine law0_Num_spec ?_
  simp only [rG_g, dI_int]
  rw [bite_f (by decide)]
  refine law0_Num_spec ?_
  simp only [rG_g, dI_int]
  rw [bite_f (by decide), bite_f (by decide), bite_f (by decide)]
  have ia : Im H4 a 48 (imgs S 48) := (o2.mono (p3.trans p4)).im (by simp)
  have ib : Im H4 b 48 (imgs T 48) := (o3.mono p4).im (by simp)
  have ic : Im H4 c q (chg S T 48) := o4.im l4
  have S4 := S1.mono (p2.trans (p3.trans p4))
  have loop : ∀ (F k j : Nat), 48 - k < F → k ≤ 48 → (chg S T k).length = j → law15_DiffFew.l12 F x n a 48 b 48 c q (j : Int) (k : Int) H4 Q := by
    intro F
    induction F with
    | zero => intro k _ h; omega
    | succ F ih =>
      intro k j hF hk hj
      rw [law15_DiffFew.l12_eq]
      by_cases hkn : k < 48
      · obtain ⟨l, o, ea, q1, q2⟩ := ia.get? (imgs_get S hkn)
        obtain ⟨l', o', eb, q1', q2'⟩ := ib.get? (imgs_get T hkn)
        subst ea; subst eb
        have etN : tN (k : Int) = k := rfl
        have etj : tN (j : Int) = j := rfl
        have hle := chg_le S T k
        rw [bite_t (by simp; omega), chk_true]
        refine chk_of (by simp; omega) ?_
        rw [pS_some, etN, Nat.add_zero, rd_of q1, dI_int, bite_f (by simp), chk_true]
        refine chk_of (by simp; omega) ?_
        rw [pS_some, Nat.add_zero, rd_of q1', dI_int, bite_f (by simp), chk_true]
        refine chk_of (by simp; omega) ?_
        rw [pS_some, rd_of q2, dS_str, chk_true]
        refine chk_of (by simp; omega) ?_
        rw [pS_some, rd_of q2', dS_str]
        by_cases e : ptx S k = ptx T k
        · rw [bite_f (by simp [e]), wrap_succ (by omega)]
          exact ih (k + 1) j (by omega) (by omega) (by rw [chg_same e]; exact hj)
        · have hpre := chg_pre S T (48 - (k + 1)) (k + 1)
          rw [show k + 1 + (48 - (k + 1)) = 48 by omega, chg_turn e] at hpre
          have hlen := hpre.length_le
          simp at hlen
          have hz : (chg S T 48)[j]? = some ((k : Int), ptx T k) := by
            obtain ⟨R, hR⟩ := hpre
            rw [← hR, List.append_assoc, List.getElem?_append_right (by omega), hj, Nat.sub_self]
            rfl
          obtain ⟨l'', o'', ec, q1'', q2''⟩ := ic.get? hz
          subst ec
          rw [bite_t (by simpa using e), bite_f (by simp; omega), chk_true]
          refine chk_of (by simp; omega) ?_
          rw [pS_some, etj, rd_of q1'', dI_int, rd_of q2'', dS_str, chk_true]
          refine chk_of (by simp; omega) ?_
          rw [pS_some, rd_of q1', dI_int, rd_of q2', dS_str, bite_f (by simp), wrap_succ (by omega), wrap_succ (by omega)]
          exact ih (k + 1) (j + 1) (by omega) (by omega) (by rw [chg_turn e]; simp [hj])
      · obtain rfl : k = 48 := by omega
        rw [bite_f (by simp)]
        refine diff_Changed_spec S4 S4 (fun e => by omega) (fun _ _ c' q' H5 p5 o5 l5 => ?_)
        simp only [rT_tup, uR_cons, rS_s, dL_sl, dI_int, uE_nil]
        have hz : chg S S 48 = [] := chg_nil.2 fun _ _ => rfl
        rw [hz] at l5
        rw [bite_t (by simp; omega), bite_t (by simp at l5; simp; omega)]
        refine law0_Num_spec ?_
        simp only [rG_g, dI_int]
        exact hQ _
  exact loop 59 0 0 (by omega) (by omega) rfl

set_option maxRecDepth 100000 in
theorem law15_DiffStays_spec {x : Pl} {n : Nat} {cs : List PC} {T : List Pg} (hT : Tr H x n cs T) (_ : n * 80 ≤ 140737488351232) (hQ : ∀ H', Q (.g (.bool true)) H') : law15_DiffStays [.agg [.sl x n 5]] H Q := by
  refine ⟨60, ?_⟩
  rw [law15_DiffStays_eq]
  refine law15_awake_spec fun H1 p1 => ?_
  simp only [rG_g, dB_bool]
  rw [bite_f (by decide)]
  have T1 := hT.mono p1
  refine diff_Images_spec T1 (fun e H2 p2 => ?_) (fun t0 a H2 p2 o2 => ?_)
  · simp only [rT_tup, uR_cons, rS_s, dL_sl, dI_int, uE_nil]
    refine law0_Num_spec ?_
    simp only [rG_g, dI_int]
    rw [bite_t (by decide), bite_t (by decide)]
    refine ref9_Sound_spec (T1.mono p2) fun H3 p3 => ?_
    simp only [rG_g, dB_bool]
    rw [decide_eq_false (by omega)]
    exact hQ _
  simp only [rT_tup, uR_cons, rS_s, dL_sl, dI_int, uE_nil]
  refine law0_Num_spec ?_
  simp only [rG_g, dI_int]
  rw [bite_f (by decide)]
  refine ref1_Blank_spec fun H3 e3 => ?_
  simp only [rA_agg, uC_cons, dL_sl, dI_int, uN_nil]
  have hn : n = 48 := by rw [← hT.lenT]; exact sound_no t0
  subst hn
  have T2 := T1.mono p2
  have ia : Im H2 a 48 (imgs T 48) := o2.im (by simp)
  have loop : ∀ (F k : Nat) (G : Hp), 48 - k < F → k ≤ 48 → H2 <+: G → G[H2.length]? = some (.row true tS ((lay (List.replicate 48 (mkS [])) (imgs T k)).map GV.str)) →
      law15_DiffStays.l8 F x 48 a 48 0 1 1 0 (some (H2.length, 0)) 48 (k : Int) G Q := by
    intro F
    induction F with
    | zero => intro k _ h; omega
    | succ F ih =>
      intro k G hF hk hp hr
      rw [law15_DiffStays.l8_eq]
      by_cases hkn : k < 48
      · obtain ⟨l, o, ea, q1, q2⟩ := (ia.mono hp).get? (imgs_get T hkn)
        obtain ⟨l', o', c, p, ex, hc, hpp, hpc, g0, g1, g2, g3, g4⟩ := (T2.mono hp).get hkn
        subst ea; subst ex
        have etN : tN (k : Int) = k := rfl
        have hsz : (ptx T k).size ≤ 96 := ptext_le _
        have hu := sound_used t0 hpp
        rw [bite_t (by simp; omega), bite_t (by simp; omega), bite_t (by simp; omega), chk_true]
        refine chk_of (by simp; omega) ?_
        rw [pS_some, etN, rd_of q2, dS_str, bite_f (by simp; omega), chk_true]
        refine chk_of (by simp; omega) ?_
        rw [pS_some, rd_of q2, dS_str, chk_true]
        refine chk_of (by simp; omega) ?_
        rw [pS_some, Nat.add_zero, rd_of g0, dB_bool]
        have hcu : (!(strEq (ptx T k) (mkS []))) = c.u := by
          rw [← hpc.used, Bool.eq_iff_iff, ← hu]
          simp
        rw [hcu]
        rw [bite_f (by simp), chk_true]
        refine chk_of (by simp; omega) ?_
        rw [pS_some, rd_of q2, dS_str, chk_true]
        refine chk_of (by simp; omega) ?_
        rw [pS_some, Nat.zero_add, Nat.mul_one]
        refine txt_set hr (by simp; omega) ?_
        rw [wrap_succ (by omega)]
        refine ih (k + 1) _ (by omega) (by omega) (pre_set hp (Nat.le_refl _) _) ?_
        rw [List.getElem?_set_self (List.getElem?_eq_some_iff.1 hr).1, imgs_succ, lay_append]
        rfl
      · obtain rfl : k = 48 := by omega
        rw [bite_f (by simp)]
        rw [lay_full (by simp)] at hr
        refine diff_Tree_spec (ss_row hr txs_length) (fun e => by rw [treeR_sound t0] at e; cases e) (fun T' eT c ds H6 g => ?_)
        rw [treeR_sound t0] at eT
        obtain rfl := Option.some.inj eT
        simp only [rT_tup, uR_cons, rC_a, uC_cons, dL_sl, uN_nil, rS_s, dI_int, uE_nil]
        rw [bite_t (by decide)]
        refine law0_Num_spec ?_
        simp only [rG_g, dI_int]
        rw [bite_t (by decide)]
        refine law0_SameTree_spec (T2.mono (hp.trans g.pre)) g.ot.tr (by omega) fun b hb => ?_
        simp only [rG_g, dB_bool]
        rw [hb.2 rfl]
        exact hQ _
  subst e3
  exact loop 59 0 _ (by omega) (by omega) (List.prefix_append _ _) (by simp [imgs, lay])

set_option maxRecDepth 100000 in
theorem law15_DiffBack_spec {x y : Pl} {n m : Nat} {cs ds : List PC} {S T : List Pg} (hS : Tr H x n cs S) (_ : n * 80 ≤ 140737488351232) (hT : Tr H y m ds T) (_ : m * 80 ≤ 140737488351232) (hQ : ∀ H', Q (.g (.bool true)) H') : law15_DiffBack [.agg [.sl x n 5], .agg [.sl y m 5]] H Q := by
  refine ⟨130, ?_⟩
  rw [law15_DiffBack_eq]
  refine law15_awake_spec fun H1 p1 => ?_
  simp only [rG_g, dB_bool]
  rw [bite_f (by decide)]
  have S1 := hS.mono p1
  have T1 := hT.mono p1
  refine diff_Images_spec S1 (fun e H2 p2 => ?_) (fun s0 a H2 p2 o2 => ?_)
  · simp only [rT_tup, uR_cons, rS_s, dL_sl, dI_int, uE_nil]
    refine diff_Changed_spec (S1.mono p2) (T1.mono p2) (fun _ H3 p3 => ?_) (fun h1 h2 => by omega)
    simp only [rT_tup, uR_cons, rS_s, dL_sl, dI_int, uE_nil]
    refine law0_Num_spec ?_
    simp only [rG_g, dI_int]
    rw [bite_t (by decide)]
    exact hQ _
  simp only [rT_tup, uR_cons, rS_s, dL_sl, dI_int, uE_nil]
  refine diff_Changed_spec (S1.mono p2) (T1.mono p2) (fun _ H3 p3 => ?_) (fun _ t0 b q H3 p3 o3 l3 => ?_)
  · simp only [rT_tup, uR_cons, rS_s, dL_sl, dI_int, uE_nil]
    refine law0_Num_spec ?_
    simp only [rG_g, dI_int]
    rw [bite_f (by decide)]
    refine law0_Num_spec ?_
    simp only [rG_g, dI_int]
    rw [bite_t (by decide)]
    exact hQ _
  simp only [rT_tup, uR_cons, rS_s, dL_sl, dI_int, uE_nil]
  refine law0_Num_spec ?_
  simp only [rG_g, dI_int]
  rw [bite_f (by decide)]
  refine law0_Num_spec ?_
  simp only [rG_g, dI_int]
  rw [bite_f (by decide), bite_f (by decide)]
  refine ref1_Blank_spec fun H4 e4 => ?_
  simp only [rA_agg, uC_cons, dL_sl, dI_int, uN_nil]
  have hn : n = 48 := by rw [← hS.lenT]; exact sound_no s0
  have hm : m = 48 := by rw [← hT.lenT]; exact sound_no t0
  subst hn; subst hm
  have S3 := S1.mono (p2.trans p3)
  have T3 := T1.mono (p2.trans p3)
  have ia : Im H3 a 48 (imgs S 48) := (o2.mono p3).im (by simp)
  have ib : Im H3 b q (chg S T 48) := o3.im l3
  have hq := chg_le S T 48
  -- the second half
  have half : ∀ (G0 G1 : Hp) (c : Pl) (dc : List PC), CT G0 G1 tPg c 48 dc S → H3 <+: G0 → H3.length < G0.length → ∀ (F j : Nat), q - j < F → j ≤ q → G1[H3.length]? = some (.row true tS ((txs S).map GV.str)) →
      law15_DiffBack.l16 F x 48 y 48 b q 0 1 1 0 (some (H3.length, 0)) 48 c 48 0 (j : Int) (G1.set H3.length (.row true tS ((lay (txs S) ((chg S T 48).take j)).map GV.str))) Q := by
    intro G0 G1 c dc g h30 hlt F
    induction F with
    | zero => intro j h; omega
    | succ F ih =>
      intro j hF hj hr
      have h31 : H3 <+: G1 := h30.trans g.pre
      have hl1 : H3.length < G1.length := (List.getElem?_eq_some_iff.1 hr).1
      have h32 : ∀ y, H3 <+: G1.set H3.length y := fun y => pre_set h31 (Nat.le_refl _) _
      rw [law15_DiffBack.l16_eq]
      by_cases hjq : j < q
      · have hjc : j < (chg S T 48).length := by omega
        obtain ⟨i, hi, ei⟩ := chg_mem (List.getElem_mem hjc)
        obtain ⟨l, o, ea, q1, q2⟩ := (ib.mono (h32 (.row true tS ((lay (txs S) ((chg S T 48).take j)).map GV.str)))).get hjc
        rw [ei] at q1 q2
        subst ea
        have etN : tN (j : Int) = j := rfl
        have eti : tN (i : Int) = i := rfl
        have hidx : (leI 0 (j : Int) && ltI (j : Int) (nI q)) = true := by simp; omega
        rw [bite_t (by simp; omega), chk_true]
        refine chk_of hidx ?_
        rw [pS_some, etN, Nat.add_zero, rd_of q1, dI_int, bite_f (by simp), chk_true]
        refine chk_of hidx ?_
        rw [pS_some, Nat.add_zero, rd_of q1, dI_int, bite_f (by simp; omega), chk_true]
        refine chk_of hidx ?_
        rw [pS_some, Nat.add_zero, rd_of q1, dI_int, chk_true]
        refine chk_of hidx ?_
        rw [pS_some, rd_of q2, dS_str, chk_true]
        refine chk_of (by simp; omega) ?_
        rw [pS_some, eti, Nat.zero_add, Nat.mul_one]
        refine txt_set (List.getElem?_set_self hl1) (by simp; omega) ?_
        rw [wrap_succ (by omega), List.set_set]
        have := ih (j + 1) (by omega) (by omega) hr
        rw [List.take_succ_eq_append_getElem hjc, lay_append, ei] at this
        exact this
      · obtain rfl : j = q := by omega
        rw [bite_f (by simp)]
        rw [List.take_of_length_le (by omega)]
        have e2 : lay (txs S) (chg S T 48) = txs T := lay_all S T 48
        rw [e2]
        refine diff_Tree_spec (ss_row (List.getElem?_set_self hl1) txs_length) (fun e => by rw [treeR_sound t0] at e; cases e) (fun T' eT c' ds' H6 g' => ?_)
        rw [treeR_sound t0] at eT
        obtain rfl := Option.some.inj eT
        simp only [rT_tup, uR_cons, rC_a, uC_cons, dL_sl, uN_nil, rS_s, dI_int, uE_nil]
        have p6 := g'.pre
        have keep : ∀ l', G0.length ≤ l' → (G1.set H3.length (.row true tS ((txs T).map GV.str)))[l']? = G1[l']? := fun l' h => by
          rw [List.getElem?_set_ne]; omega
        have SS : Tr H6 c 48 dc S := (g.ot.keep (fun l' e => keep l' (g.ot.own.ge e)) (fun d hd l' hl' => by
          obtain ⟨i, hi, rfl⟩ := List.getElem_of_mem hd
          have ho := g.own i hi (by rw [g.ot.lenT, ← g.ot.len]; exact hi)
          refine keep l' ?_
          obtain ⟨o, e | e | e⟩ := hl'
          · exact ho.keys.ge e
          · exact ho.vals.ge e
          · exact ho.kids.ge e)).tr.mono p6
        have S6 := S3.mono ((h32 _).trans p6)
        have T6 := T3.mono ((h32 _).trans p6)
        refine law0_Num_spec ?_
        simp only [rG_g, dI_int]
        rw [bite_t (by decide)]
        refine law0_SameTree_spec SS S6 (by omega) fun b1 hb1 => ?_
        simp only [rG_g, dB_bool]
        rw [bite_t (hb1.2 rfl)]
        refine law0_Num_spec ?_
        simp only [rG_g, dI_int]
        rw [bite_t (by decide)]
        refine law0_SameTree_spec g'.ot.tr T6 (by omega) fun b2 hb2 => ?_
        simp only [rG_g, dB_bool]
        rw [bite_t (hb2.2 rfl)]
        refine law0_SameTree_spec S6 T6 (by omega) fun b3 hb3 => ?_
        simp only [rG_g, dB_bool]
        have : eqB (eqI (nI j) 0) b3 = true := by
          have e1 := chg_same_iff s0 t0
          have : (eqI (nI j) 0) = b3 := by
            rw [Bool.eq_iff_iff, hb3, ← e1]
            simp only [eqI_def, nI_def, decide_eq_true_eq]
            rw [← l3]
            simp
          rw [this]; simp
        rw [this]
        exact hQ _
  have loop : ∀ (F k : Nat) (G : Hp), (48 - k) + 52 < F → k ≤ 48 → H3 <+: G → G[H3.length]? = some (.row true tS ((lay (List.replicate 48 (mkS [])) (imgs S k)).map GV.str)) →
      law15_DiffBack.l11 F x 48 y 48 a 48 b q 0 1 1 0 (some (H3.length, 0)) 48 (k : Int) G Q := by
    intro F
    induction F with
    | zero => intro k _ h; omega
    | succ F ih =>
      intro k G hF hk hp hr
      rw [law15_DiffBack.l11_eq]
      by_cases hkn : k < 48
      · obtain ⟨l, o, ea, q1, q2⟩ := (ia.mono hp).get? (imgs_get S hkn)
        subst ea
        have etN : tN (k : Int) = k := rfl
        rw [bite_t (by simp; omega), chk_true]
        refine chk_of (by simp; omega) ?_
        rw [pS_some, etN, rd_of q2, dS_str, chk_true]
        refine chk_of (by simp; omega) ?_
        rw [pS_some, Nat.zero_add, Nat.mul_one]
        refine txt_set hr (by simp; omega) ?_
        rw [wrap_succ (by omega)]
        refine ih (k + 1) _ (by omega) (by omega) (pre_set hp (Nat.le_refl _) _) ?_
        rw [List.getElem?_set_self (List.getElem?_eq_some_iff.1 hr).1, imgs_succ, lay_append]
        rfl
      · obtain rfl : k = 48 := by omega
        rw [bite_f (by simp)]
        rw [lay_full (by simp)] at hr
        refine diff_Tree_spec (ss_row hr txs_length) (fun e => by rw [treeR_sound s0] at e; cases e) (fun T' eT c dc H6 g => ?_)
        rw [treeR_sound s0] at eT
        obtain rfl := Option.some.inj eT
        simp only [rT_tup, uR_cons, rC_a, uC_cons, dL_sl, uN_nil, rS_s, dI_int, uE_nil]
        have hlt := (List.getElem?_eq_some_iff.1 hr).1
        have hr6 : H6[H3.length]? = some (.row true tS ((txs S).map GV.str)) := by rw [pre_at g.pre hlt]; exact hr
        have := half G H6 c dc g hp hlt F 0 (by omega) (by omega) hr6
        simp only [List.take_zero, lay, List.foldl_nil] at this
        rw [set_same hr6] at this
        exact this
  subst e4
  exact loop 129 0 _ (by omega) (by omega) (List.prefix_append _ _) (by simp [imgs, lay])
end
end Go.Am
