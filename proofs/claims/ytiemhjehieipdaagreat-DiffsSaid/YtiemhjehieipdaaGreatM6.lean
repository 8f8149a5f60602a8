import Derived.Test.YtiemhjehieipdaaGreatM5
set_option linter.unusedVariables false
set_option linter.unusedSimpArgs false
namespace Go.Am
/-! 9: cryostat/cryostatlaw0.CopyPager -/
def law0_CopyPager.cx : Cx := ⟨tys, [], [], [], [], noDyn, [.cell 2 29]⟩
def law0_CopyPager : Sm := fun xs H Q => ∃ k, callK (law0_CopyPager.cx) Go.Proofs.Tryz.f9 k xs H Q
theorem law0_CopyPager_eq (k : Nat) (z0 : Int) (z1 : Int) (z2 : Int) (z3 : Int) (z4 : Pl) (z4n : Nat) (H : Hp) (Q : Post) : callK (law0_CopyPager.cx) Go.Proofs.Tryz.f9 (k + 1) [.agg [.int .i64 z0, .int .i64 z1, .int .i64 z2, .int .i64 z3, .sl z4 z4n 1]] H Q = (
 chk true (rdN H z4 (z4n * 1) fun c0 =>
 ap0 H 9 1 16 c0 z4n fun H1 =>
 Q (.agg [(.int .i64 z0), (.int .i64 z1), (.int .i64 z2), (.int .i64 z3), (.sl (some ((ln H), 0)) z4n 1)]) H1)) := by kernel_rfl
theorem law0_CopyPager_ok : Sound Go.Proofs.Tryz.prog 9 (law0_CopyPager) := prog_ok.sound (cx := law0_CopyPager.cx) rfl (EnvOK.nil _) (noDyn_ok _) Go.Proofs.Tryz.func9 rfl

/-! 66: cryostat/page.sized -/
def page_sized.cx : Cx := ⟨tys, [], [], [], [], noDyn, [.tmp 4]⟩
def page_sized : Sm := fun xs H Q => ∃ k, callK (page_sized.cx) Go.Proofs.Tryz.f66 k xs H Q
theorem page_sized_eq (k : Nat) (z0 : Pl) (z0n : Nat) (z1 : ByteArray) (H : Hp) (Q : Post) : callK (page_sized.cx) Go.Proofs.Tryz.f66 (k + 1) [.g (.sl z0 z0n 1), .g (.str z1)] H Q = (
 chk true (ap H 5 1 1 z0 z0n [(.int .u8 (wrapI .u8 (sz z1)))] 1 fun x0 n1 H2 =>
 chk true (ap H2 5 1 1 x0 n1 (bytesOf z1) (szN z1) fun x3 n4 H5 =>
 Q (.g (.sl x3 n4 1)) H5))) := by kernel_rfl
theorem page_sized_ok : Sound Go.Proofs.Tryz.prog 66 (page_sized) := prog_ok.sound (cx := page_sized.cx) rfl (EnvOK.nil _) (noDyn_ok _) Go.Proofs.Tryz.func66 rfl

/-! 37: cryostat/page.Put -/
def page_Put.cx : Cx := ⟨tys, [16], [(7, [1, 4, 22, 23, 24]), (14, [4, 43, 44, 45])], [(6, [1, 4])], [(65, page_May), (66, page_sized)], noDyn, [.tmp 2, .tmp 3]⟩
def page_Put : Sm := fun xs H Q => ∃ k, callK (page_Put.cx) Go.Proofs.Tryz.f37 k xs H Q
def page_Put.l6 (k : Nat) (bx0 : Bool) (bx1 : Bool) (xx2 : Pl) (nx3 : Nat) (xx4 : Pl) (nx5 : Nat) (xx6 : Pl) (nx7 : Nat) (ax8 : Pl) (nx9 : Nat) (H : Hp) (Q : Post) : Prop := loopK (page_Put.cx) Go.Proofs.Tryz.f37 6 k (.bad :: (.bx [(.bool bx0), (.bool bx1), (.sl xx2 nx3 1), (.sl xx4 nx5 1), (.sl xx6 nx7 1)]) :: .bad :: .bad :: (.g (.sl ax8 nx9 1)) :: B 52 ([])) H Q
def page_Put.l7 (k : Nat) (bx0 : Bool) (bx1 : Bool) (xx2 : Pl) (nx3 : Nat) (xx4 : Pl) (nx5 : Nat) (xx6 : Pl) (nx7 : Nat) (ax8 : Pl) (nx9 : Nat) (xx10 : Pl) (nx11 : Nat) (ix12 : Int) (ix13 : Int) (H : Hp) (Q : Post) : Prop := loopK (page_Put.cx) Go.Proofs.Tryz.f37 7 k (.bad :: (.bx [(.bool bx0), (.bool bx1), (.sl xx2 nx3 1), (.sl xx4 nx5 1), (.sl xx6 nx7 1)]) :: .bad :: .bad :: (.g (.sl ax8 nx9 1)) :: B 17 ((.g (.sl xx10 nx11 1)) :: (.g (.int .i64 ix12)) :: (.g (.int .i64 ix13)) :: B 32 ([]))) H Q
def page_Put.l14 (k : Nat) (ax0 : Pl) (nx1 : Nat) (xx2 : Pl) (nx3 : Nat) (ix4 : Int) (ix5 : Int) (H : Hp) (Q : Post) : Prop := loopK (page_Put.cx) Go.Proofs.Tryz.f37 14 k (B 4 ((.g (.sl ax0 nx1 1)) :: B 38 ((.g (.sl xx2 nx3 1)) :: (.g (.int .i64 ix4)) :: (.g (.int .i64 ix5)) :: B 11 ([])))) H Q
theorem page_Put_eq (k : Nat) (z0 : Bool) (z1 : Bool) (z2 : Pl) (z2n : Nat) (z3 : Pl) (z3n : Nat) (z4 : Pl) (z4n : Nat) (H : Hp) (Q : Post) : callK (page_Put.cx) Go.Proofs.Tryz.f37 (k + 1) [.agg [.bool z0, .bool z1, .sl z2 z2n 1, .sl z3 z3n 1, .sl z4 z4n 1]] H Q = (
 cl page_May [(.agg [(.bool z0), (.bool z1), (.sl z2 z2n 1), (.sl z3 z3n 1), (.sl z4 z4n 1)])] H fun r0 H1 =>
 rG r0 fun v2 =>
 dB v2 fun b3 =>
 bite (!b3)
 (Q (.tup [(.s (.str (mkS []))), (.s (.int .i64 600))]) H1)
 (bite z1
  (chk true (wr (pu H1 (.row true 5 [(.int .u8 2), (.int .u8 (wrapI .u8 (nI z2n)))])) (ln H1) (0 + ((tN 0) * 1)) (.int .u8 1) fun H4 =>
   page_Put.l6 k z0 z1 z2 z2n z3 z3n z4 z4n (some ((ln H1), 0)) 2 H4 Q))
  (page_Put.l6 k z0 z1 z2 z2n z3 z3n z4 z4n (some ((ln H1), 0)) 2 (pu H1 (.row true 5 [(.int .u8 2), (.int .u8 (wrapI .u8 (nI z2n)))])) Q))) := by kernel_rfl
theorem page_Put.l6_eq (k : Nat) (bx0 : Bool) (bx1 : Bool) (xx2 : Pl) (nx3 : Nat) (xx4 : Pl) (nx5 : Nat) (xx6 : Pl) (nx7 : Nat) (ax8 : Pl) (nx9 : Nat) (H : Hp) (Q : Post) : page_Put.l6 (k + 1) bx0 bx1 xx2 nx3 xx4 nx5 xx6 nx7 ax8 nx9 H Q = (
 page_Put.l7 k bx0 bx1 xx2 nx3 xx4 nx5 xx6 nx7 ax8 nx9 xx2 nx3 (nI nx3) 0 H Q) := by kernel_rfl
theorem page_Put.l7_eq (k : Nat) (bx0 : Bool) (bx1 : Bool) (xx2 : Pl) (nx3 : Nat) (xx4 : Pl) (nx5 : Nat) (xx6 : Pl) (nx7 : Nat) (ax8 : Pl) (nx9 : Nat) (xx10 : Pl) (nx11 : Nat) (ix12 : Int) (ix13 : Int) (H : Hp) (Q : Post) : page_Put.l7 (k + 1) bx0 bx1 xx2 nx3 xx4 nx5 xx6 nx7 ax8 nx9 xx10 nx11 ix12 ix13 H Q = (
 bite (ltI ix13 ix12)
 (chk true (chk ((leI 0 ix13) && (ltI ix13 (nI nx11))) (pS xx10 fun n0 n1 =>
  rd H n0 (n1 + ((tN ix13) * 1)) fun v2 =>
  dS v2 fun s3 =>
  cl page_sized [(.g (.sl ax8 nx9 1)), (.g (.str s3))] H fun r4 H5 =>
  rG r4 fun v6 =>
  dL 1 v6 fun x7 n8 =>
  bite bx1
  (chk true (chk ((leI 0 ix13) && (ltI ix13 (nI nx5))) (pS xx4 fun n9 n10 =>
   rd H5 n9 (n10 + ((tN ix13) * 1)) fun v11 =>
   dS v11 fun s12 =>
   cl page_sized [(.g (.sl x7 n8 1)), (.g (.str s12))] H5 fun r13 H14 =>
   rG r13 fun v15 =>
   dL 1 v15 fun x16 n17 =>
   page_Put.l7 k bx0 bx1 xx2 nx3 xx4 nx5 xx6 nx7 x16 n17 xx10 nx11 ix12 (wrapI .i64 (ix13 + 1)) H14 Q)))
  (page_Put.l7 k bx0 bx1 xx2 nx3 xx4 nx5 xx6 nx7 x7 n8 xx10 nx11 ix12 (wrapI .i64 (ix13 + 1)) H5 Q))))
 (page_Put.l14 k ax8 nx9 xx6 nx7 (nI nx7) 0 H Q)) := by kernel_rfl
theorem page_Put.l14_eq (k : Nat) (ax0 : Pl) (nx1 : Nat) (xx2 : Pl) (nx3 : Nat) (ix4 : Int) (ix5 : Int) (H : Hp) (Q : Post) : page_Put.l14 (k + 1) ax0 nx1 xx2 nx3 ix4 ix5 H Q = (
 bite (ltI ix5 ix4)
 (chk true (chk ((leI 0 ix5) && (ltI ix5 (nI nx3))) (pS xx2 fun n0 n1 =>
  rd H n0 (n1 + ((tN ix5) * 1)) fun v2 =>
  dI .i64 v2 fun i3 =>
  chk true (ap H 5 1 1 ax0 nx1 [(.int .u8 (wrapI .u8 i3))] 1 fun x4 n5 H6 =>
  page_Put.l14 k x4 n5 xx2 nx3 ix4 (wrapI .i64 (ix5 + 1)) H6 Q))))
 (rdN H ax0 nx1 fun c7 =>
  txt c7 fun s8 =>
  Q (.tup [(.s (.str s8)), (.s (.int .i64 0))]) H)) := by kernel_rfl
theorem page_Put_ok : Sound Go.Proofs.Tryz.prog 37 (page_Put) := prog_ok.sound (cx := page_Put.cx) rfl (EnvOK.cons ((page_May_ok).c ⟨_, Go.Proofs.Tryz.func65, by kernel_rfl, by kernel_rfl⟩) (EnvOK.cons ((page_sized_ok).c ⟨_, Go.Proofs.Tryz.func66, by kernel_rfl, by kernel_rfl⟩) (EnvOK.nil _))) (noDyn_ok _) Go.Proofs.Tryz.func37 rfl

/-! 10: cryostat/diff.Images -/
def diff_Images.cx : Cx := ⟨tys, [], [(5, [4, 13, 14, 15])], [], [(36, sound_Sound), (37, page_Put)], noDyn, [.tmp 2, .tmp 3]⟩
def diff_Images : Sm := fun xs H Q => ∃ k, callK (diff_Images.cx) Go.Proofs.Tryz.f10 k xs H Q
def diff_Images.l5 (k : Nat) (ax0 : Pl) (nx1 : Nat) (xx2 : Pl) (nx3 : Nat) (ix4 : Int) (ix5 : Int) (H : Hp) (Q : Post) : Prop := loopK (diff_Images.cx) Go.Proofs.Tryz.f10 5 k (B 4 ((.g (.sl ax0 nx1 2)) :: B 8 ((.g (.sl xx2 nx3 5)) :: (.g (.int .i64 ix4)) :: (.g (.int .i64 ix5)) :: B 17 ([])))) H Q
theorem diff_Images_eq (k : Nat) (z0 : Pl) (z0n : Nat) (H : Hp) (Q : Post) : callK (diff_Images.cx) Go.Proofs.Tryz.f10 (k + 1) [.agg [.sl z0 z0n 5]] H Q = (
 cl sound_Sound [(.agg [(.sl z0 z0n 5)])] H fun r0 H1 =>
 rG r0 fun v2 =>
 dB v2 fun b3 =>
 bite (!b3)
 (Q (.tup [(.s (.sl none 0 2)), (.s (.int .i64 1500))]) H1)
 (diff_Images.l5 k none 0 z0 z0n (nI z0n) 0 H1 Q)) := by kernel_rfl
theorem diff_Images.l5_eq (k : Nat) (ax0 : Pl) (nx1 : Nat) (xx2 : Pl) (nx3 : Nat) (ix4 : Int) (ix5 : Int) (H : Hp) (Q : Post) : diff_Images.l5 (k + 1) ax0 nx1 xx2 nx3 ix4 ix5 H Q = (
 bite (ltI ix5 ix4)
 (chk true (chk ((leI 0 ix5) && (ltI ix5 (nI nx3))) (pS xx2 fun n0 n1 =>
  rd H n0 (n1 + ((tN ix5) * 5)) fun v2 =>
  dB v2 fun b3 =>
  rd H n0 ((n1 + ((tN ix5) * 5)) + 1) fun v4 =>
  dB v4 fun b5 =>
  rd H n0 (((n1 + ((tN ix5) * 5)) + 1) + 1) fun v6 =>
  dL 1 v6 fun x7 n8 =>
  rd H n0 ((((n1 + ((tN ix5) * 5)) + 1) + 1) + 1) fun v9 =>
  dL 1 v9 fun x10 n11 =>
  rd H n0 (((((n1 + ((tN ix5) * 5)) + 1) + 1) + 1) + 1) fun v12 =>
  dL 1 v12 fun x13 n14 =>
  cl page_Put [(.agg [(.bool b3), (.bool b5), (.sl x7 n8 1), (.sl x10 n11 1), (.sl x13 n14 1)])] H fun r15 H16 =>
  rT r15 fun c17 =>
  uR c17 fun q18 c19 =>
  rS q18 fun v20 =>
  dS v20 fun s21 =>
  uR c19 fun q22 c23 =>
  rS q22 fun v24 =>
  dI .i64 v24 fun i25 =>
  uE c23 (chk true (ap H16 80 2 24 ax0 nx1 [(.int .i64 ix5), (.str s21)] 1 fun x26 n27 H28 =>
  diff_Images.l5 k x26 n27 xx2 nx3 ix4 (wrapI .i64 (ix5 + 1)) H28 Q)))))
 (Q (.tup [(.s (.sl ax0 nx1 2)), (.s (.int .i64 0))]) H)) := by kernel_rfl
theorem diff_Images_ok : Sound Go.Proofs.Tryz.prog 10 (diff_Images) := prog_ok.sound (cx := diff_Images.cx) rfl (EnvOK.cons ((sound_Sound_ok).c ⟨_, Go.Proofs.Tryz.func36, by kernel_rfl, by kernel_rfl⟩) (EnvOK.cons ((page_Put_ok).c ⟨_, Go.Proofs.Tryz.func37, by kernel_rfl, by kernel_rfl⟩) (EnvOK.nil _))) (noDyn_ok _) Go.Proofs.Tryz.func10 rfl

/-! 38: cryostat/cryostatref1.PutPage -/
def ref1_PutPage.cx : Cx := ⟨tys, [14], [(7, [1, 4, 5]), (15, [1, 4, 6])], [(6, [1, 4])], [(67, ref1_PageMay)], noDyn, [.tmp 2, .tmp 3]⟩
def ref1_PutPage : Sm := fun xs H Q => ∃ k, callK (ref1_PutPage.cx) Go.Proofs.Tryz.f38 k xs H Q
def ref1_PutPage.l6 (k : Nat) (bx0 : Bool) (bx1 : Bool) (xx2 : Pl) (nx3 : Nat) (xx4 : Pl) (nx5 : Nat) (xx6 : Pl) (nx7 : Nat) (ax8 : Pl) (nx9 : Nat) (H : Hp) (Q : Post) : Prop := loopK (ref1_PutPage.cx) Go.Proofs.Tryz.f38 6 k (.bad :: (.bx [(.bool bx0), (.bool bx1), (.sl xx2 nx3 1), (.sl xx4 nx5 1), (.sl xx6 nx7 1)]) :: .bad :: .bad :: (.g (.sl ax8 nx9 1)) :: B 75 ([])) H Q
def ref1_PutPage.l7 (k : Nat) (bx0 : Bool) (bx1 : Bool) (xx2 : Pl) (nx3 : Nat) (xx4 : Pl) (nx5 : Nat) (xx6 : Pl) (nx7 : Nat) (ax8 : Pl) (nx9 : Nat) (ix10 : Int) (H : Hp) (Q : Post) : Prop := loopK (ref1_PutPage.cx) Go.Proofs.Tryz.f38 7 k (.bad :: (.bx [(.bool bx0), (.bool bx1), (.sl xx2 nx3 1), (.sl xx4 nx5 1), (.sl xx6 nx7 1)]) :: .bad :: .bad :: (.g (.sl ax8 nx9 1)) :: (.g (.int .i64 ix10)) :: B 74 ([])) H Q
def ref1_PutPage.l15 (k : Nat) (bx0 : Bool) (bx1 : Bool) (xx2 : Pl) (nx3 : Nat) (xx4 : Pl) (nx5 : Nat) (xx6 : Pl) (nx7 : Nat) (ax8 : Pl) (nx9 : Nat) (ix10 : Int) (H : Hp) (Q : Post) : Prop := loopK (ref1_PutPage.cx) Go.Proofs.Tryz.f38 15 k (.bad :: (.bx [(.bool bx0), (.bool bx1), (.sl xx2 nx3 1), (.sl xx4 nx5 1), (.sl xx6 nx7 1)]) :: .bad :: .bad :: (.g (.sl ax8 nx9 1)) :: .bad :: (.g (.int .i64 ix10)) :: B 73 ([])) H Q
theorem ref1_PutPage_eq (k : Nat) (z0 : Bool) (z1 : Bool) (z2 : Pl) (z2n : Nat) (z3 : Pl) (z3n : Nat) (z4 : Pl) (z4n : Nat) (H : Hp) (Q : Post) : callK (ref1_PutPage.cx) Go.Proofs.Tryz.f38 (k + 1) [.agg [.bool z0, .bool z1, .sl z2 z2n 1, .sl z3 z3n 1, .sl z4 z4n 1]] H Q = (
 cl ref1_PageMay [(.agg [(.bool z0), (.bool z1), (.sl z2 z2n 1), (.sl z3 z3n 1), (.sl z4 z4n 1)])] H fun r0 H1 =>
 rG r0 fun v2 =>
 dB v2 fun b3 =>
 bite (!b3)
 (Q (.tup [(.s (.str (mkS []))), (.s (.int .i64 600))]) H1)
 (bite z1
  (chk true (wr (pu H1 (.row true 5 [(.int .u8 2), (.int .u8 (wrapI .u8 (nI z2n)))])) (ln H1) (0 + ((tN 0) * 1)) (.int .u8 1) fun H4 =>
   ref1_PutPage.l6 k z0 z1 z2 z2n z3 z3n z4 z4n (some ((ln H1), 0)) 2 H4 Q))
  (ref1_PutPage.l6 k z0 z1 z2 z2n z3 z3n z4 z4n (some ((ln H1), 0)) 2 (pu H1 (.row true 5 [(.int .u8 2), (.int .u8 (wrapI .u8 (nI z2n)))])) Q))) := by kernel_rfl
theorem ref1_PutPage.l6_eq (k : Nat) (bx0 : Bool) (bx1 : Bool) (xx2 : Pl) (nx3 : Nat) (xx4 : Pl) (nx5 : Nat) (xx6 : Pl) (nx7 : Nat) (ax8 : Pl) (nx9 : Nat) (H : Hp) (Q : Post) : ref1_PutPage.l6 (k + 1) bx0 bx1 xx2 nx3 xx4 nx5 xx6 nx7 ax8 nx9 H Q = (
 ref1_PutPage.l7 k bx0 bx1 xx2 nx3 xx4 nx5 xx6 nx7 ax8 nx9 0 H Q) := by kernel_rfl
theorem ref1_PutPage.l7_eq (k : Nat) (bx0 : Bool) (bx1 : Bool) (xx2 : Pl) (nx3 : Nat) (xx4 : Pl) (nx5 : Nat) (xx6 : Pl) (nx7 : Nat) (ax8 : Pl) (nx9 : Nat) (ix10 : Int) (H : Hp) (Q : Post) : ref1_PutPage.l7 (k + 1) bx0 bx1 xx2 nx3 xx4 nx5 xx6 nx7 ax8 nx9 ix10 H Q = (
 bite (ltI ix10 (nI nx3))
 (chk true (chk ((leI 0 ix10) && (ltI ix10 (nI nx3))) (pS xx2 fun n0 n1 =>
  rd H n0 (n1 + ((tN ix10) * 1)) fun v2 =>
  dS v2 fun s3 =>
  chk true (ap H 5 1 1 ax8 nx9 [(.int .u8 (wrapI .u8 (sz s3)))] 1 fun x4 n5 H6 =>
  chk true (chk ((leI 0 ix10) && (ltI ix10 (nI nx3))) (pS xx2 fun n7 n8 =>
  rd H6 n7 (n8 + ((tN ix10) * 1)) fun v9 =>
  dS v9 fun s10 =>
  chk true (ap H6 5 1 1 x4 n5 (bytesOf s10) (szN s10) fun x11 n12 H13 =>
  bite bx1
  (chk true (chk ((leI 0 ix10) && (ltI ix10 (nI nx5))) (pS xx4 fun n14 n15 =>
   rd H13 n14 (n15 + ((tN ix10) * 1)) fun v16 =>
   dS v16 fun s17 =>
   chk true (ap H13 5 1 1 x11 n12 [(.int .u8 (wrapI .u8 (sz s17)))] 1 fun x18 n19 H20 =>
   chk true (chk ((leI 0 ix10) && (ltI ix10 (nI nx5))) (pS xx4 fun n21 n22 =>
   rd H20 n21 (n22 + ((tN ix10) * 1)) fun v23 =>
   dS v23 fun s24 =>
   chk true (ap H20 5 1 1 x18 n19 (bytesOf s24) (szN s24) fun x25 n26 H27 =>
   ref1_PutPage.l7 k bx0 bx1 xx2 nx3 xx4 nx5 xx6 nx7 x25 n26 (wrapI .i64 (ix10 + 1)) H27 Q)))))))
  (ref1_PutPage.l7 k bx0 bx1 xx2 nx3 xx4 nx5 xx6 nx7 x11 n12 (wrapI .i64 (ix10 + 1)) H13 Q))))))))
 (ref1_PutPage.l15 k bx0 bx1 xx2 nx3 xx4 nx5 xx6 nx7 ax8 nx9 0 H Q)) := by kernel_rfl
theorem ref1_PutPage.l15_eq (k : Nat) (bx0 : Bool) (bx1 : Bool) (xx2 : Pl) (nx3 : Nat) (xx4 : Pl) (nx5 : Nat) (xx6 : Pl) (nx7 : Nat) (ax8 : Pl) (nx9 : Nat) (ix10 : Int) (H : Hp) (Q : Post) : ref1_PutPage.l15 (k + 1) bx0 bx1 xx2 nx3 xx4 nx5 xx6 nx7 ax8 nx9 ix10 H Q = (
 bite (ltI ix10 (nI nx7))
 (chk true (chk ((leI 0 ix10) && (ltI ix10 (nI nx7))) (pS xx6 fun n0 n1 =>
  rd H n0 (n1 + ((tN ix10) * 1)) fun v2 =>
  dI .i64 v2 fun i3 =>
  chk true (ap H 5 1 1 ax8 nx9 [(.int .u8 (wrapI .u8 i3))] 1 fun x4 n5 H6 =>
  ref1_PutPage.l15 k bx0 bx1 xx2 nx3 xx4 nx5 xx6 nx7 x4 n5 (wrapI .i64 (ix10 + 1)) H6 Q))))
 (rdN H ax8 nx9 fun c7 =>
  txt c7 fun s8 =>
  Q (.tup [(.s (.str s8)), (.s (.int .i64 0))]) H)) := by kernel_rfl
theorem ref1_PutPage_ok : Sound Go.Proofs.Tryz.prog 38 (ref1_PutPage) := prog_ok.sound (cx := ref1_PutPage.cx) rfl (EnvOK.cons ((ref1_PageMay_ok).c ⟨_, Go.Proofs.Tryz.func67, by kernel_rfl, by kernel_rfl⟩) (EnvOK.nil _)) (noDyn_ok _) Go.Proofs.Tryz.func38 rfl

/-! 11: cryostat/cryostatref9.Images -/
def ref9_Images.cx : Cx := ⟨tys, [], [(5, [1, 4, 5])], [], [(31, ref9_Sound), (38, ref1_PutPage)], noDyn, [.tmp 2, .tmp 3]⟩
def ref9_Images : Sm := fun xs H Q => ∃ k, callK (ref9_Images.cx) Go.Proofs.Tryz.f11 k xs H Q
def ref9_Images.l5 (k : Nat) (xx0 : Pl) (nx1 : Nat) (ax2 : Pl) (nx3 : Nat) (ix4 : Int) (H : Hp) (Q : Post) : Prop := loopK (ref9_Images.cx) Go.Proofs.Tryz.f11 5 k (.bad :: (.bx [(.sl xx0 nx1 5)]) :: .bad :: .bad :: (.g (.sl ax2 nx3 2)) :: (.g (.int .i64 ix4)) :: B 25 ([])) H Q
theorem ref9_Images_eq (k : Nat) (z0 : Pl) (z0n : Nat) (H : Hp) (Q : Post) : callK (ref9_Images.cx) Go.Proofs.Tryz.f11 (k + 1) [.agg [.sl z0 z0n 5]] H Q = (
 cl ref9_Sound [(.agg [(.sl z0 z0n 5)])] H fun r0 H1 =>
 rG r0 fun v2 =>
 dB v2 fun b3 =>
 bite (!b3)
 (Q (.tup [(.s (.sl none 0 2)), (.s (.int .i64 1500))]) H1)
 (ref9_Images.l5 k z0 z0n none 0 0 H1 Q)) := by kernel_rfl
theorem ref9_Images.l5_eq (k : Nat) (xx0 : Pl) (nx1 : Nat) (ax2 : Pl) (nx3 : Nat) (ix4 : Int) (H : Hp) (Q : Post) : ref9_Images.l5 (k + 1) xx0 nx1 ax2 nx3 ix4 H Q = (
 bite (ltI ix4 48)
 (chk true (chk ((leI 0 ix4) && (ltI ix4 (nI nx1))) (pS xx0 fun n0 n1 =>
  rd H n0 (n1 + ((tN ix4) * 5)) fun v2 =>
  dB v2 fun b3 =>
  rd H n0 ((n1 + ((tN ix4) * 5)) + 1) fun v4 =>
  dB v4 fun b5 =>
  rd H n0 (((n1 + ((tN ix4) * 5)) + 1) + 1) fun v6 =>
  dL 1 v6 fun x7 n8 =>
  rd H n0 ((((n1 + ((tN ix4) * 5)) + 1) + 1) + 1) fun v9 =>
  dL 1 v9 fun x10 n11 =>
  rd H n0 (((((n1 + ((tN ix4) * 5)) + 1) + 1) + 1) + 1) fun v12 =>
  dL 1 v12 fun x13 n14 =>
  cl ref1_PutPage [(.agg [(.bool b3), (.bool b5), (.sl x7 n8 1), (.sl x10 n11 1), (.sl x13 n14 1)])] H fun r15 H16 =>
  rT r15 fun c17 =>
  uR c17 fun q18 c19 =>
  rS q18 fun v20 =>
  dS v20 fun s21 =>
  uR c19 fun q22 c23 =>
  rS q22 fun v24 =>
  dI .i64 v24 fun i25 =>
  uE c23 (chk true (ap H16 80 2 24 ax2 nx3 [(.int .i64 ix4), (.str s21)] 1 fun x26 n27 H28 =>
  ref9_Images.l5 k xx0 nx1 x26 n27 (wrapI .i64 (ix4 + 1)) H28 Q)))))
 (Q (.tup [(.s (.sl ax2 nx3 2)), (.s (.int .i64 0))]) H)) := by kernel_rfl
theorem ref9_Images_ok : Sound Go.Proofs.Tryz.prog 11 (ref9_Images) := prog_ok.sound (cx := ref9_Images.cx) rfl (EnvOK.cons ((ref9_Sound_ok).c ⟨_, Go.Proofs.Tryz.func31, by kernel_rfl, by kernel_rfl⟩) (EnvOK.cons ((ref1_PutPage_ok).c ⟨_, Go.Proofs.Tryz.func38, by kernel_rfl, by kernel_rfl⟩) (EnvOK.nil _))) (noDyn_ok _) Go.Proofs.Tryz.func11 rfl

/-! 12: cryostat/diff.Changed -/
def diff_Changed.cx : Cx := ⟨tys, [], [(7, [6, 10, 29, 30, 31])], [], [(10, diff_Images)], noDyn, [.tmp 4, .tmp 5]⟩
def diff_Changed : Sm := fun xs H Q => ∃ k, callK (diff_Changed.cx) Go.Proofs.Tryz.f12 k xs H Q
def diff_Changed.l7 (k : Nat) (xx0 : Pl) (nx1 : Nat) (ax2 : Pl) (nx3 : Nat) (xx4 : Pl) (nx5 : Nat) (ix6 : Int) (ix7 : Int) (H : Hp) (Q : Post) : Prop := loopK (diff_Changed.cx) Go.Proofs.Tryz.f12 7 k (B 6 ((.g (.sl xx0 nx1 2)) :: B 3 ((.g (.sl ax2 nx3 2)) :: B 18 ((.g (.sl xx4 nx5 2)) :: (.g (.int .i64 ix6)) :: (.g (.int .i64 ix7)) :: B 16 ([]))))) H Q
theorem diff_Changed_eq (k : Nat) (z0 : Pl) (z0n : Nat) (z1 : Pl) (z1n : Nat) (H : Hp) (Q : Post) : callK (diff_Changed.cx) Go.Proofs.Tryz.f12 (k + 1) [.agg [.sl z0 z0n 5], .agg [.sl z1 z1n 5]] H Q = (
 cl diff_Images [(.agg [(.sl z0 z0n 5)])] H fun r0 H1 =>
 rT r0 fun c2 =>
 uR c2 fun q3 c4 =>
 rS q3 fun v5 =>
 dL 2 v5 fun x6 n7 =>
 uR c4 fun q8 c9 =>
 rS q8 fun v10 =>
 dI .i64 v10 fun i11 =>
 uE c9 (cl diff_Images [(.agg [(.sl z1 z1n 5)])] H1 fun r12 H13 =>
 rT r12 fun c14 =>
 uR c14 fun q15 c16 =>
 rS q15 fun v17 =>
 dL 2 v17 fun x18 n19 =>
 uR c16 fun q20 c21 =>
 rS q20 fun v22 =>
 dI .i64 v22 fun i23 =>
 uE c21 (bite (!(eqI i11 0))
 (Q (.tup [(.s (.sl none 0 2)), (.s (.int .i64 1500))]) H13)
 (bite (!(eqI i23 0))
  (Q (.tup [(.s (.sl none 0 2)), (.s (.int .i64 1500))]) H13)
  (diff_Changed.l7 k x6 n7 none 0 x18 n19 (nI n19) 0 H13 Q))))) := by kernel_rfl
theorem diff_Changed.l7_eq (k : Nat) (xx0 : Pl) (nx1 : Nat) (ax2 : Pl) (nx3 : Nat) (xx4 : Pl) (nx5 : Nat) (ix6 : Int) (ix7 : Int) (H : Hp) (Q : Post) : diff_Changed.l7 (k + 1) xx0 nx1 ax2 nx3 xx4 nx5 ix6 ix7 H Q = (
 bite (ltI ix7 ix6)
 (chk true (chk ((leI 0 ix7) && (ltI ix7 (nI nx5))) (pS xx4 fun n0 n1 =>
  rd H n0 (n1 + ((tN ix7) * 2)) fun v2 =>
  dI .i64 v2 fun i3 =>
  rd H n0 ((n1 + ((tN ix7) * 2)) + 1) fun v4 =>
  dS v4 fun s5 =>
  chk true (chk ((leI 0 ix7) && (ltI ix7 (nI nx1))) (pS xx0 fun n6 n7 =>
  rd H n6 (n7 + ((tN ix7) * 2)) fun v8 =>
  dI .i64 v8 fun i9 =>
  rd H n6 ((n7 + ((tN ix7) * 2)) + 1) fun v10 =>
  dS v10 fun s11 =>
  bite (!((eqI i3 i9) && ((strEq s5 s11) && true)))
  (chk true (ap H 80 2 24 ax2 nx3 [(.int .i64 i3), (.str s5)] 1 fun x12 n13 H14 =>
   diff_Changed.l7 k xx0 nx1 x12 n13 xx4 nx5 ix6 (wrapI .i64 (ix7 + 1)) H14 Q))
  (diff_Changed.l7 k xx0 nx1 ax2 nx3 xx4 nx5 ix6 (wrapI .i64 (ix7 + 1)) H Q))))))
 (Q (.tup [(.s (.sl ax2 nx3 2)), (.s (.int .i64 0))]) H)) := by kernel_rfl
theorem diff_Changed_ok : Sound Go.Proofs.Tryz.prog 12 (diff_Changed) := prog_ok.sound (cx := diff_Changed.cx) rfl (EnvOK.cons ((diff_Images_ok).c ⟨_, Go.Proofs.Tryz.func10, by kernel_rfl, by kernel_rfl⟩) (EnvOK.nil _)) (noDyn_ok _) Go.Proofs.Tryz.func12 rfl

/-! 13: cryostat/cryostatref9.Changed -/
def ref9_Changed.cx : Cx := ⟨tys, [], [(7, [6, 8, 10, 11])], [], [(11, ref9_Images)], noDyn, [.tmp 4, .tmp 5]⟩
def ref9_Changed : Sm := fun xs H Q => ∃ k, callK (ref9_Changed.cx) Go.Proofs.Tryz.f13 k xs H Q
def ref9_Changed.l7 (k : Nat) (xx0 : Pl) (nx1 : Nat) (xx2 : Pl) (nx3 : Nat) (ax4 : Pl) (nx5 : Nat) (ix6 : Int) (H : Hp) (Q : Post) : Prop := loopK (ref9_Changed.cx) Go.Proofs.Tryz.f13 7 k (B 6 ((.g (.sl xx0 nx1 2)) :: .bad :: (.g (.sl xx2 nx3 2)) :: .bad :: (.g (.sl ax4 nx5 2)) :: (.g (.int .i64 ix6)) :: B 37 ([]))) H Q
theorem ref9_Changed_eq (k : Nat) (z0 : Pl) (z0n : Nat) (z1 : Pl) (z1n : Nat) (H : Hp) (Q : Post) : callK (ref9_Changed.cx) Go.Proofs.Tryz.f13 (k + 1) [.agg [.sl z0 z0n 5], .agg [.sl z1 z1n 5]] H Q = (
 cl ref9_Images [(.agg [(.sl z0 z0n 5)])] H fun r0 H1 =>
 rT r0 fun c2 =>
 uR c2 fun q3 c4 =>
 rS q3 fun v5 =>
 dL 2 v5 fun x6 n7 =>
 uR c4 fun q8 c9 =>
 rS q8 fun v10 =>
 dI .i64 v10 fun i11 =>
 uE c9 (cl ref9_Images [(.agg [(.sl z1 z1n 5)])] H1 fun r12 H13 =>
 rT r12 fun c14 =>
 uR c14 fun q15 c16 =>
 rS q15 fun v17 =>
 dL 2 v17 fun x18 n19 =>
 uR c16 fun q20 c21 =>
 rS q20 fun v22 =>
 dI .i64 v22 fun i23 =>
 uE c21 (bite (!(eqI i11 0))
 (Q (.tup [(.s (.sl none 0 2)), (.s (.int .i64 1500))]) H13)
 (bite (!(eqI i23 0))
  (Q (.tup [(.s (.sl none 0 2)), (.s (.int .i64 1500))]) H13)
  (ref9_Changed.l7 k x6 n7 x18 n19 none 0 0 H13 Q))))) := by kernel_rfl
theorem ref9_Changed.l7_eq (k : Nat) (xx0 : Pl) (nx1 : Nat) (xx2 : Pl) (nx3 : Nat) (ax4 : Pl) (nx5 : Nat) (ix6 : Int) (H : Hp) (Q : Post) : ref9_Changed.l7 (k + 1) xx0 nx1 xx2 nx3 ax4 nx5 ix6 H Q = (
 bite (ltI ix6 48)
 (chk true (chk ((leI 0 ix6) && (ltI ix6 (nI nx1))) (pS xx0 fun n0 n1 =>
  rd H n0 (n1 + ((tN ix6) * 2)) fun v2 =>
  dI .i64 v2 fun i3 =>
  rd H n0 ((n1 + ((tN ix6) * 2)) + 1) fun v4 =>
  dS v4 fun s5 =>
  chk true (chk ((leI 0 ix6) && (ltI ix6 (nI nx3))) (pS xx2 fun n6 n7 =>
  rd H n6 (n7 + ((tN ix6) * 2)) fun v8 =>
  dI .i64 v8 fun i9 =>
  rd H n6 ((n7 + ((tN ix6) * 2)) + 1) fun v10 =>
  dS v10 fun s11 =>
  bite (!((eqI i3 i9) && ((strEq s5 s11) && true)))
  (chk true (chk ((leI 0 ix6) && (ltI ix6 (nI nx3))) (pS xx2 fun n12 n13 =>
   rd H n12 (n13 + ((tN ix6) * 2)) fun v14 =>
   dI .i64 v14 fun i15 =>
   rd H n12 ((n13 + ((tN ix6) * 2)) + 1) fun v16 =>
   dS v16 fun s17 =>
   chk true (ap H 80 2 24 ax4 nx5 [(.int .i64 i15), (.str s17)] 1 fun x18 n19 H20 =>
   ref9_Changed.l7 k xx0 nx1 xx2 nx3 x18 n19 (wrapI .i64 (ix6 + 1)) H20 Q))))
  (ref9_Changed.l7 k xx0 nx1 xx2 nx3 ax4 nx5 (wrapI .i64 (ix6 + 1)) H Q))))))
 (Q (.tup [(.s (.sl ax4 nx5 2)), (.s (.int .i64 0))]) H)) := by kernel_rfl
theorem ref9_Changed_ok : Sound Go.Proofs.Tryz.prog 13 (ref9_Changed) := prog_ok.sound (cx := ref9_Changed.cx) rfl (EnvOK.cons ((ref9_Images_ok).c ⟨_, Go.Proofs.Tryz.func11, by kernel_rfl, by kernel_rfl⟩) (EnvOK.nil _)) (noDyn_ok _) Go.Proofs.Tryz.func13 rfl

/-! 70: cryostat/record.Seq -/
def record_Seq.cx : Cx := ⟨tys, [], [], [], [], noDyn, [.tmp 2]⟩
def record_Seq : Sm := fun xs H Q => ∃ k, callK (record_Seq.cx) Go.Proofs.Tryz.f70 k xs H Q
theorem record_Seq_eq (k : Nat) (z0 : Int) (H : Hp) (Q : Post) : callK (record_Seq.cx) Go.Proofs.Tryz.f70 (k + 1) [.g (.int .i64 z0)] H Q = (
 bite (leI 1 z0)
 (Q (.g (.bool (leI z0 2147483647))) H)
 (Q (.g (.bool false)) H)) := by kernel_rfl
theorem record_Seq_ok : Sound Go.Proofs.Tryz.prog 70 (record_Seq) := prog_ok.sound (cx := record_Seq.cx) rfl (EnvOK.nil _) (noDyn_ok _) Go.Proofs.Tryz.func70 rfl

/-! 69: cryostat/head.May -/
def head_May.cx : Cx := ⟨tys, [], [], [], [(70, record_Seq)], noDyn, [.tmp 2]⟩
def head_May : Sm := fun xs H Q => ∃ k, callK (head_May.cx) Go.Proofs.Tryz.f69 k xs H Q
theorem head_May_eq (k : Nat) (z0 : Int) (z1 : Int) (H : Hp) (Q : Post) : callK (head_May.cx) Go.Proofs.Tryz.f69 (k + 1) [.agg [.int .i64 z0, .int .i64 z1]] H Q = (
 bite (leI 0 z0)
 (bite (leI z0 2147483647)
  (cl record_Seq [(.g (.int .i64 z1))] H fun r0 H1 =>
   rG r0 fun v2 =>
   dB v2 fun b3 =>
   Q (.g (.bool b3)) H1)
  (Q (.g (.bool false)) H))
 (Q (.g (.bool false)) H)) := by kernel_rfl
theorem head_May_ok : Sound Go.Proofs.Tryz.prog 69 (head_May) := prog_ok.sound (cx := head_May.cx) rfl (EnvOK.cons ((record_Seq_ok).c ⟨_, Go.Proofs.Tryz.func70, by kernel_rfl, by kernel_rfl⟩) (EnvOK.nil _)) (noDyn_ok _) Go.Proofs.Tryz.func69 rfl

/-! 68: cryostat/plan.May$1 -/
def plan_May_1.cx : Cx := ⟨tys, [], [], [], [], noDyn, [.tmp 2]⟩
def plan_May_1 : Sm := fun xs H Q => ∃ k, callK (plan_May_1.cx) Go.Proofs.Tryz.f68 k xs H Q
theorem plan_May_1_eq (k : Nat) (z0 : ByteArray) (H : Hp) (Q : Post) : callK (plan_May_1.cx) Go.Proofs.Tryz.f68 (k + 1) [.g (.str z0)] H Q = (
 Q (.g (.bool (ltI 96 (sz z0)))) H) := by kernel_rfl
theorem plan_May_1_ok : Sound Go.Proofs.Tryz.prog 68 (plan_May_1) := prog_ok.sound (cx := plan_May_1.cx) rfl (EnvOK.nil _) (noDyn_ok _) Go.Proofs.Tryz.func68 rfl

/-! 39: cryostat/plan.May -/
def plan_May.cx : Cx := ⟨tys, [], [], [], [(69, head_May), (70, record_Seq), (71, (slices_ContainsFunc__string_string (dynOf [(68, plan_May_1)])))], noDyn, [.tmp 2]⟩
def plan_May : Sm := fun xs H Q => ∃ k, callK (plan_May.cx) Go.Proofs.Tryz.f39 k xs H Q
theorem plan_May_eq (k : Nat) (z0 : Int) (z1 : Int) (z2 : Int) (z3 : Int) (z4 : Pl) (z4n : Nat) (H : Hp) (Q : Post) : callK (plan_May.cx) Go.Proofs.Tryz.f39 (k + 1) [.agg [.int .i64 z0, .int .i64 z1, .int .i64 z2, .int .i64 z3, .sl z4 z4n 1]] H Q = (
 cl head_May [(.agg [(.int .i64 z0), (.int .i64 z1)])] H fun r0 H1 =>
 rG r0 fun v2 =>
 dB v2 fun b3 =>
 bite b3
 (cl record_Seq [(.g (.int .i64 z2))] H1 fun r4 H5 =>
  rG r4 fun v6 =>
  dB v6 fun b7 =>
  bite b7
  (bite (leI 0 z3)
   (bite (leI z3 200)
    (bite (eqI (nI z4n) 48)
     (cl (slices_ContainsFunc__string_string (dynOf [(68, plan_May_1)])) [(.g (.sl z4 z4n 1)), (.g (.fn 68 []))] H5 fun r8 H9 =>
      rG r8 fun v10 =>
      dB v10 fun b11 =>
      Q (.g (.bool (!b11))) H9)
     (Q (.g (.bool false)) H5))
    (Q (.g (.bool false)) H5))
   (Q (.g (.bool false)) H5))
  (Q (.g (.bool false)) H5))
 (Q (.g (.bool false)) H1)) := by kernel_rfl
theorem plan_May_ok : Sound Go.Proofs.Tryz.prog 39 (plan_May) := prog_ok.sound (cx := plan_May.cx) rfl (EnvOK.cons ((head_May_ok).c ⟨_, Go.Proofs.Tryz.func69, by kernel_rfl, by kernel_rfl⟩) (EnvOK.cons ((record_Seq_ok).c ⟨_, Go.Proofs.Tryz.func70, by kernel_rfl, by kernel_rfl⟩) (EnvOK.cons ((slices_ContainsFunc__string_string_ok (dynOf [(68, plan_May_1)]) (dynOf_ok (EnvOK.cons ((plan_May_1_ok).c ⟨_, Go.Proofs.Tryz.func68, by kernel_rfl, by kernel_rfl⟩) (EnvOK.nil _)))).c ⟨_, Go.Proofs.Tryz.func71, by kernel_rfl, by kernel_rfl⟩) (EnvOK.nil _)))) (noDyn_ok _) Go.Proofs.Tryz.func39 rfl

/-! 72: (*cryostat/page.taker).byte -/
def page_taker_byte.cx : Cx := ⟨tys, [], [], [], [], noDyn, [.tmp 2]⟩
def page_taker_byte : Sm := fun xs H Q => ∃ k, callK (page_taker_byte.cx) Go.Proofs.Tryz.f72 k xs H Q
theorem page_taker_byte_eq (k : Nat) (z0 : Pl) (H : Hp) (Q : Post) : callK (page_taker_byte.cx) Go.Proofs.Tryz.f72 (k + 1) [.g (.ptr z0)] H Q = (
 pS z0 fun n0 n1 =>
 rd H n0 (n1 + 0) fun v2 =>
 dS v2 fun s3 =>
 bite (strEq s3 (mkS []))
 (Q (.g (.int .i64 0)) H)
 (pS z0 fun n4 n5 =>
  rd H n4 (n5 + 0) fun v6 =>
  dS v6 fun s7 =>
  chk ((leI 0 0) && (ltI 0 (sz s7))) (pS z0 fun n8 n9 =>
  rd H n8 (n9 + 0) fun v10 =>
  dS v10 fun s11 =>
  chk ((leN (tN 1) (szN s11)) && (leN (szN s11) (szN s11))) (pS z0 fun n12 n13 =>
  wr H n12 (n13 + 0) (.str (sub s11 (tN 1) (szN s11))) fun H14 =>
  Q (.g (.int .i64 (wrapI .i64 (byt s7 (tN 0))))) H14)))) := by kernel_rfl
theorem page_taker_byte_ok : Sound Go.Proofs.Tryz.prog 72 (page_taker_byte) := prog_ok.sound (cx := page_taker_byte.cx) rfl (EnvOK.nil _) (noDyn_ok _) Go.Proofs.Tryz.func72 rfl

/-! 73: (*cryostat/page.taker).text -/
def page_taker_text.cx : Cx := ⟨tys, [], [], [], [(72, page_taker_byte)], noDyn, [.tmp 2]⟩
def page_taker_text : Sm := fun xs H Q => ∃ k, callK (page_taker_text.cx) Go.Proofs.Tryz.f73 k xs H Q
theorem page_taker_text_eq (k : Nat) (z0 : Pl) (H : Hp) (Q : Post) : callK (page_taker_text.cx) Go.Proofs.Tryz.f73 (k + 1) [.g (.ptr z0)] H Q = (
 cl page_taker_byte [(.g (.ptr z0))] H fun r0 H1 =>
 rG r0 fun v2 =>
 dI .i64 v2 fun i3 =>
 pS z0 fun n4 n5 =>
 rd H1 n4 (n5 + 0) fun v6 =>
 dS v6 fun s7 =>
 pS z0 fun n8 n9 =>
 rd H1 n8 (n9 + 0) fun v10 =>
 dS v10 fun s11 =>
 chk (leI 0 (mnI i3 (sz s7))) (chk ((leN 0 (tN (mnI i3 (sz s7)))) && (leN (tN (mnI i3 (sz s7))) (szN s11))) (pS z0 fun n12 n13 =>
 rd H1 n12 (n13 + 0) fun v14 =>
 dS v14 fun s15 =>
 chk (leI 0 (mnI i3 (sz s7))) (chk ((leN (tN (mnI i3 (sz s7))) (szN s15)) && (leN (szN s15) (szN s15))) (pS z0 fun n16 n17 =>
 wr H1 n16 (n17 + 0) (.str (sub s15 (tN (mnI i3 (sz s7))) (szN s15))) fun H18 =>
 Q (.g (.str (sub s11 0 (tN (mnI i3 (sz s7)))))) H18))))) := by kernel_rfl
theorem page_taker_text_ok : Sound Go.Proofs.Tryz.prog 73 (page_taker_text) := prog_ok.sound (cx := page_taker_text.cx) rfl (EnvOK.cons ((page_taker_byte_ok).c ⟨_, Go.Proofs.Tryz.func72, by kernel_rfl, by kernel_rfl⟩) (EnvOK.nil _)) (noDyn_ok _) Go.Proofs.Tryz.func73 rfl

/-! 40: cryostat/page.Get -/
def page_Get.cx : Cx := ⟨tys, [12], [(5, [0, 2, 4, 5, 6, 12, 20, 21]), (11, [0, 2, 4, 5, 6, 7, 12])], [], [(72, page_taker_byte), (73, page_taker_text), (37, page_Put)], noDyn, [.cell 2 75, .tmp 3]⟩
def page_Get : Sm := fun xs H Q => ∃ k, callK (page_Get.cx) Go.Proofs.Tryz.f40 k xs H Q
def page_Get.l5 (k : Nat) (sx0 : ByteArray) (bx1 : Bool) (bx2 : Bool) (ax3 : Pl) (nx4 : Nat) (ax5 : Pl) (nx6 : Nat) (ax7 : Pl) (nx8 : Nat) (nx9 : Nat) (nx10 : Nat) (bx11 : Bool) (bx12 : Bool) (ax13 : Pl) (nx14 : Nat) (ax15 : Pl) (nx16 : Nat) (ax17 : Pl) (nx18 : Nat) (ix19 : Int) (nx20 : Nat) (nx21 : Nat) (ix22 : Int) (ix23 : Int) (H : Hp) (Q : Post) : Prop := loopK (page_Get.cx) Go.Proofs.Tryz.f40 5 k ((.g (.str sx0)) :: .bad :: (.bx [(.bool bx1), (.bool bx2), (.sl ax3 nx4 1), (.sl ax5 nx6 1), (.sl ax7 nx8 1)]) :: .bad :: (.g (.ptr (some (nx9, nx10)))) :: (.bx [(.bool bx11), (.bool bx12), (.sl ax13 nx14 1), (.sl ax15 nx16 1), (.sl ax17 nx18 1)]) :: (.g (.int .i64 ix19)) :: B 5 ((.g (.ptr (some (nx20, nx21)))) :: B 7 ((.g (.int .i64 ix22)) :: (.g (.int .i64 ix23)) :: B 49 ([])))) H Q
def page_Get.l11 (k : Nat) (sx0 : ByteArray) (bx1 : Bool) (bx2 : Bool) (ax3 : Pl) (nx4 : Nat) (ax5 : Pl) (nx6 : Nat) (ax7 : Pl) (nx8 : Nat) (nx9 : Nat) (nx10 : Nat) (bx11 : Bool) (bx12 : Bool) (ax13 : Pl) (nx14 : Nat) (ax15 : Pl) (nx16 : Nat) (ax17 : Pl) (nx18 : Nat) (ix19 : Int) (ix20 : Int) (nx21 : Nat) (nx22 : Nat) (H : Hp) (Q : Post) : Prop := loopK (page_Get.cx) Go.Proofs.Tryz.f40 11 k ((.g (.str sx0)) :: .bad :: (.bx [(.bool bx1), (.bool bx2), (.sl ax3 nx4 1), (.sl ax5 nx6 1), (.sl ax7 nx8 1)]) :: .bad :: (.g (.ptr (some (nx9, nx10)))) :: (.bx [(.bool bx11), (.bool bx12), (.sl ax13 nx14 1), (.sl ax15 nx16 1), (.sl ax17 nx18 1)]) :: (.g (.int .i64 ix19)) :: (.g (.int .i64 ix20)) :: B 4 ((.g (.ptr (some (nx21, nx22)))) :: B 58 ([]))) H Q
theorem page_Get_eq (k : Nat) (z0 : ByteArray) (H : Hp) (Q : Post) : callK (page_Get.cx) Go.Proofs.Tryz.f40 (k + 1) [.g (.str z0)] H Q = (
 cl page_taker_byte [(.g (.ptr (some ((ln H), 0))))] (pu H (.row true 129 [(.str z0)])) fun r0 H1 =>
 rG r0 fun v2 =>
 dI .i64 v2 fun i3 =>
 cl page_taker_byte [(.g (.ptr (some ((ln H), 0))))] H1 fun r4 H5 =>
 rG r4 fun v6 =>
 dI .i64 v6 fun i7 =>
 page_Get.l5 k z0 false false none 0 none 0 none 0 (ln H) 0 true (eqI i3 1) none 0 none 0 none 0 (mnI i7 4) (ln H) 0 (mnI i7 4) 0 H5 Q) := by kernel_rfl
theorem page_Get.l5_eq (k : Nat) (sx0 : ByteArray) (bx1 : Bool) (bx2 : Bool) (ax3 : Pl) (nx4 : Nat) (ax5 : Pl) (nx6 : Nat) (ax7 : Pl) (nx8 : Nat) (nx9 : Nat) (nx10 : Nat) (bx11 : Bool) (bx12 : Bool) (ax13 : Pl) (nx14 : Nat) (ax15 : Pl) (nx16 : Nat) (ax17 : Pl) (nx18 : Nat) (ix19 : Int) (nx20 : Nat) (nx21 : Nat) (ix22 : Int) (ix23 : Int) (H : Hp) (Q : Post) : page_Get.l5 (k + 1) sx0 bx1 bx2 ax3 nx4 ax5 nx6 ax7 nx8 nx9 nx10 bx11 bx12 ax13 nx14 ax15 nx16 ax17 nx18 ix19 nx20 nx21 ix22 ix23 H Q = (
 bite (ltI ix23 ix22)
 (cl page_taker_text [(.g (.ptr (some (nx9, nx10))))] H fun r0 H1 =>
  rG r0 fun v2 =>
  dS v2 fun s3 =>
  chk true (ap H1 9 1 16 ax13 nx14 [(.str s3)] 1 fun x4 n5 H6 =>
  bite bx12
  (cl page_taker_text [(.g (.ptr (some (nx9, nx10))))] H6 fun r7 H8 =>
   rG r7 fun v9 =>
   dS v9 fun s10 =>
   chk true (ap H8 9 1 16 ax15 nx16 [(.str s10)] 1 fun x11 n12 H13 =>
   page_Get.l5 k sx0 bx1 bx2 ax3 nx4 ax5 nx6 ax7 nx8 nx9 nx10 bx11 bx12 x4 n5 x11 n12 ax17 nx18 ix19 nx20 nx21 ix22 (wrapI .i64 (ix23 + 1)) H13 Q))
  (page_Get.l5 k sx0 bx1 bx2 ax3 nx4 ax5 nx6 ax7 nx8 nx9 nx10 bx11 bx12 x4 n5 ax15 nx16 ax17 nx18 ix19 nx20 nx21 ix22 (wrapI .i64 (ix23 + 1)) H6 Q)))
 (page_Get.l11 k sx0 bx1 bx2 ax3 nx4 ax5 nx6 ax7 nx8 nx9 nx10 bx11 bx12 ax13 nx14 ax15 nx16 ax17 nx18 ix19 0 nx20 nx21 H Q)) := by kernel_rfl
theorem page_Get.l11_eq (k : Nat) (sx0 : ByteArray) (bx1 : Bool) (bx2 : Bool) (ax3 : Pl) (nx4 : Nat) (ax5 : Pl) (nx6 : Nat) (ax7 : Pl) (nx8 : Nat) (nx9 : Nat) (nx10 : Nat) (bx11 : Bool) (bx12 : Bool) (ax13 : Pl) (nx14 : Nat) (ax15 : Pl) (nx16 : Nat) (ax17 : Pl) (nx18 : Nat) (ix19 : Int) (ix20 : Int) (nx21 : Nat) (nx22 : Nat) (H : Hp) (Q : Post) : page_Get.l11 (k + 1) sx0 bx1 bx2 ax3 nx4 ax5 nx6 ax7 nx8 nx9 nx10 bx11 bx12 ax13 nx14 ax15 nx16 ax17 nx18 ix19 ix20 nx21 nx22 H Q = (
 bite (leI ix20 ix19)
 (bite (!bx12)
  (cl page_taker_byte [(.g (.ptr (some (nx9, nx10))))] H fun r0 H1 =>
   rG r0 fun v2 =>
   dI .i64 v2 fun i3 =>
   chk true (ap H1 3 1 8 ax17 nx18 [(.int .i64 i3)] 1 fun x4 n5 H6 =>
   page_Get.l11 k sx0 bx1 bx2 ax3 nx4 ax5 nx6 ax7 nx8 nx9 nx10 bx11 bx12 ax13 nx14 ax15 nx16 x4 n5 ix19 (wrapI .i64 (ix20 + 1)) nx21 nx22 H6 Q))
  (cl page_Put [(.agg [(.bool bx11), (.bool bx12), (.sl ax13 nx14 1), (.sl ax15 nx16 1), (.sl ax17 nx18 1)])] H fun r7 H8 =>
   rT r7 fun c9 =>
   uR c9 fun q10 c11 =>
   rS q10 fun v12 =>
   dS v12 fun s13 =>
   uR c11 fun q14 c15 =>
   rS q14 fun v16 =>
   dI .i64 v16 fun i17 =>
   uE c15 (bite (!(eqI i17 0))
   (Q (.tup [(.a [(.bool false), (.bool false), (.sl none 0 1), (.sl none 0 1), (.sl none 0 1)]), (.s (.int .i64 600))]) H8)
   (bite (!(strEq s13 sx0))
    (Q (.tup [(.a [(.bool false), (.bool false), (.sl none 0 1), (.sl none 0 1), (.sl none 0 1)]), (.s (.int .i64 600))]) H8)
    (Q (.tup [(.a [(.bool bx11), (.bool bx12), (.sl ax13 nx14 1), (.sl ax15 nx16 1), (.sl ax17 nx18 1)]), (.s (.int .i64 0))]) H8)))))
 (cl page_Put [(.agg [(.bool bx11), (.bool bx12), (.sl ax13 nx14 1), (.sl ax15 nx16 1), (.sl ax17 nx18 1)])] H fun r18 H19 =>
  rT r18 fun c20 =>
  uR c20 fun q21 c22 =>
  rS q21 fun v23 =>
  dS v23 fun s24 =>
  uR c22 fun q25 c26 =>
  rS q25 fun v27 =>
  dI .i64 v27 fun i28 =>
  uE c26 (bite (!(eqI i28 0))
  (Q (.tup [(.a [(.bool false), (.bool false), (.sl none 0 1), (.sl none 0 1), (.sl none 0 1)]), (.s (.int .i64 600))]) H19)
  (bite (!(strEq s24 sx0))
   (Q (.tup [(.a [(.bool false), (.bool false), (.sl none 0 1), (.sl none 0 1), (.sl none 0 1)]), (.s (.int .i64 600))]) H19)
   (Q (.tup [(.a [(.bool bx11), (.bool bx12), (.sl ax13 nx14 1), (.sl ax15 nx16 1), (.sl ax17 nx18 1)]), (.s (.int .i64 0))]) H19))))) := by kernel_rfl
theorem page_Get_ok : Sound Go.Proofs.Tryz.prog 40 (page_Get) := prog_ok.sound (cx := page_Get.cx) rfl (EnvOK.cons ((page_taker_byte_ok).c ⟨_, Go.Proofs.Tryz.func72, by kernel_rfl, by kernel_rfl⟩) (EnvOK.cons ((page_taker_text_ok).c ⟨_, Go.Proofs.Tryz.func73, by kernel_rfl, by kernel_rfl⟩) (EnvOK.cons ((page_Put_ok).c ⟨_, Go.Proofs.Tryz.func37, by kernel_rfl, by kernel_rfl⟩) (EnvOK.nil _)))) (noDyn_ok _) Go.Proofs.Tryz.func40 rfl

/-! 14: cryostat/diff.Tree -/
def diff_Tree.cx : Cx := ⟨tys, [], [(5, [2, 4, 5, 16, 17, 18])], [(11, [2, 4, 5, 8, 9, 16, 17, 18])], [(39, plan_May), (40, page_Get), (41, sound_New), (36, sound_Sound)], noDyn, [.cell 2 24, .tmp 3]⟩
def diff_Tree : Sm := fun xs H Q => ∃ k, callK (diff_Tree.cx) Go.Proofs.Tryz.f14 k xs H Q
def diff_Tree.l5 (k : Nat) (ax0 : Pl) (nx1 : Nat) (ax2 : Pl) (nx3 : Nat) (bx4 : Bool) (xx5 : Pl) (nx6 : Nat) (ix7 : Int) (ix8 : Int) (H : Hp) (Q : Post) : Prop := loopK (diff_Tree.cx) Go.Proofs.Tryz.f14 5 k (.bad :: .bad :: (.bx [(.sl ax0 nx1 5)]) :: .bad :: (.bx [(.sl ax2 nx3 5)]) :: (.g (.bool bx4)) :: B 10 ((.g (.sl xx5 nx6 1)) :: (.g (.int .i64 ix7)) :: (.g (.int .i64 ix8)) :: B 28 ([]))) H Q
def diff_Tree.l11 (k : Nat) (ax0 : Pl) (nx1 : Nat) (ax2 : Pl) (nx3 : Nat) (bx4 : Bool) (bx5 : Bool) (bx6 : Bool) (xx7 : Pl) (nx8 : Nat) (xx9 : Pl) (nx10 : Nat) (xx11 : Pl) (nx12 : Nat) (ix13 : Int) (xx14 : Pl) (nx15 : Nat) (ix16 : Int) (ix17 : Int) (H : Hp) (Q : Post) : Prop := loopK (diff_Tree.cx) Go.Proofs.Tryz.f14 11 k (.bad :: .bad :: (.bx [(.sl ax0 nx1 5)]) :: .bad :: (.bx [(.sl ax2 nx3 5)]) :: (.g (.bool bx4)) :: .bad :: .bad :: (.bx [(.bool bx5), (.bool bx6), (.sl xx7 nx8 1), (.sl xx9 nx10 1), (.sl xx11 nx12 1)]) :: (.g (.int .i64 ix13)) :: B 6 ((.g (.sl xx14 nx15 1)) :: (.g (.int .i64 ix16)) :: (.g (.int .i64 ix17)) :: B 28 ([]))) H Q
theorem diff_Tree_eq (k : Nat) (z0 : Int) (z1 : Int) (z2 : Int) (z3 : Int) (z4 : Pl) (z4n : Nat) (H : Hp) (Q : Post) : callK (diff_Tree.cx) Go.Proofs.Tryz.f14 (k + 1) [.agg [.int .i64 z0, .int .i64 z1, .int .i64 z2, .int .i64 z3, .sl z4 z4n 1]] H Q = (
 cl plan_May [(.agg [(.int .i64 z0), (.int .i64 z1), (.int .i64 z2), (.int .i64 z3), (.sl z4 z4n 1)])] H fun r0 H1 =>
 rG r0 fun v2 =>
 dB v2 fun b3 =>
 bite (!b3)
 (Q (.tup [(.a [(.sl none 0 5)]), (.s (.int .i64 1500))]) H1)
 (diff_Tree.l5 k none 0 none 0 true z4 z4n (nI z4n) 0 H1 Q)) := by kernel_rfl
theorem diff_Tree.l5_eq (k : Nat) (ax0 : Pl) (nx1 : Nat) (ax2 : Pl) (nx3 : Nat) (bx4 : Bool) (xx5 : Pl) (nx6 : Nat) (ix7 : Int) (ix8 : Int) (H : Hp) (Q : Post) : diff_Tree.l5 (k + 1) ax0 nx1 ax2 nx3 bx4 xx5 nx6 ix7 ix8 H Q = (
 bite (ltI ix8 ix7)
 (chk true (chk ((leI 0 ix8) && (ltI ix8 (nI nx6))) (pS xx5 fun n0 n1 =>
  rd H n0 (n1 + ((tN ix8) * 1)) fun v2 =>
  dS v2 fun s3 =>
  bite (!(strEq s3 (mkS [])))
  (cl page_Get [(.g (.str s3))] H fun r4 H5 =>
   rT r4 fun c6 =>
   uR c6 fun q7 c8 =>
   rC q7 fun c9 =>
   uC c9 fun v10 c11 =>
   dB v10 fun b12 =>
   uC c11 fun v13 c14 =>
   dB v13 fun b15 =>
   uC c14 fun v16 c17 =>
   dL 1 v16 fun x18 n19 =>
   uC c17 fun v20 c21 =>
   dL 1 v20 fun x22 n23 =>
   uC c21 fun v24 c25 =>
   dL 1 v24 fun x26 n27 =>
   uN c25 (uR c8 fun q28 c29 =>
   rS q28 fun v30 =>
   dI .i64 v30 fun i31 =>
   uE c29 (diff_Tree.l11 k ax0 nx1 ax2 nx3 false b12 b15 x18 n19 x22 n23 x26 n27 i31 xx5 nx6 ix7 ix8 H5 Q)))
  (diff_Tree.l11 k ax0 nx1 ax2 nx3 bx4 false false none 0 none 0 none 0 0 xx5 nx6 ix7 ix8 H Q))))
 (bite bx4
  (cl sound_New [] H fun r32 H33 =>
   rA r32 fun c34 =>
   uC c34 fun v35 c36 =>
   dL 5 v35 fun x37 n38 =>
   uN c36 (Q (.tup [(.a [(.sl x37 n38 5)]), (.s (.int .i64 0))]) H33))
  (cl sound_Sound [(.agg [(.sl ax2 nx3 5)])] H fun r39 H40 =>
   rG r39 fun v41 =>
   dB v41 fun b42 =>
   bite (!b42)
   (Q (.tup [(.a [(.sl none 0 5)]), (.s (.int .i64 1500))]) H40)
   (Q (.tup [(.a [(.sl ax2 nx3 5)]), (.s (.int .i64 0))]) H40)))) := by kernel_rfl
theorem diff_Tree.l11_eq (k : Nat) (ax0 : Pl) (nx1 : Nat) (ax2 : Pl) (nx3 : Nat) (bx4 : Bool) (bx5 : Bool) (bx6 : Bool) (xx7 : Pl) (nx8 : Nat) (xx9 : Pl) (nx10 : Nat) (xx11 : Pl) (nx12 : Nat) (ix13 : Int) (xx14 : Pl) (nx15 : Nat) (ix16 : Int) (ix17 : Int) (H : Hp) (Q : Post) : diff_Tree.l11 (k + 1) ax0 nx1 ax2 nx3 bx4 bx5 bx6 xx7 nx8 xx9 nx10 xx11 nx12 ix13 xx14 nx15 ix16 ix17 H Q = (
 bite (!(eqI ix13 0))
 (Q (.tup [(.a [(.sl none 0 5)]), (.s (.int .i64 1500))]) H)
 (chk true (ap H 75 5 80 ax2 nx3 [(.bool bx5), (.bool bx6), (.sl xx7 nx8 1), (.sl xx9 nx10 1), (.sl xx11 nx12 1)] 1 fun x0 n1 H2 =>
  diff_Tree.l5 k ax0 nx1 x0 n1 bx4 xx14 nx15 ix16 (wrapI .i64 (ix17 + 1)) H2 Q))) := by kernel_rfl
theorem diff_Tree_ok : Sound Go.Proofs.Tryz.prog 14 (diff_Tree) := prog_ok.sound (cx := diff_Tree.cx) rfl (EnvOK.cons ((plan_May_ok).c ⟨_, Go.Proofs.Tryz.func39, by kernel_rfl, by kernel_rfl⟩) (EnvOK.cons ((page_Get_ok).c ⟨_, Go.Proofs.Tryz.func40, by kernel_rfl, by kernel_rfl⟩) (EnvOK.cons ((sound_New_ok).c ⟨_, Go.Proofs.Tryz.func41, by kernel_rfl, by kernel_rfl⟩) (EnvOK.cons ((sound_Sound_ok).c ⟨_, Go.Proofs.Tryz.func36, by kernel_rfl, by kernel_rfl⟩) (EnvOK.nil _))))) (noDyn_ok _) Go.Proofs.Tryz.func14 rfl

/-! 74: cryostat/cryostatref1.textMay -/
def ref1_textMay.cx : Cx := ⟨tys, [], [], [], [], noDyn, [.tmp 2]⟩
def ref1_textMay : Sm := fun xs H Q => ∃ k, callK (ref1_textMay.cx) Go.Proofs.Tryz.f74 k xs H Q
theorem ref1_textMay_eq (k : Nat) (z0 : ByteArray) (H : Hp) (Q : Post) : callK (ref1_textMay.cx) Go.Proofs.Tryz.f74 (k + 1) [.g (.str z0)] H Q = (
 Q (.g (.bool (leI (sz z0) 96))) H) := by kernel_rfl
theorem ref1_textMay_ok : Sound Go.Proofs.Tryz.prog 74 (ref1_textMay) := prog_ok.sound (cx := ref1_textMay.cx) rfl (EnvOK.nil _) (noDyn_ok _) Go.Proofs.Tryz.func74 rfl

/-! 76: cryostat/cryostatref1.seqMay -/
def ref1_seqMay.cx : Cx := ⟨tys, [], [], [], [], noDyn, [.tmp 2]⟩
def ref1_seqMay : Sm := fun xs H Q => ∃ k, callK (ref1_seqMay.cx) Go.Proofs.Tryz.f76 k xs H Q
theorem ref1_seqMay_eq (k : Nat) (z0 : Int) (H : Hp) (Q : Post) : callK (ref1_seqMay.cx) Go.Proofs.Tryz.f76 (k + 1) [.g (.int .i64 z0)] H Q = (
 bite (leI 1 z0)
 (Q (.g (.bool (leI z0 2147483647))) H)
 (Q (.g (.bool false)) H)) := by kernel_rfl
theorem ref1_seqMay_ok : Sound Go.Proofs.Tryz.prog 76 (ref1_seqMay) := prog_ok.sound (cx := ref1_seqMay.cx) rfl (EnvOK.nil _) (noDyn_ok _) Go.Proofs.Tryz.func76 rfl

/-! 75: cryostat/cryostatref1.HeadMay -/
def ref1_HeadMay.cx : Cx := ⟨tys, [], [], [], [(76, ref1_seqMay)], noDyn, [.tmp 2]⟩
def ref1_HeadMay : Sm := fun xs H Q => ∃ k, callK (ref1_HeadMay.cx) Go.Proofs.Tryz.f75 k xs H Q
theorem ref1_HeadMay_eq (k : Nat) (z0 : Int) (z1 : Int) (H : Hp) (Q : Post) : callK (ref1_HeadMay.cx) Go.Proofs.Tryz.f75 (k + 1) [.agg [.int .i64 z0, .int .i64 z1]] H Q = (
 bite (leI 0 z0)
 (bite (leI z0 2147483647)
  (cl ref1_seqMay [(.g (.int .i64 z1))] H fun r0 H1 =>
   rG r0 fun v2 =>
   dB v2 fun b3 =>
   Q (.g (.bool b3)) H1)
  (Q (.g (.bool false)) H))
 (Q (.g (.bool false)) H)) := by kernel_rfl
theorem ref1_HeadMay_ok : Sound Go.Proofs.Tryz.prog 75 (ref1_HeadMay) := prog_ok.sound (cx := ref1_HeadMay.cx) rfl (EnvOK.cons ((ref1_seqMay_ok).c ⟨_, Go.Proofs.Tryz.func76, by kernel_rfl, by kernel_rfl⟩) (EnvOK.nil _)) (noDyn_ok _) Go.Proofs.Tryz.func75 rfl

/-! 42: cryostat/cryostatref1.PagerMay -/
def ref1_PagerMay.cx : Cx := ⟨tys, [], [(2, [1, 3])], [], [(74, ref1_textMay), (75, ref1_HeadMay), (76, ref1_seqMay)], noDyn, [.tmp 2]⟩
def ref1_PagerMay : Sm := fun xs H Q => ∃ k, callK (ref1_PagerMay.cx) Go.Proofs.Tryz.f42 k xs H Q
def ref1_PagerMay.l2 (k : Nat) (ix0 : Int) (ix1 : Int) (ix2 : Int) (ix3 : Int) (xx4 : Pl) (nx5 : Nat) (ix6 : Int) (H : Hp) (Q : Post) : Prop := loopK (ref1_PagerMay.cx) Go.Proofs.Tryz.f42 2 k (.bad :: (.bx [(.int .i64 ix0), (.int .i64 ix1), (.int .i64 ix2), (.int .i64 ix3), (.sl xx4 nx5 1)]) :: .bad :: (.g (.int .i64 ix6)) :: B 38 ([])) H Q
theorem ref1_PagerMay_eq (k : Nat) (z0 : Int) (z1 : Int) (z2 : Int) (z3 : Int) (z4 : Pl) (z4n : Nat) (H : Hp) (Q : Post) : callK (ref1_PagerMay.cx) Go.Proofs.Tryz.f42 (k + 1) [.agg [.int .i64 z0, .int .i64 z1, .int .i64 z2, .int .i64 z3, .sl z4 z4n 1]] H Q = (
 ref1_PagerMay.l2 k z0 z1 z2 z3 z4 z4n 0 H Q) := by kernel_rfl
theorem ref1_PagerMay.l2_eq (k : Nat) (ix0 : Int) (ix1 : Int) (ix2 : Int) (ix3 : Int) (xx4 : Pl) (nx5 : Nat) (ix6 : Int) (H : Hp) (Q : Post) : ref1_PagerMay.l2 (k + 1) ix0 ix1 ix2 ix3 xx4 nx5 ix6 H Q = (
 bite (ltI ix6 (nI nx5))
 (chk true (chk ((leI 0 ix6) && (ltI ix6 (nI nx5))) (pS xx4 fun n0 n1 =>
  rd H n0 (n1 + ((tN ix6) * 1)) fun v2 =>
  dS v2 fun s3 =>
  cl ref1_textMay [(.g (.str s3))] H fun r4 H5 =>
  rG r4 fun v6 =>
  dB v6 fun b7 =>
  bite (!b7)
  (Q (.g (.bool false)) H5)
  (ref1_PagerMay.l2 k ix0 ix1 ix2 ix3 xx4 nx5 (wrapI .i64 (ix6 + 1)) H5 Q))))
 (cl ref1_HeadMay [(.agg [(.int .i64 ix0), (.int .i64 ix1)])] H fun r8 H9 =>
  rG r8 fun v10 =>
  dB v10 fun b11 =>
  bite b11
  (cl ref1_seqMay [(.g (.int .i64 ix2))] H9 fun r12 H13 =>
   rG r12 fun v14 =>
   dB v14 fun b15 =>
   bite b15
   (bite (leI 0 ix3)
    (bite (leI ix3 200)
     (Q (.g (.bool (eqI (nI nx5) 48))) H13)
     (Q (.g (.bool false)) H13))
    (Q (.g (.bool false)) H13))
   (Q (.g (.bool false)) H13))
  (Q (.g (.bool false)) H9))) := by kernel_rfl
theorem ref1_PagerMay_ok : Sound Go.Proofs.Tryz.prog 42 (ref1_PagerMay) := prog_ok.sound (cx := ref1_PagerMay.cx) rfl (EnvOK.cons ((ref1_textMay_ok).c ⟨_, Go.Proofs.Tryz.func74, by kernel_rfl, by kernel_rfl⟩) (EnvOK.cons ((ref1_HeadMay_ok).c ⟨_, Go.Proofs.Tryz.func75, by kernel_rfl, by kernel_rfl⟩) (EnvOK.cons ((ref1_seqMay_ok).c ⟨_, Go.Proofs.Tryz.func76, by kernel_rfl, by kernel_rfl⟩) (EnvOK.nil _)))) (noDyn_ok _) Go.Proofs.Tryz.func42 rfl

/-! 77: cryostat/cryostatref1.taken -/
def ref1_taken.cx : Cx := ⟨tys, [], [], [], [], noDyn, [.tmp 4, .tmp 5]⟩
def ref1_taken : Sm := fun xs H Q => ∃ k, callK (ref1_taken.cx) Go.Proofs.Tryz.f77 k xs H Q
theorem ref1_taken_eq (k : Nat) (z0 : ByteArray) (z1 : Int) (H : Hp) (Q : Post) : callK (ref1_taken.cx) Go.Proofs.Tryz.f77 (k + 1) [.g (.str z0), .g (.int .i64 z1)] H Q = (
 bite (ltI z1 0)
 (Q (.tup [(.s (.str (mkS []))), (.s (.int .i64 (-1)))]) H)
 (bite (leI (sz z0) z1)
  (Q (.tup [(.s (.str (mkS []))), (.s (.int .i64 (-1)))]) H)
  (chk ((leI 0 z1) && (ltI z1 (sz z0))) (bite (ltI (sz z0) (wrapI .i64 ((wrapI .i64 (z1 + 1)) + (wrapI .i64 (byt z0 (tN z1))))))
   (Q (.tup [(.s (.str (mkS []))), (.s (.int .i64 (-1)))]) H)
   (chk ((leI 0 z1) && (ltI z1 (sz z0))) (chk (leI 0 (wrapI .i64 ((wrapI .i64 (z1 + 1)) + (wrapI .i64 (byt z0 (tN z1)))))) (chk (leI 0 (wrapI .i64 (z1 + 1))) (chk ((leN (tN (wrapI .i64 (z1 + 1))) (tN (wrapI .i64 ((wrapI .i64 (z1 + 1)) + (wrapI .i64 (byt z0 (tN z1))))))) && (leN (tN (wrapI .i64 ((wrapI .i64 (z1 + 1)) + (wrapI .i64 (byt z0 (tN z1)))))) (szN z0))) (chk ((leI 0 z1) && (ltI z1 (sz z0))) (Q (.tup [(.s (.str (sub z0 (tN (wrapI .i64 (z1 + 1))) (tN (wrapI .i64 ((wrapI .i64 (z1 + 1)) + (wrapI .i64 (byt z0 (tN z1))))))))), (.s (.int .i64 (wrapI .i64 ((wrapI .i64 (z1 + 1)) + (wrapI .i64 (byt z0 (tN z1)))))))]) H)))))))))) := by kernel_rfl
theorem ref1_taken_ok : Sound Go.Proofs.Tryz.prog 77 (ref1_taken) := prog_ok.sound (cx := ref1_taken.cx) rfl (EnvOK.nil _) (noDyn_ok _) Go.Proofs.Tryz.func77 rfl

/-! 43: cryostat/cryostatref1.GetPage -/
def ref1_GetPage.cx : Cx := ⟨tys, [], [(6, [0, 2, 4, 5, 6]), (16, [0, 2, 4, 11])], [], [(77, ref1_taken), (38, ref1_PutPage)], noDyn, [.cell 2 75, .tmp 3]⟩
def ref1_GetPage : Sm := fun xs H Q => ∃ k, callK (ref1_GetPage.cx) Go.Proofs.Tryz.f43 k xs H Q
def ref1_GetPage.l6 (k : Nat) (sx0 : ByteArray) (bx1 : Bool) (bx2 : Bool) (ax3 : Pl) (nx4 : Nat) (ax5 : Pl) (nx6 : Nat) (ax7 : Pl) (nx8 : Nat) (bx9 : Bool) (bx10 : Bool) (ax11 : Pl) (nx12 : Nat) (ax13 : Pl) (nx14 : Nat) (ax15 : Pl) (nx16 : Nat) (ix17 : Int) (ix18 : Int) (H : Hp) (Q : Post) : Prop := loopK (ref1_GetPage.cx) Go.Proofs.Tryz.f43 6 k ((.g (.str sx0)) :: .bad :: (.bx [(.bool bx1), (.bool bx2), (.sl ax3 nx4 1), (.sl ax5 nx6 1), (.sl ax7 nx8 1)]) :: .bad :: (.bx [(.bool bx9), (.bool bx10), (.sl ax11 nx12 1), (.sl ax13 nx14 1), (.sl ax15 nx16 1)]) :: (.g (.int .i64 ix17)) :: (.g (.int .i64 ix18)) :: B 94 ([])) H Q
def ref1_GetPage.l16 (k : Nat) (sx0 : ByteArray) (bx1 : Bool) (bx2 : Bool) (ax3 : Pl) (nx4 : Nat) (ax5 : Pl) (nx6 : Nat) (ax7 : Pl) (nx8 : Nat) (bx9 : Bool) (bx10 : Bool) (ax11 : Pl) (nx12 : Nat) (ax13 : Pl) (nx14 : Nat) (ax15 : Pl) (nx16 : Nat) (ix17 : Int) (H : Hp) (Q : Post) : Prop := loopK (ref1_GetPage.cx) Go.Proofs.Tryz.f43 16 k ((.g (.str sx0)) :: .bad :: (.bx [(.bool bx1), (.bool bx2), (.sl ax3 nx4 1), (.sl ax5 nx6 1), (.sl ax7 nx8 1)]) :: .bad :: (.bx [(.bool bx9), (.bool bx10), (.sl ax11 nx12 1), (.sl ax13 nx14 1), (.sl ax15 nx16 1)]) :: B 6 ((.g (.int .i64 ix17)) :: B 89 ([]))) H Q
theorem ref1_GetPage_eq (k : Nat) (z0 : ByteArray) (H : Hp) (Q : Post) : callK (ref1_GetPage.cx) Go.Proofs.Tryz.f43 (k + 1) [.g (.str z0)] H Q = (
 bite (ltI (sz z0) 2)
 (Q (.tup [(.a [(.bool false), (.bool false), (.sl none 0 1), (.sl none 0 1), (.sl none 0 1)]), (.s (.int .i64 600))]) H)
 (chk ((leI 0 0) && (ltI 0 (sz z0))) (ref1_GetPage.l6 k z0 false false none 0 none 0 none 0 true (eqI (byt z0 (tN 0)) 1) none 0 none 0 none 0 2 0 H Q))) := by kernel_rfl
theorem ref1_GetPage.l6_eq (k : Nat) (sx0 : ByteArray) (bx1 : Bool) (bx2 : Bool) (ax3 : Pl) (nx4 : Nat) (ax5 : Pl) (nx6 : Nat) (ax7 : Pl) (nx8 : Nat) (bx9 : Bool) (bx10 : Bool) (ax11 : Pl) (nx12 : Nat) (ax13 : Pl) (nx14 : Nat) (ax15 : Pl) (nx16 : Nat) (ix17 : Int) (ix18 : Int) (H : Hp) (Q : Post) : ref1_GetPage.l6 (k + 1) sx0 bx1 bx2 ax3 nx4 ax5 nx6 ax7 nx8 bx9 bx10 ax11 nx12 ax13 nx14 ax15 nx16 ix17 ix18 H Q = (
 chk ((leI 0 1) && (ltI 1 (sz sx0))) (bite (ltI ix18 (wrapI .i64 (byt sx0 (tN 1))))
 (bite (leI ix18 4)
  (cl ref1_taken [(.g (.str sx0)), (.g (.int .i64 ix17))] H fun r0 H1 =>
   rT r0 fun c2 =>
   uR c2 fun q3 c4 =>
   rS q3 fun v5 =>
   dS v5 fun s6 =>
   uR c4 fun q7 c8 =>
   rS q7 fun v9 =>
   dI .i64 v9 fun i10 =>
   uE c8 (chk true (ap H1 9 1 16 ax11 nx12 [(.str s6)] 1 fun x11 n12 H13 =>
   bite bx10
   (cl ref1_taken [(.g (.str sx0)), (.g (.int .i64 i10))] H13 fun r14 H15 =>
    rT r14 fun c16 =>
    uR c16 fun q17 c18 =>
    rS q17 fun v19 =>
    dS v19 fun s20 =>
    uR c18 fun q21 c22 =>
    rS q21 fun v23 =>
    dI .i64 v23 fun i24 =>
    uE c22 (chk true (ap H15 9 1 16 ax13 nx14 [(.str s20)] 1 fun x25 n26 H27 =>
    ref1_GetPage.l6 k sx0 bx1 bx2 ax3 nx4 ax5 nx6 ax7 nx8 bx9 bx10 x11 n12 x25 n26 ax15 nx16 i24 (wrapI .i64 (ix18 + 1)) H27 Q)))
   (ref1_GetPage.l6 k sx0 bx1 bx2 ax3 nx4 ax5 nx6 ax7 nx8 bx9 bx10 x11 n12 ax13 nx14 ax15 nx16 i10 (wrapI .i64 (ix18 + 1)) H13 Q))))
  (ref1_GetPage.l16 k sx0 bx1 bx2 ax3 nx4 ax5 nx6 ax7 nx8 bx9 bx10 ax11 nx12 ax13 nx14 ax15 nx16 (mxI ix17 0) H Q))
 (ref1_GetPage.l16 k sx0 bx1 bx2 ax3 nx4 ax5 nx6 ax7 nx8 bx9 bx10 ax11 nx12 ax13 nx14 ax15 nx16 (mxI ix17 0) H Q))) := by kernel_rfl
theorem ref1_GetPage.l16_eq (k : Nat) (sx0 : ByteArray) (bx1 : Bool) (bx2 : Bool) (ax3 : Pl) (nx4 : Nat) (ax5 : Pl) (nx6 : Nat) (ax7 : Pl) (nx8 : Nat) (bx9 : Bool) (bx10 : Bool) (ax11 : Pl) (nx12 : Nat) (ax13 : Pl) (nx14 : Nat) (ax15 : Pl) (nx16 : Nat) (ix17 : Int) (H : Hp) (Q : Post) : ref1_GetPage.l16 (k + 1) sx0 bx1 bx2 ax3 nx4 ax5 nx6 ax7 nx8 bx9 bx10 ax11 nx12 ax13 nx14 ax15 nx16 ix17 H Q = (
 bite (ltI ix17 (sz sx0))
 (bite (!bx10)
  (bite (ltI ix17 200)
   (chk ((leI 0 ix17) && (ltI ix17 (sz sx0))) (chk true (ap H 3 1 8 ax15 nx16 [(.int .i64 (wrapI .i64 (byt sx0 (tN ix17))))] 1 fun x0 n1 H2 =>
    ref1_GetPage.l16 k sx0 bx1 bx2 ax3 nx4 ax5 nx6 ax7 nx8 bx9 bx10 ax11 nx12 ax13 nx14 x0 n1 (wrapI .i64 (ix17 + 1)) H2 Q)))
   (cl ref1_PutPage [(.agg [(.bool bx9), (.bool bx10), (.sl ax11 nx12 1), (.sl ax13 nx14 1), (.sl ax15 nx16 1)])] H fun r3 H4 =>
    rT r3 fun c5 =>
    uR c5 fun q6 c7 =>
    rS q6 fun v8 =>
    dS v8 fun s9 =>
    uR c7 fun q10 c11 =>
    rS q10 fun v12 =>
    dI .i64 v12 fun i13 =>
    uE c11 (bite (!(eqI i13 0))
    (Q (.tup [(.a [(.bool false), (.bool false), (.sl none 0 1), (.sl none 0 1), (.sl none 0 1)]), (.s (.int .i64 600))]) H4)
    (bite (!(strEq s9 sx0))
     (Q (.tup [(.a [(.bool false), (.bool false), (.sl none 0 1), (.sl none 0 1), (.sl none 0 1)]), (.s (.int .i64 600))]) H4)
     (Q (.tup [(.a [(.bool bx9), (.bool bx10), (.sl ax11 nx12 1), (.sl ax13 nx14 1), (.sl ax15 nx16 1)]), (.s (.int .i64 0))]) H4)))))
  (cl ref1_PutPage [(.agg [(.bool bx9), (.bool bx10), (.sl ax11 nx12 1), (.sl ax13 nx14 1), (.sl ax15 nx16 1)])] H fun r14 H15 =>
   rT r14 fun c16 =>
   uR c16 fun q17 c18 =>
   rS q17 fun v19 =>
   dS v19 fun s20 =>
   uR c18 fun q21 c22 =>
   rS q21 fun v23 =>
   dI .i64 v23 fun i24 =>
   uE c22 (bite (!(eqI i24 0))
   (Q (.tup [(.a [(.bool false), (.bool false), (.sl none 0 1), (.sl none 0 1), (.sl none 0 1)]), (.s (.int .i64 600))]) H15)
   (bite (!(strEq s20 sx0))
    (Q (.tup [(.a [(.bool false), (.bool false), (.sl none 0 1), (.sl none 0 1), (.sl none 0 1)]), (.s (.int .i64 600))]) H15)
    (Q (.tup [(.a [(.bool bx9), (.bool bx10), (.sl ax11 nx12 1), (.sl ax13 nx14 1), (.sl ax15 nx16 1)]), (.s (.int .i64 0))]) H15)))))
 (cl ref1_PutPage [(.agg [(.bool bx9), (.bool bx10), (.sl ax11 nx12 1), (.sl ax13 nx14 1), (.sl ax15 nx16 1)])] H fun r25 H26 =>
  rT r25 fun c27 =>
  uR c27 fun q28 c29 =>
  rS q28 fun v30 =>
  dS v30 fun s31 =>
  uR c29 fun q32 c33 =>
  rS q32 fun v34 =>
  dI .i64 v34 fun i35 =>
  uE c33 (bite (!(eqI i35 0))
  (Q (.tup [(.a [(.bool false), (.bool false), (.sl none 0 1), (.sl none 0 1), (.sl none 0 1)]), (.s (.int .i64 600))]) H26)
  (bite (!(strEq s31 sx0))
   (Q (.tup [(.a [(.bool false), (.bool false), (.sl none 0 1), (.sl none 0 1), (.sl none 0 1)]), (.s (.int .i64 600))]) H26)
   (Q (.tup [(.a [(.bool bx9), (.bool bx10), (.sl ax11 nx12 1), (.sl ax13 nx14 1), (.sl ax15 nx16 1)]), (.s (.int .i64 0))]) H26))))) := by kernel_rfl
theorem ref1_GetPage_ok : Sound Go.Proofs.Tryz.prog 43 (ref1_GetPage) := prog_ok.sound (cx := ref1_GetPage.cx) rfl (EnvOK.cons ((ref1_taken_ok).c ⟨_, Go.Proofs.Tryz.func77, by kernel_rfl, by kernel_rfl⟩) (EnvOK.cons ((ref1_PutPage_ok).c ⟨_, Go.Proofs.Tryz.func38, by kernel_rfl, by kernel_rfl⟩) (EnvOK.nil _))) (noDyn_ok _) Go.Proofs.Tryz.func43 rfl

/-! 15: cryostat/cryostatref9.TreeOf -/
def ref9_TreeOf.cx : Cx := ⟨tys, [], [(6, [1, 2, 4, 5, 6])], [], [(42, ref1_PagerMay), (43, ref1_GetPage), (28, ref9_New), (31, ref9_Sound)], noDyn, [.cell 2 24, .tmp 3]⟩
def ref9_TreeOf : Sm := fun xs H Q => ∃ k, callK (ref9_TreeOf.cx) Go.Proofs.Tryz.f15 k xs H Q
def ref9_TreeOf.l6 (k : Nat) (ix0 : Int) (ix1 : Int) (ix2 : Int) (ix3 : Int) (xx4 : Pl) (nx5 : Nat) (ax6 : Pl) (nx7 : Nat) (ax8 : Pl) (nx9 : Nat) (bx10 : Bool) (ix11 : Int) (H : Hp) (Q : Post) : Prop := loopK (ref9_TreeOf.cx) Go.Proofs.Tryz.f15 6 k (.bad :: (.bx [(.int .i64 ix0), (.int .i64 ix1), (.int .i64 ix2), (.int .i64 ix3), (.sl xx4 nx5 1)]) :: (.bx [(.sl ax6 nx7 5)]) :: .bad :: (.bx [(.sl ax8 nx9 5)]) :: (.g (.bool bx10)) :: (.g (.int .i64 ix11)) :: B 42 ([])) H Q
theorem ref9_TreeOf_eq (k : Nat) (z0 : Int) (z1 : Int) (z2 : Int) (z3 : Int) (z4 : Pl) (z4n : Nat) (H : Hp) (Q : Post) : callK (ref9_TreeOf.cx) Go.Proofs.Tryz.f15 (k + 1) [.agg [.int .i64 z0, .int .i64 z1, .int .i64 z2, .int .i64 z3, .sl z4 z4n 1]] H Q = (
 cl ref1_PagerMay [(.agg [(.int .i64 z0), (.int .i64 z1), (.int .i64 z2), (.int .i64 z3), (.sl z4 z4n 1)])] H fun r0 H1 =>
 rG r0 fun v2 =>
 dB v2 fun b3 =>
 bite (!b3)
 (Q (.tup [(.a [(.sl none 0 5)]), (.s (.int .i64 1500))]) H1)
 (ref9_TreeOf.l6 k z0 z1 z2 z3 z4 z4n none 0 (some ((ln H1), 0)) (tN 48) true 0 (pu H1 (.row true 75 (repN (tN 48) [(.bool false), (.bool false), (.sl none 0 1), (.sl none 0 1), (.sl none 0 1)]))) Q)) := by kernel_rfl
theorem ref9_TreeOf.l6_eq (k : Nat) (ix0 : Int) (ix1 : Int) (ix2 : Int) (ix3 : Int) (xx4 : Pl) (nx5 : Nat) (ax6 : Pl) (nx7 : Nat) (ax8 : Pl) (nx9 : Nat) (bx10 : Bool) (ix11 : Int) (H : Hp) (Q : Post) : ref9_TreeOf.l6 (k + 1) ix0 ix1 ix2 ix3 xx4 nx5 ax6 nx7 ax8 nx9 bx10 ix11 H Q = (
 bite (ltI ix11 48)
 (chk true (chk ((leI 0 ix11) && (ltI ix11 (nI nx5))) (pS xx4 fun n0 n1 =>
  rd H n0 (n1 + ((tN ix11) * 1)) fun v2 =>
  dS v2 fun s3 =>
  bite (strEq s3 (mkS []))
  (ref9_TreeOf.l6 k ix0 ix1 ix2 ix3 xx4 nx5 ax6 nx7 ax8 nx9 bx10 (wrapI .i64 (ix11 + 1)) H Q)
  (chk true (chk ((leI 0 ix11) && (ltI ix11 (nI nx5))) (pS xx4 fun n4 n5 =>
   rd H n4 (n5 + ((tN ix11) * 1)) fun v6 =>
   dS v6 fun s7 =>
   cl ref1_GetPage [(.g (.str s7))] H fun r8 H9 =>
   rT r8 fun c10 =>
   uR c10 fun q11 c12 =>
   rC q11 fun c13 =>
   uC c13 fun v14 c15 =>
   dB v14 fun b16 =>
   uC c15 fun v17 c18 =>
   dB v17 fun b19 =>
   uC c18 fun v20 c21 =>
   dL 1 v20 fun x22 n23 =>
   uC c21 fun v24 c25 =>
   dL 1 v24 fun x26 n27 =>
   uC c25 fun v28 c29 =>
   dL 1 v28 fun x30 n31 =>
   uN c29 (uR c12 fun q32 c33 =>
   rS q32 fun v34 =>
   dI .i64 v34 fun i35 =>
   uE c33 (bite (!(eqI i35 0))
   (Q (.tup [(.a [(.sl none 0 5)]), (.s (.int .i64 1500))]) H9)
   (chk true (chk ((leI 0 ix11) && (ltI ix11 (nI nx9))) (pS ax8 fun n36 n37 =>
    wr H9 n36 (n37 + ((tN ix11) * 5)) (.bool b16) fun H38 =>
    wr H38 n36 ((n37 + ((tN ix11) * 5)) + 1) (.bool b19) fun H39 =>
    wr H39 n36 (((n37 + ((tN ix11) * 5)) + 1) + 1) (.sl x22 n23 1) fun H40 =>
    wr H40 n36 ((((n37 + ((tN ix11) * 5)) + 1) + 1) + 1) (.sl x26 n27 1) fun H41 =>
    wr H41 n36 (((((n37 + ((tN ix11) * 5)) + 1) + 1) + 1) + 1) (.sl x30 n31 1) fun H42 =>
    ref9_TreeOf.l6 k ix0 ix1 ix2 ix3 xx4 nx5 ax6 nx7 ax8 nx9 false (wrapI .i64 (ix11 + 1)) H42 Q)))))))))))
 (bite bx10
  (cl ref9_New [] H fun r43 H44 =>
   rA r43 fun c45 =>
   uC c45 fun v46 c47 =>
   dL 5 v46 fun x48 n49 =>
   uN c47 (Q (.tup [(.a [(.sl x48 n49 5)]), (.s (.int .i64 0))]) H44))
  (cl ref9_Sound [(.agg [(.sl ax8 nx9 5)])] H fun r50 H51 =>
   rG r50 fun v52 =>
   dB v52 fun b53 =>
   bite (!b53)
   (Q (.tup [(.a [(.sl none 0 5)]), (.s (.int .i64 1500))]) H51)
   (Q (.tup [(.a [(.sl ax8 nx9 5)]), (.s (.int .i64 0))]) H51)))) := by kernel_rfl
theorem ref9_TreeOf_ok : Sound Go.Proofs.Tryz.prog 15 (ref9_TreeOf) := prog_ok.sound (cx := ref9_TreeOf.cx) rfl (EnvOK.cons ((ref1_PagerMay_ok).c ⟨_, Go.Proofs.Tryz.func42, by kernel_rfl, by kernel_rfl⟩) (EnvOK.cons ((ref1_GetPage_ok).c ⟨_, Go.Proofs.Tryz.func43, by kernel_rfl, by kernel_rfl⟩) (EnvOK.cons ((ref9_New_ok).c ⟨_, Go.Proofs.Tryz.func28, by kernel_rfl, by kernel_rfl⟩) (EnvOK.cons ((ref9_Sound_ok).c ⟨_, Go.Proofs.Tryz.func31, by kernel_rfl, by kernel_rfl⟩) (EnvOK.nil _))))) (noDyn_ok _) Go.Proofs.Tryz.func15 rfl

/-! 16: cryostat/cryostatlaw0.SameImages -/
def law0_SameImages.cx : Cx := ⟨tys, [], [(4, [0, 1, 5])], [], [], noDyn, [.tmp 4]⟩
def law0_SameImages : Sm := fun xs H Q => ∃ k, callK (law0_SameImages.cx) Go.Proofs.Tryz.f16 k xs H Q
def law0_SameImages.l4 (k : Nat) (xx0 : Pl) (nx1 : Nat) (xx2 : Pl) (nx3 : Nat) (ix4 : Int) (H : Hp) (Q : Post) : Prop := loopK (law0_SameImages.cx) Go.Proofs.Tryz.f16 4 k ((.g (.sl xx0 nx1 2)) :: (.g (.sl xx2 nx3 2)) :: B 3 ((.g (.int .i64 ix4)) :: B 20 ([]))) H Q
theorem law0_SameImages_eq (k : Nat) (z0 : Pl) (z0n : Nat) (z1 : Pl) (z1n : Nat) (H : Hp) (Q : Post) : callK (law0_SameImages.cx) Go.Proofs.Tryz.f16 (k + 1) [.g (.sl z0 z0n 2), .g (.sl z1 z1n 2)] H Q = (
 bite (!(eqI (nI z0n) (nI z1n)))
 (Q (.g (.bool false)) H)
 (law0_SameImages.l4 k z0 z0n z1 z1n 0 H Q)) := by kernel_rfl
theorem law0_SameImages.l4_eq (k : Nat) (xx0 : Pl) (nx1 : Nat) (xx2 : Pl) (nx3 : Nat) (ix4 : Int) (H : Hp) (Q : Post) : law0_SameImages.l4 (k + 1) xx0 nx1 xx2 nx3 ix4 H Q = (
 bite (ltI ix4 (nI nx1))
 (chk true (chk ((leI 0 ix4) && (ltI ix4 (nI nx1))) (pS xx0 fun n0 n1 =>
  rd H n0 (n1 + ((tN ix4) * 2)) fun v2 =>
  dI .i64 v2 fun i3 =>
  rd H n0 ((n1 + ((tN ix4) * 2)) + 1) fun v4 =>
  dS v4 fun s5 =>
  chk true (chk ((leI 0 ix4) && (ltI ix4 (nI nx3))) (pS xx2 fun n6 n7 =>
  rd H n6 (n7 + ((tN ix4) * 2)) fun v8 =>
  dI .i64 v8 fun i9 =>
  rd H n6 ((n7 + ((tN ix4) * 2)) + 1) fun v10 =>
  dS v10 fun s11 =>
  bite (!((eqI i3 i9) && ((strEq s5 s11) && true)))
  (Q (.g (.bool false)) H)
  (law0_SameImages.l4 k xx0 nx1 xx2 nx3 (wrapI .i64 (ix4 + 1)) H Q))))))
 (Q (.g (.bool true)) H)) := by kernel_rfl
theorem law0_SameImages_ok : Sound Go.Proofs.Tryz.prog 16 (law0_SameImages) := prog_ok.sound (cx := law0_SameImages.cx) rfl (EnvOK.nil _) (noDyn_ok _) Go.Proofs.Tryz.func16 rfl

/-! 19: cryostat/cryostatlaw0.SpoilImages -/
def law0_SpoilImages.cx : Cx := ⟨tys, [], [(1, [0, 2])], [], [], noDyn, []⟩
def law0_SpoilImages : Sm := fun xs H Q => ∃ k, callK (law0_SpoilImages.cx) Go.Proofs.Tryz.f19 k xs H Q
def law0_SpoilImages.l1 (k : Nat) (xx0 : Pl) (nx1 : Nat) (ix2 : Int) (H : Hp) (Q : Post) : Prop := loopK (law0_SpoilImages.cx) Go.Proofs.Tryz.f19 1 k ((.g (.sl xx0 nx1 2)) :: .bad :: (.g (.int .i64 ix2)) :: B 16 ([])) H Q
theorem law0_SpoilImages_eq (k : Nat) (z0 : Pl) (z0n : Nat) (H : Hp) (Q : Post) : callK (law0_SpoilImages.cx) Go.Proofs.Tryz.f19 (k + 1) [.g (.sl z0 z0n 2)] H Q = (
 law0_SpoilImages.l1 k z0 z0n 0 H Q) := by kernel_rfl
theorem law0_SpoilImages.l1_eq (k : Nat) (xx0 : Pl) (nx1 : Nat) (ix2 : Int) (H : Hp) (Q : Post) : law0_SpoilImages.l1 (k + 1) xx0 nx1 ix2 H Q = (
 bite (ltI ix2 (nI nx1))
 (chk true (chk ((leI 0 ix2) && (ltI ix2 (nI nx1))) (pS xx0 fun n0 n1 =>
  rd H n0 ((n1 + ((tN ix2) * 2)) + 0) fun v2 =>
  dI .i64 v2 fun i3 =>
  chk true (chk ((leI 0 ix2) && (ltI ix2 (nI nx1))) (pS xx0 fun n4 n5 =>
  wr H n4 ((n5 + ((tN ix2) * 2)) + 0) (.int .i64 (bitsI .xor .i64 i3 90)) fun H6 =>
  law0_SpoilImages.l1 k xx0 nx1 (wrapI .i64 (ix2 + 1)) H6 Q)))))
 (Q (.tup []) H)) := by kernel_rfl
theorem law0_SpoilImages_ok : Sound Go.Proofs.Tryz.prog 19 (law0_SpoilImages) := prog_ok.sound (cx := law0_SpoilImages.cx) rfl (EnvOK.nil _) (noDyn_ok _) Go.Proofs.Tryz.func19 rfl

/-! 79: cryostat/cryostatlaw0.SpoilTexts -/
def law0_SpoilTexts.cx : Cx := ⟨tys, [], [(1, [0, 2])], [], [], noDyn, []⟩
def law0_SpoilTexts : Sm := fun xs H Q => ∃ k, callK (law0_SpoilTexts.cx) Go.Proofs.Tryz.f79 k xs H Q
def law0_SpoilTexts.l1 (k : Nat) (xx0 : Pl) (nx1 : Nat) (ix2 : Int) (H : Hp) (Q : Post) : Prop := loopK (law0_SpoilTexts.cx) Go.Proofs.Tryz.f79 1 k ((.g (.sl xx0 nx1 1)) :: .bad :: (.g (.int .i64 ix2)) :: B 14 ([])) H Q
theorem law0_SpoilTexts_eq (k : Nat) (z0 : Pl) (z0n : Nat) (H : Hp) (Q : Post) : callK (law0_SpoilTexts.cx) Go.Proofs.Tryz.f79 (k + 1) [.g (.sl z0 z0n 1)] H Q = (
 law0_SpoilTexts.l1 k z0 z0n 0 H Q) := by kernel_rfl
theorem law0_SpoilTexts.l1_eq (k : Nat) (xx0 : Pl) (nx1 : Nat) (ix2 : Int) (H : Hp) (Q : Post) : law0_SpoilTexts.l1 (k + 1) xx0 nx1 ix2 H Q = (
 bite (ltI ix2 (nI nx1))
 (chk true (chk ((leI 0 ix2) && (ltI ix2 (nI nx1))) (pS xx0 fun n0 n1 =>
  rd H n0 (n1 + ((tN ix2) * 1)) fun v2 =>
  dS v2 fun s3 =>
  catS (mkS [126]) s3 fun s4 =>
  chk true (chk ((leI 0 ix2) && (ltI ix2 (nI nx1))) (pS xx0 fun n5 n6 =>
  wr H n5 (n6 + ((tN ix2) * 1)) (.str s4) fun H7 =>
  law0_SpoilTexts.l1 k xx0 nx1 (wrapI .i64 (ix2 + 1)) H7 Q)))))
 (Q (.tup []) H)) := by kernel_rfl
theorem law0_SpoilTexts_ok : Sound Go.Proofs.Tryz.prog 79 (law0_SpoilTexts) := prog_ok.sound (cx := law0_SpoilTexts.cx) rfl (EnvOK.nil _) (noDyn_ok _) Go.Proofs.Tryz.func79 rfl

/-! 80: cryostat/cryostatlaw0.SpoilInts -/
def law0_SpoilInts.cx : Cx := ⟨tys, [], [(1, [0, 2])], [], [], noDyn, []⟩
def law0_SpoilInts : Sm := fun xs H Q => ∃ k, callK (law0_SpoilInts.cx) Go.Proofs.Tryz.f80 k xs H Q
def law0_SpoilInts.l1 (k : Nat) (xx0 : Pl) (nx1 : Nat) (ix2 : Int) (H : Hp) (Q : Post) : Prop := loopK (law0_SpoilInts.cx) Go.Proofs.Tryz.f80 1 k ((.g (.sl xx0 nx1 1)) :: .bad :: (.g (.int .i64 ix2)) :: B 14 ([])) H Q
theorem law0_SpoilInts_eq (k : Nat) (z0 : Pl) (z0n : Nat) (H : Hp) (Q : Post) : callK (law0_SpoilInts.cx) Go.Proofs.Tryz.f80 (k + 1) [.g (.sl z0 z0n 1)] H Q = (
 law0_SpoilInts.l1 k z0 z0n 0 H Q) := by kernel_rfl
theorem law0_SpoilInts.l1_eq (k : Nat) (xx0 : Pl) (nx1 : Nat) (ix2 : Int) (H : Hp) (Q : Post) : law0_SpoilInts.l1 (k + 1) xx0 nx1 ix2 H Q = (
 bite (ltI ix2 (nI nx1))
 (chk true (chk ((leI 0 ix2) && (ltI ix2 (nI nx1))) (pS xx0 fun n0 n1 =>
  rd H n0 (n1 + ((tN ix2) * 1)) fun v2 =>
  dI .i64 v2 fun i3 =>
  chk true (chk ((leI 0 ix2) && (ltI ix2 (nI nx1))) (pS xx0 fun n4 n5 =>
  wr H n4 (n5 + ((tN ix2) * 1)) (.int .i64 (wrapI .i64 ((-9) - i3))) fun H6 =>
  law0_SpoilInts.l1 k xx0 nx1 (wrapI .i64 (ix2 + 1)) H6 Q)))))
 (Q (.tup []) H)) := by kernel_rfl
theorem law0_SpoilInts_ok : Sound Go.Proofs.Tryz.prog 80 (law0_SpoilInts) := prog_ok.sound (cx := law0_SpoilInts.cx) rfl (EnvOK.nil _) (noDyn_ok _) Go.Proofs.Tryz.func80 rfl

/-! 45: cryostat/cryostatlaw0.SpoilPage -/
def law0_SpoilPage.cx : Cx := ⟨tys, [], [], [], [(79, law0_SpoilTexts), (80, law0_SpoilInts)], noDyn, []⟩
def law0_SpoilPage : Sm := fun xs H Q => ∃ k, callK (law0_SpoilPage.cx) Go.Proofs.Tryz.f45 k xs H Q
theorem law0_SpoilPage_eq (k : Nat) (z0 : Bool) (z1 : Bool) (z2 : Pl) (z2n : Nat) (z3 : Pl) (z3n : Nat) (z4 : Pl) (z4n : Nat) (H : Hp) (Q : Post) : callK (law0_SpoilPage.cx) Go.Proofs.Tryz.f45 (k + 1) [.agg [.bool z0, .bool z1, .sl z2 z2n 1, .sl z3 z3n 1, .sl z4 z4n 1]] H Q = (
 cl law0_SpoilTexts [(.g (.sl z2 z2n 1))] H fun r0 H1 =>
 cl law0_SpoilTexts [(.g (.sl z3 z3n 1))] H1 fun r2 H3 =>
 cl law0_SpoilInts [(.g (.sl z4 z4n 1))] H3 fun r4 H5 =>
 Q (.tup []) H5) := by kernel_rfl
theorem law0_SpoilPage_ok : Sound Go.Proofs.Tryz.prog 45 (law0_SpoilPage) := prog_ok.sound (cx := law0_SpoilPage.cx) rfl (EnvOK.cons ((law0_SpoilTexts_ok).c ⟨_, Go.Proofs.Tryz.func79, by kernel_rfl, by kernel_rfl⟩) (EnvOK.cons ((law0_SpoilInts_ok).c ⟨_, Go.Proofs.Tryz.func80, by kernel_rfl, by kernel_rfl⟩) (EnvOK.nil _))) (noDyn_ok _) Go.Proofs.Tryz.func45 rfl

/-! 20: cryostat/cryostatlaw0.SpoilTree -/
def law0_SpoilTree.cx : Cx := ⟨tys, [], [(2, [1, 2])], [], [(45, law0_SpoilPage)], noDyn, []⟩
def law0_SpoilTree : Sm := fun xs H Q => ∃ k, callK (law0_SpoilTree.cx) Go.Proofs.Tryz.f20 k xs H Q
def law0_SpoilTree.l2 (k : Nat) (xx0 : Pl) (nx1 : Nat) (ix2 : Int) (H : Hp) (Q : Post) : Prop := loopK (law0_SpoilTree.cx) Go.Proofs.Tryz.f20 2 k (.bad :: (.bx [(.sl xx0 nx1 5)]) :: (.g (.int .i64 ix2)) :: B 25 ([])) H Q
theorem law0_SpoilTree_eq (k : Nat) (z0 : Pl) (z0n : Nat) (H : Hp) (Q : Post) : callK (law0_SpoilTree.cx) Go.Proofs.Tryz.f20 (k + 1) [.agg [.sl z0 z0n 5]] H Q = (
 law0_SpoilTree.l2 k z0 z0n 0 H Q) := by kernel_rfl
theorem law0_SpoilTree.l2_eq (k : Nat) (xx0 : Pl) (nx1 : Nat) (ix2 : Int) (H : Hp) (Q : Post) : law0_SpoilTree.l2 (k + 1) xx0 nx1 ix2 H Q = (
 bite (ltI ix2 (nI nx1))
 (chk true (chk ((leI 0 ix2) && (ltI ix2 (nI nx1))) (pS xx0 fun n0 n1 =>
  rd H n0 (n1 + ((tN ix2) * 5)) fun v2 =>
  dB v2 fun b3 =>
  rd H n0 ((n1 + ((tN ix2) * 5)) + 1) fun v4 =>
  dB v4 fun b5 =>
  rd H n0 (((n1 + ((tN ix2) * 5)) + 1) + 1) fun v6 =>
  dL 1 v6 fun x7 n8 =>
  rd H n0 ((((n1 + ((tN ix2) * 5)) + 1) + 1) + 1) fun v9 =>
  dL 1 v9 fun x10 n11 =>
  rd H n0 (((((n1 + ((tN ix2) * 5)) + 1) + 1) + 1) + 1) fun v12 =>
  dL 1 v12 fun x13 n14 =>
  cl law0_SpoilPage [(.agg [(.bool b3), (.bool b5), (.sl x7 n8 1), (.sl x10 n11 1), (.sl x13 n14 1)])] H fun r15 H16 =>
  chk true (chk ((leI 0 ix2) && (ltI ix2 (nI nx1))) (pS xx0 fun n17 n18 =>
  rd H16 n17 ((n18 + ((tN ix2) * 5)) + 0) fun v19 =>
  dB v19 fun b20 =>
  chk true (chk ((leI 0 ix2) && (ltI ix2 (nI nx1))) (pS xx0 fun n21 n22 =>
  wr H16 n21 ((n22 + ((tN ix2) * 5)) + 0) (.bool (!b20)) fun H23 =>
  law0_SpoilTree.l2 k xx0 nx1 (wrapI .i64 (ix2 + 1)) H23 Q)))))))
 (Q (.tup []) H)) := by kernel_rfl
theorem law0_SpoilTree_ok : Sound Go.Proofs.Tryz.prog 20 (law0_SpoilTree) := prog_ok.sound (cx := law0_SpoilTree.cx) rfl (EnvOK.cons ((law0_SpoilPage_ok).c ⟨_, Go.Proofs.Tryz.func45, by kernel_rfl, by kernel_rfl⟩) (EnvOK.nil _)) (noDyn_ok _) Go.Proofs.Tryz.func20 rfl

/-! 21: cryostat/cryostatlaw0.SamePager -/
def law0_SamePager.cx : Cx := ⟨tys, [], [], [], [(46, law0_SameTexts)], noDyn, [.tmp 4]⟩
def law0_SamePager : Sm := fun xs H Q => ∃ k, callK (law0_SamePager.cx) Go.Proofs.Tryz.f21 k xs H Q
theorem law0_SamePager_eq (k : Nat) (z0 : Int) (z1 : Int) (z2 : Int) (z3 : Int) (z4 : Pl) (z4n : Nat) (z5 : Int) (z6 : Int) (z7 : Int) (z8 : Int) (z9 : Pl) (z9n : Nat) (H : Hp) (Q : Post) : callK (law0_SamePager.cx) Go.Proofs.Tryz.f21 (k + 1) [.agg [.int .i64 z0, .int .i64 z1, .int .i64 z2, .int .i64 z3, .sl z4 z4n 1], .agg [.int .i64 z5, .int .i64 z6, .int .i64 z7, .int .i64 z8, .sl z9 z9n 1]] H Q = (
 bite ((eqI z0 z5) && ((eqI z1 z6) && true))
 (bite (eqI z2 z7)
  (bite (eqI z3 z8)
   (cl law0_SameTexts [(.g (.sl z4 z4n 1)), (.g (.sl z9 z9n 1))] H fun r0 H1 =>
    rG r0 fun v2 =>
    dB v2 fun b3 =>
    Q (.g (.bool b3)) H1)
   (Q (.g (.bool false)) H))
  (Q (.g (.bool false)) H))
 (Q (.g (.bool false)) H)) := by kernel_rfl
theorem law0_SamePager_ok : Sound Go.Proofs.Tryz.prog 21 (law0_SamePager) := prog_ok.sound (cx := law0_SamePager.cx) rfl (EnvOK.cons ((law0_SameTexts_ok).c ⟨_, Go.Proofs.Tryz.func46, by kernel_rfl, by kernel_rfl⟩) (EnvOK.nil _)) (noDyn_ok _) Go.Proofs.Tryz.func21 rfl

/-! 47: cryostat/cryostatref1.Blank -/
def ref1_Blank.cx : Cx := ⟨tys, [], [], [], [], noDyn, [.cell 0 29]⟩
def ref1_Blank : Sm := fun xs H Q => ∃ k, callK (ref1_Blank.cx) Go.Proofs.Tryz.f47 k xs H Q
theorem ref1_Blank_eq (k : Nat)  (H : Hp) (Q : Post) : callK (ref1_Blank.cx) Go.Proofs.Tryz.f47 (k + 1) [] H Q = (
 Q (.agg [(.int .i64 0), (.int .i64 1), (.int .i64 1), (.int .i64 0), (.sl (some ((ln H), 0)) (tN 48) 1)]) (pu H (.row true 9 (repN (tN 48) [(.str (mkS []))])))) := by kernel_rfl
theorem ref1_Blank_ok : Sound Go.Proofs.Tryz.prog 47 (ref1_Blank) := prog_ok.sound (cx := ref1_Blank.cx) rfl (EnvOK.nil _) (noDyn_ok _) Go.Proofs.Tryz.func47 rfl

/-! 22: cryostat/cryostatlaw15.awake -/
def law15_awake.cx : Cx := ⟨tys, [], [], [], [(28, ref9_New), (24, ref9_Insert), (10, diff_Images), (12, diff_Changed), (47, ref1_Blank), (14, diff_Tree), (17, law0_Num), (16, law0_SameImages), (18, law0_SameTree)], noDyn, [.tmp 0]⟩
def law15_awake : Sm := fun xs H Q => ∃ k, callK (law15_awake.cx) Go.Proofs.Tryz.f22 k xs H Q
theorem law15_awake_eq (k : Nat)  (H : Hp) (Q : Post) : callK (law15_awake.cx) Go.Proofs.Tryz.f22 (k + 1) [] H Q = (
 cl ref9_New [] H fun r0 H1 =>
 rA r0 fun c2 =>
 uC c2 fun v3 c4 =>
 dL 5 v3 fun x5 n6 =>
 uN c4 (cl ref9_Insert [(.agg [(.sl x5 n6 5)]), (.g (.str (mkS [97]))), (.g (.str (mkS [49])))] H1 fun r7 H8 =>
 rT r7 fun c9 =>
 uR c9 fun q10 c11 =>
 rC q10 fun c12 =>
 uC c12 fun v13 c14 =>
 dL 5 v13 fun x15 n16 =>
 uN c14 (uR c11 fun q17 c18 =>
 rS q17 fun v19 =>
 dI .i64 v19 fun i20 =>
 uE c18 (cl diff_Images [(.agg [(.sl x5 n6 5)])] H8 fun r21 H22 =>
 rT r21 fun c23 =>
 uR c23 fun q24 c25 =>
 rS q24 fun v26 =>
 dL 2 v26 fun x27 n28 =>
 uR c25 fun q29 c30 =>
 rS q29 fun v31 =>
 dI .i64 v31 fun i32 =>
 uE c30 (cl diff_Changed [(.agg [(.sl x5 n6 5)]), (.agg [(.sl x15 n16 5)])] H22 fun r33 H34 =>
 rT r33 fun c35 =>
 uR c35 fun q36 c37 =>
 rS q36 fun v38 =>
 dL 2 v38 fun x39 n40 =>
 uR c37 fun q41 c42 =>
 rS q41 fun v43 =>
 dI .i64 v43 fun i44 =>
 uE c42 (cl ref1_Blank [] H34 fun r45 H46 =>
 rA r45 fun c47 =>
 uC c47 fun v48 c49 =>
 dI .i64 v48 fun i50 =>
 uC c49 fun v51 c52 =>
 dI .i64 v51 fun i53 =>
 uC c52 fun v54 c55 =>
 dI .i64 v54 fun i56 =>
 uC c55 fun v57 c58 =>
 dI .i64 v57 fun i59 =>
 uC c58 fun v60 c61 =>
 dL 1 v60 fun x62 n63 =>
 uN c61 (cl diff_Tree [(.agg [(.int .i64 i50), (.int .i64 i53), (.int .i64 i56), (.int .i64 i59), (.sl x62 n63 1)])] H46 fun r64 H65 =>
 rT r64 fun c66 =>
 uR c66 fun q67 c68 =>
 rC q67 fun c69 =>
 uC c69 fun v70 c71 =>
 dL 5 v70 fun x72 n73 =>
 uN c71 (uR c68 fun q74 c75 =>
 rS q74 fun v76 =>
 dI .i64 v76 fun i77 =>
 uE c75 (cl diff_Images [(.agg [(.sl none 0 5)])] H65 fun r78 H79 =>
 rT r78 fun c80 =>
 uR c80 fun q81 c82 =>
 rS q81 fun v83 =>
 dL 2 v83 fun x84 n85 =>
 uR c82 fun q86 c87 =>
 rS q86 fun v88 =>
 dI .i64 v88 fun i89 =>
 uE c87 (cl diff_Tree [(.agg [(.int .i64 0), (.int .i64 0), (.int .i64 0), (.int .i64 0), (.sl none 0 1)])] H79 fun r90 H91 =>
 rT r90 fun c92 =>
 uR c92 fun q93 c94 =>
 rC q93 fun c95 =>
 uC c95 fun v96 c97 =>
 dL 5 v96 fun x98 n99 =>
 uN c97 (uR c94 fun q100 c101 =>
 rS q100 fun v102 =>
 dI .i64 v102 fun i103 =>
 uE c101 (bite (!(eqI (nI n28) 48))
 (Q (.g (.bool false)) H91)
 (chk true (chk ((leI 0 0) && (ltI 0 (nI n28))) (pS x27 fun n104 n105 =>
  rd H91 n104 ((n105 + ((tN 0) * 2)) + 1) fun v106 =>
  dS v106 fun s107 =>
  bite (strEq s107 (mkS [1, 0]))
  (chk true (chk ((leI 0 1) && (ltI 1 (nI n28))) (pS x27 fun n108 n109 =>
   rd H91 n108 ((n109 + ((tN 1) * 2)) + 1) fun v110 =>
   dS v110 fun s111 =>
   bite (strEq s111 (mkS []))
   (cl law0_Num [(.g (.int .i64 i32))] H91 fun r112 H113 =>
    rG r112 fun v114 =>
    dI .i64 v114 fun i115 =>
    bite (eqI i115 0)
    (cl law0_SameImages [(.g (.sl x39 n40 2)), (.g (.sl (some ((ln H113), 0)) 1 2))] (pu H113 (.row false 0 [(.int .i64 0), (.str (mkS [1, 1, 1, 97, 1, 49]))])) fun r116 H117 =>
     rG r116 fun v118 =>
     dB v118 fun b119 =>
     bite b119
     (cl law0_Num [(.g (.int .i64 i44))] H117 fun r120 H121 =>
      rG r120 fun v122 =>
      dI .i64 v122 fun i123 =>
      bite (eqI i123 0)
      (cl law0_SameTree [(.agg [(.sl x72 n73 5)]), (.agg [(.sl x5 n6 5)])] H121 fun r124 H125 =>
       rG r124 fun v126 =>
       dB v126 fun b127 =>
       bite b127
       (cl law0_Num [(.g (.int .i64 i77))] H125 fun r128 H129 =>
        rG r128 fun v130 =>
        dI .i64 v130 fun i131 =>
        bite (eqI i131 0)
        (cl law0_Num [(.g (.int .i64 i89))] H129 fun r132 H133 =>
         rG r132 fun v134 =>
         dI .i64 v134 fun i135 =>
         bite (eqI i135 1500)
         (cl law0_Num [(.g (.int .i64 i103))] H133 fun r136 H137 =>
          rG r136 fun v138 =>
          dI .i64 v138 fun i139 =>
          Q (.g (.bool (eqI i139 1500))) H137)
         (Q (.g (.bool false)) H133))
        (Q (.g (.bool false)) H129))
       (Q (.g (.bool false)) H125))
      (Q (.g (.bool false)) H121))
     (Q (.g (.bool false)) H117))
    (Q (.g (.bool false)) H113))
   (Q (.g (.bool false)) H91))))
  (Q (.g (.bool false)) H91)))))))))))))))) := by kernel_rfl
theorem law15_awake_ok : Sound Go.Proofs.Tryz.prog 22 (law15_awake) := prog_ok.sound (cx := law15_awake.cx) rfl (EnvOK.cons ((ref9_New_ok).c ⟨_, Go.Proofs.Tryz.func28, by kernel_rfl, by kernel_rfl⟩) (EnvOK.cons ((ref9_Insert_ok).c ⟨_, Go.Proofs.Tryz.func24, by kernel_rfl, by kernel_rfl⟩) (EnvOK.cons ((diff_Images_ok).c ⟨_, Go.Proofs.Tryz.func10, by kernel_rfl, by kernel_rfl⟩) (EnvOK.cons ((diff_Changed_ok).c ⟨_, Go.Proofs.Tryz.func12, by kernel_rfl, by kernel_rfl⟩) (EnvOK.cons ((ref1_Blank_ok).c ⟨_, Go.Proofs.Tryz.func47, by kernel_rfl, by kernel_rfl⟩) (EnvOK.cons ((diff_Tree_ok).c ⟨_, Go.Proofs.Tryz.func14, by kernel_rfl, by kernel_rfl⟩) (EnvOK.cons ((law0_Num_ok).c ⟨_, Go.Proofs.Tryz.func17, by kernel_rfl, by kernel_rfl⟩) (EnvOK.cons ((law0_SameImages_ok).c ⟨_, Go.Proofs.Tryz.func16, by kernel_rfl, by kernel_rfl⟩) (EnvOK.cons ((law0_SameTree_ok).c ⟨_, Go.Proofs.Tryz.func18, by kernel_rfl, by kernel_rfl⟩) (EnvOK.nil _)))))))))) (noDyn_ok _) Go.Proofs.Tryz.func22 rfl

/-! 3: cryostat/cryostatlaw15.Diffs -/
def law15_Diffs.cx : Cx := ⟨tys, [], [], [], [(8, law0_CopyTree), (9, law0_CopyPager), (10, diff_Images), (11, ref9_Images), (12, diff_Changed), (13, ref9_Changed), (14, diff_Tree), (15, ref9_TreeOf), (16, law0_SameImages), (17, law0_Num), (18, law0_SameTree), (19, law0_SpoilImages), (20, law0_SpoilTree), (21, law0_SamePager), (22, law15_awake)], noDyn, [.tmp 6]⟩
def law15_Diffs : Sm := fun xs H Q => ∃ k, callK (law15_Diffs.cx) Go.Proofs.Tryz.f3 k xs H Q
theorem law15_Diffs_eq (k : Nat) (z0 : Pl) (z0n : Nat) (z1 : Pl) (z1n : Nat) (z2 : Int) (z3 : Int) (z4 : Int) (z5 : Int) (z6 : Pl) (z6n : Nat) (H : Hp) (Q : Post) : callK (law15_Diffs.cx) Go.Proofs.Tryz.f3 (k + 1) [.agg [.sl z0 z0n 5], .agg [.sl z1 z1n 5], .agg [.int .i64 z2, .int .i64 z3, .int .i64 z4, .int .i64 z5, .sl z6 z6n 1]] H Q = (
 cl law0_CopyTree [(.agg [(.sl z0 z0n 5)])] H fun r0 H1 =>
 rA r0 fun c2 =>
 uC c2 fun v3 c4 =>
 dL 5 v3 fun x5 n6 =>
 uN c4 (cl law0_CopyTree [(.agg [(.sl z1 z1n 5)])] H1 fun r7 H8 =>
 rA r7 fun c9 =>
 uC c9 fun v10 c11 =>
 dL 5 v10 fun x12 n13 =>
 uN c11 (cl law0_CopyPager [(.agg [(.int .i64 z2), (.int .i64 z3), (.int .i64 z4), (.int .i64 z5), (.sl z6 z6n 1)])] H8 fun r14 H15 =>
 rA r14 fun c16 =>
 uC c16 fun v17 c18 =>
 dI .i64 v17 fun i19 =>
 uC c18 fun v20 c21 =>
 dI .i64 v20 fun i22 =>
 uC c21 fun v23 c24 =>
 dI .i64 v23 fun i25 =>
 uC c24 fun v26 c27 =>
 dI .i64 v26 fun i28 =>
 uC c27 fun v29 c30 =>
 dL 1 v29 fun x31 n32 =>
 uN c30 (cl diff_Images [(.agg [(.sl x5 n6 5)])] H15 fun r33 H34 =>
 rT r33 fun c35 =>
 uR c35 fun q36 c37 =>
 rS q36 fun v38 =>
 dL 2 v38 fun x39 n40 =>
 uR c37 fun q41 c42 =>
 rS q41 fun v43 =>
 dI .i64 v43 fun i44 =>
 uE c42 (cl ref9_Images [(.agg [(.sl z0 z0n 5)])] H34 fun r45 H46 =>
 rT r45 fun c47 =>
 uR c47 fun q48 c49 =>
 rS q48 fun v50 =>
 dL 2 v50 fun x51 n52 =>
 uR c49 fun q53 c54 =>
 rS q53 fun v55 =>
 dI .i64 v55 fun i56 =>
 uE c54 (cl diff_Changed [(.agg [(.sl x5 n6 5)]), (.agg [(.sl x12 n13 5)])] H46 fun r57 H58 =>
 rT r57 fun c59 =>
 uR c59 fun q60 c61 =>
 rS q60 fun v62 =>
 dL 2 v62 fun x63 n64 =>
 uR c61 fun q65 c66 =>
 rS q65 fun v67 =>
 dI .i64 v67 fun i68 =>
 uE c66 (cl ref9_Changed [(.agg [(.sl z0 z0n 5)]), (.agg [(.sl z1 z1n 5)])] H58 fun r69 H70 =>
 rT r69 fun c71 =>
 uR c71 fun q72 c73 =>
 rS q72 fun v74 =>
 dL 2 v74 fun x75 n76 =>
 uR c73 fun q77 c78 =>
 rS q77 fun v79 =>
 dI .i64 v79 fun i80 =>
 uE c78 (cl diff_Tree [(.agg [(.int .i64 i19), (.int .i64 i22), (.int .i64 i25), (.int .i64 i28), (.sl x31 n32 1)])] H70 fun r81 H82 =>
 rT r81 fun c83 =>
 uR c83 fun q84 c85 =>
 rC q84 fun c86 =>
 uC c86 fun v87 c88 =>
 dL 5 v87 fun x89 n90 =>
 uN c88 (uR c85 fun q91 c92 =>
 rS q91 fun v93 =>
 dI .i64 v93 fun i94 =>
 uE c92 (cl ref9_TreeOf [(.agg [(.int .i64 z2), (.int .i64 z3), (.int .i64 z4), (.int .i64 z5), (.sl z6 z6n 1)])] H82 fun r95 H96 =>
 rT r95 fun c97 =>
 uR c97 fun q98 c99 =>
 rC q98 fun c100 =>
 uC c100 fun v101 c102 =>
 dL 5 v101 fun x103 n104 =>
 uN c102 (uR c99 fun q105 c106 =>
 rS q105 fun v107 =>
 dI .i64 v107 fun i108 =>
 uE c106 (cl law0_SameImages [(.g (.sl x39 n40 2)), (.g (.sl x51 n52 2))] H96 fun r109 H110 =>
 rG r109 fun v111 =>
 dB v111 fun b112 =>
 bite (!b112)
 (Q (.g (.bool false)) H110)
 (cl law0_Num [(.g (.int .i64 i44))] H110 fun r113 H114 =>
  rG r113 fun v115 =>
  dI .i64 v115 fun i116 =>
  bite (!(eqI i116 i56))
  (Q (.g (.bool false)) H114)
  (cl law0_SameImages [(.g (.sl x63 n64 2)), (.g (.sl x75 n76 2))] H114 fun r117 H118 =>
   rG r117 fun v119 =>
   dB v119 fun b120 =>
   bite (!b120)
   (Q (.g (.bool false)) H118)
   (cl law0_Num [(.g (.int .i64 i68))] H118 fun r121 H122 =>
    rG r121 fun v123 =>
    dI .i64 v123 fun i124 =>
    bite (!(eqI i124 i80))
    (Q (.g (.bool false)) H122)
    (cl law0_SameTree [(.agg [(.sl x89 n90 5)]), (.agg [(.sl x103 n104 5)])] H122 fun r125 H126 =>
     rG r125 fun v127 =>
     dB v127 fun b128 =>
     bite (!b128)
     (Q (.g (.bool false)) H126)
     (cl law0_Num [(.g (.int .i64 i94))] H126 fun r129 H130 =>
      rG r129 fun v131 =>
      dI .i64 v131 fun i132 =>
      bite (!(eqI i132 i108))
      (Q (.g (.bool false)) H130)
      (cl law0_SpoilImages [(.g (.sl x39 n40 2))] H130 fun r133 H134 =>
       cl law0_SpoilImages [(.g (.sl x63 n64 2))] H134 fun r135 H136 =>
       cl law0_SpoilTree [(.agg [(.sl x89 n90 5)])] H136 fun r137 H138 =>
       cl law0_SameTree [(.agg [(.sl x5 n6 5)]), (.agg [(.sl z0 z0n 5)])] H138 fun r139 H140 =>
       rG r139 fun v141 =>
       dB v141 fun b142 =>
       bite b142
       (cl law0_SameTree [(.agg [(.sl x12 n13 5)]), (.agg [(.sl z1 z1n 5)])] H140 fun r143 H144 =>
        rG r143 fun v145 =>
        dB v145 fun b146 =>
        bite b146
        (cl law0_SamePager [(.agg [(.int .i64 i19), (.int .i64 i22), (.int .i64 i25), (.int .i64 i28), (.sl x31 n32 1)]), (.agg [(.int .i64 z2), (.int .i64 z3), (.int .i64 z4), (.int .i64 z5), (.sl z6 z6n 1)])] H144 fun r147 H148 =>
         rG r147 fun v149 =>
         dB v149 fun b150 =>
         bite b150
         (cl law15_awake [] H148 fun r151 H152 =>
          rG r151 fun v153 =>
          dB v153 fun b154 =>
          Q (.g (.bool b154)) H152)
         (Q (.g (.bool false)) H148))
        (Q (.g (.bool false)) H144))
       (Q (.g (.bool false)) H140))))))))))))))))))) := by kernel_rfl
theorem law15_Diffs_ok : Sound Go.Proofs.Tryz.prog 3 (law15_Diffs) := prog_ok.sound (cx := law15_Diffs.cx) rfl (EnvOK.cons ((law0_CopyTree_ok).c ⟨_, Go.Proofs.Tryz.func8, by kernel_rfl, by kernel_rfl⟩) (EnvOK.cons ((law0_CopyPager_ok).c ⟨_, Go.Proofs.Tryz.func9, by kernel_rfl, by kernel_rfl⟩) (EnvOK.cons ((diff_Images_ok).c ⟨_, Go.Proofs.Tryz.func10, by kernel_rfl, by kernel_rfl⟩) (EnvOK.cons ((ref9_Images_ok).c ⟨_, Go.Proofs.Tryz.func11, by kernel_rfl, by kernel_rfl⟩) (EnvOK.cons ((diff_Changed_ok).c ⟨_, Go.Proofs.Tryz.func12, by kernel_rfl, by kernel_rfl⟩) (EnvOK.cons ((ref9_Changed_ok).c ⟨_, Go.Proofs.Tryz.func13, by kernel_rfl, by kernel_rfl⟩) (EnvOK.cons ((diff_Tree_ok).c ⟨_, Go.Proofs.Tryz.func14, by kernel_rfl, by kernel_rfl⟩) (EnvOK.cons ((ref9_TreeOf_ok).c ⟨_, Go.Proofs.Tryz.func15, by kernel_rfl, by kernel_rfl⟩) (EnvOK.cons ((law0_SameImages_ok).c ⟨_, Go.Proofs.Tryz.func16, by kernel_rfl, by kernel_rfl⟩) (EnvOK.cons ((law0_Num_ok).c ⟨_, Go.Proofs.Tryz.func17, by kernel_rfl, by kernel_rfl⟩) (EnvOK.cons ((law0_SameTree_ok).c ⟨_, Go.Proofs.Tryz.func18, by kernel_rfl, by kernel_rfl⟩) (EnvOK.cons ((law0_SpoilImages_ok).c ⟨_, Go.Proofs.Tryz.func19, by kernel_rfl, by kernel_rfl⟩) (EnvOK.cons ((law0_SpoilTree_ok).c ⟨_, Go.Proofs.Tryz.func20, by kernel_rfl, by kernel_rfl⟩) (EnvOK.cons ((law0_SamePager_ok).c ⟨_, Go.Proofs.Tryz.func21, by kernel_rfl, by kernel_rfl⟩) (EnvOK.cons ((law15_awake_ok).c ⟨_, Go.Proofs.Tryz.func22, by kernel_rfl, by kernel_rfl⟩) (EnvOK.nil _)))))))))))))))) (noDyn_ok _) Go.Proofs.Tryz.func3 rfl


end Go.Am
namespace Go.Am

/-- a row of bytes of one's own -/
def OwnB (H : Hp) (b : Nat) (a : Pl) (L : List UInt8) : Prop := Own H b tU8 a L.length (u8s L)
theorem apB {H0 H : Hp} {a : Pl} {L : List UInt8} {K : Pl → Nat → Hp → Prop} {cs : List GV} {m : Nat} (h0 : H0 <+: H) (h : OwnB H H0.length a L) (ds : List UInt8) (hcs : cs = u8s ds) (hm : m = ds.length) (hl : L.length + ds.length ≤ 1000000)
    (hK : ∀ a' H', OwnB H' H0.length a' (L ++ ds) → H0 <+: H' → K a' (L ++ ds).length H') : ap H tU8 1 1 a L.length cs m K := by
  subst hcs; subst hm
  refine ap_own h0 h (by simp [u8s]) (by unfold Lim; omega) fun a' H' h1 h2 _ => ?_
  rw [← List.length_append]
  refine hK a' H' ?_ h2.pre
  unfold OwnB
  rw [List.length_append, u8s_append]
  exact h1
theorem OwnB.txt {H : Hp} {b : Nat} {a : Pl} {L : List UInt8} {K : ByteArray → Prop} (h : OwnB H b a L) : (rdN H a L.length fun c => txt c K) = K (mkS L) := by
  rw [rdN_of h.cells, txt_u8s]

def szd (s : ByteArray) : List UInt8 := bof s.size :: bs s
@[simp] theorem szd_length (s : ByteArray) : (szd s).length = s.size + 1 := by simp [szd]
theorem u8s_one {n : Int} (h1 : 0 ≤ n) (h2 : n ≤ 255) : [GV.int .u8 (wrapI .u8 n)] = u8s [bof n] := by rw [u8_eq h1 h2]; rfl

theorem page_sized_spec {H0 H : Hp} {a : Pl} {L : List UInt8} {s : ByteArray} {Q : Post} (h0 : H0 <+: H) (h : OwnB H H0.length a L) (hs : s.size ≤ 255) (hl : L.length ≤ 10000)
    (hQ : ∀ a' H', OwnB H' H0.length a' (L ++ szd s) → H0 <+: H' → Q (.g (.sl a' (L ++ szd s).length 1)) H') : page_sized [.g (.sl a L.length 1), .g (.str s)] H Q := by
  refine ⟨1, ?_⟩
  rw [page_sized_eq, chk_true]
  refine apB h0 h [bof s.size] (by rw [sz_def, u8s_one (by omega) (by omega)]) rfl (by simp; omega) fun a1 H1 h1 p1 => ?_
  rw [chk_true]
  refine apB p1 h1 (bs s) (bytesOf_eq s) (by simp) (by simp; omega) fun a2 H2 h2 p2 => ?_
  have e : L ++ [bof s.size] ++ bs s = L ++ szd s := by simp [szd]
  rw [e] at h2 ⊢
  exact hQ _ _ h2 p2

/-- a page's text -/
def entL (p : Pg) (i : Nat) : List UInt8 := szd (p.keys[i]?.getD ⟨#[]⟩) ++ (match p.leaf with | true => szd (p.vals[i]?.getD ⟨#[]⟩) | false => [])
def ents (p : Pg) (k : Nat) : List UInt8 := (List.range k).flatMap (entL p)
def hdr (p : Pg) : List UInt8 := [match p.leaf with | true => 1 | false => 2, bof p.keys.length]
def textL (p : Pg) : List UInt8 := hdr p ++ ents p p.keys.length ++ p.kids.map bof
def text (p : Pg) : ByteArray := mkS (textL p)
theorem ents_succ (p : Pg) (k : Nat) : ents p (k + 1) = ents p k ++ entL p k := by simp [ents, List.range_succ]
theorem entL_le {p : Pg} (h : FitsP p) (i : Nat) : (entL p i).length ≤ 18 := by
  have hk : (p.keys[i]?.getD ⟨#[]⟩).size ≤ 6 := by
    by_cases hi : i < p.keys.length
    · rw [getD_of_lt _ hi]; exact (h.keys _ (List.getElem_mem hi)).2
    · rw [List.getElem?_eq_none (by omega)]; show (0 : Nat) ≤ 6; omega
  unfold entL
  cases hL : p.leaf with
  | false => simp; omega
  | true =>
    have hv : (p.vals[i]?.getD ⟨#[]⟩).size ≤ 10 := by
      by_cases hi : i < p.vals.length
      · rw [getD_of_lt _ hi]; exact (h.leaf hL).2.2 _ (List.getElem_mem hi)
      · rw [List.getElem?_eq_none (by omega)]; show (0 : Nat) ≤ 10; omega
    simp; omega
theorem ents_le {p : Pg} (h : FitsP p) : ∀ k, (ents p k).length ≤ 18 * k
  | 0 => by simp [ents]
  | k + 1 => by rw [ents_succ, List.length_append]; have := ents_le h k; have := entL_le h k; omega

section
variable {H : Hp} {Q : Post} {u l : Bool} {a1 : Pl} {n1 : Nat} {a2 : Pl} {n2 : Nat} {a3 : Pl} {n3 : Nat} {p : Pg}

theorem kids_le (hm : MayP p) : p.kids.length ≤ 5 := by
  have hm1 := hm.1
  cases hL : p.leaf with
  | true => rw [(hm.2.leaf hL).2.1]; simp
  | false => have := (hm.2.inner hL).2.2.1; omega
theorem kids_u8 (hm : MayP p) {k : Nat} (hkn : k < p.kids.length) : 0 ≤ p.kids[k] ∧ p.kids[k] ≤ 255 := by
  cases hL : p.leaf with
  | true => have := (hm.2.leaf hL).2.1; simp [this] at hkn
  | false => have := (hm.2.inner hL).2.2.2.1 _ (List.getElem_mem hkn); omega
def upK (p : Pg) (k : Nat) : List UInt8 := hdr p ++ ents p p.keys.length ++ (p.kids.take k).map bof
theorem upK_succ {k : Nat} (hkn : k < p.kids.length) : upK p k ++ [bof p.kids[k]] = upK p (k + 1) := by
  unfold upK; rw [List.take_succ_eq_append_getElem hkn, List.map_append, ← List.append_assoc]; rfl
theorem upK_le (hm : MayP p) (k : Nat) : (upK p k).length ≤ 100 := by
  have hle := ents_le hm.2 p.keys.length
  have hm1 := hm.1
  have := kids_le hm
  unfold upK; simp [hdr]; omega
theorem upK_all {k : Nat} (hk : p.kids.length ≤ k) : upK p k = textL p := by
  unfold upK textL; rw [List.take_of_length_le hk]
def upE (p : Pg) (k : Nat) : List UInt8 := hdr p ++ ents p k
theorem upE_le (hm : MayP p) {k : Nat} (hk : k ≤ 4) : (upE p k).length ≤ 100 := by
  have hle := ents_le hm.2 k
  unfold upE; simp [hdr]; omega

theorem page_Put_l14 (h : PgAt H u l a1 n1 a2 n2 a3 n3 p) (hm : MayP p) (hQ : ∀ H', H <+: H' → Q (.tup [.s (.str (text p)), .s (.int .i64 0)]) H') :
    ∀ (f k : Nat) (a : Pl) (H' : Hp), p.kids.length - k < f → k ≤ p.kids.length → H <+: H' → OwnB H' H.length a (upK p k) → page_Put.l14 f a (upK p k).length a3 n3 (nI n3) (k : Int) H' Q := by
  have hi := h.kids
  have n3e := hi.len
  have l3 := hi.lim
  intro f
  induction f with
  | zero => intro k a H' hf; omega
  | succ f ih =>
    intro k a H' hf hk hp ho
    rw [page_Put.l14_eq]
    by_cases hkn : k < p.kids.length
    · have hb := kids_u8 hm hkn
      have := upK_le hm k
      rw [bite_t (by simp; omega), chk_true, (hi.mono hp).rd k rfl hkn, chk_true]
      refine apB hp ho [bof p.kids[k]] (u8s_one hb.1 hb.2) rfl (by simp; omega) fun a' H'' h1 h2 => ?_
      rw [upK_succ hkn] at h1 ⊢
      rw [wrap_succ (by omega)]
      exact ih (k + 1) a' H'' (by omega) (by omega) h2 h1
    · rw [bite_f (by simp; omega), ho.txt, upK_all (by omega)]
      exact hQ _ hp

theorem page_Put_l7 (h : PgAt H u l a1 n1 a2 n2 a3 n3 p) (hm : MayP p) (hQ : ∀ H', H <+: H' → Q (.tup [.s (.str (text p)), .s (.int .i64 0)]) H') :
    ∀ (f k : Nat) (a : Pl) (H' : Hp), p.keys.length - k + p.kids.length + 1 < f → k ≤ p.keys.length → H <+: H' → OwnB H' H.length a (upE p k) → page_Put.l7 f u l a1 n1 a2 n2 a3 n3 a (upE p k).length a1 n1 (nI n1) (k : Int) H' Q := by
  obtain ⟨hu, hl, hk, hv, hi⟩ := id h
  have n1e := hk.len
  have n2e := hv.len
  have l1 := hk.lim
  have hm1 := hm.1
  intro f
  induction f with
  | zero => intro k a H' hf; omega
  | succ f ih =>
    intro k a H' hf hkn0 hp ho
    rw [page_Put.l7_eq]
    by_cases hkn : k < p.keys.length
    · have hks := (hm.2.keys _ (List.getElem_mem hkn)).2
      have hle := upE_le hm (k := k) (by omega)
      rw [bite_t (by simp; omega), chk_true, (hk.mono hp).rd k rfl hkn]
      refine page_sized_spec hp ho (by omega) (by omega) fun a' H2 o2 p2 => ?_
      simp only [rG_g, dL_sl]
      cases hL : p.leaf with
      | true =>
        have hvl := (hm.2.leaf hL).1
        have hvn : k < p.vals.length := by omega
        have hvs := (hm.2.leaf hL).2.2 _ (List.getElem_mem hvn)
        rw [bite_t (by rw [← hl]; exact hL), chk_true, (hv.mono p2).rd k rfl hvn]
        refine page_sized_spec p2 o2 (by omega) (by simp; omega) fun a'' H3 o3 p3 => ?_
        simp only [rG_g, dL_sl]
        have e : upE p k ++ szd p.keys[k] ++ szd p.vals[k] = upE p (k + 1) := by
          unfold upE; rw [ents_succ]; simp [entL, hL, hkn, hvn]
        rw [e] at o3 ⊢
        rw [wrap_succ (by omega)]
        exact ih (k + 1) a'' H3 (by omega) (by omega) p3 o3
      | false =>
        rw [bite_f (by rw [← hl]; exact hL)]
        have e : upE p k ++ szd p.keys[k] = upE p (k + 1) := by
          unfold upE; rw [ents_succ]; simp [entL, hL, hkn]
        rw [e] at o2 ⊢
        rw [wrap_succ (by omega)]
        exact ih (k + 1) a' H2 (by omega) (by omega) p2 o2
    · rw [bite_f (by simp; omega)]
      have hke : k = p.keys.length := by omega
      subst hke
      have e : upE p p.keys.length = upK p 0 := by simp [upE, upK]
      rw [e] at ho ⊢
      exact page_Put_l14 h hm hQ f 0 a H' (by omega) (by omega) hp ho

theorem page_Put_spec (h : PgAt H u l a1 n1 a2 n2 a3 n3 p) (hQ1 : ¬ MayP p → ∀ H', H <+: H' → Q (.tup [.s (.str (mkS [])), .s (.int .i64 600)]) H')
    (hQ2 : MayP p → ∀ H', H <+: H' → Q (.tup [.s (.str (text p)), .s (.int .i64 0)]) H') : page_Put [.agg [.bool u, .bool l, .sl a1 n1 1, .sl a2 n2 1, .sl a3 n3 1]] H Q := by
  refine ⟨p.keys.length + p.kids.length + 5, ?_⟩
  rw [page_Put_eq]
  refine page_May_spec h fun b H1 p1 hb => ?_
  simp only [rG_g, dB_bool]
  refine bite_of (fun e => hQ1 (fun q => ?_) _ p1) (fun e => ?_)
  · rw [hb.2 q] at e; cases e
  have hm : MayP p := hb.1 (by cases b <;> simp_all)
  have hm1 := hm.1
  have hl := h.leaf
  have n1e := h.keys.len
  have hh : OwnB (H1 ++ [.row true tU8 [.int .u8 2, .int .u8 (wrapI .u8 (nI n1))]]) H.length (some (H1.length, 0)) [2, bof p.keys.length] := by
    refine .inr ⟨H1.length, rfl, pre_len p1, ?_, rfl⟩
    rw [List.getElem?_append_right (Nat.le_refl _)]
    simp only [Nat.sub_self, List.getElem?_cons_zero, nI_def]
    rw [u8_eq (by omega) (by omega), n1e]
    rfl
  have p2 : H <+: H1 ++ [.row true tU8 [.int .u8 2, .int .u8 (wrapI .u8 (nI n1))]] := p1.trans (List.prefix_append _ _)
  have go : ∀ H2, H <+: H2 → OwnB H2 H.length (some (H1.length, 0)) (upE p 0) → page_Put.l6 (p.keys.length + p.kids.length + 4) u l a1 n1 a2 n2 a3 n3 (some (H1.length, 0)) 2 H2 Q := fun H2 q2 o2 => by
    rw [show p.keys.length + p.kids.length + 4 = (p.keys.length + p.kids.length + 3) + 1 by omega, page_Put.l6_eq]
    exact page_Put_l7 h hm (hQ2 hm) _ 0 _ H2 (by omega) (Nat.zero_le _) q2 o2
  cases hL : p.leaf with
  | false =>
    rw [bite_f (by rw [← hl]; exact hL)]
    exact go _ p2 (by simpa [upE, hdr, ents, hL] using hh)
  | true =>
    rw [bite_t (by rw [← hl]; exact hL), chk_true]
    simp only [pu_def, ln_def, tN_def, Int.toNat_zero, Nat.zero_mul, Nat.zero_add]
    rw [wr_of (t := tU8) (cs := [.int .u8 2, .int .u8 (wrapI .u8 (nI n1))]) (by simp) (by simp)]
    refine go _ (pre_set p2 (pre_len p1) _) (.inr ⟨H1.length, rfl, pre_len p1, ?_, rfl⟩)
    rw [List.getElem?_set_self (by simp)]
    simp only [List.set_cons_zero, nI_def, upE, hdr, ents, hL]
    rw [u8_eq (by omega) (by omega), n1e]
    rfl

end
end Go.Am
namespace Go.Am

def tkB : List UInt8 → Nat × List UInt8
  | [] => (0, [])
  | b :: r => (b.toNat, r)
def tkT (L : List UInt8) : List UInt8 × List UInt8 := ((tkB L).2.take (tkB L).1, (tkB L).2.drop (tkB L).1)
theorem bs_sub (s : ByteArray) (a b : Nat) : bs (sub s a b) = ((bs s).drop a).take (b - a) := Lib.extract_data s a b
theorem sub_all (s : ByteArray) (a : Nat) : sub s a s.size = mkS ((bs s).drop a) := bs_inj (by rw [bs_sub, bs_mkS, List.take_of_length_le (by simp)])
theorem byt_eq (s : ByteArray) (j : Nat) : byt s j = (((bs s)[j]?.getD 0).toNat : Int) := by unfold byt; simp [bs]
section
variable {H : Hp} {Q : Post} {l : Nat} {L : List UInt8}
theorem page_taker_byte_spec (hl : H[l]? = some (.row true tTaker [.str (mkS L)])) (hQ : Q (.g (.int .i64 (tkB L).1)) (H.set l (.row true tTaker [.str (mkS (tkB L).2)]))) : page_taker_byte [.g (.ptr (some (l, 0)))] H Q := by
  have hg : gt H l 0 = some (.str (mkS L)) := by rw [gt_some hl]; rfl
  refine ⟨1, ?_⟩
  rw [page_taker_byte_eq, pS_some]
  simp only [Nat.zero_add]
  rw [rd_of hg, dS_str]
  cases L with
  | nil =>
    rw [bite_t (by simp)]
    simp only [tkB] at hQ
    rw [set_same hl] at hQ
    exact hQ
  | cons b r =>
    have hne : strEq (mkS (b :: r)) (mkS []) = false := by simp; intro e; have := mkS_inj e; cases this
    rw [bite_f hne, pS_some]
    simp only [Nat.zero_add]
    rw [rd_of hg, dS_str]
    refine chk_of (by simp) ?_
    rw [pS_some]
    simp only [Nat.zero_add]
    rw [rd_of hg, dS_str]
    refine chk_of (by simp) ?_
    rw [pS_some]
    simp only [Nat.zero_add]
    rw [wr_of hl (by simp)]
    simp only [tkB] at hQ
    have hb := b.toNat_lt
    have e1 : wrapI .i64 (byt (mkS (b :: r)) (tN 0)) = (b.toNat : Int) := by
      rw [byt_eq]
      simp only [bs_mkS, tN_def, Int.toNat_zero, List.getElem?_cons_zero, Option.getD_some]
      exact wrap64 (by omega) (by omega)
    have e2 : sub (mkS (b :: r)) (tN 1) (szN (mkS (b :: r))) = mkS r := by
      rw [szN_def, sub_all]; simp
    rw [e1, e2]
    exact hQ
theorem page_taker_text_spec (hl : H[l]? = some (.row true tTaker [.str (mkS L)])) (hQ : Q (.g (.str (mkS (tkT L).1))) (H.set l (.row true tTaker [.str (mkS (tkT L).2)]))) : page_taker_text [.g (.ptr (some (l, 0)))] H Q := by
  refine ⟨1, ?_⟩
  rw [page_taker_text_eq]
  refine page_taker_byte_spec hl ?_
  simp only [rG_g, dI_int, pS_some, Nat.zero_add]
  have hl2 : (H.set l (.row true tTaker [.str (mkS (tkB L).2)]))[l]? = some (.row true tTaker [.str (mkS (tkB L).2)]) := List.getElem?_set_self (List.getElem?_eq_some_iff.1 hl).1
  have hg : gt (H.set l (.row true tTaker [.str (mkS (tkB L).2)])) l 0 = some (.str (mkS (tkB L).2)) := by rw [gt_some hl2]; rfl
  rw [rd_of hg, dS_str, rd_of hg, dS_str]
  have hmn : mnI ((tkB L).1 : Int) (sz (mkS (tkB L).2)) = (min (tkB L).1 (tkB L).2.length : Nat) := by
    simp [mnI]; split <;> omega
  rw [hmn]
  refine chk_of (by simp) (chk_of (by simp; omega) ?_)
  rw [rd_of hg, dS_str]
  refine chk_of (by simp) (chk_of (by simp; omega) ?_)
  rw [wr_of hl2 (by simp)]
  have e1 : sub (mkS (tkB L).2) (tN (min (tkB L).1 (tkB L).2.length : Nat)) (szN (mkS (tkB L).2)) = mkS (tkT L).2 := by
    rw [szN_def, sub_all]
    simp only [bs_mkS, tN_def, Int.toNat_natCast, tkT]
    congr 1
    by_cases h : (tkB L).1 ≤ (tkB L).2.length
    · rw [Nat.min_eq_left h]
    · rw [Nat.min_eq_right (by omega), List.drop_of_length_le (Nat.le_refl _), List.drop_of_length_le (by omega)]
  have e2 : sub (mkS (tkB L).2) 0 (tN (min (tkB L).1 (tkB L).2.length : Nat)) = mkS (tkT L).1 := by
    apply bs_inj
    rw [bs_sub]
    simp only [bs_mkS, tN_def, Int.toNat_natCast, tkT, List.drop_zero, Nat.sub_zero]
    by_cases h : (tkB L).1 ≤ (tkB L).2.length
    · rw [Nat.min_eq_left h]
    · rw [Nat.min_eq_right (by omega), List.take_of_length_le (Nat.le_refl _), List.take_of_length_le (by omega)]
  rw [e1, e2, List.set_set]
  exact hQ
end

/-! the parse -/
structure Pa where
  ks : List ByteArray
  vs : List ByteArray
  R : List UInt8
def takeE (leaf : Bool) : Nat → List UInt8 → List ByteArray → List ByteArray → Pa
  | 0, R, ks, vs => ⟨ks, vs, R⟩
  | n + 1, R, ks, vs => match leaf with
    | true => takeE leaf n (tkT (tkT R).2).2 (ks ++ [mkS (tkT R).1]) (vs ++ [mkS (tkT (tkT R).2).1])
    | false => takeE leaf n (tkT R).2 (ks ++ [mkS (tkT R).1]) vs
def takeK : Nat → List UInt8 → List Int → List Int
  | 0, _, ks => ks
  | n + 1, R, ks => takeK n (tkB R).2 (ks ++ [((tkB R).1 : Int)])
def pLeaf (L : List UInt8) : Bool := (tkB L).1 == 1
def pN (L : List UInt8) : Nat := min (tkB (tkB L).2).1 4
def pE (L : List UInt8) : Pa := takeE (pLeaf L) (pN L) (tkB (tkB L).2).2 [] []
def parse (L : List UInt8) : Pg := ⟨true, pLeaf L, (pE L).ks, (pE L).vs, match pLeaf L with | true => [] | false => takeK (pN L + 1) (pE L).R []⟩

theorem tkT_szd {s : ByteArray} (h : s.size ≤ 255) (R : List UInt8) : tkT (szd s ++ R) = (bs s, R) := by
  have e : (bof (s.size : Int)).toNat = s.size := by simp [bof]; omega
  simp only [tkT, szd, List.cons_append, tkB, e]
  rw [List.take_left' (by simp), List.drop_left' (by simp)]

def tailE (p : Pg) (k m : Nat) : List UInt8 := (List.range' k m).flatMap (entL p)
theorem tailE_succ (p : Pg) (k m : Nat) : tailE p k (m + 1) = entL p k ++ tailE p (k + 1) m := by simp [tailE, List.range'_succ]
theorem ents_tail (p : Pg) (n : Nat) : ents p n = tailE p 0 n := by simp [ents, tailE, List.range_eq_range']

theorem takeE_ents {p : Pg} (hf : FitsP p) (T : List UInt8) : ∀ m k : Nat, k + m = p.keys.length → takeE p.leaf m (tailE p k m ++ T) (p.keys.take k) (p.vals.take k) = ⟨p.keys, p.vals, T⟩ := by
  intro m
  induction m with
  | zero =>
    intro k hk
    simp only [takeE, tailE, List.range'_zero, List.flatMap_nil, List.nil_append]
    rw [List.take_of_length_le (by omega)]
    cases hL : p.leaf with
    | true => have := (hf.leaf hL).1; rw [List.take_of_length_le (by omega)]
    | false => rw [(hf.inner hL).2.1]; simp
  | succ m ih =>
    intro k hk
    have hkn : k < p.keys.length := by omega
    have hks := (hf.keys _ (List.getElem_mem hkn)).2
    have ih' := ih (k + 1) (by omega)
    rw [List.take_succ_eq_append_getElem hkn] at ih'
    cases hL : p.leaf with
    | true =>
      have hvl := (hf.leaf hL).1
      have hvn : k < p.vals.length := by omega
      have hvs := (hf.leaf hL).2.2 _ (List.getElem_mem hvn)
      rw [List.take_succ_eq_append_getElem hvn, hL] at ih'
      have e : tailE p k (m + 1) ++ T = szd p.keys[k] ++ (szd p.vals[k] ++ (tailE p (k + 1) m ++ T)) := by
        rw [tailE_succ]; simp [entL, hL, hkn, hvn]
      rw [e]
      simp only [takeE]
      rw [tkT_szd (by omega)]
      simp only
      rw [tkT_szd (by omega)]
      simp only [mkS_bs]
      exact ih'
    | false =>
      have hv := (hf.inner hL).2.1
      rw [hL] at ih'
      have e : tailE p k (m + 1) ++ T = szd p.keys[k] ++ (tailE p (k + 1) m ++ T) := by
        rw [tailE_succ]; simp [entL, hL, hkn]
      rw [e]
      simp only [takeE]
      rw [tkT_szd (by omega)]
      simp only [mkS_bs]
      rw [hv] at ih' ⊢
      simpa using ih'
theorem bof_toNat {x : Int} (h1 : 0 ≤ x) (h2 : x ≤ 255) : ((bof x).toNat : Int) = x := by simp [bof]; omega
theorem takeK_kids {ks : List Int} (T : List UInt8) (h : ∀ k ∈ ks, 0 ≤ k ∧ k ≤ 255) : ∀ m k : Nat, k + m = ks.length → takeK m ((ks.drop k).map bof ++ T) (ks.take k) = ks := by
  intro m
  induction m with
  | zero => intro k hk; simp only [takeK]; rw [List.take_of_length_le (by omega)]
  | succ m ih =>
    intro k hk
    have hkn : k < ks.length := by omega
    have hb := h _ (List.getElem_mem hkn)
    rw [List.drop_eq_getElem_cons hkn]
    simp only [List.map_cons, List.cons_append, takeK, tkB]
    rw [bof_toNat hb.1 hb.2, ← List.take_succ_eq_append_getElem hkn]
    exact ih (k + 1) (by omega)

theorem parse_more {p : Pg} (hm : MayP p) (T : List UInt8) : parse (textL p ++ T) = p := by
  have hf := hm.2
  have hm1 := hm.1
  have hl : pLeaf (textL p ++ T) = p.leaf := by cases hL : p.leaf <;> simp [pLeaf, textL, hdr, tkB, hL]
  have hb : (bof (p.keys.length : Int)).toNat = p.keys.length := by simp [bof]; omega
  have hn : pN (textL p ++ T) = p.keys.length := by simp only [pN, textL, hdr, List.cons_append, tkB, hb]; omega
  have hR : (tkB (tkB (textL p ++ T)).2).2 = tailE p 0 p.keys.length ++ (p.kids.map bof ++ T) := by simp [textL, hdr, tkB, ents_tail]
  have hE : pE (textL p ++ T) = ⟨p.keys, p.vals, p.kids.map bof ++ T⟩ := by
    unfold pE
    rw [hl, hn, hR]
    have := takeE_ents hf (p.kids.map bof ++ T) p.keys.length 0 (by omega)
    simpa using this
  unfold parse
  rw [hE, hl, hn]
  obtain ⟨pu, pl, pk, pv, pi⟩ := p
  have hu : pu = true := hf.used
  subst hu
  cases pl with
  | true =>
    have := (hf.leaf rfl).2.1
    simp only at this ⊢
    rw [this]
  | false =>
    have h1 := (hf.inner rfl).2.2.1
    have h2 := (hf.inner rfl).2.2.2.1
    simp only at h1 h2 ⊢
    have := takeK_kids (ks := pi) T (fun k hk => by have := h2 k hk; omega) (pk.length + 1) 0 (by omega)
    simp only [List.drop_zero, List.take_zero] at this
    rw [this]
theorem parse_text {p : Pg} (hm : MayP p) : parse (textL p) = p := by have := parse_more hm []; rwa [List.append_nil] at this
end Go.Am
namespace Go.Am

/-- what Get and GetPage answer -/
def GetQ (s : ByteArray) (b : Nat) (Q : Post) (H : Hp) : Prop := ∀ u l a1 n1 a2 n2 a3 n3 p e H', H <+: H' → PgOwn H' b u l a1 n1 a2 n2 a3 n3 p →
  ((e = 0 ∧ MayP p ∧ text p = s) ∨ (e = 600 ∧ p = noPg ∧ ∀ p', MayP p' → text p' ≠ s)) → Q (.tup [.a [.bool u, .bool l, .sl a1 n1 1, .sl a2 n2 1, .sl a3 n3 1], .s (.int .i64 e)]) H'

structure GI (H0 H : Hp) (lt : Nat) (R : List UInt8) (a1 : Pl) (ks : List ByteArray) (a2 : Pl) (vs : List ByteArray) (a3 : Pl) (is : List Int) : Prop where
  pre : H0 <+: H
  row : H[lt]? = some (.row true tTaker [.str (mkS R)])
  o1 : Own H H0.length tS a1 ks.length (ks.map GV.str)
  o2 : Own H H0.length tS a2 vs.length (vs.map GV.str)
  o3 : Own H H0.length tI a3 is.length (is.map (GV.int .i64))
  d1 : a1 ≠ some (lt, 0)
  d2 : a2 ≠ some (lt, 0)
  d3 : a3 ≠ some (lt, 0)
  d12 : Dj a1 a2
  d13 : Dj a1 a3
  d23 : Dj a2 a3
  b : H0.length ≤ lt

section
variable {H0 H : Hp} {lt : Nat} {R : List UInt8} {a1 : Pl} {ks : List ByteArray} {a2 : Pl} {vs : List ByteArray} {a3 : Pl} {is : List Int}
theorem GI.turn (g : GI H0 H lt R a1 ks a2 vs a3 is) (R' : List UInt8) : GI H0 (H.set lt (.row true tTaker [.str (mkS R')])) lt R' a1 ks a2 vs a3 is :=
  ⟨pre_set g.pre g.b _, List.getElem?_set_self (List.getElem?_eq_some_iff.1 g.row).1, g.o1.set g.d1 _, g.o2.set g.d2 _, g.o3.set g.d3 _, g.d1, g.d2, g.d3, g.d12, g.d13, g.d23, g.b⟩
theorem GI.in_ (g : GI H0 H lt R a1 ks a2 vs a3 is) : lt < H.length := (List.getElem?_eq_some_iff.1 g.row).1
theorem GI.key (g : GI H0 H lt R a1 ks a2 vs a3 is) (s : ByteArray) (hk : ks.length ≤ 100) {K : Pl → Nat → Hp → Prop} (hK : ∀ a' H', GI H0 H' lt R a' (ks ++ [s]) a2 vs a3 is → K a' (ks.length + 1) H') : ap H tS 1 16 a1 ks.length [.str s] 1 K := by
  refine ap_own g.pre g.o1 rfl (by unfold Lim; omega) fun a' H' h1 h2 h3 => hK a' H' ?_
  refine ⟨h2.pre, by rw [h2.row lt g.in_ g.d1]; exact g.row, by simpa using h1, g.o2.after g.d12 h2, g.o3.after g.d13 h2, fun e => ?_, g.d2, g.d3, Dj.fresh g.o2 h3, Dj.fresh g.o3 h3, g.d23, g.b⟩
  have := h3 lt 0 e; have := g.in_; omega
theorem GI.val (g : GI H0 H lt R a1 ks a2 vs a3 is) (s : ByteArray) (hk : vs.length ≤ 100) {K : Pl → Nat → Hp → Prop} (hK : ∀ a' H', GI H0 H' lt R a1 ks a' (vs ++ [s]) a3 is → K a' (vs.length + 1) H') : ap H tS 1 16 a2 vs.length [.str s] 1 K := by
  refine ap_own g.pre g.o2 rfl (by unfold Lim; omega) fun a' H' h1 h2 h3 => hK a' H' ?_
  refine ⟨h2.pre, by rw [h2.row lt g.in_ g.d2]; exact g.row, g.o1.after g.d12.symm h2, by simpa using h1, g.o3.after g.d23 h2, g.d1, fun e => ?_, g.d3, (Dj.fresh g.o1 h3).symm, g.d13, Dj.fresh g.o3 h3, g.b⟩
  have := h3 lt 0 e; have := g.in_; omega
theorem GI.kid (g : GI H0 H lt R a1 ks a2 vs a3 is) (s : Int) (hk : is.length ≤ 1000) {K : Pl → Nat → Hp → Prop} (hK : ∀ a' H', GI H0 H' lt R a1 ks a2 vs a' (is ++ [s]) → K a' (is.length + 1) H') : ap H tI 1 8 a3 is.length [.int .i64 s] 1 K := by
  refine ap_own g.pre g.o3 rfl (by unfold Lim; omega) fun a' H' h1 h2 h3 => hK a' H' ?_
  refine ⟨h2.pre, by rw [h2.row lt g.in_ g.d3]; exact g.row, g.o1.after g.d13.symm h2, g.o2.after g.d23.symm h2, by simpa using h1, g.d1, g.d2, fun e => ?_, g.d12, (Dj.fresh g.o1 h3).symm, (Dj.fresh g.o2 h3).symm, g.b⟩
  have := h3 lt 0 e; have := g.in_; omega
theorem GI.pg (g : GI H0 H lt R a1 ks a2 vs a3 is) (u l : Bool) (h1 : ks.length ≤ 1000) (h2 : vs.length ≤ 1000) (h3 : is.length ≤ 1000) : PgOwn H H0.length u l a1 ks.length a2 vs.length a3 is.length ⟨u, l, ks, vs, is⟩ :=
  ⟨rfl, rfl, g.o1, g.o2, g.o3, g.d12, g.d13, g.d23, h1, h2, h3⟩
end

section
variable {H0 : Hp} {Q : Post} {s : ByteArray}

/-- the end of both: is it that page's text? -/
theorem get_end {H : Hp} {u l : Bool} {a1 : Pl} {n1 : Nat} {a2 : Pl} {n2 : Nat} {a3 : Pl} {n3 : Nat} {p : Pg} (h : PgOwn H H0.length u l a1 n1 a2 n2 a3 n3 p) (hp : H0 <+: H) (hu : ∀ p', MayP p' → text p' = s → p = p') (hQ : GetQ s H0.length Q H0)
    {F : List FV → Hp → Post → Prop} (hF : ∀ Q' : Post, (¬ MayP p → ∀ H', H <+: H' → Q' (.tup [.s (.str (mkS [])), .s (.int .i64 600)]) H') → (MayP p → ∀ H', H <+: H' → Q' (.tup [.s (.str (text p)), .s (.int .i64 0)]) H') →
      F [.agg [.bool u, .bool l, .sl a1 n1 1, .sl a2 n2 1, .sl a3 n3 1]] H Q') :
    cl F [.agg [.bool u, .bool l, .sl a1 n1 1, .sl a2 n2 1, .sl a3 n3 1]] H fun r7 H8 => rT r7 fun c9 => uR c9 fun q10 c11 => rS q10 fun v12 => dS v12 fun s13 => uR c11 fun q14 c15 => rS q14 fun v16 => dI .i64 v16 fun i17 =>
      uE c15 (bite (!(eqI i17 0))
       (Q (.tup [(.a [(.bool false), (.bool false), (.sl none 0 1), (.sl none 0 1), (.sl none 0 1)]), (.s (.int .i64 600))]) H8)
       (bite (!(strEq s13 s))
        (Q (.tup [(.a [(.bool false), (.bool false), (.sl none 0 1), (.sl none 0 1), (.sl none 0 1)]), (.s (.int .i64 600))]) H8)
        (Q (.tup [(.a [(.bool u), (.bool l), (.sl a1 n1 1), (.sl a2 n2 1), (.sl a3 n3 1)]), (.s (.int .i64 0))]) H8))) := by
  refine hF _ (fun hn H' p' => ?_) (fun hm H' p' => ?_)
  · simp only [rT_tup, uR_cons, rS_s, dS_str, dI_int, uE_nil]
    rw [bite_t (by decide)]
    exact hQ _ _ _ _ _ _ _ _ _ _ _ (hp.trans p') (noPg_own _ _) (.inr ⟨rfl, rfl, fun p2 h1 h2 => hn (by rw [hu p2 h1 h2]; exact h1)⟩)
  · simp only [rT_tup, uR_cons, rS_s, dS_str, dI_int, uE_nil]
    rw [bite_f (by decide)]
    by_cases e : text p = s
    · rw [bite_f (by simpa using e)]
      exact hQ _ _ _ _ _ _ _ _ _ _ _ (hp.trans p') (h.mono p') (.inl ⟨rfl, hm, e⟩)
    · rw [bite_t (by simpa using e)]
      exact hQ _ _ _ _ _ _ _ _ _ _ _ (hp.trans p') (noPg_own _ _) (.inr ⟨rfl, rfl, fun p2 h1 h2 => e (by rw [hu p2 h1 h2]; exact h2)⟩)

theorem page_Get_l11 {lt : Nat} {a1 : Pl} {ks : List ByteArray} {a2 : Pl} {vs : List ByteArray} (lf : Bool) (n : Nat) (hk : ks.length ≤ 100) (hv : vs.length ≤ 100) (hn : n ≤ 4) (hQ : GetQ s H0.length Q H0) (pEnd : Pg)
    (hu : ∀ p', MayP p' → text p' = s → pEnd = p') :
    ∀ (f k : Nat) (H : Hp) (R : List UInt8) (a3 : Pl) (is : List Int), n + 1 - k < f → k ≤ n + 1 → is.length ≤ k → GI H0 H lt R a1 ks a2 vs a3 is →
      pEnd = ⟨true, lf, ks, vs, match lf with | true => is | false => takeK (n + 1 - k) R is⟩ →
      page_Get.l11 f s false false none 0 none 0 none 0 lt 0 true lf a1 ks.length a2 vs.length a3 is.length (n : Int) (k : Int) lt 0 H Q := by
  intro f
  induction f with
  | zero => intro k H R a3 is hf; omega
  | succ f ih =>
    intro k H R a3 is hf hk1 hi g he
    rw [page_Get.l11_eq]
    by_cases hkn : k ≤ n
    · rw [bite_t (by simp; omega)]
      cases lf with
      | true =>
        rw [bite_f (b := !true) rfl]
        have ho : PgOwn H H0.length true true a1 ks.length a2 vs.length a3 is.length pEnd := by rw [he]; exact g.pg true true (by omega) (by omega) (by omega)
        exact get_end ho g.pre hu hQ fun Q' h1 h2 => page_Put_spec ho.at h1 h2
      | false =>
        rw [bite_t (b := !false) rfl]
        refine page_taker_byte_spec g.row ?_
        simp only [rG_g, dI_int]
        rw [chk_true]
        refine (g.turn _).kid _ (by omega) fun a' H' g' => ?_
        rw [wrap_succ (by omega)]
        have := ih (k + 1) H' _ a' (is ++ [((tkB R).1 : Int)]) (by omega) (by omega) (by simp; omega) g' (by
          rw [he, show n + 1 - k = (n + 1 - (k + 1)) + 1 by omega]; rfl)
        simpa using this
    · rw [bite_f (by simp; omega)]
      have ho : PgOwn H H0.length true lf a1 ks.length a2 vs.length a3 is.length pEnd := by
        rw [he, show n + 1 - k = 0 by omega]
        have := g.pg true lf (by omega) (by omega) (by omega)
        cases lf <;> exact this
      exact get_end ho g.pre hu hQ fun Q' h1 h2 => page_Put_spec ho.at h1 h2

theorem page_Get_l5 {lt : Nat} (lf : Bool) (n : Nat) (hn : n ≤ 4) (hQ : GetQ s H0.length Q H0) (pEnd : Pg) (hu : ∀ p', MayP p' → text p' = s → pEnd = p') :
    ∀ (f k : Nat) (H : Hp) (R : List UInt8) (a1 : Pl) (ks : List ByteArray) (a2 : Pl) (vs : List ByteArray), n - k + n + 3 < f → k ≤ n → ks.length ≤ k → vs.length ≤ k → GI H0 H lt R a1 ks a2 vs none [] →
      pEnd = ⟨true, lf, (takeE lf (n - k) R ks vs).ks, (takeE lf (n - k) R ks vs).vs, match lf with | true => [] | false => takeK (n + 1) (takeE lf (n - k) R ks vs).R []⟩ →
      page_Get.l5 f s false false none 0 none 0 none 0 lt 0 true lf a1 ks.length a2 vs.length none 0 (n : Int) lt 0 (n : Int) (k : Int) H Q := by
  intro f
  induction f with
  | zero => intro k H R a1 ks a2 vs hf; omega
  | succ f ih =>
    intro k H R a1 ks a2 vs hf hkn hk hv g he
    rw [page_Get.l5_eq]
    by_cases hlt : k < n
    · rw [bite_t (by simp; omega)]
      refine page_taker_text_spec g.row ?_
      simp only [rG_g, dS_str]
      rw [chk_true]
      refine (g.turn _).key _ (by omega) fun a' H' g' => ?_
      cases lf with
      | true =>
        rw [bite_t rfl]
        refine page_taker_text_spec g'.row ?_
        simp only [rG_g, dS_str]
        rw [chk_true]
        refine (g'.turn _).val _ (by omega) fun a'' H'' g'' => ?_
        rw [wrap_succ (by omega)]
        have := ih (k + 1) H'' _ a' (ks ++ [mkS (tkT R).1]) a'' (vs ++ [mkS (tkT (tkT R).2).1]) (by omega) (by omega) (by simp; omega) (by simp; omega) g'' (by
          rw [he, show n - k = (n - (k + 1)) + 1 by omega]; rfl)
        simpa using this
      | false =>
        rw [bite_f rfl]
        rw [wrap_succ (by omega)]
        have := ih (k + 1) H' _ a' (ks ++ [mkS (tkT R).1]) a2 vs (by omega) (by omega) (by simp; omega) (by omega) g' (by
          rw [he, show n - k = (n - (k + 1)) + 1 by omega]; rfl)
        simpa using this
    · rw [bite_f (by simp; omega)]
      rw [show n - k = 0 by omega] at he
      exact page_Get_l11 lf n (by omega) (by omega) hn hQ pEnd hu f 0 H R none [] (by omega) (by omega) (by simp) g (by rw [he]; cases lf <;> rfl)

theorem page_Get_spec (hQ : GetQ s H0.length Q H0) : page_Get [.g (.str s)] H0 Q := by
  refine ⟨16, ?_⟩
  rw [page_Get_eq]
  have g0 : GI H0 (H0 ++ [.row true tTaker [.str (mkS (bs s))]]) H0.length (bs s) none [] none [] none [] :=
    ⟨List.prefix_append _ _, by simp, .inl ⟨rfl, rfl, rfl⟩, .inl ⟨rfl, rfl, rfl⟩, .inl ⟨rfl, rfl, rfl⟩, by simp, by simp, by simp, fun _ e => (by cases e), fun _ e => (by cases e), fun _ e => (by cases e), Nat.le_refl _⟩
  simp only [mkS_bs] at g0
  have g0' := g0
  rw [← mkS_bs s] at g0'
  refine page_taker_byte_spec (L := bs s) (by simp) ?_
  simp only [rG_g, dI_int]
  have g1 := g0'.turn (tkB (bs s)).2
  refine page_taker_byte_spec (L := (tkB (bs s)).2) g1.row ?_
  simp only [rG_g, dI_int]
  have g2 := g1.turn (tkB (tkB (bs s)).2).2
  have hn : mnI ((tkB (tkB (bs s)).2).1 : Int) 4 = (pN (bs s) : Int) := by
    simp [mnI, pN]; split <;> omega
  have hl : eqI ((tkB (bs s)).1 : Int) 1 = pLeaf (bs s) := by
    simp only [eqI_def, pLeaf]
    rw [Bool.eq_iff_iff]; simp; omega
  have hn4 : pN (bs s) ≤ 4 := by unfold pN; omega
  rw [hn, hl]
  have := page_Get_l5 (H0 := H0) (Q := Q) (s := s) (lt := H0.length) (pLeaf (bs s)) (pN (bs s)) hn4 hQ (parse (bs s)) (fun p' h1 h2 => by
    rw [← h2]; exact parse_text h1) 15 0 _ _ none [] none [] (by omega) (Nat.zero_le _) (by simp) (by simp) g2 rfl
  simpa using this
end
end Go.Am
namespace Go.Am

/-! images -/
abbrev IM := List (Int × ByteArray)
def imCells (xs : IM) : List GV := xs.flatMap fun x => [.int .i64 x.1, .str x.2]
theorem imCells_append (xs ys : IM) : imCells (xs ++ ys) = imCells xs ++ imCells ys := by simp [imCells]
theorem imCells_length (xs : IM) : (imCells xs).length = xs.length * 2 := by
  unfold imCells
  induction xs with
  | nil => rfl
  | cons c cs ih => simp [ih]; omega
theorem imCells_get {ps : IM} {i : Nat} (hi : i < ps.length) : (imCells ps)[i * 2]? = some (.int .i64 ps[i].1) ∧ (imCells ps)[i * 2 + 1]? = some (.str ps[i].2) := by
  unfold imCells
  induction ps generalizing i with
  | nil => simp at hi
  | cons c cs ih =>
    simp only [List.flatMap_cons]
    cases i with
    | zero => simp
    | succ i =>
      have := ih (i := i) (by simpa using hi)
      rw [List.getElem?_append_right (by simp; omega), List.getElem?_append_right (by simp; omega)]
      have e1 : (i + 1) * 2 - [GV.int .i64 c.1, GV.str c.2].length = i * 2 := by simp; omega
      have e2 : (i + 1) * 2 + 1 - [GV.int .i64 c.1, GV.str c.2].length = i * 2 + 1 := by simp; omega
      rw [e1, e2]
      simpa using this
structure Im (H : Hp) (a : Pl) (n : Nat) (ps : IM) : Prop where
  cells : cells? H a (n * 2) = some (imCells ps)
  len : ps.length = n
theorem Im.mono {H H' : Hp} (hp : H <+: H') {a : Pl} {n : Nat} {ps : IM} (h : Im H a n ps) : Im H' a n ps := ⟨cells_mono hp h.cells, h.len⟩
theorem Im.get {H : Hp} {a : Pl} {n : Nat} {ps : IM} (h : Im H a n ps) {i : Nat} (hi : i < ps.length) : ∃ l o, a = some (l, o) ∧ gt H l (o + i * 2) = some (.int .i64 ps[i].1) ∧ gt H l (o + i * 2 + 1) = some (.str ps[i].2) := by
  have hc := h.cells
  have hl := h.len
  cases a with
  | none => simp [cells?] at hc; omega
  | some q =>
    obtain ⟨l, o⟩ := q
    obtain ⟨k1, k2⟩ := imCells_get hi
    refine ⟨l, o, rfl, ?_, ?_⟩
    · rw [cells_get hc (by omega), k1]
    · rw [Nat.add_assoc, cells_get hc (by omega), k2]
theorem Own.im {H : Hp} {b : Nat} {t : TypeId} {a : Pl} {m : Nat} {ps : IM} (h : Own H b t a (m * 2) (imCells ps)) (hl : ps.length = m) : Im H a m ps := ⟨h.cells, hl⟩
theorem Im.get? {H : Hp} {a : Pl} {n : Nat} {ps : IM} (h : Im H a n ps) {i : Nat} {x : Int × ByteArray} (hi : ps[i]? = some x) : ∃ l o, a = some (l, o) ∧ gt H l (o + i * 2) = some (.int .i64 x.1) ∧ gt H l (o + i * 2 + 1) = some (.str x.2) := by
  obtain ⟨h1, h2⟩ := List.getElem?_eq_some_iff.1 hi
  obtain ⟨l, o, e, g1, g2⟩ := h.get h1
  rw [h2] at g1 g2
  exact ⟨l, o, e, g1, g2⟩

/-- a page's text, empty where it may not be -/
def ptext (p : Pg) : ByteArray := match mayB_ p with
  | true => text p
  | false => mkS []
def ptx (T : List Pg) (i : Nat) : ByteArray := ptext (T[i]?.getD noPg)
def imgs (T : List Pg) (k : Nat) : IM := (List.range k).map fun i : Nat => ((i : Int), ptx T i)
theorem imgs_succ (T : List Pg) (k : Nat) : imgs T (k + 1) = imgs T k ++ [((k : Int), ptx T k)] := by simp [imgs, List.range_succ]
@[simp] theorem imgs_length (T : List Pg) (k : Nat) : (imgs T k).length = k := by simp [imgs]
theorem imgs_get (T : List Pg) {k i : Nat} (h : i < k) : (imgs T k)[i]? = some ((i : Int), ptx T i) := by simp [imgs, h]
/-- what turned -/
def chg (S T : List Pg) (k : Nat) : IM := (List.range k).flatMap fun i : Nat => match decide (ptx S i = ptx T i) with
  | true => []
  | false => [((i : Int), ptx T i)]
theorem chg_same {S T : List Pg} {k : Nat} (h : ptx S k = ptx T k) : chg S T (k + 1) = chg S T k := by simp [chg, List.range_succ, h]
theorem chg_turn {S T : List Pg} {k : Nat} (h : ¬ ptx S k = ptx T k) : chg S T (k + 1) = chg S T k ++ [((k : Int), ptx T k)] := by simp [chg, List.range_succ, h]
theorem chg_le (S T : List Pg) : ∀ k, (chg S T k).length ≤ k
  | 0 => by simp [chg]
  | k + 1 => by
    have := chg_le S T k
    by_cases h : ptx S k = ptx T k
    · rw [chg_same h]; omega
    · rw [chg_turn h]; simp; omega
/-- texts laid over texts -/
def lay (L : List ByteArray) (ys : IM) : List ByteArray := ys.foldl (fun L y => L.set y.1.toNat y.2) L
@[simp] theorem lay_length (ys : IM) : ∀ L : List ByteArray, (lay L ys).length = L.length := by
  induction ys with
  | nil => intro L; rfl
  | cons y ys ih => intro L; show (lay (L.set _ _) ys).length = _; rw [ih]; simp
/-! facts -/
theorem text_two (p : Pg) : 2 ≤ (text p).size := by simp [text, textL, hdr]
theorem text_ne (p : Pg) : text p ≠ mkS [] := fun e => by
  have := text_two p; rw [e] at this; exact absurd this (by decide)
theorem nothing_no {p : Pg} (h : nothingB p = true) : p = noPg := by
  obtain ⟨u, l, ks, vs, is⟩ := p
  simp only [nothingB, Bool.and_eq_true, Bool.not_eq_true', List.isEmpty_iff] at h
  obtain ⟨rfl, rfl, rfl, rfl, rfl⟩ := h
  rfl
/-- each page of a sound tree may be, or is none -/
theorem SF.page {T : List Pg} {st : WS} (s : SF T st) {i : Nat} {p : Pg} (hp : T[i]? = some p) : mayB_ p = true ∧ p.used = true ∨ p = noPg := by
  cases hu : p.used with
  | true => exact .inl ⟨(s.used hp hu).2.1, rfl⟩
  | false =>
    refine .inr ?_
    obtain ⟨hi, _⟩ := List.getElem?_eq_some_iff.1 hp
    rcases rest_at s.rest hi hp with q | q
    · exfalso
      have hl := s.len
      have hm : st.met[i]? = some true := by
        rw [List.getElem?_eq_getElem (by rw [s.metlen]; omega)] at q ⊢
        simpa using q
      rcases (walkD_met T _ _ _ _ _ _ _ s.walk).2.2 i hm with h | ⟨r, hr, h1, h2⟩
      · rw [ws0_met i (by omega)] at h; cases h
      · rw [hp] at hr; cases hr
        rw [((mayB_iff _).1 h1).2.used] at hu; cases hu
    · exact nothing_no q
end Go.Am
namespace Go.Am

section
variable {H : Hp} {Q : Post} {x : Pl} {n : Nat} {cs : List PC} {T : List Pg}
theorem sound_no {T : List Pg} (h : 0 < heightD T) : T.length = 48 := by obtain ⟨st, s⟩ := SF.of h; exact s.len

theorem diff_Images_spec (hT : Tr H x n cs T) (hQ1 : heightD T = 0 → ∀ H', H <+: H' → Q (.tup [.s (.sl none 0 2), .s (.int .i64 1500)]) H')
    (hQ2 : 0 < heightD T → ∀ a H', H <+: H' → Own H' H.length tImg a (48 * 2) (imCells (imgs T 48)) → Q (.tup [.s (.sl a 48 2), .s (.int .i64 0)]) H') : diff_Images [.agg [.sl x n 5]] H Q := by
  refine ⟨52, ?_⟩
  rw [diff_Images_eq]
  refine sound_Sound_spec hT fun H1 p1 => ?_
  simp only [rG_g, dB_bool]
  refine bite_of (fun e => hQ1 (by simp at e; omega) H1 p1) (fun e => ?_)
  have hs : 0 < heightD T := by simp at e; omega
  have hn : n = 48 := by rw [← hT.lenT]; exact sound_no hs
  subst hn
  have loop : ∀ (F k : Nat) (a : Pl) (H' : Hp), 48 - k < F → k ≤ 48 → H <+: H' → Own H' H.length tImg a (k * 2) (imCells (imgs T k)) → diff_Images.l5 F a k x 48 (nI 48) (k : Int) H' Q := by
    intro F
    induction F with
    | zero => intro k _ _ h; omega
    | succ F ih =>
      intro k a H' hF hk hp ho
      rw [diff_Images.l5_eq]
      by_cases hkn : k < 48
      · obtain ⟨l, o, c, p, rfl, hc, hpp, hpc, g0, g1, g2, g3, g4⟩ := (hT.mono hp).get hkn
        have etN : tN (k : Int) = k := rfl
        rw [bite_t (by simp; omega), chk_true]
        refine chk_of (by simp; omega) ?_
        rw [pS_some, etN, rdPage_of g0 g1 g2 g3 g4]
        have hpx : ptx T k = ptext p := by unfold ptx; rw [hpp]; rfl
        have cont : ∀ (H2 : Hp) (e : Int), H' <+: H2 → (rT (.tup [.s (.str (ptext p)), .s (.int .i64 e)]) fun c17 =>
            uR c17 fun q18 c19 =>
            rS q18 fun v20 =>
            dS v20 fun s21 =>
            uR c19 fun q22 c23 =>
            rS q22 fun v24 =>
            dI .i64 v24 fun i25 =>
            uE c23 (chk true (ap H2 tImg 2 24 a k [(.int .i64 (k : Int)), (.str s21)] 1 fun x26 n27 H28 =>
            diff_Images.l5 F x26 n27 (some (l, o)) 48 (nI 48) (wrapI .i64 ((k : Int) + 1)) H28 Q))) := by
          intro H2 e p2
          simp only [rT_tup, uR_cons, rS_s, dS_str, dI_int, uE_nil]
          rw [chk_true]
          refine ap_z (t := tImg) (by omega) (hp.trans p2) (ho.mono p2) (by rfl) (by unfold Lim; omega) fun a' H3 o3 e3 f3 => ?_
          rw [wrap_succ (by omega)]
          refine ih (k + 1) a' H3 (by omega) (by omega) e3.pre ?_
          rw [imgs_succ, imCells_append, hpx]
          exact o3
        refine page_Put_spec hpc (fun hm H2 p2 => ?_) (fun hm H2 p2 => ?_)
        · have : ptext p = mkS [] := by
            unfold ptext
            cases h : mayB_ p with
            | false => rfl
            | true => exact (hm ((mayB_iff p).1 h)).elim
          have := this ▸ cont H2 600 p2
          exact this
        · have : ptext p = text p := by unfold ptext; rw [(mayB_iff p).2 hm]
          have := this ▸ cont H2 0 p2
          exact this
      · obtain rfl : k = 48 := by omega
        rw [bite_f (by simp)]
        exact hQ2 hs a H' hp ho
  exact loop 51 0 none H1 (by omega) (by omega) p1 (.inl ⟨rfl, rfl, rfl⟩)

theorem diff_Changed_spec {y : Pl} {m : Nat} {ds : List PC} {S : List Pg} (hS : Tr H y m ds S) (hT : Tr H x n cs T) (hQ1 : (heightD S = 0 ∨ heightD T = 0) → ∀ H', H <+: H' → Q (.tup [.s (.sl none 0 2), .s (.int .i64 1500)]) H')
    (hQ2 : 0 < heightD S → 0 < heightD T → ∀ a k H', H <+: H' → Own H' H.length tImg a (k * 2) (imCells (chg S T 48)) → (chg S T 48).length = k → Q (.tup [.s (.sl a k 2), .s (.int .i64 0)]) H') : diff_Changed [.agg [.sl y m 5], .agg [.sl x n 5]] H Q := by
  refine ⟨52, ?_⟩
  rw [diff_Changed_eq]
  refine diff_Images_spec hS (fun h1 H1 p1 => ?_) (fun h1 a H1 p1 o1 => ?_)
  · simp only [rT_tup, uR_cons, rS_s, dL_sl, dI_int, uE_nil]
    refine diff_Images_spec (hT.mono p1) (fun h2 H2 p2 => ?_) (fun h2 b H2 p2 o2 => ?_)
    · simp only [rT_tup, uR_cons, rS_s, dL_sl, dI_int, uE_nil]
      rw [bite_t (by decide)]
      exact hQ1 (.inl h1) _ (p1.trans p2)
    · simp only [rT_tup, uR_cons, rS_s, dL_sl, dI_int, uE_nil]
      rw [bite_t (by decide)]
      exact hQ1 (.inl h1) _ (p1.trans p2)
  · simp only [rT_tup, uR_cons, rS_s, dL_sl, dI_int, uE_nil]
    refine diff_Images_spec (hT.mono p1) (fun h2 H2 p2 => ?_) (fun h2 b H2 p2 o2 => ?_)
    · simp only [rT_tup, uR_cons, rS_s, dL_sl, dI_int, uE_nil]
      rw [bite_f (by decide), bite_t (by decide)]
      exact hQ1 (.inr h2) _ (p1.trans p2)
    · simp only [rT_tup, uR_cons, rS_s, dL_sl, dI_int, uE_nil]
      rw [bite_f (by decide), bite_f (by decide)]
      have ha : Im H2 a 48 (imgs S 48) := (o1.mono p2).im (by simp)
      have hb : Im H2 b 48 (imgs T 48) := o2.im (by simp)
      have p02 := p1.trans p2
      have loop : ∀ (F k j : Nat) (c : Pl) (H' : Hp), 48 - k < F → k ≤ 48 → H2 <+: H' → Own H' H2.length tImg c (j * 2) (imCells (chg S T k)) → (chg S T k).length = j → diff_Changed.l7 F a 48 c j b 48 (nI 48) (k : Int) H' Q := by
        intro F
        induction F with
        | zero => intro k j _ _ h; omega
        | succ F ih =>
          intro k j c H' hF hk hp ho hj
          rw [diff_Changed.l7_eq]
          by_cases hkn : k < 48
          · obtain ⟨l, o, ea, q1, q2⟩ := (ha.mono hp).get? (imgs_get S hkn)
            obtain ⟨l', o', ea', q1', q2'⟩ := (hb.mono hp).get? (imgs_get T hkn)
            subst ea; subst ea'
            have etN : tN (k : Int) = k := rfl
            have hle := chg_le S T k
            rw [bite_t (by simp; omega), chk_true]
            refine chk_of (by simp; omega) ?_
            rw [pS_some, etN, rd_of q1', dI_int, rd_of q2', dS_str, chk_true]
            refine chk_of (by simp; omega) ?_
            rw [pS_some, rd_of q1, dI_int, rd_of q2, dS_str, wrap_succ (by omega)]
            by_cases e : ptx S k = ptx T k
            · rw [bite_f (by simp [e])]
              exact ih (k + 1) j c H' (by omega) (by omega) hp (by rw [chg_same e]; exact ho) (by rw [chg_same e]; exact hj)
            · rw [bite_t (by simp; exact fun q => e q.symm), chk_true]
              refine ap_z (t := tImg) (by omega) hp ho (by rfl) (by unfold Lim; omega) fun a' H3 o3 e3 f3 => ?_
              refine ih (k + 1) (j + 1) a' H3 (by omega) (by omega) e3.pre ?_ (by rw [chg_turn e]; simp [hj])
              rw [chg_turn e, imCells_append]
              exact o3
          · obtain rfl : k = 48 := by omega
            rw [bite_f (by simp)]
            exact hQ2 h1 h2 c j H' (p02.trans hp) (ho.base p02.length_le) hj
      exact loop 51 0 0 none H2 (by omega) (by omega) (List.prefix_refl _) (.inl ⟨rfl, rfl, rfl⟩) rfl

/-! pagers -/
def seqB (k : Int) : Bool := decide (1 ≤ k) && decide (k ≤ 2147483647)
theorem record_Seq_spec {k : Int} (hQ : Q (.g (.bool (seqB k))) H) : record_Seq [.g (.int .i64 k)] H Q := by
  refine ⟨1, ?_⟩
  rw [record_Seq_eq]
  unfold seqB at hQ
  refine bite_of (fun e => ?_) (fun e => ?_)
  · have : 1 ≤ k := by simpa using e
    rw [decide_eq_true this] at hQ
    simpa using hQ
  · have : ¬ 1 ≤ k := by simpa using e
    rw [decide_eq_false this] at hQ
    simpa using hQ
def headB (a b : Int) : Bool := decide (0 ≤ a) && (decide (a ≤ 2147483647) && seqB b)
theorem head_May_spec {a b : Int} (hQ : Q (.g (.bool (headB a b))) H) : head_May [.agg [.int .i64 a, .int .i64 b]] H Q := by
  refine ⟨1, ?_⟩
  rw [head_May_eq]
  unfold headB at hQ
  refine bite_of (fun e => ?_) (fun e => ?_)
  · have h1 : 0 ≤ a := by simpa using e
    rw [decide_eq_true h1, Bool.true_and] at hQ
    refine bite_of (fun e => ?_) (fun e => ?_)
    · have h2 : a ≤ 2147483647 := by simpa using e
      rw [decide_eq_true h2, Bool.true_and] at hQ
      refine record_Seq_spec ?_
      simp only [rG_g, dB_bool]
      exact hQ
    · have h2 : ¬ a ≤ 2147483647 := by simpa using e
      rw [decide_eq_false h2, Bool.false_and] at hQ
      exact hQ
  · have h1 : ¬ 0 ≤ a := by simpa using e
    rw [decide_eq_false h1, Bool.false_and] at hQ
    exact hQ
theorem index_string_loop0 {E : Nat → Sm} {p : ByteArray → Bool} {g : Nat} {H : Hp} (hE : ∀ (s : ByteArray) (Q : Post), Q (.g (.bool (p s))) H → E g [.g (.str s)] H Q)
    {Q : Post} {a : Pl} {n : Nat} {xs : List ByteArray} (h : Ss H a n xs) (hQ : ∀ i : Int, (0 ≤ i ↔ ∃ s ∈ xs, p s = true) → Q (.g (.int .i64 i)) H) :
    ∀ m k : Nat, xs.length - k = m → k ≤ xs.length → (∀ i, (hi : i < xs.length) → i < k → p xs[i] = false) → ∃ f, slices_IndexFunc__string_string.l2 E f a n g [] (nI n) (k : Int) H Q := by
  intro m
  have hn := h.len
  have hlim := h.lim
  induction m with
  | zero =>
    intro k hm hle hk
    refine ⟨1, ?_⟩
    rw [slices_IndexFunc__string_string.l2_eq, show ltI (k : Int) (nI n) = false by simp; omega, bite_false]
    refine hQ _ ⟨fun q => by omega, fun ⟨s, hs, hp⟩ => ?_⟩
    obtain ⟨i, hi, rfl⟩ := List.getElem_of_mem hs
    rw [hk i hi (by omega)] at hp; cases hp
  | succ m ih =>
    intro k hm hle hk
    have hkn : k < xs.length := by omega
    have hlt : ltI (k : Int) (nI n) = true := by simp; omega
    cases hs : p xs[k] with
    | false =>
      obtain ⟨f, hf⟩ := ih (k + 1) (by omega) (by omega) (fun i hi hik => by
        by_cases e : i = k
        · subst e; exact hs
        · exact hk i hi (by omega))
      refine ⟨f + 1, ?_⟩
      rw [slices_IndexFunc__string_string.l2_eq, bite_t hlt, chk_true, h.rd k rfl hkn]
      refine hE _ _ ?_
      rw [rG_g, dB_bool, hs, bite_false, wrap_succ (by omega)]
      exact hf
    | true =>
      refine ⟨1, ?_⟩
      rw [slices_IndexFunc__string_string.l2_eq, bite_t hlt, chk_true, h.rd k rfl hkn]
      refine hE _ _ ?_
      rw [rG_g, dB_bool, hs, bite_true]
      exact hQ _ ⟨fun _ => ⟨_, List.getElem_mem hkn, hs⟩, fun _ => by omega⟩
def longB (L : List ByteArray) : Bool := L.any fun s => decide (96 < s.size)
def planB (z0 z1 z2 z3 : Int) (L : List ByteArray) : Bool := headB z0 z1 && (seqB z2 && (decide (0 ≤ z3) && (decide (z3 ≤ 200) && (decide (L.length = 48) && !longB L))))
theorem plan_May_1_spec {s : ByteArray} (hQ : Q (.g (.bool (decide (96 < s.size)))) H) : plan_May_1 [.g (.str s)] H Q := by
  refine ⟨1, ?_⟩
  rw [plan_May_1_eq]
  have : ltI 96 (sz s) = decide (96 < s.size) := by rw [Bool.eq_iff_iff]; simp; omega
  rw [this]; exact hQ
theorem plan_May_spec {z0 z1 z2 z3 : Int} {a : Pl} {n : Nat} {L : List ByteArray} (h : Ss H a n L) (hQ : Q (.g (.bool (planB z0 z1 z2 z3 L))) H) : plan_May [.agg [.int .i64 z0, .int .i64 z1, .int .i64 z2, .int .i64 z3, .sl a n 1]] H Q := by
  have hl := h.len
  refine ⟨1, ?_⟩
  rw [plan_May_eq]
  unfold planB at hQ
  refine head_May_spec ?_
  simp only [rG_g, dB_bool]
  cases e1 : headB z0 z1 with
  | false => rw [bite_false]; rw [e1, Bool.false_and] at hQ; exact hQ
  | true =>
    rw [bite_true]
    rw [e1, Bool.true_and] at hQ
    refine record_Seq_spec ?_
    simp only [rG_g, dB_bool]
    cases e2 : seqB z2 with
    | false => rw [bite_false]; rw [e2, Bool.false_and] at hQ; exact hQ
    | true =>
      rw [bite_true]
      rw [e2, Bool.true_and] at hQ
      refine bite_of (fun e => ?_) (fun e => by rw [decide_eq_false (by simpa using e), Bool.false_and] at hQ; exact hQ)
      rw [decide_eq_true (by simpa using e), Bool.true_and] at hQ
      refine bite_of (fun e => ?_) (fun e => by rw [decide_eq_false (by simpa using e), Bool.false_and] at hQ; exact hQ)
      rw [decide_eq_true (by simpa using e), Bool.true_and] at hQ
      refine bite_of (fun e => ?_) (fun e => by rw [decide_eq_false (by simp at e; omega), Bool.false_and] at hQ; exact hQ)
      rw [decide_eq_true (by simp at e; omega), Bool.true_and] at hQ
      refine ⟨1, ?_⟩
      rw [slices_ContainsFunc__string_string_eq]
      obtain ⟨k, hk⟩ := index_string_loop0 (E := dynOf [(fLong, plan_May_1)]) (p := fun s => decide (96 < s.size)) (g := fLong) (H := H)
        (fun s Q hQ => by rw [dynOf_hit]; exact plan_May_1_spec hQ) (Q := fun r H1 => rG r fun v2 => dI .i64 v2 fun i3 => rG (.g (.bool (leI 0 i3))) fun v2 => dB v2 fun b3 => Q (.g (.bool (!b3))) H1) h
        (fun i hi => by
          simp only [rG_g, dI_int, dB_bool]
          have : leI 0 i = longB L := by
            unfold longB
            rw [Bool.eq_iff_iff, List.any_eq_true]
            simpa using hi
          rw [this]; exact hQ) _ 0 rfl (Nat.zero_le _) (fun i hi h => by omega)
      exact ⟨k + 1, by rw [slices_IndexFunc__string_string_eq]; exact hk⟩
theorem ref1_Blank_spec (hQ : ∀ H', H' = H ++ [.row true tS ((List.replicate 48 (mkS [])).map GV.str)] → Q (.agg [.int .i64 0, .int .i64 1, .int .i64 1, .int .i64 0, .sl (some (H.length, 0)) 48 1]) H') : ref1_Blank [] H Q := by
  refine ⟨1, ?_⟩
  rw [ref1_Blank_eq]
  exact hQ _ rfl
end
end Go.Am
namespace Go.Am

/-- the page of a text -/
def pgOf (s : ByteArray) : Option Pg := match decide (s = mkS []) with
  | true => some noPg
  | false => match mayB_ (parse (bs s)) && decide (text (parse (bs s)) = s) with
    | true => some (parse (bs s))
    | false => none
def pgsOf : List ByteArray → Option (List Pg)
  | [] => some []
  | s :: r => match pgOf s with
    | none => none
    | some p => match pgsOf r with
      | none => none
      | some P => some (p :: P)
def emptyB (L : List ByteArray) : Bool := L.all fun s => decide (s = mkS [])
def endT (b : Bool) (T : List Pg) : Option (List Pg) := match b with
  | true => some newT
  | false => match decide (0 < heightD T) with
    | true => some T
    | false => none
def goT (b : Bool) (T0 : List Pg) (L : List ByteArray) : Option (List Pg) := match pgsOf L with
  | none => none
  | some P => endT (b && emptyB L) (T0 ++ P)
def treeR (z0 z1 z2 z3 : Int) (L : List ByteArray) : Option (List Pg) := match planB z0 z1 z2 z3 L with
  | false => none
  | true => goT true [] L
theorem pgOf_empty : pgOf (mkS []) = some noPg := by unfold pgOf; rw [decide_eq_true rfl]
theorem pgOf_text {p : Pg} (h : MayP p) : pgOf (text p) = some p := by
  have e : parse (bs (text p)) = p := parse_text h
  unfold pgOf
  rw [decide_eq_false (text_ne p), e, (mayB_iff p).2 h, decide_eq_true rfl]
  rfl
theorem pgOf_none {s : ByteArray} (h : s ≠ mkS []) (hn : ∀ p, MayP p → text p ≠ s) : pgOf s = none := by
  unfold pgOf
  rw [decide_eq_false h]
  cases e : mayB_ (parse (bs s)) && decide (text (parse (bs s)) = s) with
  | false => rfl
  | true =>
    rw [Bool.and_eq_true, decide_eq_true_eq] at e
    exact (hn _ ((mayB_iff _).1 e.1) e.2).elim
theorem goT_cons {b : Bool} {T0 : List Pg} {s : ByteArray} {p : Pg} {L : List ByteArray} (h : pgOf s = some p) : goT b T0 (s :: L) = goT (b && decide (s = mkS [])) (T0 ++ [p]) L := by
  unfold goT
  simp only [pgsOf, h]
  cases e : pgsOf L with
  | none => rfl
  | some P => simp [emptyB, Bool.and_assoc]
theorem goT_bad {b : Bool} {T0 : List Pg} {s : ByteArray} {L : List ByteArray} (h : pgOf s = none) : goT b T0 (s :: L) = none := by
  unfold goT; simp only [pgsOf, h]

theorem PgOwn.pc {H : Hp} {b : Nat} {u l : Bool} {a1 : Pl} {n1 : Nat} {a2 : Pl} {n2 : Nat} {a3 : Pl} {n3 : Nat} {p : Pg} (h : PgOwn H b u l a1 n1 a2 n2 a3 n3 p) : (⟨u, l, a1, n1, a2, n2, a3, n3⟩ : PC).own H b p :=
  ⟨h.used, h.leaf, h.keys, h.vals, h.kids, fun l o o' e1 e2 => h.d12 l (h.keys.zero e1) (h.vals.zero e2), fun l o o' e1 e2 => h.d13 l (h.keys.zero e1) (h.kids.zero e2), fun l o o' e1 e2 => h.d23 l (h.vals.zero e1) (h.kids.zero e2)⟩
theorem Own.ge {H : Hp} {b : Nat} {t : TypeId} {a : Pl} {n : Nat} {cs : List GV} (h : Own H b t a n cs) {l o : Nat} (e : a = some (l, o)) : b ≤ l := by
  rcases h with ⟨q, _⟩ | ⟨m, q, hb, _⟩
  · rw [q] at e; cases e
  · rw [q] at e; cases e; exact hb
theorem PgOwn.fresh {H : Hp} {b : Nat} {u l : Bool} {a1 : Pl} {n1 : Nat} {a2 : Pl} {n2 : Nat} {a3 : Pl} {n3 : Nat} {p : Pg} (h : PgOwn H b u l a1 n1 a2 n2 a3 n3 p) : ∀ m, (⟨u, l, a1, n1, a2, n2, a3, n3⟩ : PC).on m → b ≤ m := by
  rintro m ⟨o, e | e | e⟩
  · exact h.keys.ge e
  · exact h.vals.ge e
  · exact h.kids.ge e

section
variable {H : Hp} {Q : Post} {x : Pl} {n : Nat} {L : List ByteArray} {z0 z1 z2 z3 : Int}
theorem new_ct {H0 H : Hp} {x0 : Nat} (h0 : H0 <+: H) (h : OT H H0.length tPg (some (x0, 0)) 48 newC newT) : CT H0 H tPg (some (x0, 0)) 48 newC newT := by
  refine ⟨h0, h, fun i h1 h2 => ?_, fun i j hi hj _ l hl => (newC_off _ (List.getElem_mem hi) l hl).elim⟩
  rw [newC_get i h1, newT_get i h2]
  by_cases e : i = 0
  · rw [if_pos e, if_pos e]
    exact ⟨rfl, rfl, .inl ⟨rfl, rfl, rfl⟩, .inl ⟨rfl, rfl, rfl⟩, .inl ⟨rfl, rfl, rfl⟩, fun _ _ _ q => (by cases q), fun _ _ _ q => (by cases q), fun _ _ _ q => (by cases q)⟩
  · rw [if_neg e, if_neg e]
    exact ⟨rfl, rfl, .inl ⟨rfl, rfl, rfl⟩, .inl ⟨rfl, rfl, rfl⟩, .inl ⟨rfl, rfl, rfl⟩, fun _ _ _ q => (by cases q), fun _ _ _ q => (by cases q), fun _ _ _ q => (by cases q)⟩

theorem diff_Tree_spec (h : Ss H x n L) (hQ1 : treeR z0 z1 z2 z3 L = none → ∀ H', H <+: H' → Q (.tup [.a [.sl none 0 5], .s (.int .i64 1500)]) H')
    (hQ2 : ∀ T, treeR z0 z1 z2 z3 L = some T → ∀ a ds H', CT H H' tPg a 48 ds T → Q (.tup [.a [.sl a 48 5], .s (.int .i64 0)]) H') :
    diff_Tree [.agg [.int .i64 z0, .int .i64 z1, .int .i64 z2, .int .i64 z3, .sl x n 1]] H Q := by
  have hl := h.len
  refine ⟨n + n + 4, ?_⟩
  rw [diff_Tree_eq]
  refine plan_May_spec h ?_
  simp only [rG_g, dB_bool]
  unfold treeR at hQ1 hQ2
  cases ep : planB z0 z1 z2 z3 L with
  | false =>
    rw [bite_t (b := !false) rfl]
    rw [ep] at hQ1
    exact hQ1 rfl H (List.prefix_refl _)
  | true =>
    rw [bite_f (b := !true) rfl]
    rw [ep] at hQ1 hQ2
    simp only at hQ1 hQ2
    have hn : n = 48 := by
      unfold planB at ep
      simp only [Bool.and_eq_true, decide_eq_true_eq] at ep
      omega
    subst hn
    have loop : ∀ (F k : Nat) (b : Bool) (T0 : List Pg) (ds : List PC) (a : Pl) (H' : Hp), (48 - k) + (48 - k) < F → k ≤ 48 → CT H H' tPg a k ds T0 → goT b T0 (L.drop k) = goT true [] L →
        diff_Tree.l5 F none 0 a k b x 48 (nI 48) (k : Int) H' Q := by
      intro F
      induction F using Nat.strongRecOn with
      | _ F ih =>
      intro k b T0 ds a H' hF hk g hg
      obtain ⟨F, rfl⟩ : ∃ G, F = G + 1 := ⟨F - 1, by omega⟩
      rw [diff_Tree.l5_eq]
      have hp := g.pre
      by_cases hkn : k < 48
      · have hkL : k < L.length := by omega
        rw [bite_t (by simp; omega), chk_true, (h.mono hp).rd k rfl hkL]
        rw [List.drop_eq_getElem_cons hkL] at hg
        -- behind the text
        have next : ∀ (b' : Bool) (d : PC) (p : Pg) (H2 : Hp), H' <+: H2 → PgOwn H2 H'.length d.u d.l d.a1 d.n1 d.a2 d.n2 d.a3 d.n3 p → goT b' (T0 ++ [p]) (L.drop (k + 1)) = goT true [] L →
            diff_Tree.l11 F none 0 a k b' d.u d.l d.a1 d.n1 d.a2 d.n2 d.a3 d.n3 0 x 48 (nI 48) (k : Int) H2 Q := by
          intro b' d p H2 p2 o2 g2
          obtain ⟨F, rfl⟩ : ∃ G, F = G + 1 := ⟨F - 1, by omega⟩
          rw [diff_Tree.l11_eq, bite_f (by decide), chk_true]
          refine g.add (d := d) p2 o2.at o2.pc o2.fresh (by unfold Lim; omega) fun a' H3 g3 => ?_
          rw [wrap_succ (by omega)]
          exact ih F (by omega) (k + 1) b' _ _ a' H3 (by omega) (by omega) g3 g2
        by_cases es : L[k] = mkS []
        · rw [bite_f (by simp [es])]
          refine next b ⟨false, false, none, 0, none, 0, none, 0⟩ noPg H' (List.prefix_refl _) (noPg_own _ _) ?_
          rw [← hg, goT_cons (p := noPg) (by rw [es]; exact pgOf_empty), decide_eq_true es, Bool.and_true]
        · rw [bite_t (by simpa using es)]
          refine page_Get_spec fun u l a1 n1 a2 n2 a3 n3 p e H2 p2 o2 hc => ?_
          simp only [rT_tup, uR_cons, rC_a, uC_cons, dB_bool, dL_sl, uN_nil, rS_s, dI_int, uE_nil]
          rcases hc with ⟨rfl, hm, ht⟩ | ⟨rfl, rfl, hno⟩
          · refine next false ⟨u, l, a1, n1, a2, n2, a3, n3⟩ p H2 p2 o2 ?_
            rw [← hg, goT_cons (p := p) (by rw [← ht]; exact pgOf_text hm), decide_eq_false es, Bool.and_false]
          · obtain ⟨F, rfl⟩ : ∃ G, F = G + 1 := ⟨F - 1, by omega⟩
            rw [diff_Tree.l11_eq, bite_t (by decide)]
            refine hQ1 ?_ H2 (hp.trans p2)
            rw [← hg]
            exact goT_bad (pgOf_none es hno)
      · obtain rfl : k = 48 := by omega
        rw [bite_f (by simp)]
        have e0 : goT b T0 (L.drop 48) = endT b T0 := by
          rw [List.drop_of_length_le (by omega)]
          simp [goT, pgsOf, emptyB]
        rw [e0] at hg
        cases b with
        | true =>
          rw [bite_t rfl]
          refine sound_New_spec fun H2 p2 o2 => ?_
          simp only [rA_agg, uC_cons, dL_sl, uN_nil]
          have ct := new_ct (hp.trans p2) (o2.base hp.length_le)
          exact hQ2 newT (by rw [← hg]; rfl) _ _ H2 ct
        | false =>
          rw [bite_f rfl]
          refine sound_Sound_spec g.ot.tr fun H2 p2 => ?_
          simp only [rG_g, dB_bool]
          simp only [endT] at hg
          refine bite_of (fun e => hQ1 ?_ H2 (hp.trans p2)) (fun e => hQ2 T0 ?_ a ds H2 (g.mono p2))
          · rw [← hg, decide_eq_false (by simpa using e)]
          · rw [← hg, decide_eq_true (by simpa using e)]
    exact loop (48 + 48 + 3) 0 true [] [] none H (by omega) (by omega) (CT.nil H tPg) rfl
end
end Go.Am
namespace Go.Am

section
variable {T : List Pg}
def txs (T : List Pg) : List ByteArray := (List.range 48).map (ptx T)
@[simp] theorem txs_length : (txs T).length = 48 := by simp [txs]
theorem sound_pages (h : 0 < heightD T) : ∀ p ∈ T, mayB_ p = true ∨ p = noPg := fun p hp => by
  obtain ⟨st, s⟩ := SF.of h
  obtain ⟨i, hi, e⟩ := List.getElem_of_mem hp
  rcases s.page (List.getElem?_eq_some_iff.2 ⟨hi, e⟩) with q | q
  · exact .inl q.1
  · exact .inr q
theorem txs_plan {L : List ByteArray} (hl : L.length = 48) (hs : ∀ s ∈ L, s.size ≤ 96) : planB 0 1 1 0 L = true := by
  have : longB L = false := by
    unfold longB
    rw [List.any_eq_false]
    intro s h
    have := hs s h
    simp; omega
  unfold planB
  rw [this, decide_eq_true hl]
  decide
theorem treeR_blank : treeR 0 1 1 0 (List.replicate 48 (mkS [])) = some newT := by
  unfold treeR
  rw [txs_plan (by simp) (fun s hs => by rw [List.eq_of_mem_replicate hs]; decide)]
  have e : ∀ n, pgsOf (List.replicate n (mkS [])) = some (List.replicate n noPg) := by
    intro n
    induction n with
    | zero => rfl
    | succ n ih => simp only [List.replicate_succ, pgsOf, pgOf_empty, ih]
  have e2 : emptyB (List.replicate 48 (mkS [])) = true := by unfold emptyB; rw [List.all_eq_true]; intro s hs; rw [List.eq_of_mem_replicate hs]; simp
  simp only [goT]
  rw [e, e2]
  rfl
theorem treeR_zero : treeR 0 0 0 0 [] = none := rfl
end

def awT : List Pg := buildD [(mkS [97], mkS [49])]
theorem h_newT : heightD newT = 1 := by decide +kernel
theorem h_aw : heightD awT = 1 := by decide +kernel
theorem chg_aw : chg newT awT 48 = [(0, mkS [1, 1, 1, 97, 1, 49])] := by decide +kernel
theorem img_new0 : ptx newT 0 = mkS [1, 0] := by decide +kernel
theorem img_new1 : ptx newT 1 = mkS [] := by decide +kernel
theorem ent_new : entD newT = [] := by decide +kernel

section
variable {H : Hp} {Q : Post}
theorem law0_SameImages_spec {a1 a2 : Pl} {n1 n2 : Nat} {xs ys : IM} (h1 : Im H a1 n1 xs) (h2 : Im H a2 n2 ys) (hn : n1 ≤ 100000) (hQ : ∀ b, (b = true ↔ xs = ys) → Q (.g (.bool b)) H) : law0_SameImages [.g (.sl a1 n1 2), .g (.sl a2 n2 2)] H Q := by
  have l1 := h1.len
  have l2 := h2.len
  refine ⟨n1 + 2, ?_⟩
  rw [law0_SameImages_eq]
  refine bite_of (fun e => hQ false ⟨fun q => (by cases q), fun q => ?_⟩) (fun e => ?_)
  · subst q
    simp at e; omega
  have hnn : n1 = n2 := by simp at e; omega
  have loop : ∀ (F i : Nat), n1 - i < F → i ≤ n1 → (∀ j (h : j < xs.length) (h' : j < ys.length), j < i → xs[j] = ys[j]) → law0_SameImages.l4 F a1 n1 a2 n2 (i : Int) H Q := by
    intro F
    induction F with
    | zero => intro i h; omega
    | succ F ih =>
      intro i hF hi he
      rw [law0_SameImages.l4_eq]
      by_cases hik : i < n1
      · obtain ⟨l, o, ea, q1, q2⟩ := h1.get (i := i) (by omega)
        obtain ⟨l', o', ea', q1', q2'⟩ := h2.get (i := i) (by omega)
        subst ea; subst ea'
        have etN : tN (i : Int) = i := rfl
        rw [bite_t (by simp; omega), chk_true]
        refine chk_of (by simp; omega) ?_
        rw [pS_some, etN, rd_of q1, dI_int, rd_of q2, dS_str, chk_true]
        refine chk_of (by simp; omega) ?_
        rw [pS_some, rd_of q1', dI_int, rd_of q2', dS_str]
        refine bite_of (fun e => hQ false ⟨fun q => (by cases q), fun q => ?_⟩) (fun e => ?_)
        · subst q; simp at e
        · rw [wrap_succ (by omega)]
          refine ih (i + 1) (by omega) (by omega) fun j h h' hj => ?_
          by_cases ej : j = i
          · subst ej
            simp at e
            exact Prod.ext e.1 e.2
          · exact he j h h' (by omega)
      · rw [bite_f (by simp; omega)]
        exact hQ true ⟨fun _ => List.ext_getElem (by omega) fun j h h' => he j h h' (by omega), fun _ => rfl⟩
  exact loop (n1 + 1) 0 (by omega) (by omega) fun j _ _ h => by omega

set_option maxRecDepth 100000 in
theorem law15_awake_spec (hQ : ∀ H', H <+: H' → Q (.g (.bool true)) H') : law15_awake [] H Q := by
  refine ⟨1, ?_⟩
  rw [law15_awake_eq]
  simp only [pu_def, ln_def]
  refine ref9_New_spec fun H1 p1 oT => ?_
  simp only [rA_agg, uC_cons, dL_sl, uN_nil]
  have hins : insE newT (mkS [97]) (mkS [49]) = 0 := by decide +kernel
  refine ref9_Insert_spec oT.tr (by omega) (fun H2 hne p2 => (hne hins).elim) (fun _ _ x cs A H2 p2 hA hI => ?_)
  have eA : A = awT := by
    have := hI.anew (by rw [ent_new]; rfl)
    rw [ent_new] at this
    exact this
  subst eA
  simp only [rT_tup, uR_cons, rC_a, uC_cons, dL_sl, uN_nil, rS_s, dI_int, uE_nil]
  have hN : ∀ {H'}, H1 <+: H' → Tr H' _ _ _ newT := fun p => oT.tr.mono p
  have n1 : 0 < heightD newT := by rw [h_newT]; omega
  have n2 : 0 < heightD awT := by rw [h_aw]; omega
  refine diff_Images_spec (hN p2) (fun e => by omega) (fun _ a H3 p3 o3 => ?_)
  simp only [rT_tup, uR_cons, rS_s, dL_sl, dI_int, uE_nil]
  refine diff_Changed_spec (hN (p2.trans p3)) (hA.mono p3) (fun e => by omega) (fun _ _ b k H4 p4 o4 l4 => ?_)
  simp only [rT_tup, uR_cons, rS_s, dL_sl, dI_int, uE_nil]
  refine ref1_Blank_spec fun H5 e5 => ?_
  simp only [rA_agg, uC_cons, dL_sl, dI_int, uN_nil]
  have p5 : H4 <+: H5 := e5 ▸ List.prefix_append _ _
  have hB : Ss H5 (some (H4.length, 0)) 48 (List.replicate 48 (mkS [])) := by
    subst e5
    exact ⟨by simp [cells?], by simp, by omega⟩
  refine diff_Tree_spec hB (fun e => by rw [treeR_blank] at e; cases e) (fun T eT c ds H6 g => ?_)
  rw [treeR_blank] at eT
  obtain rfl := Option.some.inj eT
  simp only [rT_tup, uR_cons, rC_a, uC_cons, dL_sl, uN_nil, rS_s, dI_int, uE_nil]
  have p6 := g.pre
  refine diff_Images_spec (tr_nil H6) (fun _ H7 p7 => ?_) (fun e => absurd e (by decide +kernel))
  simp only [rT_tup, uR_cons, rS_s, dL_sl, dI_int, uE_nil]
  refine diff_Tree_spec (L := []) (⟨rfl, rfl, by omega⟩) (fun _ H8 p8 => ?_) (fun T e => by rw [treeR_zero] at e; cases e)
  simp only [rT_tup, uR_cons, rC_a, uC_cons, dL_sl, uN_nil, rS_s, dI_int, uE_nil]
  have p38 : H3 <+: H8 := p4.trans (p5.trans (p6.trans (p7.trans p8)))
  have p48 : H4 <+: H8 := p5.trans (p6.trans (p7.trans p8))
  have im : Im H8 a 48 (imgs newT 48) := (o3.mono p38).im (by simp)
  obtain ⟨l, o, ea, q1, q2⟩ := im.get? (imgs_get newT (i := 0) (by omega))
  obtain ⟨l', o', ea', q1', q2'⟩ := im.get? (imgs_get newT (i := 1) (by omega))
  rw [ea] at ea'
  obtain ⟨rfl, rfl⟩ : l = l' ∧ o = o' := by cases ea'; exact ⟨rfl, rfl⟩
  subst ea
  rw [bite_f (by decide), chk_true]
  refine chk_of (by decide) ?_
  have et0 : tN 0 = 0 := rfl
  have et1 : tN 1 = 1 := rfl
  rw [pS_some, et0, rd_of q2, dS_str, img_new0, bite_t (by simp), chk_true]
  refine chk_of (by decide) ?_
  rw [pS_some, et1, rd_of q2', dS_str, img_new1, bite_t (by simp)]
  refine law0_Num_spec ?_
  simp only [rG_g, dI_int]
  rw [bite_t (by decide)]
  rw [chg_aw] at o4 l4
  have p9 : H8 <+: H8 ++ [.row false 0 [(.int .i64 0), (.str (mkS [1, 1, 1, 97, 1, 49]))]] := List.prefix_append _ _
  refine law0_SameImages_spec ((o4.mono (p48.trans p9)).im l4) (a2 := some (H8.length, 0)) (n2 := 1) (ys := [(0, mkS [1, 1, 1, 97, 1, 49])]) ⟨by simp [cells?, imCells], rfl⟩ (by simp at l4; omega) fun b hb => ?_
  simp only [rG_g, dB_bool]
  rw [bite_t (hb.2 rfl)]
  refine law0_Num_spec ?_
  simp only [rG_g, dI_int]
  rw [bite_t (by decide)]
  have p69 : H6 <+: H8 ++ [.row false 0 [(.int .i64 0), (.str (mkS [1, 1, 1, 97, 1, 49]))]] := p7.trans (p8.trans p9)
  have p19 := p2.trans (p3.trans (p38.trans p9))
  refine law0_SameTree_spec (g.ot.tr.mono p69) (hN p19) (by omega) fun b hb => ?_
  simp only [rG_g, dB_bool]
  rw [bite_t (hb.2 rfl)]
  refine law0_Num_spec ?_
  simp only [rG_g, dI_int]
  rw [bite_t (by decide)]
  refine law0_Num_spec ?_
  simp only [rG_g, dI_int]
  rw [bite_t (by decide)]
  refine law0_Num_spec ?_
  simp only [rG_g, dI_int]
  exact hQ _ (p1.trans p19)
end
end Go.Am
namespace Go.Am

section
variable {H : Hp} {Q : Post}
end
end Go.Am
namespace Go.Am

/-! writing over -/
abbrev SRow (H : Hp) (l : Nat) (xs : List ByteArray) : Prop := H[l]? = some (.row true tS (xs.map GV.str))
abbrev IRow (H : Hp) (l : Nat) (xs : List Int) : Prop := H[l]? = some (.row true tI (xs.map (GV.int .i64)))
structure Wo (b d : Nat) (H H' : Hp) : Prop where
  len : H'.length = H.length
  low : ∀ l, l < b → H'[l]? = H[l]?
  tx : ∀ l xs M, SRow H l xs → (∀ x ∈ xs, x.size ≤ M) → ∃ ys, SRow H' l ys ∧ ys.length = xs.length ∧ ∀ x ∈ ys, x.size ≤ M + d
  nu : ∀ l xs, IRow H l xs → ∃ ys, IRow H' l ys ∧ ys.length = xs.length
  pg : ∀ (l : Nat) (cs : List GV), H[l]? = some (Obj.row true tPg cs) → H'[l]? = some (Obj.row true tPg cs)
theorem Wo.refl (b d : Nat) (H : Hp) : Wo b d H H := ⟨rfl, fun _ _ => rfl, fun l xs M h hm => ⟨xs, h, rfl, fun x hx => by have := hm x hx; omega⟩, fun l xs h => ⟨xs, h, rfl⟩, fun _ _ h => h⟩
theorem Wo.trans {b d d' : Nat} {H H1 H2 : Hp} (h : Wo b d H H1) (h' : Wo b d' H1 H2) : Wo b (d + d') H H2 :=
  ⟨h'.len.trans h.len, fun l hl => (h'.low l hl).trans (h.low l hl), fun l xs M hr hm => by
    obtain ⟨ys, a1, a2, a3⟩ := h.tx l xs M hr hm
    obtain ⟨zs, b1, b2, b3⟩ := h'.tx l ys _ a1 a3
    exact ⟨zs, b1, by omega, fun x hx => by have := b3 x hx; omega⟩, fun l xs hr => by
    obtain ⟨ys, a1, a2⟩ := h.nu l xs hr
    obtain ⟨zs, b1, b2⟩ := h'.nu l ys a1
    exact ⟨zs, b1, by omega⟩, fun l cs hr => h'.pg l cs (h.pg l cs hr)⟩
theorem row_t {H : Hp} {l : Nat} {t t' : TypeId} {cs cs' : List GV} (h : H[l]? = some (.row true t cs)) (h' : H[l]? = some (.row true t' cs')) : t = t' ∧ cs = cs' := by
  rw [h] at h'; cases h'; exact ⟨rfl, rfl⟩
theorem str_inj {xs ys : List ByteArray} (h : xs.map GV.str = ys.map GV.str) : xs = ys := by
  have := congrArg (List.map fun | GV.str s => s | _ => mkS []) h
  simpa [List.map_map, Function.comp_def] using this
theorem int_inj {xs ys : List Int} (h : xs.map (GV.int .i64) = ys.map (GV.int .i64)) : xs = ys := by
  have := congrArg (List.map fun | GV.int _ s => s | _ => 0) h
  simpa [List.map_map, Function.comp_def] using this
theorem Wo.str {b : Nat} {H : Hp} {l j : Nat} {xs : List ByteArray} {s : ByteArray} (hb : b ≤ l) (h : SRow H l xs) (hs : ∀ M, (∀ x ∈ xs, x.size ≤ M) → s.size ≤ M + 1) : Wo b 1 H (H.set l (.row true tS ((xs.set j s).map GV.str))) := by
  have hl := (List.getElem?_eq_some_iff.1 h).1
  refine ⟨by simp, fun m hm => by rw [List.getElem?_set_ne]; omega, fun m ys M hr hm => ?_, fun m ys hr => ?_, fun m cs hr => ?_⟩
  · by_cases e : l = m
    · subst e
      obtain ⟨_, q⟩ := row_t h hr
      have q := str_inj q
      subst q
      refine ⟨_, List.getElem?_set_self hl, by simp, fun x hx => ?_⟩
      rcases List.mem_or_eq_of_mem_set hx with w | w
      · have := hm x w; omega
      · rw [w]; exact hs M hm
    · exact ⟨ys, by unfold SRow; rw [List.getElem?_set_ne e]; exact hr, rfl, fun x hx => by have := hm x hx; omega⟩
  · by_cases e : l = m
    · subst e
      have := (row_t h hr).1
      exact absurd this (by decide)
    · exact ⟨ys, by unfold IRow; rw [List.getElem?_set_ne e]; exact hr, rfl⟩
  · by_cases e : l = m
    · subst e
      have := (row_t h hr).1
      exact absurd this (by decide)
    · rw [List.getElem?_set_ne e]; exact hr
theorem Wo.int {b : Nat} {H : Hp} {l j : Nat} {xs : List Int} {s : Int} (hb : b ≤ l) (h : IRow H l xs) : Wo b 0 H (H.set l (.row true tI ((xs.set j s).map (GV.int .i64)))) := by
  have hl := (List.getElem?_eq_some_iff.1 h).1
  refine ⟨by simp, fun m hm => by rw [List.getElem?_set_ne]; omega, fun m ys M hr hm => ?_, fun m ys hr => ?_, fun m cs hr => ?_⟩
  · by_cases e : l = m
    · subst e
      have := (row_t h hr).1
      exact absurd this (by decide)
    · exact ⟨ys, by unfold SRow; rw [List.getElem?_set_ne e]; exact hr, rfl, hm⟩
  · by_cases e : l = m
    · subst e
      obtain ⟨_, q⟩ := row_t h hr
      have q := int_inj q
      subst q
      exact ⟨_, List.getElem?_set_self hl, by simp⟩
    · exact ⟨ys, by unfold IRow; rw [List.getElem?_set_ne e]; exact hr, rfl⟩
  · by_cases e : l = m
    · subst e
      have := (row_t h hr).1
      exact absurd this (by decide)
    · rw [List.getElem?_set_ne e]; exact hr

theorem catS_of {a b : ByteArray} {K : ByteArray → Prop} (h : a.size + b.size ≤ 9223372036854775807) (hK : K (a ++ b)) : catS a b K := ⟨h, hK⟩
/-- a slice that may be written over -/
def TxR (H : Hp) (b M : Nat) (a : Pl) (n : Nat) : Prop := n = 0 ∨ ∃ l o xs, a = some (l, o) ∧ b ≤ l ∧ SRow H l xs ∧ o + n ≤ xs.length ∧ ∀ x ∈ xs, x.size ≤ M
def NuR (H : Hp) (b : Nat) (a : Pl) (n : Nat) : Prop := n = 0 ∨ ∃ l o xs, a = some (l, o) ∧ b ≤ l ∧ IRow H l xs ∧ o + n ≤ xs.length
theorem TxR.on {H H' : Hp} {b d M : Nat} {a : Pl} {n : Nat} (h : TxR H b M a n) (w : Wo b d H H') : TxR H' b (M + d) a n := by
  rcases h with h | ⟨l, o, xs, e, hb, hr, hl, hm⟩
  · exact .inl h
  · obtain ⟨ys, q1, q2, q3⟩ := w.tx l xs M hr hm
    exact .inr ⟨l, o, ys, e, hb, q1, by omega, q3⟩
theorem NuR.on {H H' : Hp} {b d : Nat} {a : Pl} {n : Nat} (h : NuR H b a n) (w : Wo b d H H') : NuR H' b a n := by
  rcases h with h | ⟨l, o, xs, e, hb, hr, hl⟩
  · exact .inl h
  · obtain ⟨ys, q1, q2⟩ := w.nu l xs hr
    exact .inr ⟨l, o, ys, e, hb, q1, by omega⟩
theorem TxR.big {H : Hp} {b M M' : Nat} {a : Pl} {n : Nat} (h : TxR H b M a n) (hM : M ≤ M') : TxR H b M' a n := by
  rcases h with h | ⟨l, o, xs, e, hb, hr, hl, hm⟩
  · exact .inl h
  · exact .inr ⟨l, o, xs, e, hb, hr, hl, fun x hx => Nat.le_trans (hm x hx) hM⟩

section
variable {H : Hp} {Q : Post} {b M : Nat} {a : Pl} {n : Nat}
theorem law0_SpoilTexts_spec (h : TxR H b M a n) (hn : n ≤ 100000) (hM : M ≤ 1000000000) (hQ : ∀ H', Wo b n H H' → Q (.tup []) H') : law0_SpoilTexts [.g (.sl a n 1)] H Q := by
  have loop : ∀ (F k : Nat) (H' : Hp), n - k < F → k ≤ n → Wo b k H H' → law0_SpoilTexts.l1 F a n (k : Int) H' Q := by
    intro F
    induction F with
    | zero => intro k _ h; omega
    | succ F ih =>
      intro k H' hF hk w
      rw [law0_SpoilTexts.l1_eq]
      by_cases hkn : k < n
      · rcases h.on w with q | ⟨l, o, xs, rfl, hb, hr, hl, hm⟩
        · omega
        have etN : tN (k : Int) = k := rfl
        have hj : o + k < xs.length := by omega
        have g0 : gt H' l (o + k * 1) = some (.str xs[o + k]) := by rw [gt_some hr, Nat.mul_one]; simp [hj]
        have hsz := hm _ (List.getElem_mem hj)
        rw [bite_t (by simp; omega), chk_true]
        refine chk_of (by simp; omega) ?_
        rw [pS_some, etN, rd_of g0, dS_str]
        refine catS_of ?_ ?_
        · have : (mkS [126]).size = 1 := rfl
          omega
        rw [chk_true]
        refine chk_of (by simp; omega) ?_
        rw [pS_some]
        refine wr_row hr (by simp; omega) ?_
        rw [← List.map_set, wrap_succ (by omega)]
        refine ih (k + 1) _ (by omega) (by omega) (w.trans (Wo.str hb hr fun M' hM' => ?_))
        have := hM' _ (List.getElem_mem hj)
        have e1 : (mkS [126] ++ xs[o + k]).size = (mkS [126]).size + (xs[o + k]).size := ByteArray.size_append
        have e2 : (mkS [126]).size = 1 := rfl
        omega
      · obtain rfl : k = n := by omega
        rw [bite_f (by simp)]
        exact hQ H' w
  refine ⟨n + 2, ?_⟩
  rw [law0_SpoilTexts_eq]
  exact loop (n + 1) 0 H (by omega) (by omega) (Wo.refl b 0 H)
theorem law0_SpoilInts_spec (h : NuR H b a n) (hn : n ≤ 100000) (hQ : ∀ H', Wo b 0 H H' → Q (.tup []) H') : law0_SpoilInts [.g (.sl a n 1)] H Q := by
  have loop : ∀ (F k : Nat) (H' : Hp), n - k < F → k ≤ n → Wo b 0 H H' → law0_SpoilInts.l1 F a n (k : Int) H' Q := by
    intro F
    induction F with
    | zero => intro k _ h; omega
    | succ F ih =>
      intro k H' hF hk w
      rw [law0_SpoilInts.l1_eq]
      by_cases hkn : k < n
      · rcases h.on w with q | ⟨l, o, xs, rfl, hb, hr, hl⟩
        · omega
        have etN : tN (k : Int) = k := rfl
        have hj : o + k < xs.length := by omega
        have g0 : gt H' l (o + k * 1) = some (.int .i64 xs[o + k]) := by rw [gt_some hr, Nat.mul_one]; simp [hj]
        rw [bite_t (by simp; omega), chk_true]
        refine chk_of (by simp; omega) ?_
        rw [pS_some, etN, rd_of g0, dI_int, chk_true]
        refine chk_of (by simp; omega) ?_
        rw [pS_some]
        refine wr_row hr (by simp; omega) ?_
        rw [← List.map_set, wrap_succ (by omega)]
        exact ih (k + 1) _ (by omega) (by omega) (w.trans (Wo.int hb hr))
      · obtain rfl : k = n := by omega
        rw [bite_f (by simp)]
        exact hQ H' w
  refine ⟨n + 2, ?_⟩
  rw [law0_SpoilInts_eq]
  exact loop (n + 1) 0 H (by omega) (by omega) (Wo.refl b 0 H)
/-- a page that may be written over -/
structure WoP (H : Hp) (b M : Nat) (c : PC) : Prop where
  t1 : TxR H b M c.a1 c.n1
  t2 : TxR H b M c.a2 c.n2
  t3 : NuR H b c.a3 c.n3
  s1 : c.n1 ≤ 1000
  s2 : c.n2 ≤ 1000
  s3 : c.n3 ≤ 1000
theorem WoP.on {c : PC} {H' : Hp} {d : Nat} (h : WoP H b M c) (w : Wo b d H H') : WoP H' b (M + d) c := ⟨h.t1.on w, h.t2.on w, h.t3.on w, h.s1, h.s2, h.s3⟩
theorem WoP.big {c : PC} {M' : Nat} (h : WoP H b M c) (hM : M ≤ M') : WoP H b M' c := ⟨h.t1.big hM, h.t2.big hM, h.t3, h.s1, h.s2, h.s3⟩
theorem Wo.big {H' : Hp} {d d' : Nat} (w : Wo b d H H') (hd : d ≤ d') : Wo b d' H H' :=
  ⟨w.len, w.low, fun l xs M hr hm => by obtain ⟨ys, q1, q2, q3⟩ := w.tx l xs M hr hm; exact ⟨ys, q1, q2, fun x hx => by have := q3 x hx; omega⟩, w.nu, w.pg⟩
theorem law0_SpoilPage_spec {c : PC} (h : WoP H b M c) (hM : M ≤ 100000000) (hQ : ∀ H', Wo b 2000 H H' → Q (.tup []) H') : law0_SpoilPage [.agg [.bool c.u, .bool c.l, .sl c.a1 c.n1 1, .sl c.a2 c.n2 1, .sl c.a3 c.n3 1]] H Q := by
  have s1 := h.s1
  have s2 := h.s2
  have s3 := h.s3
  refine ⟨1, ?_⟩
  rw [law0_SpoilPage_eq]
  refine law0_SpoilTexts_spec h.t1 (by omega) (by omega) fun H1 w1 => ?_
  refine law0_SpoilTexts_spec (h.t2.on w1) (by omega) (by omega) fun H2 w2 => ?_
  refine law0_SpoilInts_spec ((h.t3.on w1).on w2) (by omega) fun H3 w3 => ?_
  exact hQ H3 (((w1.trans w2).trans w3).big (by omega))
/-- a tree that may be written over -/
theorem law0_SpoilTree_spec {tp : Nat} {cs : List PC} (hr : H[tp]? = some (.row true tPg (pcells cs))) (hb : b ≤ tp) (hc : ∀ c ∈ cs, WoP H b M c) (hl : cs.length = n) (hn : n ≤ 1000) (hM : M ≤ 1000000) (hQ : ∀ H', H'.length = H.length → (∀ l, l < b → H'[l]? = H[l]?) → Q (.tup []) H') :
    law0_SpoilTree [.agg [.sl (some (tp, 0)) n 5]] H Q := by
  have loop : ∀ (F k : Nat) (H' : Hp) (ds : List PC), n - k < F → k ≤ n → H'.length = H.length → (∀ l, l < b → H'[l]? = H[l]?) → H'[tp]? = some (.row true tPg (pcells ds)) → ds.length = n → (∀ d ∈ ds, WoP H' b (M + 2000 * k) d) → law0_SpoilTree.l2 F (some (tp, 0)) n (k : Int) H' Q := by
    intro F
    induction F with
    | zero => intro k _ _ h; omega
    | succ F ih =>
      intro k H' ds hF hk e1 e2 hr' hl' hd
      rw [law0_SpoilTree.l2_eq]
      by_cases hkn : k < n
      · have hkd : k < ds.length := by omega
        have etN : tN (k : Int) = k := rfl
        have gc : ∀ j, j < 5 → gt H' tp (k * 5 + j) = (ds[k].cells)[j]? := fun j hj => by rw [gt_some hr']; exact pcells_get hkd hj
        have g0 : gt H' tp (0 + k * 5) = some (.bool ds[k].u) := by rw [Nat.zero_add]; exact gc 0 (by omega)
        have g1 : gt H' tp (0 + k * 5 + 1) = some (.bool ds[k].l) := by rw [Nat.zero_add]; exact gc 1 (by omega)
        have g2 : gt H' tp (0 + k * 5 + 2) = some (.sl ds[k].a1 ds[k].n1 1) := by rw [Nat.zero_add]; exact gc 2 (by omega)
        have g3 : gt H' tp (0 + k * 5 + 3) = some (.sl ds[k].a2 ds[k].n2 1) := by rw [Nat.zero_add]; exact gc 3 (by omega)
        have g4 : gt H' tp (0 + k * 5 + 4) = some (.sl ds[k].a3 ds[k].n3 1) := by rw [Nat.zero_add]; exact gc 4 (by omega)
        rw [bite_t (by simp; omega), chk_true]
        refine chk_of (by simp; omega) ?_
        rw [pS_some, etN, rdPage_of g0 g1 g2 g3 g4]
        refine law0_SpoilPage_spec (hd _ (List.getElem_mem hkd)) (by omega) fun H2 w => ?_
        have hr2 := w.pg _ _ hr'
        have g0' : gt H2 tp (0 + k * 5 + 0) = some (.bool ds[k].u) := by rw [gt_some hr2, Nat.zero_add, Nat.add_zero]; exact pcells_get hkd (j := 0) (by omega)
        rw [chk_true]
        refine chk_of (by simp; omega) ?_
        rw [pS_some, rd_of g0', dB_bool, chk_true]
        refine chk_of (by simp; omega) ?_
        rw [pS_some, Nat.zero_add, Nat.add_zero]
        refine wr_row hr2 (by rw [pcells_length]; omega) ?_
        have hset : (pcells ds).set (k * 5) (.bool (!ds[k].u)) = pcells (ds.set k { ds[k] with u := !ds[k].u }) := by
          have q := pcells_set ds k { ds[k] with u := !ds[k].u } hkd
          rw [← q]
          have fix : ∀ (L : List GV) (i : Nat) (v : GV), L[i]? = some v → L.set i v = L := fun L i v h => set_same h
          have p : ∀ j, j < 5 → (pcells ds)[k * 5 + j]? = (ds[k].cells)[j]? := fun j hj => pcells_get hkd hj
          rw [fix _ (k * 5 + 1) _ (by rw [List.getElem?_set_ne (by omega)]; exact p 1 (by omega))]
          rw [fix _ (k * 5 + 1 + 1) _ (by rw [List.getElem?_set_ne (by omega)]; exact p 2 (by omega))]
          rw [fix _ (k * 5 + 1 + 1 + 1) _ (by rw [List.getElem?_set_ne (by omega)]; exact p 3 (by omega))]
          rw [fix _ (k * 5 + 1 + 1 + 1 + 1) _ (by rw [List.getElem?_set_ne (by omega)]; exact p 4 (by omega))]
        rw [hset, wrap_succ (by omega)]
        have htp := (List.getElem?_eq_some_iff.1 hr2).1
        have tkeep : ∀ {a m M}, TxR H2 b M a m → TxR (H2.set tp (.row true tPg (pcells (ds.set k { ds[k] with u := !ds[k].u })))) b M a m := by
          intro a m M h
          rcases h with h | ⟨l, o, xs, e, h1, h2, h3, h4⟩
          · exact .inl h
          · refine .inr ⟨l, o, xs, e, h1, ?_, h3, h4⟩
            have : tp ≠ l := fun q => by subst q; exact absurd (row_t h2 hr2).1 (by decide)
            unfold SRow; rw [List.getElem?_set_ne this]; exact h2
        have nkeep : ∀ {a m}, NuR H2 b a m → NuR (H2.set tp (.row true tPg (pcells (ds.set k { ds[k] with u := !ds[k].u })))) b a m := by
          intro a m h
          rcases h with h | ⟨l, o, xs, e, h1, h2, h3⟩
          · exact .inl h
          · refine .inr ⟨l, o, xs, e, h1, ?_, h3⟩
            have : tp ≠ l := fun q => by subst q; exact absurd (row_t h2 hr2).1 (by decide)
            unfold IRow; rw [List.getElem?_set_ne this]; exact h2
        refine ih (k + 1) _ _ (by omega) (by omega) (by simp [w.len, e1]) (fun l hl => by rw [List.getElem?_set_ne (by omega), w.low l hl]; exact e2 l hl) (List.getElem?_set_self htp) (by simp [hl']) fun d hd' => ?_
        rcases List.mem_or_eq_of_mem_set hd' with q | q
        · have := ((hd d q).on w).big (show M + 2000 * k + 2000 ≤ M + 2000 * (k + 1) by omega)
          exact ⟨tkeep this.t1, tkeep this.t2, nkeep this.t3, this.s1, this.s2, this.s3⟩
        · subst q
          have := ((hd _ (List.getElem_mem hkd)).on w).big (show M + 2000 * k + 2000 ≤ M + 2000 * (k + 1) by omega)
          exact ⟨tkeep this.t1, tkeep this.t2, nkeep this.t3, this.s1, this.s2, this.s3⟩
      · obtain rfl : k = n := by omega
        rw [bite_f (by simp)]
        exact hQ H' e1 e2
  refine ⟨n + 2, ?_⟩
  rw [law0_SpoilTree_eq]
  exact loop (n + 1) 0 H cs (by omega) (by omega) rfl (fun _ _ => rfl) hr hl (by simpa using hc)
end
end Go.Am
namespace Go.Am

section
variable {H : Hp} {Q : Post} {u l : Bool} {a1 : Pl} {n1 : Nat} {a2 : Pl} {n2 : Nat} {a3 : Pl} {n3 : Nat} {p : Pg}
theorem ref1_PutPage_l15 (h : PgAt H u l a1 n1 a2 n2 a3 n3 p) (hm : MayP p) (hQ : ∀ H', H <+: H' → Q (.tup [.s (.str (text p)), .s (.int .i64 0)]) H') :
    ∀ (f k : Nat) (a : Pl) (H' : Hp), p.kids.length - k < f → k ≤ p.kids.length → H <+: H' → OwnB H' H.length a (upK p k) → ref1_PutPage.l15 f u l a1 n1 a2 n2 a3 n3 a (upK p k).length (k : Int) H' Q := by
  have hi := h.kids
  have n3e := hi.len
  have l3 := hi.lim
  intro f
  induction f with
  | zero => intro k a H' hf; omega
  | succ f ih =>
    intro k a H' hf hk hp ho
    rw [ref1_PutPage.l15_eq]
    by_cases hkn : k < p.kids.length
    · have hb := kids_u8 hm hkn
      have := upK_le hm k
      rw [bite_t (by simp; omega), chk_true, (hi.mono hp).rd k rfl hkn, chk_true]
      refine apB hp ho [bof p.kids[k]] (u8s_one hb.1 hb.2) rfl (by simp; omega) fun a' H'' h1 h2 => ?_
      rw [upK_succ hkn] at h1 ⊢
      rw [wrap_succ (by omega)]
      exact ih (k + 1) a' H'' (by omega) (by omega) h2 h1
    · rw [bite_f (by simp; omega), ho.txt, upK_all (by omega)]
      exact hQ _ hp

theorem ref1_PutPage_l7 (h : PgAt H u l a1 n1 a2 n2 a3 n3 p) (hm : MayP p) (hQ : ∀ H', H <+: H' → Q (.tup [.s (.str (text p)), .s (.int .i64 0)]) H') :
    ∀ (f k : Nat) (a : Pl) (H' : Hp), p.keys.length - k + p.kids.length + 1 < f → k ≤ p.keys.length → H <+: H' → OwnB H' H.length a (upE p k) → ref1_PutPage.l7 f u l a1 n1 a2 n2 a3 n3 a (upE p k).length (k : Int) H' Q := by
  obtain ⟨hu, hl, hk, hv, hi⟩ := id h
  have n1e := hk.len
  have n2e := hv.len
  have l1 := hk.lim
  have hm1 := hm.1
  intro f
  induction f with
  | zero => intro k a H' hf; omega
  | succ f ih =>
    intro k a H' hf hkn0 hp ho
    rw [ref1_PutPage.l7_eq]
    by_cases hkn : k < p.keys.length
    · have hks := (hm.2.keys _ (List.getElem_mem hkn)).2
      have hle := upE_le hm (k := k) (by omega)
      rw [bite_t (by simp; omega), chk_true, (hk.mono hp).rd k rfl hkn, chk_true]
      refine apB hp ho [bof (p.keys[k]).size] (by rw [sz_def, u8s_one (by omega) (by omega)]) rfl (by simp; omega) fun a' H2 o2 p2 => ?_
      rw [chk_true, (hk.mono p2).rd k rfl hkn, chk_true]
      refine apB p2 o2 (bs p.keys[k]) (bytesOf_eq _) (by simp) (by simp; omega) fun a' H3 o3 p3 => ?_
      have e1 : upE p k ++ [bof (p.keys[k]).size] ++ bs p.keys[k] = upE p k ++ szd p.keys[k] := by simp [szd]
      rw [e1] at o3 ⊢
      cases hL : p.leaf with
      | true =>
        have hvl := (hm.2.leaf hL).1
        have hvn : k < p.vals.length := by omega
        have hvs := (hm.2.leaf hL).2.2 _ (List.getElem_mem hvn)
        rw [bite_t (by rw [← hl]; exact hL), chk_true, (hv.mono p3).rd k rfl hvn, chk_true]
        refine apB p3 o3 [bof (p.vals[k]).size] (by rw [sz_def, u8s_one (by omega) (by omega)]) rfl (by simp; omega) fun a' H4 o4 p4 => ?_
        rw [chk_true, (hv.mono p4).rd k rfl hvn, chk_true]
        refine apB p4 o4 (bs p.vals[k]) (bytesOf_eq _) (by simp) (by simp; omega) fun a'' H5 o5 p5 => ?_
        have e : upE p k ++ szd p.keys[k] ++ [bof (p.vals[k]).size] ++ bs p.vals[k] = upE p (k + 1) := by
          unfold upE; rw [ents_succ]; simp [entL, hL, hkn, hvn, szd]
        rw [e] at o5 ⊢
        rw [wrap_succ (by omega)]
        exact ih (k + 1) a'' H5 (by omega) (by omega) p5 o5
      | false =>
        rw [bite_f (by rw [← hl]; exact hL)]
        have e : upE p k ++ szd p.keys[k] = upE p (k + 1) := by
          unfold upE; rw [ents_succ]; simp [entL, hL, hkn]
        rw [e] at o3 ⊢
        rw [wrap_succ (by omega)]
        exact ih (k + 1) a' H3 (by omega) (by omega) p3 o3
    · rw [bite_f (by simp; omega)]
      have hke : k = p.keys.length := by omega
      subst hke
      have e : upE p p.keys.length = upK p 0 := by simp [upE, upK]
      rw [e] at ho ⊢
      exact ref1_PutPage_l15 h hm hQ f 0 a H' (by omega) (by omega) hp ho

theorem ref1_PutPage_spec (h : PgAt H u l a1 n1 a2 n2 a3 n3 p) (hQ1 : ¬ MayP p → ∀ H', H <+: H' → Q (.tup [.s (.str (mkS [])), .s (.int .i64 600)]) H')
    (hQ2 : MayP p → ∀ H', H <+: H' → Q (.tup [.s (.str (text p)), .s (.int .i64 0)]) H') : ref1_PutPage [.agg [.bool u, .bool l, .sl a1 n1 1, .sl a2 n2 1, .sl a3 n3 1]] H Q := by
  refine ⟨p.keys.length + p.kids.length + 5, ?_⟩
  rw [ref1_PutPage_eq]
  refine ref1_PageMay_spec h fun b hb => ?_
  simp only [rG_g, dB_bool]
  refine bite_of (fun e => hQ1 (fun q => ?_) _ (List.prefix_refl _)) (fun e => ?_)
  · rw [hb.2 q] at e; cases e
  have hm : MayP p := hb.1 (by cases b <;> simp_all)
  have hm1 := hm.1
  have hl := h.leaf
  have n1e := h.keys.len
  have hh : OwnB (H ++ [.row true tU8 [.int .u8 2, .int .u8 (wrapI .u8 (nI n1))]]) H.length (some (H.length, 0)) [2, bof p.keys.length] := by
    refine .inr ⟨H.length, rfl, Nat.le_refl _, ?_, rfl⟩
    rw [List.getElem?_append_right (Nat.le_refl _)]
    simp only [Nat.sub_self, List.getElem?_cons_zero, nI_def]
    rw [u8_eq (by omega) (by omega), n1e]
    rfl
  have p2 : H <+: H ++ [.row true tU8 [.int .u8 2, .int .u8 (wrapI .u8 (nI n1))]] := List.prefix_append _ _
  have go : ∀ H2, H <+: H2 → OwnB H2 H.length (some (H.length, 0)) (upE p 0) → ref1_PutPage.l6 (p.keys.length + p.kids.length + 4) u l a1 n1 a2 n2 a3 n3 (some (H.length, 0)) 2 H2 Q := fun H2 q2 o2 => by
    rw [show p.keys.length + p.kids.length + 4 = (p.keys.length + p.kids.length + 3) + 1 by omega, ref1_PutPage.l6_eq]
    exact ref1_PutPage_l7 h hm (hQ2 hm) _ 0 _ H2 (by omega) (Nat.zero_le _) q2 o2
  cases hL : p.leaf with
  | false =>
    rw [bite_f (by rw [← hl]; exact hL)]
    exact go _ p2 (by simpa [upE, hdr, ents, hL] using hh)
  | true =>
    rw [bite_t (by rw [← hl]; exact hL), chk_true]
    simp only [pu_def, ln_def, tN_def, Int.toNat_zero, Nat.zero_mul, Nat.zero_add]
    rw [wr_of (t := tU8) (cs := [.int .u8 2, .int .u8 (wrapI .u8 (nI n1))]) (by simp) (by simp)]
    refine go _ (pre_set p2 (Nat.le_refl _) _) (.inr ⟨H.length, rfl, Nat.le_refl _, ?_, rfl⟩)
    rw [List.getElem?_set_self (by simp)]
    simp only [List.set_cons_zero, nI_def, upE, hdr, ents, hL]
    rw [u8_eq (by omega) (by omega), n1e]
    rfl
end
def takA (L : List UInt8) (p : Int) : List UInt8 × Int :=
  if 0 ≤ p ∧ p < L.length then
    (if p + 1 + ((L[p.toNat]?.getD 0).toNat : Int) ≤ L.length then ((L.drop (p.toNat + 1)).take (L[p.toNat]?.getD 0).toNat, p + 1 + ((L[p.toNat]?.getD 0).toNat : Int)) else ([], -1))
  else ([], -1)
structure Pb where
  ks : List ByteArray
  vs : List ByteArray
  p : Int
def take2 (L : List UInt8) (leaf : Bool) : Nat → Int → List ByteArray → List ByteArray → Pb
  | 0, p, ks, vs => ⟨ks, vs, p⟩
  | n + 1, p, ks, vs => match leaf with
    | true => take2 L leaf n (takA L (takA L p).2).2 (ks ++ [mkS (takA L p).1]) (vs ++ [mkS (takA L (takA L p).2).1])
    | false => take2 L leaf n (takA L p).2 (ks ++ [mkS (takA L p).1]) vs
def rest2 (L : List UInt8) (q : Nat) : List Int := ((L.drop q).take (200 - q)).map fun b => (b.toNat : Int)
def pN2 (L : List UInt8) : Nat := min (L[1]?.getD 0).toNat 5
def pL2 (L : List UInt8) : Bool := (L[0]?.getD 0).toNat == 1
def pE2 (L : List UInt8) : Pb := take2 L (pL2 L) (pN2 L) 2 [] []
def parse2 (L : List UInt8) : Pg := ⟨true, pL2 L, (pE2 L).ks, (pE2 L).vs, match pL2 L with | true => [] | false => rest2 L (pE2 L).p.toNat⟩

theorem takA_szd {s : ByteArray} (h : s.size ≤ 255) (X Y : List UInt8) : takA (X ++ (szd s ++ Y)) (X.length : Int) = (bs s, ((X ++ szd s).length : Int)) := by
  have e : (bof (s.size : Int)).toNat = s.size := by simp [bof]; omega
  unfold takA
  simp only [Int.toNat_natCast]
  rw [if_pos ⟨by omega, by simp; omega⟩]
  have e2 : (X ++ (szd s ++ Y))[X.length]?.getD 0 = bof s.size := by simp [szd]
  rw [e2, e, if_pos (by simp; omega)]
  have e3 : (X ++ (szd s ++ Y)).drop (X.length + 1) = bs s ++ Y := by
    rw [← List.drop_drop, List.drop_left' rfl]; simp [szd]
  rw [e3, List.take_left' (by simp)]
  simp; omega

theorem take2_ents {p : Pg} (hf : FitsP p) (T : List UInt8) : ∀ m k : Nat, k + m = p.keys.length →
    take2 (upE p k ++ (tailE p k m ++ T)) p.leaf m ((upE p k).length : Int) (p.keys.take k) (p.vals.take k) = ⟨p.keys, p.vals, ((upE p p.keys.length).length : Int)⟩ := by
  intro m
  induction m with
  | zero =>
    intro k hk
    obtain rfl : k = p.keys.length := by omega
    simp only [take2]
    rw [List.take_of_length_le (Nat.le_refl _)]
    cases hL : p.leaf with
    | true => have := (hf.leaf hL).1; rw [List.take_of_length_le (by omega)]
    | false => rw [(hf.inner hL).2.1]; simp
  | succ m ih =>
    intro k hk
    have hkn : k < p.keys.length := by omega
    have hks := (hf.keys _ (List.getElem_mem hkn)).2
    have ih' := ih (k + 1) (by omega)
    rw [List.take_succ_eq_append_getElem hkn] at ih'
    have hup : upE p (k + 1) = upE p k ++ entL p k := by unfold upE; rw [ents_succ, ← List.append_assoc]
    have hall : upE p k ++ (tailE p k (m + 1) ++ T) = upE p (k + 1) ++ (tailE p (k + 1) m ++ T) := by rw [tailE_succ, hup]; simp
    cases hL : p.leaf with
    | true =>
      have hvl := (hf.leaf hL).1
      have hvn : k < p.vals.length := by omega
      have hvs := (hf.leaf hL).2.2 _ (List.getElem_mem hvn)
      rw [List.take_succ_eq_append_getElem hvn, hL] at ih'
      have e : entL p k = szd p.keys[k] ++ szd p.vals[k] := by simp [entL, hL, hkn, hvn]
      have e1 : upE p k ++ (tailE p k (m + 1) ++ T) = upE p k ++ (szd p.keys[k] ++ (szd p.vals[k] ++ (tailE p (k + 1) m ++ T))) := by rw [tailE_succ, e]; simp
      have e2 : upE p k ++ (tailE p k (m + 1) ++ T) = (upE p k ++ szd p.keys[k]) ++ (szd p.vals[k] ++ (tailE p (k + 1) m ++ T)) := by rw [e1]; simp
      have t1 : takA (upE p k ++ (tailE p k (m + 1) ++ T)) ((upE p k).length : Int) = (bs p.keys[k], ((upE p k ++ szd p.keys[k]).length : Int)) := by rw [e1]; exact takA_szd (by omega) _ _
      have t2 : takA (upE p k ++ (tailE p k (m + 1) ++ T)) ((upE p k ++ szd p.keys[k]).length : Int) = (bs p.vals[k], ((upE p (k + 1)).length : Int)) := by
        rw [e2, takA_szd (by omega), hup, e]; simp
      simp only [take2]
      rw [t1]
      simp only
      rw [t2]
      simp only [mkS_bs]
      rw [hall]
      exact ih'
    | false =>
      have hv := (hf.inner hL).2.1
      rw [hL] at ih'
      have e : entL p k = szd p.keys[k] := by simp [entL, hL, hkn]
      have t1 : takA (upE p k ++ (tailE p k (m + 1) ++ T)) ((upE p k).length : Int) = (bs p.keys[k], ((upE p (k + 1)).length : Int)) := by
        have e1 : upE p k ++ (tailE p k (m + 1) ++ T) = upE p k ++ (szd p.keys[k] ++ (tailE p (k + 1) m ++ T)) := by rw [tailE_succ, e]; simp
        rw [e1, takA_szd (by omega), hup, e]
      simp only [take2]
      rw [t1]
      simp only [mkS_bs]
      rw [hall]
      rw [hv] at ih' ⊢
      simpa using ih'

theorem parse2_text {p : Pg} (hm : MayP p) : parse2 (textL p) = p := by
  have hf := hm.2
  have hm1 := hm.1
  have hl : pL2 (textL p) = p.leaf := by cases hL : p.leaf <;> simp [pL2, textL, hdr, hL]
  have hb : (bof (p.keys.length : Int)).toNat = p.keys.length := by simp [bof]; omega
  have hn : pN2 (textL p) = p.keys.length := by
    have : (textL p)[1]?.getD 0 = bof p.keys.length := by simp [textL, hdr]
    unfold pN2; rw [this, hb]; omega
  have hT : textL p = upE p 0 ++ (tailE p 0 p.keys.length ++ p.kids.map bof) := by simp [textL, upE, ents, tailE, List.range_eq_range']
  have hE : pE2 (textL p) = ⟨p.keys, p.vals, ((upE p p.keys.length).length : Int)⟩ := by
    unfold pE2
    rw [hl, hn, hT]
    have := take2_ents hf (p.kids.map bof) p.keys.length 0 (by omega)
    have h2 : ((upE p 0).length : Int) = 2 := by simp [upE, hdr, ents]
    rw [h2] at this
    simpa using this
  have hR : p.leaf = false → rest2 (textL p) (upE p p.keys.length).length = p.kids := by
    intro hL
    have h1 := (hf.inner hL).2.2.1
    have h2 := (hf.inner hL).2.2.2.1
    have hle := upE_le hm (k := p.keys.length) hm1
    have hd : (textL p).drop (upE p p.keys.length).length = p.kids.map bof := by
      have : textL p = upE p p.keys.length ++ p.kids.map bof := rfl
      rw [this, List.drop_left' rfl]
    unfold rest2
    rw [hd, List.take_of_length_le (by simp; omega), List.map_map]
    have : ∀ ks : List Int, (∀ k ∈ ks, 1 ≤ k ∧ k < 48) → ks.map ((fun b => (UInt8.toNat b : Int)) ∘ bof) = ks := by
      intro ks
      induction ks with
      | nil => intro _; rfl
      | cons k ks ih =>
        intro h
        have hk := h k (by simp)
        rw [List.map_cons, ih (fun x hx => h x (by simp [hx]))]
        simp only [Function.comp]
        rw [bof_toNat (by omega) (by omega)]
    exact this _ h2
  unfold parse2
  rw [hE, hl]
  simp only [Int.toNat_natCast]
  obtain ⟨pu, pl, pk, pv, pi⟩ := p
  have hu : pu = true := hf.used
  subst hu
  cases pl with
  | true =>
    have := (hf.leaf rfl).2.1
    simp only at this ⊢
    rw [this]
  | false => simp only [hR rfl]

/-! the document's taken -/
theorem ref1_taken_spec {s : ByteArray} {p : Int} {H : Hp} {Q : Post} (h1 : -1000000000000 ≤ p) (h2 : p ≤ 9223372036854770000) (hs : s.size ≤ 9223372036854770000) (hQ : Q (.tup [.s (.str (mkS (takA (bs s) p).1)), .s (.int .i64 (takA (bs s) p).2)]) H) :
    ref1_taken [.g (.str s), .g (.int .i64 p)] H Q := by
  refine ⟨1, ?_⟩
  rw [ref1_taken_eq]
  have hlen : ((bs s).length : Int) = s.size := by simp
  by_cases c1 : p < 0
  · rw [bite_t (by simpa using c1)]
    unfold takA at hQ
    rw [if_neg (by omega)] at hQ
    exact hQ
  rw [bite_f (by simpa using c1)]
  by_cases c2 : (s.size : Int) ≤ p
  · rw [bite_t (by simpa using c2)]
    unfold takA at hQ
    rw [if_neg (by omega)] at hQ
    exact hQ
  rw [bite_f (by simpa using c2)]
  refine chk_of (by simp; omega) ?_
  have hb : ((bs s)[p.toNat]?.getD 0).toNat ≤ 255 := by have := ((bs s)[p.toNat]?.getD 0).toNat_lt; omega
  have e1 : wrapI .i64 (byt s (tN p)) = (((bs s)[p.toNat]?.getD 0).toNat : Int) := by rw [byt_eq, tN_def]; exact wrap64 (by omega) (by omega)
  have e0 : wrapI .i64 (p + 1) = p + 1 := wrap64 (by omega) (by omega)
  rw [e1, e0]
  have e2 : wrapI .i64 (p + 1 + (((bs s)[p.toNat]?.getD 0).toNat : Int)) = p + 1 + (((bs s)[p.toNat]?.getD 0).toNat : Int) := wrap64 (by omega) (by omega)
  rw [e2]
  unfold takA at hQ
  rw [if_pos ⟨by omega, by omega⟩] at hQ
  by_cases c3 : (s.size : Int) < p + 1 + (((bs s)[p.toNat]?.getD 0).toNat : Int)
  · rw [bite_t (by simpa using c3)]
    rw [if_neg (by omega)] at hQ
    exact hQ
  rw [bite_f (by simpa using c3)]
  rw [if_pos (by omega)] at hQ
  refine chk_of (by simp; omega) (chk_of (by simp; omega) (chk_of (by simp; omega) (chk_of (by simp; omega) (chk_of (by simp; omega) ?_))))
  have e3 : sub s (tN (p + 1)) (tN (p + 1 + (((bs s)[p.toNat]?.getD 0).toNat : Int))) = mkS (((bs s).drop (p.toNat + 1)).take ((bs s)[p.toNat]?.getD 0).toNat) := by
    apply bs_inj
    rw [bs_sub, bs_mkS]
    simp only [tN_def]
    rw [show (p + 1).toNat = p.toNat + 1 by omega, show (p + 1 + (((bs s)[p.toNat]?.getD 0).toNat : Int)).toNat - (p.toNat + 1) = ((bs s)[p.toNat]?.getD 0).toNat by omega]
  rw [e3]
  exact hQ

structure GJ (H0 H : Hp) (a1 : Pl) (ks : List ByteArray) (a2 : Pl) (vs : List ByteArray) (a3 : Pl) (is : List Int) : Prop where
  pre : H0 <+: H
  o1 : Own H H0.length tS a1 ks.length (ks.map GV.str)
  o2 : Own H H0.length tS a2 vs.length (vs.map GV.str)
  o3 : Own H H0.length tI a3 is.length (is.map (GV.int .i64))
  d12 : Dj a1 a2
  d13 : Dj a1 a3
  d23 : Dj a2 a3
section
variable {H0 H : Hp} {a1 : Pl} {ks : List ByteArray} {a2 : Pl} {vs : List ByteArray} {a3 : Pl} {is : List Int}
theorem GJ.key (g : GJ H0 H a1 ks a2 vs a3 is) (s : ByteArray) (hk : ks.length ≤ 100) {K : Pl → Nat → Hp → Prop} (hK : ∀ a' H', GJ H0 H' a' (ks ++ [s]) a2 vs a3 is → K a' (ks.length + 1) H') : ap H tS 1 16 a1 ks.length [.str s] 1 K := by
  refine ap_own g.pre g.o1 rfl (by unfold Lim; omega) fun a' H' h1 h2 h3 => hK a' H' ?_
  exact ⟨h2.pre, by simpa using h1, g.o2.after g.d12 h2, g.o3.after g.d13 h2, Dj.fresh g.o2 h3, Dj.fresh g.o3 h3, g.d23⟩
theorem GJ.val (g : GJ H0 H a1 ks a2 vs a3 is) (s : ByteArray) (hk : vs.length ≤ 100) {K : Pl → Nat → Hp → Prop} (hK : ∀ a' H', GJ H0 H' a1 ks a' (vs ++ [s]) a3 is → K a' (vs.length + 1) H') : ap H tS 1 16 a2 vs.length [.str s] 1 K := by
  refine ap_own g.pre g.o2 rfl (by unfold Lim; omega) fun a' H' h1 h2 h3 => hK a' H' ?_
  exact ⟨h2.pre, g.o1.after g.d12.symm h2, by simpa using h1, g.o3.after g.d23 h2, (Dj.fresh g.o1 h3).symm, g.d13, Dj.fresh g.o3 h3⟩
theorem GJ.kid (g : GJ H0 H a1 ks a2 vs a3 is) (s : Int) (hk : is.length ≤ 1000) {K : Pl → Nat → Hp → Prop} (hK : ∀ a' H', GJ H0 H' a1 ks a2 vs a' (is ++ [s]) → K a' (is.length + 1) H') : ap H tI 1 8 a3 is.length [.int .i64 s] 1 K := by
  refine ap_own g.pre g.o3 rfl (by unfold Lim; omega) fun a' H' h1 h2 h3 => hK a' H' ?_
  exact ⟨h2.pre, g.o1.after g.d13.symm h2, g.o2.after g.d23.symm h2, by simpa using h1, g.d12, (Dj.fresh g.o1 h3).symm, (Dj.fresh g.o2 h3).symm⟩
theorem GJ.pg (g : GJ H0 H a1 ks a2 vs a3 is) (u l : Bool) (h1 : ks.length ≤ 1000) (h2 : vs.length ≤ 1000) (h3 : is.length ≤ 1000) : PgOwn H H0.length u l a1 ks.length a2 vs.length a3 is.length ⟨u, l, ks, vs, is⟩ :=
  ⟨rfl, rfl, g.o1, g.o2, g.o3, g.d12, g.d13, g.d23, h1, h2, h3⟩
end

section
variable {H0 : Hp} {Q : Post} {s : ByteArray}
set_option maxRecDepth 100000 in
theorem ref1_GetPage_l16 {a1 : Pl} {ks : List ByteArray} {a2 : Pl} {vs : List ByteArray} (lf : Bool) (hk : ks.length ≤ 100) (hv : vs.length ≤ 100) (hQ : GetQ s H0.length Q H0) (pEnd : Pg) (hu : ∀ p', MayP p' → text p' = s → pEnd = p') :
    ∀ (f q : Nat) (H : Hp) (a3 : Pl) (is : List Int), 200 - q < f → is.length + (200 - q) ≤ 400 → GJ H0 H a1 ks a2 vs a3 is →
      pEnd = ⟨true, lf, ks, vs, match lf with | true => is | false => is ++ rest2 (bs s) q⟩ →
      ref1_GetPage.l16 f s false false none 0 none 0 none 0 true lf a1 ks.length a2 vs.length a3 is.length (q : Int) H Q := by
  intro f
  induction f with
  | zero => intro q H a3 is hf; omega
  | succ f ih =>
    intro q H a3 is hf hi g he
    have fin : (lf = true ∨ rest2 (bs s) q = []) → PgOwn H H0.length true lf a1 ks.length a2 vs.length a3 is.length pEnd := fun h => by
      have := g.pg true lf (by omega) (by omega) (by omega)
      rw [he]
      cases lf with
      | true => exact this
      | false => rw [h.resolve_left (by simp)]; simpa using this
    rw [ref1_GetPage.l16_eq]
    by_cases c1 : q < s.size
    · rw [bite_t (by simpa using c1)]
      cases lf with
      | true =>
        rw [bite_f (b := !true) rfl]
        exact get_end (fin (.inl rfl)) g.pre hu hQ fun Q' h1 h2 => ref1_PutPage_spec (fin (.inl rfl)).at h1 h2
      | false =>
        rw [bite_t (b := !false) rfl]
        by_cases c2 : q < 200
        · rw [bite_t (by simp; omega)]
          refine chk_of (by simp; omega) ?_
          rw [chk_true]
          have hb : ((bs s)[q]?.getD 0).toNat ≤ 255 := by have := ((bs s)[q]?.getD 0).toNat_lt; omega
          have e1 : wrapI .i64 (byt s (tN (q : Int))) = (((bs s)[q]?.getD 0).toNat : Int) := by rw [byt_eq, tN_def, Int.toNat_natCast]; exact wrap64 (by omega) (by omega)
          rw [e1]
          refine g.kid _ (by omega) fun a' H' g' => ?_
          rw [wrap_succ (by omega)]
          have hq : q < (bs s).length := by simpa using c1
          have := ih (q + 1) H' a' (is ++ [(((bs s)[q]?.getD 0).toNat : Int)]) (by omega) (by simp; omega) g' (by
            rw [he]
            have : rest2 (bs s) q = (((bs s)[q]?.getD 0).toNat : Int) :: rest2 (bs s) (q + 1) := by
              unfold rest2
              rw [List.drop_eq_getElem_cons hq, show 200 - q = (200 - (q + 1)) + 1 by omega, List.take_succ_cons, List.map_cons]
              rw [List.getElem?_eq_getElem hq, Option.getD_some]
            simp only [this]
            simp)
          simpa using this
        · rw [bite_f (by simp; omega)]
          have fe : rest2 (bs s) q = [] := by unfold rest2; rw [show 200 - q = 0 by omega]; simp
          exact get_end (fin (.inr fe)) g.pre hu hQ fun Q' h1 h2 => ref1_PutPage_spec (fin (.inr fe)).at h1 h2
    · rw [bite_f (by simpa using c1)]
      have fe : rest2 (bs s) q = [] := by unfold rest2; rw [List.drop_of_length_le (by simp; omega)]; simp
      exact get_end (fin (.inr fe)) g.pre hu hQ fun Q' h1 h2 => ref1_PutPage_spec (fin (.inr fe)).at h1 h2

theorem takA_le (L : List UInt8) (p : Int) : -1 ≤ (takA L p).2 ∧ (takA L p).2 ≤ L.length := by
  unfold takA
  split
  · split
    · rename_i h1 h2; simp only; omega
    · simp only; omega
  · simp only; omega

theorem ref1_GetPage_l6 (lf : Bool) (hs : s.size ≤ 9223372036854770000) (h2 : 2 ≤ s.size) (hQ : GetQ s H0.length Q H0) (pEnd : Pg) (hu : ∀ p', MayP p' → text p' = s → pEnd = p') :
    ∀ (f k : Nat) (p : Int) (H : Hp) (a1 : Pl) (ks : List ByteArray) (a2 : Pl) (vs : List ByteArray), pN2 (bs s) - k + 202 < f → k ≤ pN2 (bs s) → ks.length ≤ k → vs.length ≤ k → -1 ≤ p → p ≤ s.size → GJ H0 H a1 ks a2 vs none [] →
      pEnd = ⟨true, lf, (take2 (bs s) lf (pN2 (bs s) - k) p ks vs).ks, (take2 (bs s) lf (pN2 (bs s) - k) p ks vs).vs, match lf with | true => [] | false => rest2 (bs s) (take2 (bs s) lf (pN2 (bs s) - k) p ks vs).p.toNat⟩ →
      ref1_GetPage.l6 f s false false none 0 none 0 none 0 true lf a1 ks.length a2 vs.length none 0 p (k : Int) H Q := by
  have hb : ((bs s)[1]?.getD 0).toNat ≤ 255 := by have := ((bs s)[1]?.getD 0).toNat_lt; omega
  have e1 : wrapI .i64 (byt s (tN 1)) = (((bs s)[1]?.getD 0).toNat : Int) := by rw [byt_eq]; exact wrap64 (by show (-9223372036854775808 : Int) ≤ (((bs s)[1]?.getD 0).toNat : Int); omega) (by show (((bs s)[1]?.getD 0).toNat : Int) ≤ 9223372036854775807; omega)
  have hN : pN2 (bs s) ≤ 5 := by unfold pN2; omega
  intro f
  induction f with
  | zero => intro k p H a1 ks a2 vs hf; omega
  | succ f ih =>
    intro k p H a1 ks a2 vs hf hk1 hk hv hp1 hp2 g he
    rw [ref1_GetPage.l6_eq]
    refine chk_of (by simp; omega) ?_
    rw [e1]
    have stop : ¬ k < pN2 (bs s) → ref1_GetPage.l16 f s false false none 0 none 0 none 0 true lf a1 ks.length a2 vs.length none 0 (mxI p 0) H Q := fun hn => by
      rw [show pN2 (bs s) - k = 0 by omega] at he
      simp only [take2] at he
      have hmx : mxI p 0 = (p.toNat : Int) := by unfold mxI; split <;> omega
      rw [hmx]
      exact ref1_GetPage_l16 lf (by omega) (by omega) hQ pEnd hu f p.toNat H none [] (by omega) (by simp; omega) g (by rw [he]; cases lf <;> rfl)
    by_cases c1 : k < ((bs s)[1]?.getD 0).toNat
    · rw [bite_t (by simp; omega)]
      by_cases c2 : k ≤ 4
      · have hlt : k < pN2 (bs s) := by unfold pN2; omega
        rw [bite_t (by simp; omega)]
        have b1 := takA_le (bs s) p
        have b2 := takA_le (bs s) (takA (bs s) p).2
        have hl : (bs s).length = s.size := by simp
        refine ref1_taken_spec (by omega) (by omega) hs ?_
        simp only [rT_tup, uR_cons, rS_s, dS_str, dI_int, uE_nil]
        rw [chk_true]
        refine g.key _ (by omega) fun a' H' g' => ?_
        cases lf with
        | true =>
          rw [bite_t rfl]
          refine ref1_taken_spec (by omega) (by omega) hs ?_
          simp only [rT_tup, uR_cons, rS_s, dS_str, dI_int, uE_nil]
          rw [chk_true]
          refine g'.val _ (by omega) fun a'' H'' g'' => ?_
          rw [wrap_succ (by omega)]
          have := ih (k + 1) (takA (bs s) (takA (bs s) p).2).2 H'' a' (ks ++ [mkS (takA (bs s) p).1]) a'' (vs ++ [mkS (takA (bs s) (takA (bs s) p).2).1]) (by omega) (by omega) (by simp; omega) (by simp; omega) (by omega) (by omega) g'' (by
            rw [he, show pN2 (bs s) - k = (pN2 (bs s) - (k + 1)) + 1 by omega]; rfl)
          simpa using this
        | false =>
          rw [bite_f rfl]
          rw [wrap_succ (by omega)]
          have := ih (k + 1) (takA (bs s) p).2 H' a' (ks ++ [mkS (takA (bs s) p).1]) a2 vs (by omega) (by omega) (by simp; omega) (by omega) (by omega) (by omega) g' (by
            rw [he, show pN2 (bs s) - k = (pN2 (bs s) - (k + 1)) + 1 by omega]; rfl)
          simpa using this
      · rw [bite_f (by simp; omega)]
        exact stop (by unfold pN2; omega)
    · rw [bite_f (by simp; omega)]
      exact stop (by unfold pN2; omega)

theorem ref1_GetPage_spec (hs : s.size ≤ 9223372036854770000) (hQ : GetQ s H0.length Q H0) : ref1_GetPage [.g (.str s)] H0 Q := by
  refine ⟨301, ?_⟩
  rw [ref1_GetPage_eq]
  by_cases c : s.size < 2
  · rw [bite_t (by simp; omega)]
    refine hQ _ _ _ _ _ _ _ _ _ _ _ (List.prefix_refl _) (noPg_own _ _) (.inr ⟨rfl, rfl, fun p' h1 h2 => ?_⟩)
    rw [← h2] at c
    simp [text, textL, hdr] at c
    omega
  · rw [bite_f (by simp; omega)]
    refine chk_of (by simp; omega) ?_
    have hl : eqI (byt s (tN 0)) 1 = pL2 (bs s) := by
      rw [byt_eq]
      simp only [eqI_def, pL2, tN_def, Int.toNat_zero]
      rw [Bool.eq_iff_iff]; simp; omega
    rw [hl]
    have g0 : GJ H0 H0 none [] none [] none [] := ⟨List.prefix_refl _, .inl ⟨rfl, rfl, rfl⟩, .inl ⟨rfl, rfl, rfl⟩, .inl ⟨rfl, rfl, rfl⟩, fun _ e => (by cases e), fun _ e => (by cases e), fun _ e => (by cases e)⟩
    have hN5 : pN2 (bs s) - 0 + 202 < 300 := by unfold pN2; omega
    have := ref1_GetPage_l6 (H0 := H0) (Q := Q) (s := s) (pL2 (bs s)) hs (by omega) hQ (parse2 (bs s)) (fun p' h1 h2 => by rw [← h2]; exact parse2_text h1) 300 0 2 H0 none [] none [] hN5 (Nat.zero_le _) (by simp) (by simp) (by omega) (by omega) g0 rfl
    simpa using this
end
end Go.Am
