import Derived.Test.YtfgkfhjlcbccaaaF6T
import Derived.Test.YtfgkfhjlcbccaaaU2
set_option linter.unusedVariables false
set_option linter.unusedSimpArgs false
namespace Go.Am
/-! 13: cryostat/cryostatlaw0.CopyPage -/
def law0_CopyPage.cx : Cx := ⟨tys, [], [], [], [], noDyn, [.cell 2 25]⟩
def law0_CopyPage : Sm := fun xs H Q => ∃ k, callK (law0_CopyPage.cx) Go.Proofs.Try.f13 k xs H Q
theorem law0_CopyPage_eq (k : Nat) (z0 : Bool) (z1 : Bool) (z2 : Pl) (z2n : Nat) (z3 : Pl) (z3n : Nat) (z4 : Pl) (z4n : Nat) (H : Hp) (Q : Post) : callK (law0_CopyPage.cx) Go.Proofs.Try.f13 (k + 1) [.agg [.bool z0, .bool z1, .sl z2 z2n 1, .sl z3 z3n 1, .sl z4 z4n 1]] H Q = (
 chk true (rdN H z2 (z2n * 1) fun c0 =>
 ap0 H 9 1 16 c0 z2n fun H1 =>
 chk true (rdN H1 z3 (z3n * 1) fun c2 =>
 ap0 H1 9 1 16 c2 z3n fun H3 =>
 chk true (rdN H3 z4 (z4n * 1) fun c4 =>
 ap0 H3 3 1 8 c4 z4n fun H5 =>
 Q (.agg [(.bool z0), (.bool z1), (.sl (some ((ln H), 0)) z2n 1), (.sl (some ((ln H1), 0)) z3n 1), (.sl (some ((ln H3), 0)) z4n 1)]) H5)))) := by kernel_rfl
theorem law0_CopyPage_ok : Sound Go.Proofs.Try.prog 13 (law0_CopyPage) := prog_ok.sound (cx := law0_CopyPage.cx) rfl (EnvOK.nil _) (noDyn_ok _) Go.Proofs.Try.func13 rfl

/-! 50: cryostat/page.rising -/
def page_rising.cx : Cx := ⟨tys, [], [(2, [0, 3])], [], [], noDyn, [.tmp 2]⟩
def page_rising : Sm := fun xs H Q => ∃ k, callK (page_rising.cx) Go.Proofs.Try.f50 k xs H Q
def page_rising.l2 (k : Nat) (xx0 : Pl) (nx1 : Nat) (ix2 : Int) (H : Hp) (Q : Post) : Prop := loopK (page_rising.cx) Go.Proofs.Try.f50 2 k ((.g (.sl xx0 nx1 1)) :: .bad :: .bad :: (.g (.int .i64 ix2)) :: B 16 ([])) H Q
theorem page_rising_eq (k : Nat) (z0 : Pl) (z0n : Nat) (H : Hp) (Q : Post) : callK (page_rising.cx) Go.Proofs.Try.f50 (k + 1) [.g (.sl z0 z0n 1)] H Q = (
 page_rising.l2 k z0 z0n 1 H Q) := by kernel_rfl
theorem page_rising.l2_eq (k : Nat) (xx0 : Pl) (nx1 : Nat) (ix2 : Int) (H : Hp) (Q : Post) : page_rising.l2 (k + 1) xx0 nx1 ix2 H Q = (
 bite (ltI ix2 (nI nx1))
 (chk true (chk ((leI 0 (wrapI .i64 (ix2 - 1))) && (ltI (wrapI .i64 (ix2 - 1)) (nI nx1))) (pS xx0 fun n0 n1 =>
  rd H n0 (n1 + ((tN (wrapI .i64 (ix2 - 1))) * 1)) fun v2 =>
  dS v2 fun s3 =>
  chk true (chk ((leI 0 ix2) && (ltI ix2 (nI nx1))) (pS xx0 fun n4 n5 =>
  rd H n4 (n5 + ((tN ix2) * 1)) fun v6 =>
  dS v6 fun s7 =>
  bite (!(strLt s3 s7))
  (Q (.g (.bool false)) H)
  (page_rising.l2 k xx0 nx1 (wrapI .i64 (ix2 + 1)) H Q))))))
 (Q (.g (.bool true)) H)) := by kernel_rfl
theorem page_rising_ok : Sound Go.Proofs.Try.prog 50 (page_rising) := prog_ok.sound (cx := page_rising.cx) rfl (EnvOK.nil _) (noDyn_ok _) Go.Proofs.Try.func50 rfl

/-! 68: slices.IndexFunc[[]string,string] -/
def slices_IndexFunc__string_string.cx (E : Nat → Sm) : Cx := ⟨tys, [], [(2, [0, 1, 7, 8])], [], [], E, [.tmp 4]⟩
def slices_IndexFunc__string_string (E : Nat → Sm) : Sm := fun xs H Q => ∃ k, callK (slices_IndexFunc__string_string.cx E) Go.Proofs.Try.f68 k xs H Q
def slices_IndexFunc__string_string.l2 (E : Nat → Sm) (k : Nat) (xx0 : Pl) (nx1 : Nat) (nx2 : Nat) (cx3 : List (Nat × Nat)) (ix4 : Int) (ix5 : Int) (H : Hp) (Q : Post) : Prop := loopK (slices_IndexFunc__string_string.cx E) Go.Proofs.Try.f68 2 k ((.g (.sl xx0 nx1 1)) :: (.g (.fn nx2 cx3)) :: B 5 ((.g (.int .i64 ix4)) :: (.g (.int .i64 ix5)) :: B 10 ([]))) H Q
theorem slices_IndexFunc__string_string_eq (E : Nat → Sm) (k : Nat) (z0 : Pl) (z0n : Nat) (z1 : Nat) (z1c : List (Nat × Nat)) (H : Hp) (Q : Post) : callK (slices_IndexFunc__string_string.cx E) Go.Proofs.Try.f68 (k + 1) [.g (.sl z0 z0n 1), .g (.fn z1 z1c)] H Q = (
 slices_IndexFunc__string_string.l2 E k z0 z0n z1 z1c (nI z0n) 0 H Q) := by kernel_rfl
theorem slices_IndexFunc__string_string.l2_eq (E : Nat → Sm) (k : Nat) (xx0 : Pl) (nx1 : Nat) (nx2 : Nat) (cx3 : List (Nat × Nat)) (ix4 : Int) (ix5 : Int) (H : Hp) (Q : Post) : slices_IndexFunc__string_string.l2 E (k + 1) xx0 nx1 nx2 cx3 ix4 ix5 H Q = (
 bite (ltI ix5 ix4)
 (chk true (chk ((leI 0 ix5) && (ltI ix5 (nI nx1))) (pS xx0 fun n0 n1 =>
  rd H n0 (n1 + ((tN ix5) * 1)) fun v2 =>
  dS v2 fun s3 =>
  cl (E nx2) (cpl [(.g (.str s3))] cx3) H fun r4 H5 =>
  rG r4 fun v6 =>
  dB v6 fun b7 =>
  bite b7
  (Q (.g (.int .i64 ix5)) H5)
  (slices_IndexFunc__string_string.l2 E k xx0 nx1 nx2 cx3 ix4 (wrapI .i64 (ix5 + 1)) H5 Q))))
 (Q (.g (.int .i64 (-1))) H)) := by kernel_rfl
theorem slices_IndexFunc__string_string_ok (E : Nat → Sm) (hE : ∀ f, SoundC Go.Proofs.Try.prog f (E f)) : Sound Go.Proofs.Try.prog 68 (slices_IndexFunc__string_string E) := prog_ok.sound (cx := slices_IndexFunc__string_string.cx E) rfl (EnvOK.nil _) hE Go.Proofs.Try.func68 rfl

/-! 59: slices.ContainsFunc[[]string,string] -/
def slices_ContainsFunc__string_string.cx (E : Nat → Sm) : Cx := ⟨tys, [], [], [], [(68, (slices_IndexFunc__string_string E))], E, [.tmp 4]⟩
def slices_ContainsFunc__string_string (E : Nat → Sm) : Sm := fun xs H Q => ∃ k, callK (slices_ContainsFunc__string_string.cx E) Go.Proofs.Try.f59 k xs H Q
theorem slices_ContainsFunc__string_string_eq (E : Nat → Sm) (k : Nat) (z0 : Pl) (z0n : Nat) (z1 : Nat) (z1c : List (Nat × Nat)) (H : Hp) (Q : Post) : callK (slices_ContainsFunc__string_string.cx E) Go.Proofs.Try.f59 (k + 1) [.g (.sl z0 z0n 1), .g (.fn z1 z1c)] H Q = (
 cl (slices_IndexFunc__string_string E) [(.g (.sl z0 z0n 1)), (.g (.fn z1 z1c))] H fun r0 H1 =>
 rG r0 fun v2 =>
 dI .i64 v2 fun i3 =>
 Q (.g (.bool (leI 0 i3))) H1) := by kernel_rfl
theorem slices_ContainsFunc__string_string_ok (E : Nat → Sm) (hE : ∀ f, SoundC Go.Proofs.Try.prog f (E f)) : Sound Go.Proofs.Try.prog 59 (slices_ContainsFunc__string_string E) := prog_ok.sound (cx := slices_ContainsFunc__string_string.cx E) rfl (EnvOK.cons ((slices_IndexFunc__string_string_ok E hE).c ⟨_, Go.Proofs.Try.func68, by kernel_rfl, by kernel_rfl⟩) (EnvOK.nil _)) hE Go.Proofs.Try.func59 rfl

/-! 60: cryostat/page.all[string]$1 -/
def page_all_string_1.cx (E : Nat → Sm) : Cx := ⟨tys, [], [], [], [], E, [.tmp 3]⟩
def page_all_string_1 (E : Nat → Sm) : Sm := fun xs H Q => ∃ k, callK (page_all_string_1.cx E) Go.Proofs.Try.f60 k xs H Q
theorem page_all_string_1_eq (E : Nat → Sm) (k : Nat) (z0 : ByteArray) (z1 : Nat) (z1o : Nat) (H : Hp) (Q : Post) : callK (page_all_string_1.cx E) Go.Proofs.Try.f60 (k + 1) [.g (.str z0), .g (.ptr (some (z1, z1o)))] H Q = (
 rd H z1 z1o fun v0 =>
 dF v0 fun n1 c2 =>
 cl (E n1) (cpl [(.g (.str z0))] c2) H fun r3 H4 =>
 rG r3 fun v5 =>
 dB v5 fun b6 =>
 Q (.g (.bool (!b6))) H4) := by kernel_rfl
theorem page_all_string_1_ok (E : Nat → Sm) (hE : ∀ f, SoundC Go.Proofs.Try.prog f (E f)) : Sound Go.Proofs.Try.prog 60 (page_all_string_1 E) := prog_ok.sound (cx := page_all_string_1.cx E) rfl (EnvOK.nil _) hE Go.Proofs.Try.func60 rfl

/-! 51: cryostat/page.all[string] -/
def page_all_string.cx (E : Nat → Sm) : Cx := ⟨tys, [3], [], [], [(59, (slices_ContainsFunc__string_string (dynOf [(60, (page_all_string_1 E))])))], E, [.tmp 4]⟩
def page_all_string (E : Nat → Sm) : Sm := fun xs H Q => ∃ k, callK (page_all_string.cx E) Go.Proofs.Try.f51 k xs H Q
theorem page_all_string_eq (E : Nat → Sm) (k : Nat) (z0 : Pl) (z0n : Nat) (z1 : Nat) (z1c : List (Nat × Nat)) (H : Hp) (Q : Post) : callK (page_all_string.cx E) Go.Proofs.Try.f51 (k + 1) [.g (.sl z0 z0n 1), .g (.fn z1 z1c)] H Q = (
 cl (slices_ContainsFunc__string_string (dynOf [(60, (page_all_string_1 E))])) [(.g (.sl z0 z0n 1)), (.g (.fn 60 [((ln H), 0)]))] (pu H (.row true 77 [(.fn z1 z1c)])) fun r0 H1 =>
 rG r0 fun v2 =>
 dB v2 fun b3 =>
 Q (.g (.bool (!b3))) H1) := by kernel_rfl
theorem page_all_string_ok (E : Nat → Sm) (hE : ∀ f, SoundC Go.Proofs.Try.prog f (E f)) : Sound Go.Proofs.Try.prog 51 (page_all_string E) := prog_ok.sound (cx := page_all_string.cx E) rfl (EnvOK.cons ((slices_ContainsFunc__string_string_ok (dynOf [(60, (page_all_string_1 E))]) (dynOf_ok (EnvOK.cons ((page_all_string_1_ok E hE).c ⟨_, Go.Proofs.Try.func60, by kernel_rfl, by kernel_rfl⟩) (EnvOK.nil _)))).c ⟨_, Go.Proofs.Try.func59, by kernel_rfl, by kernel_rfl⟩) (EnvOK.nil _)) hE Go.Proofs.Try.func51 rfl

/-! 69: slices.IndexFunc[[]int,int] -/
def slices_IndexFunc__int_int.cx (E : Nat → Sm) : Cx := ⟨tys, [], [(2, [0, 1, 7, 8])], [], [], E, [.tmp 4]⟩
def slices_IndexFunc__int_int (E : Nat → Sm) : Sm := fun xs H Q => ∃ k, callK (slices_IndexFunc__int_int.cx E) Go.Proofs.Try.f69 k xs H Q
def slices_IndexFunc__int_int.l2 (E : Nat → Sm) (k : Nat) (xx0 : Pl) (nx1 : Nat) (nx2 : Nat) (cx3 : List (Nat × Nat)) (ix4 : Int) (ix5 : Int) (H : Hp) (Q : Post) : Prop := loopK (slices_IndexFunc__int_int.cx E) Go.Proofs.Try.f69 2 k ((.g (.sl xx0 nx1 1)) :: (.g (.fn nx2 cx3)) :: B 5 ((.g (.int .i64 ix4)) :: (.g (.int .i64 ix5)) :: B 10 ([]))) H Q
theorem slices_IndexFunc__int_int_eq (E : Nat → Sm) (k : Nat) (z0 : Pl) (z0n : Nat) (z1 : Nat) (z1c : List (Nat × Nat)) (H : Hp) (Q : Post) : callK (slices_IndexFunc__int_int.cx E) Go.Proofs.Try.f69 (k + 1) [.g (.sl z0 z0n 1), .g (.fn z1 z1c)] H Q = (
 slices_IndexFunc__int_int.l2 E k z0 z0n z1 z1c (nI z0n) 0 H Q) := by kernel_rfl
theorem slices_IndexFunc__int_int.l2_eq (E : Nat → Sm) (k : Nat) (xx0 : Pl) (nx1 : Nat) (nx2 : Nat) (cx3 : List (Nat × Nat)) (ix4 : Int) (ix5 : Int) (H : Hp) (Q : Post) : slices_IndexFunc__int_int.l2 E (k + 1) xx0 nx1 nx2 cx3 ix4 ix5 H Q = (
 bite (ltI ix5 ix4)
 (chk true (chk ((leI 0 ix5) && (ltI ix5 (nI nx1))) (pS xx0 fun n0 n1 =>
  rd H n0 (n1 + ((tN ix5) * 1)) fun v2 =>
  dI .i64 v2 fun i3 =>
  cl (E nx2) (cpl [(.g (.int .i64 i3))] cx3) H fun r4 H5 =>
  rG r4 fun v6 =>
  dB v6 fun b7 =>
  bite b7
  (Q (.g (.int .i64 ix5)) H5)
  (slices_IndexFunc__int_int.l2 E k xx0 nx1 nx2 cx3 ix4 (wrapI .i64 (ix5 + 1)) H5 Q))))
 (Q (.g (.int .i64 (-1))) H)) := by kernel_rfl
theorem slices_IndexFunc__int_int_ok (E : Nat → Sm) (hE : ∀ f, SoundC Go.Proofs.Try.prog f (E f)) : Sound Go.Proofs.Try.prog 69 (slices_IndexFunc__int_int E) := prog_ok.sound (cx := slices_IndexFunc__int_int.cx E) rfl (EnvOK.nil _) hE Go.Proofs.Try.func69 rfl

/-! 61: slices.ContainsFunc[[]int,int] -/
def slices_ContainsFunc__int_int.cx (E : Nat → Sm) : Cx := ⟨tys, [], [], [], [(69, (slices_IndexFunc__int_int E))], E, [.tmp 4]⟩
def slices_ContainsFunc__int_int (E : Nat → Sm) : Sm := fun xs H Q => ∃ k, callK (slices_ContainsFunc__int_int.cx E) Go.Proofs.Try.f61 k xs H Q
theorem slices_ContainsFunc__int_int_eq (E : Nat → Sm) (k : Nat) (z0 : Pl) (z0n : Nat) (z1 : Nat) (z1c : List (Nat × Nat)) (H : Hp) (Q : Post) : callK (slices_ContainsFunc__int_int.cx E) Go.Proofs.Try.f61 (k + 1) [.g (.sl z0 z0n 1), .g (.fn z1 z1c)] H Q = (
 cl (slices_IndexFunc__int_int E) [(.g (.sl z0 z0n 1)), (.g (.fn z1 z1c))] H fun r0 H1 =>
 rG r0 fun v2 =>
 dI .i64 v2 fun i3 =>
 Q (.g (.bool (leI 0 i3))) H1) := by kernel_rfl
theorem slices_ContainsFunc__int_int_ok (E : Nat → Sm) (hE : ∀ f, SoundC Go.Proofs.Try.prog f (E f)) : Sound Go.Proofs.Try.prog 61 (slices_ContainsFunc__int_int E) := prog_ok.sound (cx := slices_ContainsFunc__int_int.cx E) rfl (EnvOK.cons ((slices_IndexFunc__int_int_ok E hE).c ⟨_, Go.Proofs.Try.func69, by kernel_rfl, by kernel_rfl⟩) (EnvOK.nil _)) hE Go.Proofs.Try.func61 rfl

/-! 62: cryostat/page.all[int]$1 -/
def page_all_int_1.cx (E : Nat → Sm) : Cx := ⟨tys, [], [], [], [], E, [.tmp 3]⟩
def page_all_int_1 (E : Nat → Sm) : Sm := fun xs H Q => ∃ k, callK (page_all_int_1.cx E) Go.Proofs.Try.f62 k xs H Q
theorem page_all_int_1_eq (E : Nat → Sm) (k : Nat) (z0 : Int) (z1 : Nat) (z1o : Nat) (H : Hp) (Q : Post) : callK (page_all_int_1.cx E) Go.Proofs.Try.f62 (k + 1) [.g (.int .i64 z0), .g (.ptr (some (z1, z1o)))] H Q = (
 rd H z1 z1o fun v0 =>
 dF v0 fun n1 c2 =>
 cl (E n1) (cpl [(.g (.int .i64 z0))] c2) H fun r3 H4 =>
 rG r3 fun v5 =>
 dB v5 fun b6 =>
 Q (.g (.bool (!b6))) H4) := by kernel_rfl
theorem page_all_int_1_ok (E : Nat → Sm) (hE : ∀ f, SoundC Go.Proofs.Try.prog f (E f)) : Sound Go.Proofs.Try.prog 62 (page_all_int_1 E) := prog_ok.sound (cx := page_all_int_1.cx E) rfl (EnvOK.nil _) hE Go.Proofs.Try.func62 rfl

/-! 54: cryostat/page.all[int] -/
def page_all_int.cx (E : Nat → Sm) : Cx := ⟨tys, [3], [], [], [(61, (slices_ContainsFunc__int_int (dynOf [(62, (page_all_int_1 E))])))], E, [.tmp 4]⟩
def page_all_int (E : Nat → Sm) : Sm := fun xs H Q => ∃ k, callK (page_all_int.cx E) Go.Proofs.Try.f54 k xs H Q
theorem page_all_int_eq (E : Nat → Sm) (k : Nat) (z0 : Pl) (z0n : Nat) (z1 : Nat) (z1c : List (Nat × Nat)) (H : Hp) (Q : Post) : callK (page_all_int.cx E) Go.Proofs.Try.f54 (k + 1) [.g (.sl z0 z0n 1), .g (.fn z1 z1c)] H Q = (
 cl (slices_ContainsFunc__int_int (dynOf [(62, (page_all_int_1 E))])) [(.g (.sl z0 z0n 1)), (.g (.fn 62 [((ln H), 0)]))] (pu H (.row true 58 [(.fn z1 z1c)])) fun r0 H1 =>
 rG r0 fun v2 =>
 dB v2 fun b3 =>
 Q (.g (.bool (!b3))) H1) := by kernel_rfl
theorem page_all_int_ok (E : Nat → Sm) (hE : ∀ f, SoundC Go.Proofs.Try.prog f (E f)) : Sound Go.Proofs.Try.prog 54 (page_all_int E) := prog_ok.sound (cx := page_all_int.cx E) rfl (EnvOK.cons ((slices_ContainsFunc__int_int_ok (dynOf [(62, (page_all_int_1 E))]) (dynOf_ok (EnvOK.cons ((page_all_int_1_ok E hE).c ⟨_, Go.Proofs.Try.func62, by kernel_rfl, by kernel_rfl⟩) (EnvOK.nil _)))).c ⟨_, Go.Proofs.Try.func61, by kernel_rfl, by kernel_rfl⟩) (EnvOK.nil _)) hE Go.Proofs.Try.func54 rfl

/-! 72: slices.Values[[]int,int]$1 -/
def slices_Values__int_int_1.cx (E : Nat → Sm) : Cx := ⟨tys, [], [(1, [0, 5, 6, 7])], [], [], E, []⟩
def slices_Values__int_int_1 (E : Nat → Sm) : Sm := fun xs H Q => ∃ k, callK (slices_Values__int_int_1.cx E) Go.Proofs.Try.f72 k xs H Q
def slices_Values__int_int_1.l1 (E : Nat → Sm) (k : Nat) (nx0 : Nat) (cx1 : List (Nat × Nat)) (xx2 : Pl) (nx3 : Nat) (ix4 : Int) (ix5 : Int) (H : Hp) (Q : Post) : Prop := loopK (slices_Values__int_int_1.cx E) Go.Proofs.Try.f72 1 k ((.g (.fn nx0 cx1)) :: B 4 ((.g (.sl xx2 nx3 1)) :: (.g (.int .i64 ix4)) :: (.g (.int .i64 ix5)) :: B 8 ([]))) H Q
theorem slices_Values__int_int_1_eq (E : Nat → Sm) (k : Nat) (z0 : Nat) (z0c : List (Nat × Nat)) (z1 : Nat) (z1o : Nat) (H : Hp) (Q : Post) : callK (slices_Values__int_int_1.cx E) Go.Proofs.Try.f72 (k + 1) [.g (.fn z0 z0c), .g (.ptr (some (z1, z1o)))] H Q = (
 rd H z1 z1o fun v0 =>
 dL 1 v0 fun x1 n2 =>
 slices_Values__int_int_1.l1 E k z0 z0c x1 n2 (nI n2) 0 H Q) := by kernel_rfl
theorem slices_Values__int_int_1.l1_eq (E : Nat → Sm) (k : Nat) (nx0 : Nat) (cx1 : List (Nat × Nat)) (xx2 : Pl) (nx3 : Nat) (ix4 : Int) (ix5 : Int) (H : Hp) (Q : Post) : slices_Values__int_int_1.l1 E (k + 1) nx0 cx1 xx2 nx3 ix4 ix5 H Q = (
 bite (ltI ix5 ix4)
 (chk true (chk ((leI 0 ix5) && (ltI ix5 (nI nx3))) (pS xx2 fun n0 n1 =>
  rd H n0 (n1 + ((tN ix5) * 1)) fun v2 =>
  dI .i64 v2 fun i3 =>
  cl (E nx0) (cpl [(.g (.int .i64 i3))] cx1) H fun r4 H5 =>
  rG r4 fun v6 =>
  dB v6 fun b7 =>
  bite (!b7)
  (Q (.tup []) H5)
  (slices_Values__int_int_1.l1 E k nx0 cx1 xx2 nx3 ix4 (wrapI .i64 (ix5 + 1)) H5 Q))))
 (Q (.tup []) H)) := by kernel_rfl
theorem slices_Values__int_int_1_ok (E : Nat → Sm) (hE : ∀ f, SoundC Go.Proofs.Try.prog f (E f)) : Sound Go.Proofs.Try.prog 72 (slices_Values__int_int_1 E) := prog_ok.sound (cx := slices_Values__int_int_1.cx E) rfl (EnvOK.nil _) hE Go.Proofs.Try.func72 rfl

/-! 64: slices.Values[[]int,int] -/
def slices_Values__int_int.cx (E : Nat → Sm) : Cx := ⟨tys, [1], [], [], [], E, [.tmp 2]⟩
def slices_Values__int_int (E : Nat → Sm) : Sm := fun xs H Q => ∃ k, callK (slices_Values__int_int.cx E) Go.Proofs.Try.f64 k xs H Q
theorem slices_Values__int_int_eq (E : Nat → Sm) (k : Nat) (z0 : Pl) (z0n : Nat) (H : Hp) (Q : Post) : callK (slices_Values__int_int.cx E) Go.Proofs.Try.f64 (k + 1) [.g (.sl z0 z0n 1)] H Q = (
 Q (.g (.fn 72 [((ln H), 0)])) (pu H (.row true 23 [(.sl z0 z0n 1)]))) := by kernel_rfl
theorem slices_Values__int_int_ok (E : Nat → Sm) (hE : ∀ f, SoundC Go.Proofs.Try.prog f (E f)) : Sound Go.Proofs.Try.prog 64 (slices_Values__int_int E) := prog_ok.sound (cx := slices_Values__int_int.cx E) rfl (EnvOK.nil _) hE Go.Proofs.Try.func64 rfl

/-! 70: slices.Collect[int] -/
def slices_Collect_int.cx : Cx := ⟨tys, [], [], [], [(73, slices_AppendSeq__int_int)], noDyn, [.tmp 2]⟩
def slices_Collect_int : Sm := fun xs H Q => ∃ k, callK (slices_Collect_int.cx) Go.Proofs.Try.f70 k xs H Q
theorem slices_Collect_int_eq (k : Nat) (z0 : Nat) (z0c : List (Nat × Nat)) (H : Hp) (Q : Post) : callK (slices_Collect_int.cx) Go.Proofs.Try.f70 (k + 1) [.g (.fn z0 z0c)] H Q = (
 cl slices_AppendSeq__int_int [(.g (.sl none 0 0)), (.g (.fn z0 z0c))] H fun r0 H1 =>
 rG r0 fun v2 =>
 dL 1 v2 fun x3 n4 =>
 Q (.g (.sl x3 n4 1)) H1) := by kernel_rfl
theorem slices_Collect_int_ok : Sound Go.Proofs.Try.prog 70 (slices_Collect_int) := prog_ok.sound (cx := slices_Collect_int.cx) rfl (EnvOK.cons (slices_AppendSeq__int_int_ok) (EnvOK.nil _)) (noDyn_ok _) Go.Proofs.Try.func70 rfl

/-! 63: slices.Sorted[int] -/
def slices_Sorted_int.cx : Cx := ⟨tys, [], [], [], [(70, slices_Collect_int), (71, slices_Sort__int_int)], noDyn, [.tmp 2]⟩
def slices_Sorted_int : Sm := fun xs H Q => ∃ k, callK (slices_Sorted_int.cx) Go.Proofs.Try.f63 k xs H Q
theorem slices_Sorted_int_eq (k : Nat) (z0 : Nat) (z0c : List (Nat × Nat)) (H : Hp) (Q : Post) : callK (slices_Sorted_int.cx) Go.Proofs.Try.f63 (k + 1) [.g (.fn z0 z0c)] H Q = (
 cl slices_Collect_int [(.g (.fn z0 z0c))] H fun r0 H1 =>
 rG r0 fun v2 =>
 dL 1 v2 fun x3 n4 =>
 cl slices_Sort__int_int [(.g (.sl x3 n4 1))] H1 fun r5 H6 =>
 Q (.g (.sl x3 n4 1)) H6) := by kernel_rfl
theorem slices_Sorted_int_ok : Sound Go.Proofs.Try.prog 63 (slices_Sorted_int) := prog_ok.sound (cx := slices_Sorted_int.cx) rfl (EnvOK.cons ((slices_Collect_int_ok).c ⟨_, Go.Proofs.Try.func70, by kernel_rfl, by kernel_rfl⟩) (EnvOK.cons (slices_Sort__int_int_ok) (EnvOK.nil _))) (noDyn_ok _) Go.Proofs.Try.func63 rfl

/-! 65: slices.Compact[[]int,int] -/
def slices_Compact__int_int.cx : Cx := ⟨tys, [], [(4, [0, 3]), (9, [0, 3, 4, 5])], [], [], noDyn, [.tmp 2]⟩
def slices_Compact__int_int : Sm := fun xs H Q => ∃ k, callK (slices_Compact__int_int.cx) Go.Proofs.Try.f65 k xs H Q
def slices_Compact__int_int.l4 (k : Nat) (xx0 : Pl) (nx1 : Nat) (ix2 : Int) (H : Hp) (Q : Post) : Prop := loopK (slices_Compact__int_int.cx) Go.Proofs.Try.f65 4 k ((.g (.sl xx0 nx1 1)) :: .bad :: .bad :: (.g (.int .i64 ix2)) :: B 57 ([])) H Q
def slices_Compact__int_int.l9 (k : Nat) (xx0 : Pl) (nx1 : Nat) (ix2 : Int) (xx3 : Pl) (nx4 : Nat) (ix5 : Int) (H : Hp) (Q : Post) : Prop := loopK (slices_Compact__int_int.cx) Go.Proofs.Try.f65 9 k ((.g (.sl xx0 nx1 1)) :: .bad :: .bad :: (.g (.int .i64 ix2)) :: (.g (.sl xx3 nx4 1)) :: (.g (.int .i64 ix5)) :: B 55 ([])) H Q
theorem slices_Compact__int_int_eq (k : Nat) (z0 : Pl) (z0n : Nat) (H : Hp) (Q : Post) : callK (slices_Compact__int_int.cx) Go.Proofs.Try.f65 (k + 1) [.g (.sl z0 z0n 1)] H Q = (
 bite (ltI (nI z0n) 2)
 (Q (.g (.sl z0 z0n 1)) H)
 (slices_Compact__int_int.l4 k z0 z0n 1 H Q)) := by kernel_rfl
theorem slices_Compact__int_int.l4_eq (k : Nat) (xx0 : Pl) (nx1 : Nat) (ix2 : Int) (H : Hp) (Q : Post) : slices_Compact__int_int.l4 (k + 1) xx0 nx1 ix2 H Q = (
 bite (ltI ix2 (nI nx1))
 (chk true (chk ((leI 0 ix2) && (ltI ix2 (nI nx1))) (pS xx0 fun n0 n1 =>
  rd H n0 (n1 + ((tN ix2) * 1)) fun v2 =>
  dI .i64 v2 fun i3 =>
  chk true (chk ((leI 0 (wrapI .i64 (ix2 - 1))) && (ltI (wrapI .i64 (ix2 - 1)) (nI nx1))) (pS xx0 fun n4 n5 =>
  rd H n4 (n5 + ((tN (wrapI .i64 (ix2 - 1))) * 1)) fun v6 =>
  dI .i64 v6 fun i7 =>
  bite (eqI i3 i7)
  (chk true (chk (leI 0 ix2) (chk (leN (tN ix2) nx1) (slices_Compact__int_int.l9 k xx0 nx1 ix2 (shf xx0 ((tN ix2) * 1)) (nx1 - (tN ix2)) 1 H Q))))
  (slices_Compact__int_int.l4 k xx0 nx1 (wrapI .i64 (ix2 + 1)) H Q))))))
 (Q (.g (.sl xx0 nx1 1)) H)) := by kernel_rfl
theorem slices_Compact__int_int.l9_eq (k : Nat) (xx0 : Pl) (nx1 : Nat) (ix2 : Int) (xx3 : Pl) (nx4 : Nat) (ix5 : Int) (H : Hp) (Q : Post) : slices_Compact__int_int.l9 (k + 1) xx0 nx1 ix2 xx3 nx4 ix5 H Q = (
 bite (ltI ix5 (nI nx4))
 (chk true (chk ((leI 0 ix5) && (ltI ix5 (nI nx4))) (pS xx3 fun n0 n1 =>
  rd H n0 (n1 + ((tN ix5) * 1)) fun v2 =>
  dI .i64 v2 fun i3 =>
  chk true (chk ((leI 0 (wrapI .i64 (ix5 - 1))) && (ltI (wrapI .i64 (ix5 - 1)) (nI nx4))) (pS xx3 fun n4 n5 =>
  rd H n4 (n5 + ((tN (wrapI .i64 (ix5 - 1))) * 1)) fun v6 =>
  dI .i64 v6 fun i7 =>
  bite (!(eqI i3 i7))
  (chk true (chk ((leI 0 ix5) && (ltI ix5 (nI nx4))) (pS xx3 fun n8 n9 =>
   rd H n8 (n9 + ((tN ix5) * 1)) fun v10 =>
   dI .i64 v10 fun i11 =>
   chk true (chk ((leI 0 ix2) && (ltI ix2 (nI nx1))) (pS xx0 fun n12 n13 =>
   wr H n12 (n13 + ((tN ix2) * 1)) (.int .i64 i11) fun H14 =>
   slices_Compact__int_int.l9 k xx0 nx1 (wrapI .i64 (ix2 + 1)) xx3 nx4 (wrapI .i64 (ix5 + 1)) H14 Q)))))
  (slices_Compact__int_int.l9 k xx0 nx1 ix2 xx3 nx4 (wrapI .i64 (ix5 + 1)) H Q))))))
 (chk true (chk (leI 0 ix2) (chk (leN (tN ix2) nx1) (chk true (clr H (shf xx0 ((tN ix2) * 1)) (nx1 - (tN ix2)) [(.int .i64 0)] fun H15 =>
  chk true (chk (leI 0 ix2) (chk ((leN 0 (tN ix2)) && ((leN (tN ix2) nx1) || (room H15 xx0 ((tN ix2) * 1)))) (Q (.g (.sl (shf xx0 0) ((tN ix2) - 0) 1)) H15))))))))) := by kernel_rfl
theorem slices_Compact__int_int_ok : Sound Go.Proofs.Try.prog 65 (slices_Compact__int_int) := prog_ok.sound (cx := slices_Compact__int_int.cx) rfl (EnvOK.nil _) (noDyn_ok _) Go.Proofs.Try.func65 rfl

/-! 56: cryostat/page.unlike -/
def page_unlike.cx (E : Nat → Sm) : Cx := ⟨tys, [], [], [], [(64, (slices_Values__int_int E)), (63, slices_Sorted_int), (65, slices_Compact__int_int)], E, [.tmp 2]⟩
def page_unlike (E : Nat → Sm) : Sm := fun xs H Q => ∃ k, callK (page_unlike.cx E) Go.Proofs.Try.f56 k xs H Q
theorem page_unlike_eq (E : Nat → Sm) (k : Nat) (z0 : Pl) (z0n : Nat) (H : Hp) (Q : Post) : callK (page_unlike.cx E) Go.Proofs.Try.f56 (k + 1) [.g (.sl z0 z0n 1)] H Q = (
 cl (slices_Values__int_int E) [(.g (.sl z0 z0n 1))] H fun r0 H1 =>
 rG r0 fun v2 =>
 cl slices_Sorted_int [(.g v2)] H1 fun r3 H4 =>
 rG r3 fun v5 =>
 dL 1 v5 fun x6 n7 =>
 cl slices_Compact__int_int [(.g (.sl x6 n7 1))] H4 fun r8 H9 =>
 rG r8 fun v10 =>
 dL 1 v10 fun x11 n12 =>
 Q (.g (.bool (eqI (nI n12) (nI z0n)))) H9) := by kernel_rfl
theorem page_unlike_ok (E : Nat → Sm) (hE : ∀ f, SoundC Go.Proofs.Try.prog f (E f)) : Sound Go.Proofs.Try.prog 56 (page_unlike E) := prog_ok.sound (cx := page_unlike.cx E) rfl (EnvOK.cons ((slices_Values__int_int_ok E hE).c ⟨_, Go.Proofs.Try.func64, by kernel_rfl, by kernel_rfl⟩) (EnvOK.cons ((slices_Sorted_int_ok).c ⟨_, Go.Proofs.Try.func63, by kernel_rfl, by kernel_rfl⟩) (EnvOK.cons ((slices_Compact__int_int_ok).c ⟨_, Go.Proofs.Try.func65, by kernel_rfl, by kernel_rfl⟩) (EnvOK.nil _)))) hE Go.Proofs.Try.func56 rfl

/-! 52: cryostat/page.Key -/
def page_Key.cx : Cx := ⟨tys, [], [], [], [], noDyn, [.tmp 2]⟩
def page_Key : Sm := fun xs H Q => ∃ k, callK (page_Key.cx) Go.Proofs.Try.f52 k xs H Q
theorem page_Key_eq (k : Nat) (z0 : ByteArray) (H : Hp) (Q : Post) : callK (page_Key.cx) Go.Proofs.Try.f52 (k + 1) [.g (.str z0)] H Q = (
 bite (leI 1 (sz z0))
 (Q (.g (.bool (leI (sz z0) 6))) H)
 (Q (.g (.bool false)) H)) := by kernel_rfl
theorem page_Key_ok : Sound Go.Proofs.Try.prog 52 (page_Key) := prog_ok.sound (cx := page_Key.cx) rfl (EnvOK.nil _) (noDyn_ok _) Go.Proofs.Try.func52 rfl

/-! 53: cryostat/page.Value -/
def page_Value.cx : Cx := ⟨tys, [], [], [], [], noDyn, [.tmp 2]⟩
def page_Value : Sm := fun xs H Q => ∃ k, callK (page_Value.cx) Go.Proofs.Try.f53 k xs H Q
theorem page_Value_eq (k : Nat) (z0 : ByteArray) (H : Hp) (Q : Post) : callK (page_Value.cx) Go.Proofs.Try.f53 (k + 1) [.g (.str z0)] H Q = (
 Q (.g (.bool (leI (sz z0) 10))) H) := by kernel_rfl
theorem page_Value_ok : Sound Go.Proofs.Try.prog 53 (page_Value) := prog_ok.sound (cx := page_Value.cx) rfl (EnvOK.nil _) (noDyn_ok _) Go.Proofs.Try.func53 rfl

/-! 55: cryostat/page.Kid -/
def page_Kid.cx : Cx := ⟨tys, [], [], [], [], noDyn, [.tmp 2]⟩
def page_Kid : Sm := fun xs H Q => ∃ k, callK (page_Kid.cx) Go.Proofs.Try.f55 k xs H Q
theorem page_Kid_eq (k : Nat) (z0 : Int) (H : Hp) (Q : Post) : callK (page_Kid.cx) Go.Proofs.Try.f55 (k + 1) [.g (.int .i64 z0)] H Q = (
 bite (leI 1 z0)
 (Q (.g (.bool (ltI z0 48))) H)
 (Q (.g (.bool false)) H)) := by kernel_rfl
theorem page_Kid_ok : Sound Go.Proofs.Try.prog 55 (page_Kid) := prog_ok.sound (cx := page_Kid.cx) rfl (EnvOK.nil _) (noDyn_ok _) Go.Proofs.Try.func55 rfl

/-! 39: cryostat/page.Fits -/
def page_Fits.cx : Cx := ⟨tys, [], [], [], [(50, page_rising), (51, (page_all_string (dynOf [(52, page_Key), (53, page_Value), (55, page_Kid)]))), (54, (page_all_int (dynOf [(52, page_Key), (53, page_Value), (55, page_Kid)]))), (56, (page_unlike (dynOf [(52, page_Key), (53, page_Value), (55, page_Kid)])))], noDyn, [.tmp 2]⟩
def page_Fits : Sm := fun xs H Q => ∃ k, callK (page_Fits.cx) Go.Proofs.Try.f39 k xs H Q
theorem page_Fits_eq (k : Nat) (z0 : Bool) (z1 : Bool) (z2 : Pl) (z2n : Nat) (z3 : Pl) (z3n : Nat) (z4 : Pl) (z4n : Nat) (H : Hp) (Q : Post) : callK (page_Fits.cx) Go.Proofs.Try.f39 (k + 1) [.agg [.bool z0, .bool z1, .sl z2 z2n 1, .sl z3 z3n 1, .sl z4 z4n 1]] H Q = (
 bite (!z0)
 (Q (.g (.bool false)) H)
 (cl page_rising [(.g (.sl z2 z2n 1))] H fun r0 H1 =>
  rG r0 fun v2 =>
  dB v2 fun b3 =>
  bite (!b3)
  (Q (.g (.bool false)) H1)
  (cl (page_all_string (dynOf [(52, page_Key), (53, page_Value), (55, page_Kid)])) [(.g (.sl z2 z2n 1)), (.g (.fn 52 []))] H1 fun r4 H5 =>
   rG r4 fun v6 =>
   dB v6 fun b7 =>
   bite (!b7)
   (Q (.g (.bool false)) H5)
   (bite z1
    (bite (eqI (nI z3n) (nI z2n))
     (bite (eqI (nI z4n) 0)
      (cl (page_all_string (dynOf [(52, page_Key), (53, page_Value), (55, page_Kid)])) [(.g (.sl z3 z3n 1)), (.g (.fn 53 []))] H5 fun r8 H9 =>
       rG r8 fun v10 =>
       dB v10 fun b11 =>
       Q (.g (.bool b11)) H9)
      (Q (.g (.bool false)) H5))
     (Q (.g (.bool false)) H5))
    (bite (leI 1 (nI z2n))
     (bite (eqI (nI z3n) 0)
      (bite (eqI (nI z4n) (wrapI .i64 ((nI z2n) + 1)))
       (cl (page_all_int (dynOf [(52, page_Key), (53, page_Value), (55, page_Kid)])) [(.g (.sl z4 z4n 1)), (.g (.fn 55 []))] H5 fun r12 H13 =>
        rG r12 fun v14 =>
        dB v14 fun b15 =>
        bite b15
        (cl (page_unlike (dynOf [(52, page_Key), (53, page_Value), (55, page_Kid)])) [(.g (.sl z4 z4n 1))] H13 fun r16 H17 =>
         rG r16 fun v18 =>
         dB v18 fun b19 =>
         Q (.g (.bool b19)) H17)
        (Q (.g (.bool false)) H13))
       (Q (.g (.bool false)) H5))
      (Q (.g (.bool false)) H5))
     (Q (.g (.bool false)) H5)))))) := by kernel_rfl
theorem page_Fits_ok : Sound Go.Proofs.Try.prog 39 (page_Fits) := prog_ok.sound (cx := page_Fits.cx) rfl (EnvOK.cons ((page_rising_ok).c ⟨_, Go.Proofs.Try.func50, by kernel_rfl, by kernel_rfl⟩) (EnvOK.cons ((page_all_string_ok (dynOf [(52, page_Key), (53, page_Value), (55, page_Kid)]) (dynOf_ok (EnvOK.cons ((page_Key_ok).c ⟨_, Go.Proofs.Try.func52, by kernel_rfl, by kernel_rfl⟩) (EnvOK.cons ((page_Value_ok).c ⟨_, Go.Proofs.Try.func53, by kernel_rfl, by kernel_rfl⟩) (EnvOK.cons ((page_Kid_ok).c ⟨_, Go.Proofs.Try.func55, by kernel_rfl, by kernel_rfl⟩) (EnvOK.nil _)))))).c ⟨_, Go.Proofs.Try.func51, by kernel_rfl, by kernel_rfl⟩) (EnvOK.cons ((page_all_int_ok (dynOf [(52, page_Key), (53, page_Value), (55, page_Kid)]) (dynOf_ok (EnvOK.cons ((page_Key_ok).c ⟨_, Go.Proofs.Try.func52, by kernel_rfl, by kernel_rfl⟩) (EnvOK.cons ((page_Value_ok).c ⟨_, Go.Proofs.Try.func53, by kernel_rfl, by kernel_rfl⟩) (EnvOK.cons ((page_Kid_ok).c ⟨_, Go.Proofs.Try.func55, by kernel_rfl, by kernel_rfl⟩) (EnvOK.nil _)))))).c ⟨_, Go.Proofs.Try.func54, by kernel_rfl, by kernel_rfl⟩) (EnvOK.cons ((page_unlike_ok (dynOf [(52, page_Key), (53, page_Value), (55, page_Kid)]) (dynOf_ok (EnvOK.cons ((page_Key_ok).c ⟨_, Go.Proofs.Try.func52, by kernel_rfl, by kernel_rfl⟩) (EnvOK.cons ((page_Value_ok).c ⟨_, Go.Proofs.Try.func53, by kernel_rfl, by kernel_rfl⟩) (EnvOK.cons ((page_Kid_ok).c ⟨_, Go.Proofs.Try.func55, by kernel_rfl, by kernel_rfl⟩) (EnvOK.nil _)))))).c ⟨_, Go.Proofs.Try.func56, by kernel_rfl, by kernel_rfl⟩) (EnvOK.nil _))))) (noDyn_ok _) Go.Proofs.Try.func39 rfl

/-! 20: cryostat/page.May -/
def page_May.cx : Cx := ⟨tys, [], [], [], [(39, page_Fits)], noDyn, [.tmp 2]⟩
def page_May : Sm := fun xs H Q => ∃ k, callK (page_May.cx) Go.Proofs.Try.f20 k xs H Q
theorem page_May_eq (k : Nat) (z0 : Bool) (z1 : Bool) (z2 : Pl) (z2n : Nat) (z3 : Pl) (z3n : Nat) (z4 : Pl) (z4n : Nat) (H : Hp) (Q : Post) : callK (page_May.cx) Go.Proofs.Try.f20 (k + 1) [.agg [.bool z0, .bool z1, .sl z2 z2n 1, .sl z3 z3n 1, .sl z4 z4n 1]] H Q = (
 bite (leI (nI z2n) 4)
 (cl page_Fits [(.agg [(.bool z0), (.bool z1), (.sl z2 z2n 1), (.sl z3 z3n 1), (.sl z4 z4n 1)])] H fun r0 H1 =>
  rG r0 fun v2 =>
  dB v2 fun b3 =>
  Q (.g (.bool b3)) H1)
 (Q (.g (.bool false)) H)) := by kernel_rfl
theorem page_May_ok : Sound Go.Proofs.Try.prog 20 (page_May) := prog_ok.sound (cx := page_May.cx) rfl (EnvOK.cons ((page_Fits_ok).c ⟨_, Go.Proofs.Try.func39, by kernel_rfl, by kernel_rfl⟩) (EnvOK.nil _)) (noDyn_ok _) Go.Proofs.Try.func20 rfl

/-! 35: cryostat/page.sized -/
def page_sized.cx : Cx := ⟨tys, [], [], [], [], noDyn, [.tmp 4]⟩
def page_sized : Sm := fun xs H Q => ∃ k, callK (page_sized.cx) Go.Proofs.Try.f35 k xs H Q
theorem page_sized_eq (k : Nat) (z0 : Pl) (z0n : Nat) (z1 : ByteArray) (H : Hp) (Q : Post) : callK (page_sized.cx) Go.Proofs.Try.f35 (k + 1) [.g (.sl z0 z0n 1), .g (.str z1)] H Q = (
 chk true (ap H 5 1 1 z0 z0n [(.int .u8 (wrapI .u8 (sz z1)))] 1 fun x0 n1 H2 =>
 chk true (ap H2 5 1 1 x0 n1 (bytesOf z1) (szN z1) fun x3 n4 H5 =>
 Q (.g (.sl x3 n4 1)) H5))) := by kernel_rfl
theorem page_sized_ok : Sound Go.Proofs.Try.prog 35 (page_sized) := prog_ok.sound (cx := page_sized.cx) rfl (EnvOK.nil _) (noDyn_ok _) Go.Proofs.Try.func35 rfl

/-! 14: cryostat/page.Put -/
def page_Put.cx : Cx := ⟨tys, [16], [(7, [1, 4, 22, 23, 24]), (14, [4, 43, 44, 45])], [(6, [1, 4])], [(20, page_May), (35, page_sized)], noDyn, [.tmp 2, .tmp 3]⟩
def page_Put : Sm := fun xs H Q => ∃ k, callK (page_Put.cx) Go.Proofs.Try.f14 k xs H Q
def page_Put.l6 (k : Nat) (bx0 : Bool) (bx1 : Bool) (xx2 : Pl) (nx3 : Nat) (xx4 : Pl) (nx5 : Nat) (xx6 : Pl) (nx7 : Nat) (ax8 : Pl) (nx9 : Nat) (H : Hp) (Q : Post) : Prop := loopK (page_Put.cx) Go.Proofs.Try.f14 6 k (.bad :: (.bx [(.bool bx0), (.bool bx1), (.sl xx2 nx3 1), (.sl xx4 nx5 1), (.sl xx6 nx7 1)]) :: .bad :: .bad :: (.g (.sl ax8 nx9 1)) :: B 52 ([])) H Q
def page_Put.l7 (k : Nat) (bx0 : Bool) (bx1 : Bool) (xx2 : Pl) (nx3 : Nat) (xx4 : Pl) (nx5 : Nat) (xx6 : Pl) (nx7 : Nat) (ax8 : Pl) (nx9 : Nat) (xx10 : Pl) (nx11 : Nat) (ix12 : Int) (ix13 : Int) (H : Hp) (Q : Post) : Prop := loopK (page_Put.cx) Go.Proofs.Try.f14 7 k (.bad :: (.bx [(.bool bx0), (.bool bx1), (.sl xx2 nx3 1), (.sl xx4 nx5 1), (.sl xx6 nx7 1)]) :: .bad :: .bad :: (.g (.sl ax8 nx9 1)) :: B 17 ((.g (.sl xx10 nx11 1)) :: (.g (.int .i64 ix12)) :: (.g (.int .i64 ix13)) :: B 32 ([]))) H Q
def page_Put.l14 (k : Nat) (ax0 : Pl) (nx1 : Nat) (xx2 : Pl) (nx3 : Nat) (ix4 : Int) (ix5 : Int) (H : Hp) (Q : Post) : Prop := loopK (page_Put.cx) Go.Proofs.Try.f14 14 k (B 4 ((.g (.sl ax0 nx1 1)) :: B 38 ((.g (.sl xx2 nx3 1)) :: (.g (.int .i64 ix4)) :: (.g (.int .i64 ix5)) :: B 11 ([])))) H Q
theorem page_Put_eq (k : Nat) (z0 : Bool) (z1 : Bool) (z2 : Pl) (z2n : Nat) (z3 : Pl) (z3n : Nat) (z4 : Pl) (z4n : Nat) (H : Hp) (Q : Post) : callK (page_Put.cx) Go.Proofs.Try.f14 (k + 1) [.agg [.bool z0, .bool z1, .sl z2 z2n 1, .sl z3 z3n 1, .sl z4 z4n 1]] H Q = (
 cl page_May [(.agg [(.bool z0), (.bool z1), (.sl z2 z2n 1), (.sl z3 z3n 1), (.sl z4 z4n 1)])] H fun r0 H1 =>
 rG r0 fun v2 =>
 dB v2 fun b3 =>
 bite (!b3)
 (Q (.tup [(.s (.str (mkS []))), (.s (.int .i64 600))]) H1)
 (bite z1
  (chk true (wr (pu H1 (.row true 5 [(.int .u8 2), (.int .u8 (wrapI .u8 (nI z2n)))])) (ln H1) (0 + ((tN 0) * 1)) (.int .u8 1) fun H4 =>
   page_Put.l6 k z0 z1 z2 z2n z3 z3n z4 z4n (some ((ln H1), 0)) 2 H4 Q))
  (page_Put.l6 k z0 z1 z2 z2n z3 z3n z4 z4n (some ((ln H1), 0)) 2 (pu H1 (.row true 5 [(.int .u8 2), (.int .u8 (wrapI .u8 (nI z2n)))])) Q))) := by kernel_rfl
theorem page_Put.l6_eq (k : Nat) (bx0 : Bool) (bx1 : Bool) (xx2 : Pl) (nx3 : Nat) (xx4 : Pl) (nx5 : Nat) (xx6 : Pl) (nx7 : Nat) (ax8 : Pl) (nx9 : Nat) (H : Hp) (Q : Post) : page_Put.l6 (k + 1) bx0 bx1 xx2 nx3 xx4 nx5 xx6 nx7 ax8 nx9 H Q = (
 page_Put.l7 k bx0 bx1 xx2 nx3 xx4 nx5 xx6 nx7 ax8 nx9 xx2 nx3 (nI nx3) 0 H Q) := by kernel_rfl
theorem page_Put.l7_eq (k : Nat) (bx0 : Bool) (bx1 : Bool) (xx2 : Pl) (nx3 : Nat) (xx4 : Pl) (nx5 : Nat) (xx6 : Pl) (nx7 : Nat) (ax8 : Pl) (nx9 : Nat) (xx10 : Pl) (nx11 : Nat) (ix12 : Int) (ix13 : Int) (H : Hp) (Q : Post) : page_Put.l7 (k + 1) bx0 bx1 xx2 nx3 xx4 nx5 xx6 nx7 ax8 nx9 xx10 nx11 ix12 ix13 H Q = (
 bite (ltI ix13 ix12)
 (chk true (chk ((leI 0 ix13) && (ltI ix13 (nI nx11))) (pS xx10 fun n0 n1 =>
  rd H n0 (n1 + ((tN ix13) * 1)) fun v2 =>
  dS v2 fun s3 =>
  cl page_sized [(.g (.sl ax8 nx9 1)), (.g (.str s3))] H fun r4 H5 =>
  rG r4 fun v6 =>
  dL 1 v6 fun x7 n8 =>
  bite bx1
  (chk true (chk ((leI 0 ix13) && (ltI ix13 (nI nx5))) (pS xx4 fun n9 n10 =>
   rd H5 n9 (n10 + ((tN ix13) * 1)) fun v11 =>
   dS v11 fun s12 =>
   cl page_sized [(.g (.sl x7 n8 1)), (.g (.str s12))] H5 fun r13 H14 =>
   rG r13 fun v15 =>
   dL 1 v15 fun x16 n17 =>
   page_Put.l7 k bx0 bx1 xx2 nx3 xx4 nx5 xx6 nx7 x16 n17 xx10 nx11 ix12 (wrapI .i64 (ix13 + 1)) H14 Q)))
  (page_Put.l7 k bx0 bx1 xx2 nx3 xx4 nx5 xx6 nx7 x7 n8 xx10 nx11 ix12 (wrapI .i64 (ix13 + 1)) H5 Q))))
 (page_Put.l14 k ax8 nx9 xx6 nx7 (nI nx7) 0 H Q)) := by kernel_rfl
theorem page_Put.l14_eq (k : Nat) (ax0 : Pl) (nx1 : Nat) (xx2 : Pl) (nx3 : Nat) (ix4 : Int) (ix5 : Int) (H : Hp) (Q : Post) : page_Put.l14 (k + 1) ax0 nx1 xx2 nx3 ix4 ix5 H Q = (
 bite (ltI ix5 ix4)
 (chk true (chk ((leI 0 ix5) && (ltI ix5 (nI nx3))) (pS xx2 fun n0 n1 =>
  rd H n0 (n1 + ((tN ix5) * 1)) fun v2 =>
  dI .i64 v2 fun i3 =>
  chk true (ap H 5 1 1 ax0 nx1 [(.int .u8 (wrapI .u8 i3))] 1 fun x4 n5 H6 =>
  page_Put.l14 k x4 n5 xx2 nx3 ix4 (wrapI .i64 (ix5 + 1)) H6 Q))))
 (rdN H ax0 nx1 fun c7 =>
  txt c7 fun s8 =>
  Q (.tup [(.s (.str s8)), (.s (.int .i64 0))]) H)) := by kernel_rfl
theorem page_Put_ok : Sound Go.Proofs.Try.prog 14 (page_Put) := prog_ok.sound (cx := page_Put.cx) rfl (EnvOK.cons ((page_May_ok).c ⟨_, Go.Proofs.Try.func20, by kernel_rfl, by kernel_rfl⟩) (EnvOK.cons ((page_sized_ok).c ⟨_, Go.Proofs.Try.func35, by kernel_rfl, by kernel_rfl⟩) (EnvOK.nil _))) (noDyn_ok _) Go.Proofs.Try.func14 rfl

/-! 57: cryostat/cryostatref1.rising -/
def ref1_rising.cx : Cx := ⟨tys, [], [(2, [0, 3])], [], [], noDyn, [.tmp 2]⟩
def ref1_rising : Sm := fun xs H Q => ∃ k, callK (ref1_rising.cx) Go.Proofs.Try.f57 k xs H Q
def ref1_rising.l2 (k : Nat) (xx0 : Pl) (nx1 : Nat) (ix2 : Int) (H : Hp) (Q : Post) : Prop := loopK (ref1_rising.cx) Go.Proofs.Try.f57 2 k ((.g (.sl xx0 nx1 1)) :: .bad :: .bad :: (.g (.int .i64 ix2)) :: B 36 ([])) H Q
theorem ref1_rising_eq (k : Nat) (z0 : Pl) (z0n : Nat) (H : Hp) (Q : Post) : callK (ref1_rising.cx) Go.Proofs.Try.f57 (k + 1) [.g (.sl z0 z0n 1)] H Q = (
 ref1_rising.l2 k z0 z0n 0 H Q) := by kernel_rfl
theorem ref1_rising.l2_eq (k : Nat) (xx0 : Pl) (nx1 : Nat) (ix2 : Int) (H : Hp) (Q : Post) : ref1_rising.l2 (k + 1) xx0 nx1 ix2 H Q = (
 bite (ltI ix2 (nI nx1))
 (chk true (chk ((leI 0 ix2) && (ltI ix2 (nI nx1))) (pS xx0 fun n0 n1 =>
  rd H n0 (n1 + ((tN ix2) * 1)) fun v2 =>
  dS v2 fun s3 =>
  bite (ltI (sz s3) 1)
  (Q (.g (.bool false)) H)
  (chk true (chk ((leI 0 ix2) && (ltI ix2 (nI nx1))) (pS xx0 fun n4 n5 =>
   rd H n4 (n5 + ((tN ix2) * 1)) fun v6 =>
   dS v6 fun s7 =>
   bite (ltI 6 (sz s7))
   (Q (.g (.bool false)) H)
   (bite (ltI 0 ix2)
    (chk true (chk ((leI 0 ix2) && (ltI ix2 (nI nx1))) (pS xx0 fun n8 n9 =>
     rd H n8 (n9 + ((tN ix2) * 1)) fun v10 =>
     dS v10 fun s11 =>
     chk true (chk ((leI 0 (wrapI .i64 (ix2 - 1))) && (ltI (wrapI .i64 (ix2 - 1)) (nI nx1))) (pS xx0 fun n12 n13 =>
     rd H n12 (n13 + ((tN (wrapI .i64 (ix2 - 1))) * 1)) fun v14 =>
     dS v14 fun s15 =>
     bite ((strLt s11 s15) || (strEq s11 s15))
     (Q (.g (.bool false)) H)
     (ref1_rising.l2 k xx0 nx1 (wrapI .i64 (ix2 + 1)) H Q))))))
    (ref1_rising.l2 k xx0 nx1 (wrapI .i64 (ix2 + 1)) H Q))))))))
 (Q (.g (.bool true)) H)) := by kernel_rfl
theorem ref1_rising_ok : Sound Go.Proofs.Try.prog 57 (ref1_rising) := prog_ok.sound (cx := ref1_rising.cx) rfl (EnvOK.nil _) (noDyn_ok _) Go.Proofs.Try.func57 rfl

/-! 40: cryostat/cryostatref1.PageWith -/
def ref1_PageWith.cx : Cx := ⟨tys, [], [(5, [2, 5]), (11, [2, 6]), (16, [2, 6, 7])], [], [(57, ref1_rising)], noDyn, [.tmp 4]⟩
def ref1_PageWith : Sm := fun xs H Q => ∃ k, callK (ref1_PageWith.cx) Go.Proofs.Try.f40 k xs H Q
def ref1_PageWith.l5 (k : Nat) (bx0 : Bool) (bx1 : Bool) (xx2 : Pl) (nx3 : Nat) (xx4 : Pl) (nx5 : Nat) (xx6 : Pl) (nx7 : Nat) (ix8 : Int) (H : Hp) (Q : Post) : Prop := loopK (ref1_PageWith.cx) Go.Proofs.Try.f40 5 k (.bad :: .bad :: (.bx [(.bool bx0), (.bool bx1), (.sl xx2 nx3 1), (.sl xx4 nx5 1), (.sl xx6 nx7 1)]) :: .bad :: .bad :: (.g (.int .i64 ix8)) :: B 104 ([])) H Q
def ref1_PageWith.l11 (k : Nat) (bx0 : Bool) (bx1 : Bool) (xx2 : Pl) (nx3 : Nat) (xx4 : Pl) (nx5 : Nat) (xx6 : Pl) (nx7 : Nat) (ix8 : Int) (H : Hp) (Q : Post) : Prop := loopK (ref1_PageWith.cx) Go.Proofs.Try.f40 11 k (.bad :: .bad :: (.bx [(.bool bx0), (.bool bx1), (.sl xx2 nx3 1), (.sl xx4 nx5 1), (.sl xx6 nx7 1)]) :: B 3 ((.g (.int .i64 ix8)) :: B 103 ([]))) H Q
def ref1_PageWith.l16 (k : Nat) (bx0 : Bool) (bx1 : Bool) (xx2 : Pl) (nx3 : Nat) (xx4 : Pl) (nx5 : Nat) (xx6 : Pl) (nx7 : Nat) (ix8 : Int) (ix9 : Int) (H : Hp) (Q : Post) : Prop := loopK (ref1_PageWith.cx) Go.Proofs.Try.f40 16 k (.bad :: .bad :: (.bx [(.bool bx0), (.bool bx1), (.sl xx2 nx3 1), (.sl xx4 nx5 1), (.sl xx6 nx7 1)]) :: B 3 ((.g (.int .i64 ix8)) :: (.g (.int .i64 ix9)) :: B 102 ([]))) H Q
theorem ref1_PageWith_eq (k : Nat) (z0 : Bool) (z1 : Bool) (z2 : Pl) (z2n : Nat) (z3 : Pl) (z3n : Nat) (z4 : Pl) (z4n : Nat) (z5 : Int) (H : Hp) (Q : Post) : callK (ref1_PageWith.cx) Go.Proofs.Try.f40 (k + 1) [.agg [.bool z0, .bool z1, .sl z2 z2n 1, .sl z3 z3n 1, .sl z4 z4n 1], .g (.int .i64 z5)] H Q = (
 bite (!z0)
 (Q (.g (.bool false)) H)
 (cl ref1_rising [(.g (.sl z2 z2n 1))] H fun r0 H1 =>
  rG r0 fun v2 =>
  dB v2 fun b3 =>
  bite (!b3)
  (Q (.g (.bool false)) H1)
  (bite (ltI z5 (nI z2n))
   (Q (.g (.bool false)) H1)
   (bite z1
    (ref1_PageWith.l5 k z0 z1 z2 z2n z3 z3n z4 z4n 0 H1 Q)
    (ref1_PageWith.l11 k z0 z1 z2 z2n z3 z3n z4 z4n 0 H1 Q))))) := by kernel_rfl
theorem ref1_PageWith.l5_eq (k : Nat) (bx0 : Bool) (bx1 : Bool) (xx2 : Pl) (nx3 : Nat) (xx4 : Pl) (nx5 : Nat) (xx6 : Pl) (nx7 : Nat) (ix8 : Int) (H : Hp) (Q : Post) : ref1_PageWith.l5 (k + 1) bx0 bx1 xx2 nx3 xx4 nx5 xx6 nx7 ix8 H Q = (
 bite (ltI ix8 (nI nx5))
 (chk true (chk ((leI 0 ix8) && (ltI ix8 (nI nx5))) (pS xx4 fun n0 n1 =>
  rd H n0 (n1 + ((tN ix8) * 1)) fun v2 =>
  dS v2 fun s3 =>
  bite (ltI 10 (sz s3))
  (Q (.g (.bool false)) H)
  (ref1_PageWith.l5 k bx0 bx1 xx2 nx3 xx4 nx5 xx6 nx7 (wrapI .i64 (ix8 + 1)) H Q))))
 (bite (eqI (nI nx5) (nI nx3))
  (Q (.g (.bool (eqI (nI nx7) 0))) H)
  (Q (.g (.bool false)) H))) := by kernel_rfl
theorem ref1_PageWith.l11_eq (k : Nat) (bx0 : Bool) (bx1 : Bool) (xx2 : Pl) (nx3 : Nat) (xx4 : Pl) (nx5 : Nat) (xx6 : Pl) (nx7 : Nat) (ix8 : Int) (H : Hp) (Q : Post) : ref1_PageWith.l11 (k + 1) bx0 bx1 xx2 nx3 xx4 nx5 xx6 nx7 ix8 H Q = (
 bite (ltI ix8 (nI nx7))
 (chk true (chk ((leI 0 ix8) && (ltI ix8 (nI nx7))) (pS xx6 fun n0 n1 =>
  rd H n0 (n1 + ((tN ix8) * 1)) fun v2 =>
  dI .i64 v2 fun i3 =>
  bite (ltI i3 1)
  (Q (.g (.bool false)) H)
  (chk true (chk ((leI 0 ix8) && (ltI ix8 (nI nx7))) (pS xx6 fun n4 n5 =>
   rd H n4 (n5 + ((tN ix8) * 1)) fun v6 =>
   dI .i64 v6 fun i7 =>
   bite (leI 48 i7)
   (Q (.g (.bool false)) H)
   (ref1_PageWith.l16 k bx0 bx1 xx2 nx3 xx4 nx5 xx6 nx7 ix8 0 H Q)))))))
 (bite (leI 1 (nI nx3))
  (bite (eqI (nI nx5) 0)
   (Q (.g (.bool (eqI (nI nx7) (wrapI .i64 ((nI nx3) + 1))))) H)
   (Q (.g (.bool false)) H))
  (Q (.g (.bool false)) H))) := by kernel_rfl
theorem ref1_PageWith.l16_eq (k : Nat) (bx0 : Bool) (bx1 : Bool) (xx2 : Pl) (nx3 : Nat) (xx4 : Pl) (nx5 : Nat) (xx6 : Pl) (nx7 : Nat) (ix8 : Int) (ix9 : Int) (H : Hp) (Q : Post) : ref1_PageWith.l16 (k + 1) bx0 bx1 xx2 nx3 xx4 nx5 xx6 nx7 ix8 ix9 H Q = (
 bite (ltI ix9 ix8)
 (chk true (chk ((leI 0 ix9) && (ltI ix9 (nI nx7))) (pS xx6 fun n0 n1 =>
  rd H n0 (n1 + ((tN ix9) * 1)) fun v2 =>
  dI .i64 v2 fun i3 =>
  chk true (chk ((leI 0 ix8) && (ltI ix8 (nI nx7))) (pS xx6 fun n4 n5 =>
  rd H n4 (n5 + ((tN ix8) * 1)) fun v6 =>
  dI .i64 v6 fun i7 =>
  bite (eqI i3 i7)
  (Q (.g (.bool false)) H)
  (ref1_PageWith.l16 k bx0 bx1 xx2 nx3 xx4 nx5 xx6 nx7 ix8 (wrapI .i64 (ix9 + 1)) H Q))))))
 (ref1_PageWith.l11 k bx0 bx1 xx2 nx3 xx4 nx5 xx6 nx7 (wrapI .i64 (ix8 + 1)) H Q)) := by kernel_rfl
theorem ref1_PageWith_ok : Sound Go.Proofs.Try.prog 40 (ref1_PageWith) := prog_ok.sound (cx := ref1_PageWith.cx) rfl (EnvOK.cons ((ref1_rising_ok).c ⟨_, Go.Proofs.Try.func57, by kernel_rfl, by kernel_rfl⟩) (EnvOK.nil _)) (noDyn_ok _) Go.Proofs.Try.func40 rfl

/-! 21: cryostat/cryostatref1.PageMay -/
def ref1_PageMay.cx : Cx := ⟨tys, [], [], [], [(40, ref1_PageWith)], noDyn, [.tmp 2]⟩
def ref1_PageMay : Sm := fun xs H Q => ∃ k, callK (ref1_PageMay.cx) Go.Proofs.Try.f21 k xs H Q
theorem ref1_PageMay_eq (k : Nat) (z0 : Bool) (z1 : Bool) (z2 : Pl) (z2n : Nat) (z3 : Pl) (z3n : Nat) (z4 : Pl) (z4n : Nat) (H : Hp) (Q : Post) : callK (ref1_PageMay.cx) Go.Proofs.Try.f21 (k + 1) [.agg [.bool z0, .bool z1, .sl z2 z2n 1, .sl z3 z3n 1, .sl z4 z4n 1]] H Q = (
 cl ref1_PageWith [(.agg [(.bool z0), (.bool z1), (.sl z2 z2n 1), (.sl z3 z3n 1), (.sl z4 z4n 1)]), (.g (.int .i64 4))] H fun r0 H1 =>
 rG r0 fun v2 =>
 dB v2 fun b3 =>
 Q (.g (.bool b3)) H1) := by kernel_rfl
theorem ref1_PageMay_ok : Sound Go.Proofs.Try.prog 21 (ref1_PageMay) := prog_ok.sound (cx := ref1_PageMay.cx) rfl (EnvOK.cons ((ref1_PageWith_ok).c ⟨_, Go.Proofs.Try.func40, by kernel_rfl, by kernel_rfl⟩) (EnvOK.nil _)) (noDyn_ok _) Go.Proofs.Try.func21 rfl

/-! 15: cryostat/cryostatref1.PutPage -/
def ref1_PutPage.cx : Cx := ⟨tys, [14], [(7, [1, 4, 5]), (15, [1, 4, 6])], [(6, [1, 4])], [(21, ref1_PageMay)], noDyn, [.tmp 2, .tmp 3]⟩
def ref1_PutPage : Sm := fun xs H Q => ∃ k, callK (ref1_PutPage.cx) Go.Proofs.Try.f15 k xs H Q
def ref1_PutPage.l6 (k : Nat) (bx0 : Bool) (bx1 : Bool) (xx2 : Pl) (nx3 : Nat) (xx4 : Pl) (nx5 : Nat) (xx6 : Pl) (nx7 : Nat) (ax8 : Pl) (nx9 : Nat) (H : Hp) (Q : Post) : Prop := loopK (ref1_PutPage.cx) Go.Proofs.Try.f15 6 k (.bad :: (.bx [(.bool bx0), (.bool bx1), (.sl xx2 nx3 1), (.sl xx4 nx5 1), (.sl xx6 nx7 1)]) :: .bad :: .bad :: (.g (.sl ax8 nx9 1)) :: B 75 ([])) H Q
def ref1_PutPage.l7 (k : Nat) (bx0 : Bool) (bx1 : Bool) (xx2 : Pl) (nx3 : Nat) (xx4 : Pl) (nx5 : Nat) (xx6 : Pl) (nx7 : Nat) (ax8 : Pl) (nx9 : Nat) (ix10 : Int) (H : Hp) (Q : Post) : Prop := loopK (ref1_PutPage.cx) Go.Proofs.Try.f15 7 k (.bad :: (.bx [(.bool bx0), (.bool bx1), (.sl xx2 nx3 1), (.sl xx4 nx5 1), (.sl xx6 nx7 1)]) :: .bad :: .bad :: (.g (.sl ax8 nx9 1)) :: (.g (.int .i64 ix10)) :: B 74 ([])) H Q
def ref1_PutPage.l15 (k : Nat) (bx0 : Bool) (bx1 : Bool) (xx2 : Pl) (nx3 : Nat) (xx4 : Pl) (nx5 : Nat) (xx6 : Pl) (nx7 : Nat) (ax8 : Pl) (nx9 : Nat) (ix10 : Int) (H : Hp) (Q : Post) : Prop := loopK (ref1_PutPage.cx) Go.Proofs.Try.f15 15 k (.bad :: (.bx [(.bool bx0), (.bool bx1), (.sl xx2 nx3 1), (.sl xx4 nx5 1), (.sl xx6 nx7 1)]) :: .bad :: .bad :: (.g (.sl ax8 nx9 1)) :: .bad :: (.g (.int .i64 ix10)) :: B 73 ([])) H Q
theorem ref1_PutPage_eq (k : Nat) (z0 : Bool) (z1 : Bool) (z2 : Pl) (z2n : Nat) (z3 : Pl) (z3n : Nat) (z4 : Pl) (z4n : Nat) (H : Hp) (Q : Post) : callK (ref1_PutPage.cx) Go.Proofs.Try.f15 (k + 1) [.agg [.bool z0, .bool z1, .sl z2 z2n 1, .sl z3 z3n 1, .sl z4 z4n 1]] H Q = (
 cl ref1_PageMay [(.agg [(.bool z0), (.bool z1), (.sl z2 z2n 1), (.sl z3 z3n 1), (.sl z4 z4n 1)])] H fun r0 H1 =>
 rG r0 fun v2 =>
 dB v2 fun b3 =>
 bite (!b3)
 (Q (.tup [(.s (.str (mkS []))), (.s (.int .i64 600))]) H1)
 (bite z1
  (chk true (wr (pu H1 (.row true 5 [(.int .u8 2), (.int .u8 (wrapI .u8 (nI z2n)))])) (ln H1) (0 + ((tN 0) * 1)) (.int .u8 1) fun H4 =>
   ref1_PutPage.l6 k z0 z1 z2 z2n z3 z3n z4 z4n (some ((ln H1), 0)) 2 H4 Q))
  (ref1_PutPage.l6 k z0 z1 z2 z2n z3 z3n z4 z4n (some ((ln H1), 0)) 2 (pu H1 (.row true 5 [(.int .u8 2), (.int .u8 (wrapI .u8 (nI z2n)))])) Q))) := by kernel_rfl
theorem ref1_PutPage.l6_eq (k : Nat) (bx0 : Bool) (bx1 : Bool) (xx2 : Pl) (nx3 : Nat) (xx4 : Pl) (nx5 : Nat) (xx6 : Pl) (nx7 : Nat) (ax8 : Pl) (nx9 : Nat) (H : Hp) (Q : Post) : ref1_PutPage.l6 (k + 1) bx0 bx1 xx2 nx3 xx4 nx5 xx6 nx7 ax8 nx9 H Q = (
 ref1_PutPage.l7 k bx0 bx1 xx2 nx3 xx4 nx5 xx6 nx7 ax8 nx9 0 H Q) := by kernel_rfl
theorem ref1_PutPage.l7_eq (k : Nat) (bx0 : Bool) (bx1 : Bool) (xx2 : Pl) (nx3 : Nat) (xx4 : Pl) (nx5 : Nat) (xx6 : Pl) (nx7 : Nat) (ax8 : Pl) (nx9 : Nat) (ix10 : Int) (H : Hp) (Q : Post) : ref1_PutPage.l7 (k + 1) bx0 bx1 xx2 nx3 xx4 nx5 xx6 nx7 ax8 nx9 ix10 H Q = (
 bite (ltI ix10 (nI nx3))
 (chk true (chk ((leI 0 ix10) && (ltI ix10 (nI nx3))) (pS xx2 fun n0 n1 =>
  rd H n0 (n1 + ((tN ix10) * 1)) fun v2 =>
  dS v2 fun s3 =>
  chk true (ap H 5 1 1 ax8 nx9 [(.int .u8 (wrapI .u8 (sz s3)))] 1 fun x4 n5 H6 =>
  chk true (chk ((leI 0 ix10) && (ltI ix10 (nI nx3))) (pS xx2 fun n7 n8 =>
  rd H6 n7 (n8 + ((tN ix10) * 1)) fun v9 =>
  dS v9 fun s10 =>
  chk true (ap H6 5 1 1 x4 n5 (bytesOf s10) (szN s10) fun x11 n12 H13 =>
  bite bx1
  (chk true (chk ((leI 0 ix10) && (ltI ix10 (nI nx5))) (pS xx4 fun n14 n15 =>
   rd H13 n14 (n15 + ((tN ix10) * 1)) fun v16 =>
   dS v16 fun s17 =>
   chk true (ap H13 5 1 1 x11 n12 [(.int .u8 (wrapI .u8 (sz s17)))] 1 fun x18 n19 H20 =>
   chk true (chk ((leI 0 ix10) && (ltI ix10 (nI nx5))) (pS xx4 fun n21 n22 =>
   rd H20 n21 (n22 + ((tN ix10) * 1)) fun v23 =>
   dS v23 fun s24 =>
   chk true (ap H20 5 1 1 x18 n19 (bytesOf s24) (szN s24) fun x25 n26 H27 =>
   ref1_PutPage.l7 k bx0 bx1 xx2 nx3 xx4 nx5 xx6 nx7 x25 n26 (wrapI .i64 (ix10 + 1)) H27 Q)))))))
  (ref1_PutPage.l7 k bx0 bx1 xx2 nx3 xx4 nx5 xx6 nx7 x11 n12 (wrapI .i64 (ix10 + 1)) H13 Q))))))))
 (ref1_PutPage.l15 k bx0 bx1 xx2 nx3 xx4 nx5 xx6 nx7 ax8 nx9 0 H Q)) := by kernel_rfl
theorem ref1_PutPage.l15_eq (k : Nat) (bx0 : Bool) (bx1 : Bool) (xx2 : Pl) (nx3 : Nat) (xx4 : Pl) (nx5 : Nat) (xx6 : Pl) (nx7 : Nat) (ax8 : Pl) (nx9 : Nat) (ix10 : Int) (H : Hp) (Q : Post) : ref1_PutPage.l15 (k + 1) bx0 bx1 xx2 nx3 xx4 nx5 xx6 nx7 ax8 nx9 ix10 H Q = (
 bite (ltI ix10 (nI nx7))
 (chk true (chk ((leI 0 ix10) && (ltI ix10 (nI nx7))) (pS xx6 fun n0 n1 =>
  rd H n0 (n1 + ((tN ix10) * 1)) fun v2 =>
  dI .i64 v2 fun i3 =>
  chk true (ap H 5 1 1 ax8 nx9 [(.int .u8 (wrapI .u8 i3))] 1 fun x4 n5 H6 =>
  ref1_PutPage.l15 k bx0 bx1 xx2 nx3 xx4 nx5 xx6 nx7 x4 n5 (wrapI .i64 (ix10 + 1)) H6 Q))))
 (rdN H ax8 nx9 fun c7 =>
  txt c7 fun s8 =>
  Q (.tup [(.s (.str s8)), (.s (.int .i64 0))]) H)) := by kernel_rfl
theorem ref1_PutPage_ok : Sound Go.Proofs.Try.prog 15 (ref1_PutPage) := prog_ok.sound (cx := ref1_PutPage.cx) rfl (EnvOK.cons ((ref1_PageMay_ok).c ⟨_, Go.Proofs.Try.func21, by kernel_rfl, by kernel_rfl⟩) (EnvOK.nil _)) (noDyn_ok _) Go.Proofs.Try.func15 rfl

/-! 36: (*cryostat/page.taker).byte -/
def page_taker_byte.cx : Cx := ⟨tys, [], [], [], [], noDyn, [.tmp 2]⟩
def page_taker_byte : Sm := fun xs H Q => ∃ k, callK (page_taker_byte.cx) Go.Proofs.Try.f36 k xs H Q
theorem page_taker_byte_eq (k : Nat) (z0 : Pl) (H : Hp) (Q : Post) : callK (page_taker_byte.cx) Go.Proofs.Try.f36 (k + 1) [.g (.ptr z0)] H Q = (
 pS z0 fun n0 n1 =>
 rd H n0 (n1 + 0) fun v2 =>
 dS v2 fun s3 =>
 bite (strEq s3 (mkS []))
 (Q (.g (.int .i64 0)) H)
 (pS z0 fun n4 n5 =>
  rd H n4 (n5 + 0) fun v6 =>
  dS v6 fun s7 =>
  chk ((leI 0 0) && (ltI 0 (sz s7))) (pS z0 fun n8 n9 =>
  rd H n8 (n9 + 0) fun v10 =>
  dS v10 fun s11 =>
  chk ((leN (tN 1) (szN s11)) && (leN (szN s11) (szN s11))) (pS z0 fun n12 n13 =>
  wr H n12 (n13 + 0) (.str (sub s11 (tN 1) (szN s11))) fun H14 =>
  Q (.g (.int .i64 (wrapI .i64 (byt s7 (tN 0))))) H14)))) := by kernel_rfl
theorem page_taker_byte_ok : Sound Go.Proofs.Try.prog 36 (page_taker_byte) := prog_ok.sound (cx := page_taker_byte.cx) rfl (EnvOK.nil _) (noDyn_ok _) Go.Proofs.Try.func36 rfl

/-! 37: (*cryostat/page.taker).text -/
def page_taker_text.cx : Cx := ⟨tys, [], [], [], [(36, page_taker_byte)], noDyn, [.tmp 2]⟩
def page_taker_text : Sm := fun xs H Q => ∃ k, callK (page_taker_text.cx) Go.Proofs.Try.f37 k xs H Q
theorem page_taker_text_eq (k : Nat) (z0 : Pl) (H : Hp) (Q : Post) : callK (page_taker_text.cx) Go.Proofs.Try.f37 (k + 1) [.g (.ptr z0)] H Q = (
 cl page_taker_byte [(.g (.ptr z0))] H fun r0 H1 =>
 rG r0 fun v2 =>
 dI .i64 v2 fun i3 =>
 pS z0 fun n4 n5 =>
 rd H1 n4 (n5 + 0) fun v6 =>
 dS v6 fun s7 =>
 pS z0 fun n8 n9 =>
 rd H1 n8 (n9 + 0) fun v10 =>
 dS v10 fun s11 =>
 chk (leI 0 (mnI i3 (sz s7))) (chk ((leN 0 (tN (mnI i3 (sz s7)))) && (leN (tN (mnI i3 (sz s7))) (szN s11))) (pS z0 fun n12 n13 =>
 rd H1 n12 (n13 + 0) fun v14 =>
 dS v14 fun s15 =>
 chk (leI 0 (mnI i3 (sz s7))) (chk ((leN (tN (mnI i3 (sz s7))) (szN s15)) && (leN (szN s15) (szN s15))) (pS z0 fun n16 n17 =>
 wr H1 n16 (n17 + 0) (.str (sub s15 (tN (mnI i3 (sz s7))) (szN s15))) fun H18 =>
 Q (.g (.str (sub s11 0 (tN (mnI i3 (sz s7)))))) H18))))) := by kernel_rfl
theorem page_taker_text_ok : Sound Go.Proofs.Try.prog 37 (page_taker_text) := prog_ok.sound (cx := page_taker_text.cx) rfl (EnvOK.cons ((page_taker_byte_ok).c ⟨_, Go.Proofs.Try.func36, by kernel_rfl, by kernel_rfl⟩) (EnvOK.nil _)) (noDyn_ok _) Go.Proofs.Try.func37 rfl

/-! 16: cryostat/page.Get -/
def page_Get.cx : Cx := ⟨tys, [12], [(5, [0, 2, 4, 5, 6, 12, 20, 21]), (11, [0, 2, 4, 5, 6, 7, 12])], [], [(36, page_taker_byte), (37, page_taker_text), (14, page_Put)], noDyn, [.cell 2 25, .tmp 3]⟩
def page_Get : Sm := fun xs H Q => ∃ k, callK (page_Get.cx) Go.Proofs.Try.f16 k xs H Q
def page_Get.l5 (k : Nat) (sx0 : ByteArray) (bx1 : Bool) (bx2 : Bool) (ax3 : Pl) (nx4 : Nat) (ax5 : Pl) (nx6 : Nat) (ax7 : Pl) (nx8 : Nat) (nx9 : Nat) (nx10 : Nat) (bx11 : Bool) (bx12 : Bool) (ax13 : Pl) (nx14 : Nat) (ax15 : Pl) (nx16 : Nat) (ax17 : Pl) (nx18 : Nat) (ix19 : Int) (nx20 : Nat) (nx21 : Nat) (ix22 : Int) (ix23 : Int) (H : Hp) (Q : Post) : Prop := loopK (page_Get.cx) Go.Proofs.Try.f16 5 k ((.g (.str sx0)) :: .bad :: (.bx [(.bool bx1), (.bool bx2), (.sl ax3 nx4 1), (.sl ax5 nx6 1), (.sl ax7 nx8 1)]) :: .bad :: (.g (.ptr (some (nx9, nx10)))) :: (.bx [(.bool bx11), (.bool bx12), (.sl ax13 nx14 1), (.sl ax15 nx16 1), (.sl ax17 nx18 1)]) :: (.g (.int .i64 ix19)) :: B 5 ((.g (.ptr (some (nx20, nx21)))) :: B 7 ((.g (.int .i64 ix22)) :: (.g (.int .i64 ix23)) :: B 49 ([])))) H Q
def page_Get.l11 (k : Nat) (sx0 : ByteArray) (bx1 : Bool) (bx2 : Bool) (ax3 : Pl) (nx4 : Nat) (ax5 : Pl) (nx6 : Nat) (ax7 : Pl) (nx8 : Nat) (nx9 : Nat) (nx10 : Nat) (bx11 : Bool) (bx12 : Bool) (ax13 : Pl) (nx14 : Nat) (ax15 : Pl) (nx16 : Nat) (ax17 : Pl) (nx18 : Nat) (ix19 : Int) (ix20 : Int) (nx21 : Nat) (nx22 : Nat) (H : Hp) (Q : Post) : Prop := loopK (page_Get.cx) Go.Proofs.Try.f16 11 k ((.g (.str sx0)) :: .bad :: (.bx [(.bool bx1), (.bool bx2), (.sl ax3 nx4 1), (.sl ax5 nx6 1), (.sl ax7 nx8 1)]) :: .bad :: (.g (.ptr (some (nx9, nx10)))) :: (.bx [(.bool bx11), (.bool bx12), (.sl ax13 nx14 1), (.sl ax15 nx16 1), (.sl ax17 nx18 1)]) :: (.g (.int .i64 ix19)) :: (.g (.int .i64 ix20)) :: B 4 ((.g (.ptr (some (nx21, nx22)))) :: B 58 ([]))) H Q
theorem page_Get_eq (k : Nat) (z0 : ByteArray) (H : Hp) (Q : Post) : callK (page_Get.cx) Go.Proofs.Try.f16 (k + 1) [.g (.str z0)] H Q = (
 cl page_taker_byte [(.g (.ptr (some ((ln H), 0))))] (pu H (.row true 65 [(.str z0)])) fun r0 H1 =>
 rG r0 fun v2 =>
 dI .i64 v2 fun i3 =>
 cl page_taker_byte [(.g (.ptr (some ((ln H), 0))))] H1 fun r4 H5 =>
 rG r4 fun v6 =>
 dI .i64 v6 fun i7 =>
 page_Get.l5 k z0 false false none 0 none 0 none 0 (ln H) 0 true (eqI i3 1) none 0 none 0 none 0 (mnI i7 4) (ln H) 0 (mnI i7 4) 0 H5 Q) := by kernel_rfl
theorem page_Get.l5_eq (k : Nat) (sx0 : ByteArray) (bx1 : Bool) (bx2 : Bool) (ax3 : Pl) (nx4 : Nat) (ax5 : Pl) (nx6 : Nat) (ax7 : Pl) (nx8 : Nat) (nx9 : Nat) (nx10 : Nat) (bx11 : Bool) (bx12 : Bool) (ax13 : Pl) (nx14 : Nat) (ax15 : Pl) (nx16 : Nat) (ax17 : Pl) (nx18 : Nat) (ix19 : Int) (nx20 : Nat) (nx21 : Nat) (ix22 : Int) (ix23 : Int) (H : Hp) (Q : Post) : page_Get.l5 (k + 1) sx0 bx1 bx2 ax3 nx4 ax5 nx6 ax7 nx8 nx9 nx10 bx11 bx12 ax13 nx14 ax15 nx16 ax17 nx18 ix19 nx20 nx21 ix22 ix23 H Q = (
 bite (ltI ix23 ix22)
 (cl page_taker_text [(.g (.ptr (some (nx9, nx10))))] H fun r0 H1 =>
  rG r0 fun v2 =>
  dS v2 fun s3 =>
  chk true (ap H1 9 1 16 ax13 nx14 [(.str s3)] 1 fun x4 n5 H6 =>
  bite bx12
  (cl page_taker_text [(.g (.ptr (some (nx9, nx10))))] H6 fun r7 H8 =>
   rG r7 fun v9 =>
   dS v9 fun s10 =>
   chk true (ap H8 9 1 16 ax15 nx16 [(.str s10)] 1 fun x11 n12 H13 =>
   page_Get.l5 k sx0 bx1 bx2 ax3 nx4 ax5 nx6 ax7 nx8 nx9 nx10 bx11 bx12 x4 n5 x11 n12 ax17 nx18 ix19 nx20 nx21 ix22 (wrapI .i64 (ix23 + 1)) H13 Q))
  (page_Get.l5 k sx0 bx1 bx2 ax3 nx4 ax5 nx6 ax7 nx8 nx9 nx10 bx11 bx12 x4 n5 ax15 nx16 ax17 nx18 ix19 nx20 nx21 ix22 (wrapI .i64 (ix23 + 1)) H6 Q)))
 (page_Get.l11 k sx0 bx1 bx2 ax3 nx4 ax5 nx6 ax7 nx8 nx9 nx10 bx11 bx12 ax13 nx14 ax15 nx16 ax17 nx18 ix19 0 nx20 nx21 H Q)) := by kernel_rfl
theorem page_Get.l11_eq (k : Nat) (sx0 : ByteArray) (bx1 : Bool) (bx2 : Bool) (ax3 : Pl) (nx4 : Nat) (ax5 : Pl) (nx6 : Nat) (ax7 : Pl) (nx8 : Nat) (nx9 : Nat) (nx10 : Nat) (bx11 : Bool) (bx12 : Bool) (ax13 : Pl) (nx14 : Nat) (ax15 : Pl) (nx16 : Nat) (ax17 : Pl) (nx18 : Nat) (ix19 : Int) (ix20 : Int) (nx21 : Nat) (nx22 : Nat) (H : Hp) (Q : Post) : page_Get.l11 (k + 1) sx0 bx1 bx2 ax3 nx4 ax5 nx6 ax7 nx8 nx9 nx10 bx11 bx12 ax13 nx14 ax15 nx16 ax17 nx18 ix19 ix20 nx21 nx22 H Q = (
 bite (leI ix20 ix19)
 (bite (!bx12)
  (cl page_taker_byte [(.g (.ptr (some (nx9, nx10))))] H fun r0 H1 =>
   rG r0 fun v2 =>
   dI .i64 v2 fun i3 =>
   chk true (ap H1 3 1 8 ax17 nx18 [(.int .i64 i3)] 1 fun x4 n5 H6 =>
   page_Get.l11 k sx0 bx1 bx2 ax3 nx4 ax5 nx6 ax7 nx8 nx9 nx10 bx11 bx12 ax13 nx14 ax15 nx16 x4 n5 ix19 (wrapI .i64 (ix20 + 1)) nx21 nx22 H6 Q))
  (cl page_Put [(.agg [(.bool bx11), (.bool bx12), (.sl ax13 nx14 1), (.sl ax15 nx16 1), (.sl ax17 nx18 1)])] H fun r7 H8 =>
   rT r7 fun c9 =>
   uR c9 fun q10 c11 =>
   rS q10 fun v12 =>
   dS v12 fun s13 =>
   uR c11 fun q14 c15 =>
   rS q14 fun v16 =>
   dI .i64 v16 fun i17 =>
   uE c15 (bite (!(eqI i17 0))
   (Q (.tup [(.a [(.bool false), (.bool false), (.sl none 0 1), (.sl none 0 1), (.sl none 0 1)]), (.s (.int .i64 600))]) H8)
   (bite (!(strEq s13 sx0))
    (Q (.tup [(.a [(.bool false), (.bool false), (.sl none 0 1), (.sl none 0 1), (.sl none 0 1)]), (.s (.int .i64 600))]) H8)
    (Q (.tup [(.a [(.bool bx11), (.bool bx12), (.sl ax13 nx14 1), (.sl ax15 nx16 1), (.sl ax17 nx18 1)]), (.s (.int .i64 0))]) H8)))))
 (cl page_Put [(.agg [(.bool bx11), (.bool bx12), (.sl ax13 nx14 1), (.sl ax15 nx16 1), (.sl ax17 nx18 1)])] H fun r18 H19 =>
  rT r18 fun c20 =>
  uR c20 fun q21 c22 =>
  rS q21 fun v23 =>
  dS v23 fun s24 =>
  uR c22 fun q25 c26 =>
  rS q25 fun v27 =>
  dI .i64 v27 fun i28 =>
  uE c26 (bite (!(eqI i28 0))
  (Q (.tup [(.a [(.bool false), (.bool false), (.sl none 0 1), (.sl none 0 1), (.sl none 0 1)]), (.s (.int .i64 600))]) H19)
  (bite (!(strEq s24 sx0))
   (Q (.tup [(.a [(.bool false), (.bool false), (.sl none 0 1), (.sl none 0 1), (.sl none 0 1)]), (.s (.int .i64 600))]) H19)
   (Q (.tup [(.a [(.bool bx11), (.bool bx12), (.sl ax13 nx14 1), (.sl ax15 nx16 1), (.sl ax17 nx18 1)]), (.s (.int .i64 0))]) H19))))) := by kernel_rfl
theorem page_Get_ok : Sound Go.Proofs.Try.prog 16 (page_Get) := prog_ok.sound (cx := page_Get.cx) rfl (EnvOK.cons ((page_taker_byte_ok).c ⟨_, Go.Proofs.Try.func36, by kernel_rfl, by kernel_rfl⟩) (EnvOK.cons ((page_taker_text_ok).c ⟨_, Go.Proofs.Try.func37, by kernel_rfl, by kernel_rfl⟩) (EnvOK.cons ((page_Put_ok).c ⟨_, Go.Proofs.Try.func14, by kernel_rfl, by kernel_rfl⟩) (EnvOK.nil _)))) (noDyn_ok _) Go.Proofs.Try.func16 rfl

/-! 38: cryostat/cryostatref1.taken -/
def ref1_taken.cx : Cx := ⟨tys, [], [], [], [], noDyn, [.tmp 4, .tmp 5]⟩
def ref1_taken : Sm := fun xs H Q => ∃ k, callK (ref1_taken.cx) Go.Proofs.Try.f38 k xs H Q
theorem ref1_taken_eq (k : Nat) (z0 : ByteArray) (z1 : Int) (H : Hp) (Q : Post) : callK (ref1_taken.cx) Go.Proofs.Try.f38 (k + 1) [.g (.str z0), .g (.int .i64 z1)] H Q = (
 bite (ltI z1 0)
 (Q (.tup [(.s (.str (mkS []))), (.s (.int .i64 (-1)))]) H)
 (bite (leI (sz z0) z1)
  (Q (.tup [(.s (.str (mkS []))), (.s (.int .i64 (-1)))]) H)
  (chk ((leI 0 z1) && (ltI z1 (sz z0))) (bite (ltI (sz z0) (wrapI .i64 ((wrapI .i64 (z1 + 1)) + (wrapI .i64 (byt z0 (tN z1))))))
   (Q (.tup [(.s (.str (mkS []))), (.s (.int .i64 (-1)))]) H)
   (chk ((leI 0 z1) && (ltI z1 (sz z0))) (chk (leI 0 (wrapI .i64 ((wrapI .i64 (z1 + 1)) + (wrapI .i64 (byt z0 (tN z1)))))) (chk (leI 0 (wrapI .i64 (z1 + 1))) (chk ((leN (tN (wrapI .i64 (z1 + 1))) (tN (wrapI .i64 ((wrapI .i64 (z1 + 1)) + (wrapI .i64 (byt z0 (tN z1))))))) && (leN (tN (wrapI .i64 ((wrapI .i64 (z1 + 1)) + (wrapI .i64 (byt z0 (tN z1)))))) (szN z0))) (chk ((leI 0 z1) && (ltI z1 (sz z0))) (Q (.tup [(.s (.str (sub z0 (tN (wrapI .i64 (z1 + 1))) (tN (wrapI .i64 ((wrapI .i64 (z1 + 1)) + (wrapI .i64 (byt z0 (tN z1))))))))), (.s (.int .i64 (wrapI .i64 ((wrapI .i64 (z1 + 1)) + (wrapI .i64 (byt z0 (tN z1)))))))]) H)))))))))) := by kernel_rfl
theorem ref1_taken_ok : Sound Go.Proofs.Try.prog 38 (ref1_taken) := prog_ok.sound (cx := ref1_taken.cx) rfl (EnvOK.nil _) (noDyn_ok _) Go.Proofs.Try.func38 rfl


end Go.Am
