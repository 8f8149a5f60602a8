import Derived.Test.YtmjnenpllddhfaaF6T
import Derived.Test.YtmjnenpllddhfaaU2
set_option linter.unusedVariables false
set_option linter.unusedSimpArgs false
namespace Go.Am
/-! 64: cryostat/page.rising -/
def page_rising.cx : Cx := ⟨tys, [], [(2, [0, 3])], [], [], noDyn, [.tmp 2]⟩
def page_rising : Sm := fun xs H Q => ∃ k, callK (page_rising.cx) Go.Proofs.Try.f64 k xs H Q
def page_rising.l2 (k : Nat) (xx0 : Pl) (nx1 : Nat) (ix2 : Int) (H : Hp) (Q : Post) : Prop := loopK (page_rising.cx) Go.Proofs.Try.f64 2 k ((.g (.sl xx0 nx1 1)) :: .bad :: .bad :: (.g (.int .i64 ix2)) :: B 16 ([])) H Q
theorem page_rising_eq (k : Nat) (z0 : Pl) (z0n : Nat) (H : Hp) (Q : Post) : callK (page_rising.cx) Go.Proofs.Try.f64 (k + 1) [.g (.sl z0 z0n 1)] H Q = (
 page_rising.l2 k z0 z0n 1 H Q) := by kernel_rfl
theorem page_rising.l2_eq (k : Nat) (xx0 : Pl) (nx1 : Nat) (ix2 : Int) (H : Hp) (Q : Post) : page_rising.l2 (k + 1) xx0 nx1 ix2 H Q = (
 bite (ltI ix2 (nI nx1))
 (chk true (chk ((leI 0 (wrapI .i64 (ix2 - 1))) && (ltI (wrapI .i64 (ix2 - 1)) (nI nx1))) (pS xx0 fun n0 n1 =>
  rd H n0 (n1 + ((tN (wrapI .i64 (ix2 - 1))) * 1)) fun v2 =>
  dS v2 fun s3 =>
  chk true (chk ((leI 0 ix2) && (ltI ix2 (nI nx1))) (pS xx0 fun n4 n5 =>
  rd H n4 (n5 + ((tN ix2) * 1)) fun v6 =>
  dS v6 fun s7 =>
  bite (!(strLt s3 s7))
  (Q (.g (.bool false)) H)
  (page_rising.l2 k xx0 nx1 (wrapI .i64 (ix2 + 1)) H Q))))))
 (Q (.g (.bool true)) H)) := by kernel_rfl
theorem page_rising_ok : Sound Go.Proofs.Try.prog 64 (page_rising) := prog_ok.sound (cx := page_rising.cx) rfl (EnvOK.nil _) (noDyn_ok _) Go.Proofs.Try.func64 rfl

/-! 78: slices.IndexFunc[[]string,string] -/
def slices_IndexFunc__string_string.cx (E : Nat → Sm) : Cx := ⟨tys, [], [(2, [0, 1, 7, 8])], [], [], E, [.tmp 4]⟩
def slices_IndexFunc__string_string (E : Nat → Sm) : Sm := fun xs H Q => ∃ k, callK (slices_IndexFunc__string_string.cx E) Go.Proofs.Try.f78 k xs H Q
def slices_IndexFunc__string_string.l2 (E : Nat → Sm) (k : Nat) (xx0 : Pl) (nx1 : Nat) (nx2 : Nat) (cx3 : List (Nat × Nat)) (ix4 : Int) (ix5 : Int) (H : Hp) (Q : Post) : Prop := loopK (slices_IndexFunc__string_string.cx E) Go.Proofs.Try.f78 2 k ((.g (.sl xx0 nx1 1)) :: (.g (.fn nx2 cx3)) :: B 5 ((.g (.int .i64 ix4)) :: (.g (.int .i64 ix5)) :: B 10 ([]))) H Q
theorem slices_IndexFunc__string_string_eq (E : Nat → Sm) (k : Nat) (z0 : Pl) (z0n : Nat) (z1 : Nat) (z1c : List (Nat × Nat)) (H : Hp) (Q : Post) : callK (slices_IndexFunc__string_string.cx E) Go.Proofs.Try.f78 (k + 1) [.g (.sl z0 z0n 1), .g (.fn z1 z1c)] H Q = (
 slices_IndexFunc__string_string.l2 E k z0 z0n z1 z1c (nI z0n) 0 H Q) := by kernel_rfl
theorem slices_IndexFunc__string_string.l2_eq (E : Nat → Sm) (k : Nat) (xx0 : Pl) (nx1 : Nat) (nx2 : Nat) (cx3 : List (Nat × Nat)) (ix4 : Int) (ix5 : Int) (H : Hp) (Q : Post) : slices_IndexFunc__string_string.l2 E (k + 1) xx0 nx1 nx2 cx3 ix4 ix5 H Q = (
 bite (ltI ix5 ix4)
 (chk true (chk ((leI 0 ix5) && (ltI ix5 (nI nx1))) (pS xx0 fun n0 n1 =>
  rd H n0 (n1 + ((tN ix5) * 1)) fun v2 =>
  dS v2 fun s3 =>
  cl (E nx2) (cpl [(.g (.str s3))] cx3) H fun r4 H5 =>
  rG r4 fun v6 =>
  dB v6 fun b7 =>
  bite b7
  (Q (.g (.int .i64 ix5)) H5)
  (slices_IndexFunc__string_string.l2 E k xx0 nx1 nx2 cx3 ix4 (wrapI .i64 (ix5 + 1)) H5 Q))))
 (Q (.g (.int .i64 (-1))) H)) := by kernel_rfl
theorem slices_IndexFunc__string_string_ok (E : Nat → Sm) (hE : ∀ f, SoundC Go.Proofs.Try.prog f (E f)) : Sound Go.Proofs.Try.prog 78 (slices_IndexFunc__string_string E) := prog_ok.sound (cx := slices_IndexFunc__string_string.cx E) rfl (EnvOK.nil _) hE Go.Proofs.Try.func78 rfl

/-! 71: slices.ContainsFunc[[]string,string] -/
def slices_ContainsFunc__string_string.cx (E : Nat → Sm) : Cx := ⟨tys, [], [], [], [(78, (slices_IndexFunc__string_string E))], E, [.tmp 4]⟩
def slices_ContainsFunc__string_string (E : Nat → Sm) : Sm := fun xs H Q => ∃ k, callK (slices_ContainsFunc__string_string.cx E) Go.Proofs.Try.f71 k xs H Q
theorem slices_ContainsFunc__string_string_eq (E : Nat → Sm) (k : Nat) (z0 : Pl) (z0n : Nat) (z1 : Nat) (z1c : List (Nat × Nat)) (H : Hp) (Q : Post) : callK (slices_ContainsFunc__string_string.cx E) Go.Proofs.Try.f71 (k + 1) [.g (.sl z0 z0n 1), .g (.fn z1 z1c)] H Q = (
 cl (slices_IndexFunc__string_string E) [(.g (.sl z0 z0n 1)), (.g (.fn z1 z1c))] H fun r0 H1 =>
 rG r0 fun v2 =>
 dI .i64 v2 fun i3 =>
 Q (.g (.bool (leI 0 i3))) H1) := by kernel_rfl
theorem slices_ContainsFunc__string_string_ok (E : Nat → Sm) (hE : ∀ f, SoundC Go.Proofs.Try.prog f (E f)) : Sound Go.Proofs.Try.prog 71 (slices_ContainsFunc__string_string E) := prog_ok.sound (cx := slices_ContainsFunc__string_string.cx E) rfl (EnvOK.cons ((slices_IndexFunc__string_string_ok E hE).c ⟨_, Go.Proofs.Try.func78, by kernel_rfl, by kernel_rfl⟩) (EnvOK.nil _)) hE Go.Proofs.Try.func71 rfl

/-! 72: cryostat/page.all[string]$1 -/
def page_all_string_1.cx (E : Nat → Sm) : Cx := ⟨tys, [], [], [], [], E, [.tmp 3]⟩
def page_all_string_1 (E : Nat → Sm) : Sm := fun xs H Q => ∃ k, callK (page_all_string_1.cx E) Go.Proofs.Try.f72 k xs H Q
theorem page_all_string_1_eq (E : Nat → Sm) (k : Nat) (z0 : ByteArray) (z1 : Nat) (z1o : Nat) (H : Hp) (Q : Post) : callK (page_all_string_1.cx E) Go.Proofs.Try.f72 (k + 1) [.g (.str z0), .g (.ptr (some (z1, z1o)))] H Q = (
 rd H z1 z1o fun v0 =>
 dF v0 fun n1 c2 =>
 cl (E n1) (cpl [(.g (.str z0))] c2) H fun r3 H4 =>
 rG r3 fun v5 =>
 dB v5 fun b6 =>
 Q (.g (.bool (!b6))) H4) := by kernel_rfl
theorem page_all_string_1_ok (E : Nat → Sm) (hE : ∀ f, SoundC Go.Proofs.Try.prog f (E f)) : Sound Go.Proofs.Try.prog 72 (page_all_string_1 E) := prog_ok.sound (cx := page_all_string_1.cx E) rfl (EnvOK.nil _) hE Go.Proofs.Try.func72 rfl

/-! 65: cryostat/page.all[string] -/
def page_all_string.cx (E : Nat → Sm) : Cx := ⟨tys, [3], [], [], [(71, (slices_ContainsFunc__string_string (dynOf [(72, (page_all_string_1 E))])))], E, [.tmp 4]⟩
def page_all_string (E : Nat → Sm) : Sm := fun xs H Q => ∃ k, callK (page_all_string.cx E) Go.Proofs.Try.f65 k xs H Q
theorem page_all_string_eq (E : Nat → Sm) (k : Nat) (z0 : Pl) (z0n : Nat) (z1 : Nat) (z1c : List (Nat × Nat)) (H : Hp) (Q : Post) : callK (page_all_string.cx E) Go.Proofs.Try.f65 (k + 1) [.g (.sl z0 z0n 1), .g (.fn z1 z1c)] H Q = (
 cl (slices_ContainsFunc__string_string (dynOf [(72, (page_all_string_1 E))])) [(.g (.sl z0 z0n 1)), (.g (.fn 72 [((ln H), 0)]))] (pu H (.row true 97 [(.fn z1 z1c)])) fun r0 H1 =>
 rG r0 fun v2 =>
 dB v2 fun b3 =>
 Q (.g (.bool (!b3))) H1) := by kernel_rfl
theorem page_all_string_ok (E : Nat → Sm) (hE : ∀ f, SoundC Go.Proofs.Try.prog f (E f)) : Sound Go.Proofs.Try.prog 65 (page_all_string E) := prog_ok.sound (cx := page_all_string.cx E) rfl (EnvOK.cons ((slices_ContainsFunc__string_string_ok (dynOf [(72, (page_all_string_1 E))]) (dynOf_ok (EnvOK.cons ((page_all_string_1_ok E hE).c ⟨_, Go.Proofs.Try.func72, by kernel_rfl, by kernel_rfl⟩) (EnvOK.nil _)))).c ⟨_, Go.Proofs.Try.func71, by kernel_rfl, by kernel_rfl⟩) (EnvOK.nil _)) hE Go.Proofs.Try.func65 rfl

/-! 79: slices.IndexFunc[[]int,int] -/
def slices_IndexFunc__int_int.cx (E : Nat → Sm) : Cx := ⟨tys, [], [(2, [0, 1, 7, 8])], [], [], E, [.tmp 4]⟩
def slices_IndexFunc__int_int (E : Nat → Sm) : Sm := fun xs H Q => ∃ k, callK (slices_IndexFunc__int_int.cx E) Go.Proofs.Try.f79 k xs H Q
def slices_IndexFunc__int_int.l2 (E : Nat → Sm) (k : Nat) (xx0 : Pl) (nx1 : Nat) (nx2 : Nat) (cx3 : List (Nat × Nat)) (ix4 : Int) (ix5 : Int) (H : Hp) (Q : Post) : Prop := loopK (slices_IndexFunc__int_int.cx E) Go.Proofs.Try.f79 2 k ((.g (.sl xx0 nx1 1)) :: (.g (.fn nx2 cx3)) :: B 5 ((.g (.int .i64 ix4)) :: (.g (.int .i64 ix5)) :: B 10 ([]))) H Q
theorem slices_IndexFunc__int_int_eq (E : Nat → Sm) (k : Nat) (z0 : Pl) (z0n : Nat) (z1 : Nat) (z1c : List (Nat × Nat)) (H : Hp) (Q : Post) : callK (slices_IndexFunc__int_int.cx E) Go.Proofs.Try.f79 (k + 1) [.g (.sl z0 z0n 1), .g (.fn z1 z1c)] H Q = (
 slices_IndexFunc__int_int.l2 E k z0 z0n z1 z1c (nI z0n) 0 H Q) := by kernel_rfl
theorem slices_IndexFunc__int_int.l2_eq (E : Nat → Sm) (k : Nat) (xx0 : Pl) (nx1 : Nat) (nx2 : Nat) (cx3 : List (Nat × Nat)) (ix4 : Int) (ix5 : Int) (H : Hp) (Q : Post) : slices_IndexFunc__int_int.l2 E (k + 1) xx0 nx1 nx2 cx3 ix4 ix5 H Q = (
 bite (ltI ix5 ix4)
 (chk true (chk ((leI 0 ix5) && (ltI ix5 (nI nx1))) (pS xx0 fun n0 n1 =>
  rd H n0 (n1 + ((tN ix5) * 1)) fun v2 =>
  dI .i64 v2 fun i3 =>
  cl (E nx2) (cpl [(.g (.int .i64 i3))] cx3) H fun r4 H5 =>
  rG r4 fun v6 =>
  dB v6 fun b7 =>
  bite b7
  (Q (.g (.int .i64 ix5)) H5)
  (slices_IndexFunc__int_int.l2 E k xx0 nx1 nx2 cx3 ix4 (wrapI .i64 (ix5 + 1)) H5 Q))))
 (Q (.g (.int .i64 (-1))) H)) := by kernel_rfl
theorem slices_IndexFunc__int_int_ok (E : Nat → Sm) (hE : ∀ f, SoundC Go.Proofs.Try.prog f (E f)) : Sound Go.Proofs.Try.prog 79 (slices_IndexFunc__int_int E) := prog_ok.sound (cx := slices_IndexFunc__int_int.cx E) rfl (EnvOK.nil _) hE Go.Proofs.Try.func79 rfl

/-! 73: slices.ContainsFunc[[]int,int] -/
def slices_ContainsFunc__int_int.cx (E : Nat → Sm) : Cx := ⟨tys, [], [], [], [(79, (slices_IndexFunc__int_int E))], E, [.tmp 4]⟩
def slices_ContainsFunc__int_int (E : Nat → Sm) : Sm := fun xs H Q => ∃ k, callK (slices_ContainsFunc__int_int.cx E) Go.Proofs.Try.f73 k xs H Q
theorem slices_ContainsFunc__int_int_eq (E : Nat → Sm) (k : Nat) (z0 : Pl) (z0n : Nat) (z1 : Nat) (z1c : List (Nat × Nat)) (H : Hp) (Q : Post) : callK (slices_ContainsFunc__int_int.cx E) Go.Proofs.Try.f73 (k + 1) [.g (.sl z0 z0n 1), .g (.fn z1 z1c)] H Q = (
 cl (slices_IndexFunc__int_int E) [(.g (.sl z0 z0n 1)), (.g (.fn z1 z1c))] H fun r0 H1 =>
 rG r0 fun v2 =>
 dI .i64 v2 fun i3 =>
 Q (.g (.bool (leI 0 i3))) H1) := by kernel_rfl
theorem slices_ContainsFunc__int_int_ok (E : Nat → Sm) (hE : ∀ f, SoundC Go.Proofs.Try.prog f (E f)) : Sound Go.Proofs.Try.prog 73 (slices_ContainsFunc__int_int E) := prog_ok.sound (cx := slices_ContainsFunc__int_int.cx E) rfl (EnvOK.cons ((slices_IndexFunc__int_int_ok E hE).c ⟨_, Go.Proofs.Try.func79, by kernel_rfl, by kernel_rfl⟩) (EnvOK.nil _)) hE Go.Proofs.Try.func73 rfl

/-! 74: cryostat/page.all[int]$1 -/
def page_all_int_1.cx (E : Nat → Sm) : Cx := ⟨tys, [], [], [], [], E, [.tmp 3]⟩
def page_all_int_1 (E : Nat → Sm) : Sm := fun xs H Q => ∃ k, callK (page_all_int_1.cx E) Go.Proofs.Try.f74 k xs H Q
theorem page_all_int_1_eq (E : Nat → Sm) (k : Nat) (z0 : Int) (z1 : Nat) (z1o : Nat) (H : Hp) (Q : Post) : callK (page_all_int_1.cx E) Go.Proofs.Try.f74 (k + 1) [.g (.int .i64 z0), .g (.ptr (some (z1, z1o)))] H Q = (
 rd H z1 z1o fun v0 =>
 dF v0 fun n1 c2 =>
 cl (E n1) (cpl [(.g (.int .i64 z0))] c2) H fun r3 H4 =>
 rG r3 fun v5 =>
 dB v5 fun b6 =>
 Q (.g (.bool (!b6))) H4) := by kernel_rfl
theorem page_all_int_1_ok (E : Nat → Sm) (hE : ∀ f, SoundC Go.Proofs.Try.prog f (E f)) : Sound Go.Proofs.Try.prog 74 (page_all_int_1 E) := prog_ok.sound (cx := page_all_int_1.cx E) rfl (EnvOK.nil _) hE Go.Proofs.Try.func74 rfl

/-! 68: cryostat/page.all[int] -/
def page_all_int.cx (E : Nat → Sm) : Cx := ⟨tys, [3], [], [], [(73, (slices_ContainsFunc__int_int (dynOf [(74, (page_all_int_1 E))])))], E, [.tmp 4]⟩
def page_all_int (E : Nat → Sm) : Sm := fun xs H Q => ∃ k, callK (page_all_int.cx E) Go.Proofs.Try.f68 k xs H Q
theorem page_all_int_eq (E : Nat → Sm) (k : Nat) (z0 : Pl) (z0n : Nat) (z1 : Nat) (z1c : List (Nat × Nat)) (H : Hp) (Q : Post) : callK (page_all_int.cx E) Go.Proofs.Try.f68 (k + 1) [.g (.sl z0 z0n 1), .g (.fn z1 z1c)] H Q = (
 cl (slices_ContainsFunc__int_int (dynOf [(74, (page_all_int_1 E))])) [(.g (.sl z0 z0n 1)), (.g (.fn 74 [((ln H), 0)]))] (pu H (.row true 41 [(.fn z1 z1c)])) fun r0 H1 =>
 rG r0 fun v2 =>
 dB v2 fun b3 =>
 Q (.g (.bool (!b3))) H1) := by kernel_rfl
theorem page_all_int_ok (E : Nat → Sm) (hE : ∀ f, SoundC Go.Proofs.Try.prog f (E f)) : Sound Go.Proofs.Try.prog 68 (page_all_int E) := prog_ok.sound (cx := page_all_int.cx E) rfl (EnvOK.cons ((slices_ContainsFunc__int_int_ok (dynOf [(74, (page_all_int_1 E))]) (dynOf_ok (EnvOK.cons ((page_all_int_1_ok E hE).c ⟨_, Go.Proofs.Try.func74, by kernel_rfl, by kernel_rfl⟩) (EnvOK.nil _)))).c ⟨_, Go.Proofs.Try.func73, by kernel_rfl, by kernel_rfl⟩) (EnvOK.nil _)) hE Go.Proofs.Try.func68 rfl

/-! 82: slices.Values[[]int,int]$1 -/
def slices_Values__int_int_1.cx (E : Nat → Sm) : Cx := ⟨tys, [], [(1, [0, 5, 6, 7])], [], [], E, []⟩
def slices_Values__int_int_1 (E : Nat → Sm) : Sm := fun xs H Q => ∃ k, callK (slices_Values__int_int_1.cx E) Go.Proofs.Try.f82 k xs H Q
def slices_Values__int_int_1.l1 (E : Nat → Sm) (k : Nat) (nx0 : Nat) (cx1 : List (Nat × Nat)) (xx2 : Pl) (nx3 : Nat) (ix4 : Int) (ix5 : Int) (H : Hp) (Q : Post) : Prop := loopK (slices_Values__int_int_1.cx E) Go.Proofs.Try.f82 1 k ((.g (.fn nx0 cx1)) :: B 4 ((.g (.sl xx2 nx3 1)) :: (.g (.int .i64 ix4)) :: (.g (.int .i64 ix5)) :: B 8 ([]))) H Q
theorem slices_Values__int_int_1_eq (E : Nat → Sm) (k : Nat) (z0 : Nat) (z0c : List (Nat × Nat)) (z1 : Nat) (z1o : Nat) (H : Hp) (Q : Post) : callK (slices_Values__int_int_1.cx E) Go.Proofs.Try.f82 (k + 1) [.g (.fn z0 z0c), .g (.ptr (some (z1, z1o)))] H Q = (
 rd H z1 z1o fun v0 =>
 dL 1 v0 fun x1 n2 =>
 slices_Values__int_int_1.l1 E k z0 z0c x1 n2 (nI n2) 0 H Q) := by kernel_rfl
theorem slices_Values__int_int_1.l1_eq (E : Nat → Sm) (k : Nat) (nx0 : Nat) (cx1 : List (Nat × Nat)) (xx2 : Pl) (nx3 : Nat) (ix4 : Int) (ix5 : Int) (H : Hp) (Q : Post) : slices_Values__int_int_1.l1 E (k + 1) nx0 cx1 xx2 nx3 ix4 ix5 H Q = (
 bite (ltI ix5 ix4)
 (chk true (chk ((leI 0 ix5) && (ltI ix5 (nI nx3))) (pS xx2 fun n0 n1 =>
  rd H n0 (n1 + ((tN ix5) * 1)) fun v2 =>
  dI .i64 v2 fun i3 =>
  cl (E nx0) (cpl [(.g (.int .i64 i3))] cx1) H fun r4 H5 =>
  rG r4 fun v6 =>
  dB v6 fun b7 =>
  bite (!b7)
  (Q (.tup []) H5)
  (slices_Values__int_int_1.l1 E k nx0 cx1 xx2 nx3 ix4 (wrapI .i64 (ix5 + 1)) H5 Q))))
 (Q (.tup []) H)) := by kernel_rfl
theorem slices_Values__int_int_1_ok (E : Nat → Sm) (hE : ∀ f, SoundC Go.Proofs.Try.prog f (E f)) : Sound Go.Proofs.Try.prog 82 (slices_Values__int_int_1 E) := prog_ok.sound (cx := slices_Values__int_int_1.cx E) rfl (EnvOK.nil _) hE Go.Proofs.Try.func82 rfl

/-! 76: slices.Values[[]int,int] -/
def slices_Values__int_int.cx (E : Nat → Sm) : Cx := ⟨tys, [1], [], [], [], E, [.tmp 2]⟩
def slices_Values__int_int (E : Nat → Sm) : Sm := fun xs H Q => ∃ k, callK (slices_Values__int_int.cx E) Go.Proofs.Try.f76 k xs H Q
theorem slices_Values__int_int_eq (E : Nat → Sm) (k : Nat) (z0 : Pl) (z0n : Nat) (H : Hp) (Q : Post) : callK (slices_Values__int_int.cx E) Go.Proofs.Try.f76 (k + 1) [.g (.sl z0 z0n 1)] H Q = (
 Q (.g (.fn 82 [((ln H), 0)])) (pu H (.row true 32 [(.sl z0 z0n 1)]))) := by kernel_rfl
theorem slices_Values__int_int_ok (E : Nat → Sm) (hE : ∀ f, SoundC Go.Proofs.Try.prog f (E f)) : Sound Go.Proofs.Try.prog 76 (slices_Values__int_int E) := prog_ok.sound (cx := slices_Values__int_int.cx E) rfl (EnvOK.nil _) hE Go.Proofs.Try.func76 rfl

/-! 80: slices.Collect[int] -/
def slices_Collect_int.cx : Cx := ⟨tys, [], [], [], [(83, slices_AppendSeq__int_int)], noDyn, [.tmp 2]⟩
def slices_Collect_int : Sm := fun xs H Q => ∃ k, callK (slices_Collect_int.cx) Go.Proofs.Try.f80 k xs H Q
theorem slices_Collect_int_eq (k : Nat) (z0 : Nat) (z0c : List (Nat × Nat)) (H : Hp) (Q : Post) : callK (slices_Collect_int.cx) Go.Proofs.Try.f80 (k + 1) [.g (.fn z0 z0c)] H Q = (
 cl slices_AppendSeq__int_int [(.g (.sl none 0 0)), (.g (.fn z0 z0c))] H fun r0 H1 =>
 rG r0 fun v2 =>
 dL 1 v2 fun x3 n4 =>
 Q (.g (.sl x3 n4 1)) H1) := by kernel_rfl
theorem slices_Collect_int_ok : Sound Go.Proofs.Try.prog 80 (slices_Collect_int) := prog_ok.sound (cx := slices_Collect_int.cx) rfl (EnvOK.cons (slices_AppendSeq__int_int_ok) (EnvOK.nil _)) (noDyn_ok _) Go.Proofs.Try.func80 rfl

/-! 75: slices.Sorted[int] -/
def slices_Sorted_int.cx : Cx := ⟨tys, [], [], [], [(80, slices_Collect_int), (81, slices_Sort__int_int)], noDyn, [.tmp 2]⟩
def slices_Sorted_int : Sm := fun xs H Q => ∃ k, callK (slices_Sorted_int.cx) Go.Proofs.Try.f75 k xs H Q
theorem slices_Sorted_int_eq (k : Nat) (z0 : Nat) (z0c : List (Nat × Nat)) (H : Hp) (Q : Post) : callK (slices_Sorted_int.cx) Go.Proofs.Try.f75 (k + 1) [.g (.fn z0 z0c)] H Q = (
 cl slices_Collect_int [(.g (.fn z0 z0c))] H fun r0 H1 =>
 rG r0 fun v2 =>
 dL 1 v2 fun x3 n4 =>
 cl slices_Sort__int_int [(.g (.sl x3 n4 1))] H1 fun r5 H6 =>
 Q (.g (.sl x3 n4 1)) H6) := by kernel_rfl
theorem slices_Sorted_int_ok : Sound Go.Proofs.Try.prog 75 (slices_Sorted_int) := prog_ok.sound (cx := slices_Sorted_int.cx) rfl (EnvOK.cons ((slices_Collect_int_ok).c ⟨_, Go.Proofs.Try.func80, by kernel_rfl, by kernel_rfl⟩) (EnvOK.cons (slices_Sort__int_int_ok) (EnvOK.nil _))) (noDyn_ok _) Go.Proofs.Try.func75 rfl

/-! 77: slices.Compact[[]int,int] -/
def slices_Compact__int_int.cx : Cx := ⟨tys, [], [(4, [0, 3]), (9, [0, 3, 4, 5])], [], [], noDyn, [.tmp 2]⟩
def slices_Compact__int_int : Sm := fun xs H Q => ∃ k, callK (slices_Compact__int_int.cx) Go.Proofs.Try.f77 k xs H Q
def slices_Compact__int_int.l4 (k : Nat) (xx0 : Pl) (nx1 : Nat) (ix2 : Int) (H : Hp) (Q : Post) : Prop := loopK (slices_Compact__int_int.cx) Go.Proofs.Try.f77 4 k ((.g (.sl xx0 nx1 1)) :: .bad :: .bad :: (.g (.int .i64 ix2)) :: B 57 ([])) H Q
def slices_Compact__int_int.l9 (k : Nat) (xx0 : Pl) (nx1 : Nat) (ix2 : Int) (xx3 : Pl) (nx4 : Nat) (ix5 : Int) (H : Hp) (Q : Post) : Prop := loopK (slices_Compact__int_int.cx) Go.Proofs.Try.f77 9 k ((.g (.sl xx0 nx1 1)) :: .bad :: .bad :: (.g (.int .i64 ix2)) :: (.g (.sl xx3 nx4 1)) :: (.g (.int .i64 ix5)) :: B 55 ([])) H Q
theorem slices_Compact__int_int_eq (k : Nat) (z0 : Pl) (z0n : Nat) (H : Hp) (Q : Post) : callK (slices_Compact__int_int.cx) Go.Proofs.Try.f77 (k + 1) [.g (.sl z0 z0n 1)] H Q = (
 bite (ltI (nI z0n) 2)
 (Q (.g (.sl z0 z0n 1)) H)
 (slices_Compact__int_int.l4 k z0 z0n 1 H Q)) := by kernel_rfl
theorem slices_Compact__int_int.l4_eq (k : Nat) (xx0 : Pl) (nx1 : Nat) (ix2 : Int) (H : Hp) (Q : Post) : slices_Compact__int_int.l4 (k + 1) xx0 nx1 ix2 H Q = (
 bite (ltI ix2 (nI nx1))
 (chk true (chk ((leI 0 ix2) && (ltI ix2 (nI nx1))) (pS xx0 fun n0 n1 =>
  rd H n0 (n1 + ((tN ix2) * 1)) fun v2 =>
  dI .i64 v2 fun i3 =>
  chk true (chk ((leI 0 (wrapI .i64 (ix2 - 1))) && (ltI (wrapI .i64 (ix2 - 1)) (nI nx1))) (pS xx0 fun n4 n5 =>
  rd H n4 (n5 + ((tN (wrapI .i64 (ix2 - 1))) * 1)) fun v6 =>
  dI .i64 v6 fun i7 =>
  bite (eqI i3 i7)
  (chk true (chk (leI 0 ix2) (chk (leN (tN ix2) nx1) (slices_Compact__int_int.l9 k xx0 nx1 ix2 (shf xx0 ((tN ix2) * 1)) (nx1 - (tN ix2)) 1 H Q))))
  (slices_Compact__int_int.l4 k xx0 nx1 (wrapI .i64 (ix2 + 1)) H Q))))))
 (Q (.g (.sl xx0 nx1 1)) H)) := by kernel_rfl
theorem slices_Compact__int_int.l9_eq (k : Nat) (xx0 : Pl) (nx1 : Nat) (ix2 : Int) (xx3 : Pl) (nx4 : Nat) (ix5 : Int) (H : Hp) (Q : Post) : slices_Compact__int_int.l9 (k + 1) xx0 nx1 ix2 xx3 nx4 ix5 H Q = (
 bite (ltI ix5 (nI nx4))
 (chk true (chk ((leI 0 ix5) && (ltI ix5 (nI nx4))) (pS xx3 fun n0 n1 =>
  rd H n0 (n1 + ((tN ix5) * 1)) fun v2 =>
  dI .i64 v2 fun i3 =>
  chk true (chk ((leI 0 (wrapI .i64 (ix5 - 1))) && (ltI (wrapI .i64 (ix5 - 1)) (nI nx4))) (pS xx3 fun n4 n5 =>
  rd H n4 (n5 + ((tN (wrapI .i64 (ix5 - 1))) * 1)) fun v6 =>
  dI .i64 v6 fun i7 =>
  bite (!(eqI i3 i7))
  (chk true (chk ((leI 0 ix5) && (ltI ix5 (nI nx4))) (pS xx3 fun n8 n9 =>
   rd H n8 (n9 + ((tN ix5) * 1)) fun v10 =>
   dI .i64 v10 fun i11 =>
   chk true (chk ((leI 0 ix2) && (ltI ix2 (nI nx1))) (pS xx0 fun n12 n13 =>
   wr H n12 (n13 + ((tN ix2) * 1)) (.int .i64 i11) fun H14 =>
   slices_Compact__int_int.l9 k xx0 nx1 (wrapI .i64 (ix2 + 1)) xx3 nx4 (wrapI .i64 (ix5 + 1)) H14 Q)))))
  (slices_Compact__int_int.l9 k xx0 nx1 ix2 xx3 nx4 (wrapI .i64 (ix5 + 1)) H Q))))))
 (chk true (chk (leI 0 ix2) (chk (leN (tN ix2) nx1) (chk true (clr H (shf xx0 ((tN ix2) * 1)) (nx1 - (tN ix2)) [(.int .i64 0)] fun H15 =>
  chk true (chk (leI 0 ix2) (chk ((leN 0 (tN ix2)) && ((leN (tN ix2) nx1) || (room H15 xx0 ((tN ix2) * 1)))) (Q (.g (.sl (shf xx0 0) ((tN ix2) - 0) 1)) H15))))))))) := by kernel_rfl
theorem slices_Compact__int_int_ok : Sound Go.Proofs.Try.prog 77 (slices_Compact__int_int) := prog_ok.sound (cx := slices_Compact__int_int.cx) rfl (EnvOK.nil _) (noDyn_ok _) Go.Proofs.Try.func77 rfl

/-! 70: cryostat/page.unlike -/
def page_unlike.cx (E : Nat → Sm) : Cx := ⟨tys, [], [], [], [(76, (slices_Values__int_int E)), (75, slices_Sorted_int), (77, slices_Compact__int_int)], E, [.tmp 2]⟩
def page_unlike (E : Nat → Sm) : Sm := fun xs H Q => ∃ k, callK (page_unlike.cx E) Go.Proofs.Try.f70 k xs H Q
theorem page_unlike_eq (E : Nat → Sm) (k : Nat) (z0 : Pl) (z0n : Nat) (H : Hp) (Q : Post) : callK (page_unlike.cx E) Go.Proofs.Try.f70 (k + 1) [.g (.sl z0 z0n 1)] H Q = (
 cl (slices_Values__int_int E) [(.g (.sl z0 z0n 1))] H fun r0 H1 =>
 rG r0 fun v2 =>
 cl slices_Sorted_int [(.g v2)] H1 fun r3 H4 =>
 rG r3 fun v5 =>
 dL 1 v5 fun x6 n7 =>
 cl slices_Compact__int_int [(.g (.sl x6 n7 1))] H4 fun r8 H9 =>
 rG r8 fun v10 =>
 dL 1 v10 fun x11 n12 =>
 Q (.g (.bool (eqI (nI n12) (nI z0n)))) H9) := by kernel_rfl
theorem page_unlike_ok (E : Nat → Sm) (hE : ∀ f, SoundC Go.Proofs.Try.prog f (E f)) : Sound Go.Proofs.Try.prog 70 (page_unlike E) := prog_ok.sound (cx := page_unlike.cx E) rfl (EnvOK.cons ((slices_Values__int_int_ok E hE).c ⟨_, Go.Proofs.Try.func76, by kernel_rfl, by kernel_rfl⟩) (EnvOK.cons ((slices_Sorted_int_ok).c ⟨_, Go.Proofs.Try.func75, by kernel_rfl, by kernel_rfl⟩) (EnvOK.cons ((slices_Compact__int_int_ok).c ⟨_, Go.Proofs.Try.func77, by kernel_rfl, by kernel_rfl⟩) (EnvOK.nil _)))) hE Go.Proofs.Try.func70 rfl

/-! 66: cryostat/page.Key -/
def page_Key.cx : Cx := ⟨tys, [], [], [], [], noDyn, [.tmp 2]⟩
def page_Key : Sm := fun xs H Q => ∃ k, callK (page_Key.cx) Go.Proofs.Try.f66 k xs H Q
theorem page_Key_eq (k : Nat) (z0 : ByteArray) (H : Hp) (Q : Post) : callK (page_Key.cx) Go.Proofs.Try.f66 (k + 1) [.g (.str z0)] H Q = (
 bite (leI 1 (sz z0))
 (Q (.g (.bool (leI (sz z0) 6))) H)
 (Q (.g (.bool false)) H)) := by kernel_rfl
theorem page_Key_ok : Sound Go.Proofs.Try.prog 66 (page_Key) := prog_ok.sound (cx := page_Key.cx) rfl (EnvOK.nil _) (noDyn_ok _) Go.Proofs.Try.func66 rfl

/-! 67: cryostat/page.Value -/
def page_Value.cx : Cx := ⟨tys, [], [], [], [], noDyn, [.tmp 2]⟩
def page_Value : Sm := fun xs H Q => ∃ k, callK (page_Value.cx) Go.Proofs.Try.f67 k xs H Q
theorem page_Value_eq (k : Nat) (z0 : ByteArray) (H : Hp) (Q : Post) : callK (page_Value.cx) Go.Proofs.Try.f67 (k + 1) [.g (.str z0)] H Q = (
 Q (.g (.bool (leI (sz z0) 10))) H) := by kernel_rfl
theorem page_Value_ok : Sound Go.Proofs.Try.prog 67 (page_Value) := prog_ok.sound (cx := page_Value.cx) rfl (EnvOK.nil _) (noDyn_ok _) Go.Proofs.Try.func67 rfl

/-! 69: cryostat/page.Kid -/
def page_Kid.cx : Cx := ⟨tys, [], [], [], [], noDyn, [.tmp 2]⟩
def page_Kid : Sm := fun xs H Q => ∃ k, callK (page_Kid.cx) Go.Proofs.Try.f69 k xs H Q
theorem page_Kid_eq (k : Nat) (z0 : Int) (H : Hp) (Q : Post) : callK (page_Kid.cx) Go.Proofs.Try.f69 (k + 1) [.g (.int .i64 z0)] H Q = (
 bite (leI 1 z0)
 (Q (.g (.bool (ltI z0 48))) H)
 (Q (.g (.bool false)) H)) := by kernel_rfl
theorem page_Kid_ok : Sound Go.Proofs.Try.prog 69 (page_Kid) := prog_ok.sound (cx := page_Kid.cx) rfl (EnvOK.nil _) (noDyn_ok _) Go.Proofs.Try.func69 rfl

/-! 63: cryostat/page.Fits -/
def page_Fits.cx : Cx := ⟨tys, [], [], [], [(64, page_rising), (65, (page_all_string (dynOf [(66, page_Key), (67, page_Value), (69, page_Kid)]))), (68, (page_all_int (dynOf [(66, page_Key), (67, page_Value), (69, page_Kid)]))), (70, (page_unlike (dynOf [(66, page_Key), (67, page_Value), (69, page_Kid)])))], noDyn, [.tmp 2]⟩
def page_Fits : Sm := fun xs H Q => ∃ k, callK (page_Fits.cx) Go.Proofs.Try.f63 k xs H Q
theorem page_Fits_eq (k : Nat) (z0 : Bool) (z1 : Bool) (z2 : Pl) (z2n : Nat) (z3 : Pl) (z3n : Nat) (z4 : Pl) (z4n : Nat) (H : Hp) (Q : Post) : callK (page_Fits.cx) Go.Proofs.Try.f63 (k + 1) [.agg [.bool z0, .bool z1, .sl z2 z2n 1, .sl z3 z3n 1, .sl z4 z4n 1]] H Q = (
 bite (!z0)
 (Q (.g (.bool false)) H)
 (cl page_rising [(.g (.sl z2 z2n 1))] H fun r0 H1 =>
  rG r0 fun v2 =>
  dB v2 fun b3 =>
  bite (!b3)
  (Q (.g (.bool false)) H1)
  (cl (page_all_string (dynOf [(66, page_Key), (67, page_Value), (69, page_Kid)])) [(.g (.sl z2 z2n 1)), (.g (.fn 66 []))] H1 fun r4 H5 =>
   rG r4 fun v6 =>
   dB v6 fun b7 =>
   bite (!b7)
   (Q (.g (.bool false)) H5)
   (bite z1
    (bite (eqI (nI z3n) (nI z2n))
     (bite (eqI (nI z4n) 0)
      (cl (page_all_string (dynOf [(66, page_Key), (67, page_Value), (69, page_Kid)])) [(.g (.sl z3 z3n 1)), (.g (.fn 67 []))] H5 fun r8 H9 =>
       rG r8 fun v10 =>
       dB v10 fun b11 =>
       Q (.g (.bool b11)) H9)
      (Q (.g (.bool false)) H5))
     (Q (.g (.bool false)) H5))
    (bite (leI 1 (nI z2n))
     (bite (eqI (nI z3n) 0)
      (bite (eqI (nI z4n) (wrapI .i64 ((nI z2n) + 1)))
       (cl (page_all_int (dynOf [(66, page_Key), (67, page_Value), (69, page_Kid)])) [(.g (.sl z4 z4n 1)), (.g (.fn 69 []))] H5 fun r12 H13 =>
        rG r12 fun v14 =>
        dB v14 fun b15 =>
        bite b15
        (cl (page_unlike (dynOf [(66, page_Key), (67, page_Value), (69, page_Kid)])) [(.g (.sl z4 z4n 1))] H13 fun r16 H17 =>
         rG r16 fun v18 =>
         dB v18 fun b19 =>
         Q (.g (.bool b19)) H17)
        (Q (.g (.bool false)) H13))
       (Q (.g (.bool false)) H5))
      (Q (.g (.bool false)) H5))
     (Q (.g (.bool false)) H5)))))) := by kernel_rfl
theorem page_Fits_ok : Sound Go.Proofs.Try.prog 63 (page_Fits) := prog_ok.sound (cx := page_Fits.cx) rfl (EnvOK.cons ((page_rising_ok).c ⟨_, Go.Proofs.Try.func64, by kernel_rfl, by kernel_rfl⟩) (EnvOK.cons ((page_all_string_ok (dynOf [(66, page_Key), (67, page_Value), (69, page_Kid)]) (dynOf_ok (EnvOK.cons ((page_Key_ok).c ⟨_, Go.Proofs.Try.func66, by kernel_rfl, by kernel_rfl⟩) (EnvOK.cons ((page_Value_ok).c ⟨_, Go.Proofs.Try.func67, by kernel_rfl, by kernel_rfl⟩) (EnvOK.cons ((page_Kid_ok).c ⟨_, Go.Proofs.Try.func69, by kernel_rfl, by kernel_rfl⟩) (EnvOK.nil _)))))).c ⟨_, Go.Proofs.Try.func65, by kernel_rfl, by kernel_rfl⟩) (EnvOK.cons ((page_all_int_ok (dynOf [(66, page_Key), (67, page_Value), (69, page_Kid)]) (dynOf_ok (EnvOK.cons ((page_Key_ok).c ⟨_, Go.Proofs.Try.func66, by kernel_rfl, by kernel_rfl⟩) (EnvOK.cons ((page_Value_ok).c ⟨_, Go.Proofs.Try.func67, by kernel_rfl, by kernel_rfl⟩) (EnvOK.cons ((page_Kid_ok).c ⟨_, Go.Proofs.Try.func69, by kernel_rfl, by kernel_rfl⟩) (EnvOK.nil _)))))).c ⟨_, Go.Proofs.Try.func68, by kernel_rfl, by kernel_rfl⟩) (EnvOK.cons ((page_unlike_ok (dynOf [(66, page_Key), (67, page_Value), (69, page_Kid)]) (dynOf_ok (EnvOK.cons ((page_Key_ok).c ⟨_, Go.Proofs.Try.func66, by kernel_rfl, by kernel_rfl⟩) (EnvOK.cons ((page_Value_ok).c ⟨_, Go.Proofs.Try.func67, by kernel_rfl, by kernel_rfl⟩) (EnvOK.cons ((page_Kid_ok).c ⟨_, Go.Proofs.Try.func69, by kernel_rfl, by kernel_rfl⟩) (EnvOK.nil _)))))).c ⟨_, Go.Proofs.Try.func70, by kernel_rfl, by kernel_rfl⟩) (EnvOK.nil _))))) (noDyn_ok _) Go.Proofs.Try.func63 rfl

/-! 58: cryostat/page.May -/
def page_May.cx : Cx := ⟨tys, [], [], [], [(63, page_Fits)], noDyn, [.tmp 2]⟩
def page_May : Sm := fun xs H Q => ∃ k, callK (page_May.cx) Go.Proofs.Try.f58 k xs H Q
theorem page_May_eq (k : Nat) (z0 : Bool) (z1 : Bool) (z2 : Pl) (z2n : Nat) (z3 : Pl) (z3n : Nat) (z4 : Pl) (z4n : Nat) (H : Hp) (Q : Post) : callK (page_May.cx) Go.Proofs.Try.f58 (k + 1) [.agg [.bool z0, .bool z1, .sl z2 z2n 1, .sl z3 z3n 1, .sl z4 z4n 1]] H Q = (
 bite (leI (nI z2n) 4)
 (cl page_Fits [(.agg [(.bool z0), (.bool z1), (.sl z2 z2n 1), (.sl z3 z3n 1), (.sl z4 z4n 1)])] H fun r0 H1 =>
  rG r0 fun v2 =>
  dB v2 fun b3 =>
  Q (.g (.bool b3)) H1)
 (Q (.g (.bool false)) H)) := by kernel_rfl
theorem page_May_ok : Sound Go.Proofs.Try.prog 58 (page_May) := prog_ok.sound (cx := page_May.cx) rfl (EnvOK.cons ((page_Fits_ok).c ⟨_, Go.Proofs.Try.func63, by kernel_rfl, by kernel_rfl⟩) (EnvOK.nil _)) (noDyn_ok _) Go.Proofs.Try.func58 rfl

/-! 57: cryostat/cryostatref1.rising -/
def ref1_rising.cx : Cx := ⟨tys, [], [(2, [0, 3])], [], [], noDyn, [.tmp 2]⟩
def ref1_rising : Sm := fun xs H Q => ∃ k, callK (ref1_rising.cx) Go.Proofs.Try.f57 k xs H Q
def ref1_rising.l2 (k : Nat) (xx0 : Pl) (nx1 : Nat) (ix2 : Int) (H : Hp) (Q : Post) : Prop := loopK (ref1_rising.cx) Go.Proofs.Try.f57 2 k ((.g (.sl xx0 nx1 1)) :: .bad :: .bad :: (.g (.int .i64 ix2)) :: B 36 ([])) H Q
theorem ref1_rising_eq (k : Nat) (z0 : Pl) (z0n : Nat) (H : Hp) (Q : Post) : callK (ref1_rising.cx) Go.Proofs.Try.f57 (k + 1) [.g (.sl z0 z0n 1)] H Q = (
 ref1_rising.l2 k z0 z0n 0 H Q) := by kernel_rfl
theorem ref1_rising.l2_eq (k : Nat) (xx0 : Pl) (nx1 : Nat) (ix2 : Int) (H : Hp) (Q : Post) : ref1_rising.l2 (k + 1) xx0 nx1 ix2 H Q = (
 bite (ltI ix2 (nI nx1))
 (chk true (chk ((leI 0 ix2) && (ltI ix2 (nI nx1))) (pS xx0 fun n0 n1 =>
  rd H n0 (n1 + ((tN ix2) * 1)) fun v2 =>
  dS v2 fun s3 =>
  bite (ltI (sz s3) 1)
  (Q (.g (.bool false)) H)
  (chk true (chk ((leI 0 ix2) && (ltI ix2 (nI nx1))) (pS xx0 fun n4 n5 =>
   rd H n4 (n5 + ((tN ix2) * 1)) fun v6 =>
   dS v6 fun s7 =>
   bite (ltI 6 (sz s7))
   (Q (.g (.bool false)) H)
   (bite (ltI 0 ix2)
    (chk true (chk ((leI 0 ix2) && (ltI ix2 (nI nx1))) (pS xx0 fun n8 n9 =>
     rd H n8 (n9 + ((tN ix2) * 1)) fun v10 =>
     dS v10 fun s11 =>
     chk true (chk ((leI 0 (wrapI .i64 (ix2 - 1))) && (ltI (wrapI .i64 (ix2 - 1)) (nI nx1))) (pS xx0 fun n12 n13 =>
     rd H n12 (n13 + ((tN (wrapI .i64 (ix2 - 1))) * 1)) fun v14 =>
     dS v14 fun s15 =>
     bite ((strLt s11 s15) || (strEq s11 s15))
     (Q (.g (.bool false)) H)
     (ref1_rising.l2 k xx0 nx1 (wrapI .i64 (ix2 + 1)) H Q))))))
    (ref1_rising.l2 k xx0 nx1 (wrapI .i64 (ix2 + 1)) H Q))))))))
 (Q (.g (.bool true)) H)) := by kernel_rfl
theorem ref1_rising_ok : Sound Go.Proofs.Try.prog 57 (ref1_rising) := prog_ok.sound (cx := ref1_rising.cx) rfl (EnvOK.nil _) (noDyn_ok _) Go.Proofs.Try.func57 rfl

/-! 46: cryostat/cryostatref1.PageWith -/
def ref1_PageWith.cx : Cx := ⟨tys, [], [(5, [2, 5]), (11, [2, 6]), (16, [2, 6, 7])], [], [(57, ref1_rising)], noDyn, [.tmp 4]⟩
def ref1_PageWith : Sm := fun xs H Q => ∃ k, callK (ref1_PageWith.cx) Go.Proofs.Try.f46 k xs H Q
def ref1_PageWith.l5 (k : Nat) (bx0 : Bool) (bx1 : Bool) (xx2 : Pl) (nx3 : Nat) (xx4 : Pl) (nx5 : Nat) (xx6 : Pl) (nx7 : Nat) (ix8 : Int) (H : Hp) (Q : Post) : Prop := loopK (ref1_PageWith.cx) Go.Proofs.Try.f46 5 k (.bad :: .bad :: (.bx [(.bool bx0), (.bool bx1), (.sl xx2 nx3 1), (.sl xx4 nx5 1), (.sl xx6 nx7 1)]) :: .bad :: .bad :: (.g (.int .i64 ix8)) :: B 104 ([])) H Q
def ref1_PageWith.l11 (k : Nat) (bx0 : Bool) (bx1 : Bool) (xx2 : Pl) (nx3 : Nat) (xx4 : Pl) (nx5 : Nat) (xx6 : Pl) (nx7 : Nat) (ix8 : Int) (H : Hp) (Q : Post) : Prop := loopK (ref1_PageWith.cx) Go.Proofs.Try.f46 11 k (.bad :: .bad :: (.bx [(.bool bx0), (.bool bx1), (.sl xx2 nx3 1), (.sl xx4 nx5 1), (.sl xx6 nx7 1)]) :: B 3 ((.g (.int .i64 ix8)) :: B 103 ([]))) H Q
def ref1_PageWith.l16 (k : Nat) (bx0 : Bool) (bx1 : Bool) (xx2 : Pl) (nx3 : Nat) (xx4 : Pl) (nx5 : Nat) (xx6 : Pl) (nx7 : Nat) (ix8 : Int) (ix9 : Int) (H : Hp) (Q : Post) : Prop := loopK (ref1_PageWith.cx) Go.Proofs.Try.f46 16 k (.bad :: .bad :: (.bx [(.bool bx0), (.bool bx1), (.sl xx2 nx3 1), (.sl xx4 nx5 1), (.sl xx6 nx7 1)]) :: B 3 ((.g (.int .i64 ix8)) :: (.g (.int .i64 ix9)) :: B 102 ([]))) H Q
theorem ref1_PageWith_eq (k : Nat) (z0 : Bool) (z1 : Bool) (z2 : Pl) (z2n : Nat) (z3 : Pl) (z3n : Nat) (z4 : Pl) (z4n : Nat) (z5 : Int) (H : Hp) (Q : Post) : callK (ref1_PageWith.cx) Go.Proofs.Try.f46 (k + 1) [.agg [.bool z0, .bool z1, .sl z2 z2n 1, .sl z3 z3n 1, .sl z4 z4n 1], .g (.int .i64 z5)] H Q = (
 bite (!z0)
 (Q (.g (.bool false)) H)
 (cl ref1_rising [(.g (.sl z2 z2n 1))] H fun r0 H1 =>
  rG r0 fun v2 =>
  dB v2 fun b3 =>
  bite (!b3)
  (Q (.g (.bool false)) H1)
  (bite (ltI z5 (nI z2n))
   (Q (.g (.bool false)) H1)
   (bite z1
    (ref1_PageWith.l5 k z0 z1 z2 z2n z3 z3n z4 z4n 0 H1 Q)
    (ref1_PageWith.l11 k z0 z1 z2 z2n z3 z3n z4 z4n 0 H1 Q))))) := by kernel_rfl
theorem ref1_PageWith.l5_eq (k : Nat) (bx0 : Bool) (bx1 : Bool) (xx2 : Pl) (nx3 : Nat) (xx4 : Pl) (nx5 : Nat) (xx6 : Pl) (nx7 : Nat) (ix8 : Int) (H : Hp) (Q : Post) : ref1_PageWith.l5 (k + 1) bx0 bx1 xx2 nx3 xx4 nx5 xx6 nx7 ix8 H Q = (
 bite (ltI ix8 (nI nx5))
 (chk true (chk ((leI 0 ix8) && (ltI ix8 (nI nx5))) (pS xx4 fun n0 n1 =>
  rd H n0 (n1 + ((tN ix8) * 1)) fun v2 =>
  dS v2 fun s3 =>
  bite (ltI 10 (sz s3))
  (Q (.g (.bool false)) H)
  (ref1_PageWith.l5 k bx0 bx1 xx2 nx3 xx4 nx5 xx6 nx7 (wrapI .i64 (ix8 + 1)) H Q))))
 (bite (eqI (nI nx5) (nI nx3))
  (Q (.g (.bool (eqI (nI nx7) 0))) H)
  (Q (.g (.bool false)) H))) := by kernel_rfl
theorem ref1_PageWith.l11_eq (k : Nat) (bx0 : Bool) (bx1 : Bool) (xx2 : Pl) (nx3 : Nat) (xx4 : Pl) (nx5 : Nat) (xx6 : Pl) (nx7 : Nat) (ix8 : Int) (H : Hp) (Q : Post) : ref1_PageWith.l11 (k + 1) bx0 bx1 xx2 nx3 xx4 nx5 xx6 nx7 ix8 H Q = (
 bite (ltI ix8 (nI nx7))
 (chk true (chk ((leI 0 ix8) && (ltI ix8 (nI nx7))) (pS xx6 fun n0 n1 =>
  rd H n0 (n1 + ((tN ix8) * 1)) fun v2 =>
  dI .i64 v2 fun i3 =>
  bite (ltI i3 1)
  (Q (.g (.bool false)) H)
  (chk true (chk ((leI 0 ix8) && (ltI ix8 (nI nx7))) (pS xx6 fun n4 n5 =>
   rd H n4 (n5 + ((tN ix8) * 1)) fun v6 =>
   dI .i64 v6 fun i7 =>
   bite (leI 48 i7)
   (Q (.g (.bool false)) H)
   (ref1_PageWith.l16 k bx0 bx1 xx2 nx3 xx4 nx5 xx6 nx7 ix8 0 H Q)))))))
 (bite (leI 1 (nI nx3))
  (bite (eqI (nI nx5) 0)
   (Q (.g (.bool (eqI (nI nx7) (wrapI .i64 ((nI nx3) + 1))))) H)
   (Q (.g (.bool false)) H))
  (Q (.g (.bool false)) H))) := by kernel_rfl
theorem ref1_PageWith.l16_eq (k : Nat) (bx0 : Bool) (bx1 : Bool) (xx2 : Pl) (nx3 : Nat) (xx4 : Pl) (nx5 : Nat) (xx6 : Pl) (nx7 : Nat) (ix8 : Int) (ix9 : Int) (H : Hp) (Q : Post) : ref1_PageWith.l16 (k + 1) bx0 bx1 xx2 nx3 xx4 nx5 xx6 nx7 ix8 ix9 H Q = (
 bite (ltI ix9 ix8)
 (chk true (chk ((leI 0 ix9) && (ltI ix9 (nI nx7))) (pS xx6 fun n0 n1 =>
  rd H n0 (n1 + ((tN ix9) * 1)) fun v2 =>
  dI .i64 v2 fun i3 =>
  chk true (chk ((leI 0 ix8) && (ltI ix8 (nI nx7))) (pS xx6 fun n4 n5 =>
  rd H n4 (n5 + ((tN ix8) * 1)) fun v6 =>
  dI .i64 v6 fun i7 =>
  bite (eqI i3 i7)
  (Q (.g (.bool false)) H)
  (ref1_PageWith.l16 k bx0 bx1 xx2 nx3 xx4 nx5 xx6 nx7 ix8 (wrapI .i64 (ix9 + 1)) H Q))))))
 (ref1_PageWith.l11 k bx0 bx1 xx2 nx3 xx4 nx5 xx6 nx7 (wrapI .i64 (ix8 + 1)) H Q)) := by kernel_rfl
theorem ref1_PageWith_ok : Sound Go.Proofs.Try.prog 46 (ref1_PageWith) := prog_ok.sound (cx := ref1_PageWith.cx) rfl (EnvOK.cons ((ref1_rising_ok).c ⟨_, Go.Proofs.Try.func57, by kernel_rfl, by kernel_rfl⟩) (EnvOK.nil _)) (noDyn_ok _) Go.Proofs.Try.func46 rfl

/-! 27: cryostat/cryostatref1.PageMay -/
def ref1_PageMay.cx : Cx := ⟨tys, [], [], [], [(46, ref1_PageWith)], noDyn, [.tmp 2]⟩
def ref1_PageMay : Sm := fun xs H Q => ∃ k, callK (ref1_PageMay.cx) Go.Proofs.Try.f27 k xs H Q
theorem ref1_PageMay_eq (k : Nat) (z0 : Bool) (z1 : Bool) (z2 : Pl) (z2n : Nat) (z3 : Pl) (z3n : Nat) (z4 : Pl) (z4n : Nat) (H : Hp) (Q : Post) : callK (ref1_PageMay.cx) Go.Proofs.Try.f27 (k + 1) [.agg [.bool z0, .bool z1, .sl z2 z2n 1, .sl z3 z3n 1, .sl z4 z4n 1]] H Q = (
 cl ref1_PageWith [(.agg [(.bool z0), (.bool z1), (.sl z2 z2n 1), (.sl z3 z3n 1), (.sl z4 z4n 1)]), (.g (.int .i64 4))] H fun r0 H1 =>
 rG r0 fun v2 =>
 dB v2 fun b3 =>
 Q (.g (.bool b3)) H1) := by kernel_rfl
theorem ref1_PageMay_ok : Sound Go.Proofs.Try.prog 27 (ref1_PageMay) := prog_ok.sound (cx := ref1_PageMay.cx) rfl (EnvOK.cons ((ref1_PageWith_ok).c ⟨_, Go.Proofs.Try.func46, by kernel_rfl, by kernel_rfl⟩) (EnvOK.nil _)) (noDyn_ok _) Go.Proofs.Try.func27 rfl

/-! 55: cryostat/cryostatlaw0.SameTexts -/
def law0_SameTexts.cx : Cx := ⟨tys, [], [(4, [0, 1, 5])], [], [], noDyn, [.tmp 4]⟩
def law0_SameTexts : Sm := fun xs H Q => ∃ k, callK (law0_SameTexts.cx) Go.Proofs.Try.f55 k xs H Q
def law0_SameTexts.l4 (k : Nat) (xx0 : Pl) (nx1 : Nat) (xx2 : Pl) (nx3 : Nat) (ix4 : Int) (H : Hp) (Q : Post) : Prop := loopK (law0_SameTexts.cx) Go.Proofs.Try.f55 4 k ((.g (.sl xx0 nx1 1)) :: (.g (.sl xx2 nx3 1)) :: B 3 ((.g (.int .i64 ix4)) :: B 20 ([]))) H Q
theorem law0_SameTexts_eq (k : Nat) (z0 : Pl) (z0n : Nat) (z1 : Pl) (z1n : Nat) (H : Hp) (Q : Post) : callK (law0_SameTexts.cx) Go.Proofs.Try.f55 (k + 1) [.g (.sl z0 z0n 1), .g (.sl z1 z1n 1)] H Q = (
 bite (!(eqI (nI z0n) (nI z1n)))
 (Q (.g (.bool false)) H)
 (law0_SameTexts.l4 k z0 z0n z1 z1n 0 H Q)) := by kernel_rfl
theorem law0_SameTexts.l4_eq (k : Nat) (xx0 : Pl) (nx1 : Nat) (xx2 : Pl) (nx3 : Nat) (ix4 : Int) (H : Hp) (Q : Post) : law0_SameTexts.l4 (k + 1) xx0 nx1 xx2 nx3 ix4 H Q = (
 bite (ltI ix4 (nI nx1))
 (chk true (chk ((leI 0 ix4) && (ltI ix4 (nI nx1))) (pS xx0 fun n0 n1 =>
  rd H n0 (n1 + ((tN ix4) * 1)) fun v2 =>
  dS v2 fun s3 =>
  chk true (chk ((leI 0 ix4) && (ltI ix4 (nI nx3))) (pS xx2 fun n4 n5 =>
  rd H n4 (n5 + ((tN ix4) * 1)) fun v6 =>
  dS v6 fun s7 =>
  bite (!(strEq s3 s7))
  (Q (.g (.bool false)) H)
  (law0_SameTexts.l4 k xx0 nx1 xx2 nx3 (wrapI .i64 (ix4 + 1)) H Q))))))
 (Q (.g (.bool true)) H)) := by kernel_rfl
theorem law0_SameTexts_ok : Sound Go.Proofs.Try.prog 55 (law0_SameTexts) := prog_ok.sound (cx := law0_SameTexts.cx) rfl (EnvOK.nil _) (noDyn_ok _) Go.Proofs.Try.func55 rfl

/-! 56: cryostat/cryostatlaw0.SameInts -/
def law0_SameInts.cx : Cx := ⟨tys, [], [(4, [0, 1, 5])], [], [], noDyn, [.tmp 4]⟩
def law0_SameInts : Sm := fun xs H Q => ∃ k, callK (law0_SameInts.cx) Go.Proofs.Try.f56 k xs H Q
def law0_SameInts.l4 (k : Nat) (xx0 : Pl) (nx1 : Nat) (xx2 : Pl) (nx3 : Nat) (ix4 : Int) (H : Hp) (Q : Post) : Prop := loopK (law0_SameInts.cx) Go.Proofs.Try.f56 4 k ((.g (.sl xx0 nx1 1)) :: (.g (.sl xx2 nx3 1)) :: B 3 ((.g (.int .i64 ix4)) :: B 20 ([]))) H Q
theorem law0_SameInts_eq (k : Nat) (z0 : Pl) (z0n : Nat) (z1 : Pl) (z1n : Nat) (H : Hp) (Q : Post) : callK (law0_SameInts.cx) Go.Proofs.Try.f56 (k + 1) [.g (.sl z0 z0n 1), .g (.sl z1 z1n 1)] H Q = (
 bite (!(eqI (nI z0n) (nI z1n)))
 (Q (.g (.bool false)) H)
 (law0_SameInts.l4 k z0 z0n z1 z1n 0 H Q)) := by kernel_rfl
theorem law0_SameInts.l4_eq (k : Nat) (xx0 : Pl) (nx1 : Nat) (xx2 : Pl) (nx3 : Nat) (ix4 : Int) (H : Hp) (Q : Post) : law0_SameInts.l4 (k + 1) xx0 nx1 xx2 nx3 ix4 H Q = (
 bite (ltI ix4 (nI nx1))
 (chk true (chk ((leI 0 ix4) && (ltI ix4 (nI nx1))) (pS xx0 fun n0 n1 =>
  rd H n0 (n1 + ((tN ix4) * 1)) fun v2 =>
  dI .i64 v2 fun i3 =>
  chk true (chk ((leI 0 ix4) && (ltI ix4 (nI nx3))) (pS xx2 fun n4 n5 =>
  rd H n4 (n5 + ((tN ix4) * 1)) fun v6 =>
  dI .i64 v6 fun i7 =>
  bite (!(eqI i3 i7))
  (Q (.g (.bool false)) H)
  (law0_SameInts.l4 k xx0 nx1 xx2 nx3 (wrapI .i64 (ix4 + 1)) H Q))))))
 (Q (.g (.bool true)) H)) := by kernel_rfl
theorem law0_SameInts_ok : Sound Go.Proofs.Try.prog 56 (law0_SameInts) := prog_ok.sound (cx := law0_SameInts.cx) rfl (EnvOK.nil _) (noDyn_ok _) Go.Proofs.Try.func56 rfl

/-! 42: cryostat/cryostatlaw0.SamePage -/
def law0_SamePage.cx : Cx := ⟨tys, [], [], [], [(55, law0_SameTexts), (56, law0_SameInts)], noDyn, [.tmp 4]⟩
def law0_SamePage : Sm := fun xs H Q => ∃ k, callK (law0_SamePage.cx) Go.Proofs.Try.f42 k xs H Q
theorem law0_SamePage_eq (k : Nat) (z0 : Bool) (z1 : Bool) (z2 : Pl) (z2n : Nat) (z3 : Pl) (z3n : Nat) (z4 : Pl) (z4n : Nat) (z5 : Bool) (z6 : Bool) (z7 : Pl) (z7n : Nat) (z8 : Pl) (z8n : Nat) (z9 : Pl) (z9n : Nat) (H : Hp) (Q : Post) : callK (law0_SamePage.cx) Go.Proofs.Try.f42 (k + 1) [.agg [.bool z0, .bool z1, .sl z2 z2n 1, .sl z3 z3n 1, .sl z4 z4n 1], .agg [.bool z5, .bool z6, .sl z7 z7n 1, .sl z8 z8n 1, .sl z9 z9n 1]] H Q = (
 bite (eqB z0 z5)
 (bite (eqB z1 z6)
  (cl law0_SameTexts [(.g (.sl z2 z2n 1)), (.g (.sl z7 z7n 1))] H fun r0 H1 =>
   rG r0 fun v2 =>
   dB v2 fun b3 =>
   bite b3
   (cl law0_SameTexts [(.g (.sl z3 z3n 1)), (.g (.sl z8 z8n 1))] H1 fun r4 H5 =>
    rG r4 fun v6 =>
    dB v6 fun b7 =>
    bite b7
    (cl law0_SameInts [(.g (.sl z4 z4n 1)), (.g (.sl z9 z9n 1))] H5 fun r8 H9 =>
     rG r8 fun v10 =>
     dB v10 fun b11 =>
     Q (.g (.bool b11)) H9)
    (Q (.g (.bool false)) H5))
   (Q (.g (.bool false)) H1))
  (Q (.g (.bool false)) H))
 (Q (.g (.bool false)) H)) := by kernel_rfl
theorem law0_SamePage_ok : Sound Go.Proofs.Try.prog 42 (law0_SamePage) := prog_ok.sound (cx := law0_SamePage.cx) rfl (EnvOK.cons ((law0_SameTexts_ok).c ⟨_, Go.Proofs.Try.func55, by kernel_rfl, by kernel_rfl⟩) (EnvOK.cons ((law0_SameInts_ok).c ⟨_, Go.Proofs.Try.func56, by kernel_rfl, by kernel_rfl⟩) (EnvOK.nil _))) (noDyn_ok _) Go.Proofs.Try.func42 rfl

/-! 39: cryostat/cryostatlaw0.CopyPage -/
def law0_CopyPage.cx : Cx := ⟨tys, [], [], [], [], noDyn, [.cell 2 34]⟩
def law0_CopyPage : Sm := fun xs H Q => ∃ k, callK (law0_CopyPage.cx) Go.Proofs.Try.f39 k xs H Q
theorem law0_CopyPage_eq (k : Nat) (z0 : Bool) (z1 : Bool) (z2 : Pl) (z2n : Nat) (z3 : Pl) (z3n : Nat) (z4 : Pl) (z4n : Nat) (H : Hp) (Q : Post) : callK (law0_CopyPage.cx) Go.Proofs.Try.f39 (k + 1) [.agg [.bool z0, .bool z1, .sl z2 z2n 1, .sl z3 z3n 1, .sl z4 z4n 1]] H Q = (
 chk true (rdN H z2 (z2n * 1) fun c0 =>
 ap0 H 9 1 16 c0 z2n fun H1 =>
 chk true (rdN H1 z3 (z3n * 1) fun c2 =>
 ap0 H1 9 1 16 c2 z3n fun H3 =>
 chk true (rdN H3 z4 (z4n * 1) fun c4 =>
 ap0 H3 3 1 8 c4 z4n fun H5 =>
 Q (.agg [(.bool z0), (.bool z1), (.sl (some ((ln H), 0)) z2n 1), (.sl (some ((ln H1), 0)) z3n 1), (.sl (some ((ln H3), 0)) z4n 1)]) H5)))) := by kernel_rfl
theorem law0_CopyPage_ok : Sound Go.Proofs.Try.prog 39 (law0_CopyPage) := prog_ok.sound (cx := law0_CopyPage.cx) rfl (EnvOK.nil _) (noDyn_ok _) Go.Proofs.Try.func39 rfl

/-! 25: cryostat/cryostatlaw0.Num -/
def law0_Num.cx : Cx := ⟨tys, [], [], [], [], noDyn, [.tmp 2]⟩
def law0_Num : Sm := fun xs H Q => ∃ k, callK (law0_Num.cx) Go.Proofs.Try.f25 k xs H Q
theorem law0_Num_eq (k : Nat) (z0 : Int) (H : Hp) (Q : Post) : callK (law0_Num.cx) Go.Proofs.Try.f25 (k + 1) [.g (.int .i64 z0)] H Q = (
 Q (.g (.int .i64 z0)) H) := by kernel_rfl
theorem law0_Num_ok : Sound Go.Proofs.Try.prog 25 (law0_Num) := prog_ok.sound (cx := law0_Num.cx) rfl (EnvOK.nil _) (noDyn_ok _) Go.Proofs.Try.func25 rfl

/-! 62: cryostat/page.Nothing -/
def page_Nothing.cx : Cx := ⟨tys, [], [], [], [], noDyn, [.tmp 2]⟩
def page_Nothing : Sm := fun xs H Q => ∃ k, callK (page_Nothing.cx) Go.Proofs.Try.f62 k xs H Q
theorem page_Nothing_eq (k : Nat) (z0 : Bool) (z1 : Bool) (z2 : Pl) (z2n : Nat) (z3 : Pl) (z3n : Nat) (z4 : Pl) (z4n : Nat) (H : Hp) (Q : Post) : callK (page_Nothing.cx) Go.Proofs.Try.f62 (k + 1) [.agg [.bool z0, .bool z1, .sl z2 z2n 1, .sl z3 z3n 1, .sl z4 z4n 1]] H Q = (
 bite (!z0)
 (bite (!z1)
  (Q (.g (.bool (eqI (wrapI .i64 ((wrapI .i64 ((nI z2n) + (nI z3n))) + (nI z4n))) 0))) H)
  (Q (.g (.bool false)) H))
 (Q (.g (.bool false)) H)) := by kernel_rfl
theorem page_Nothing_ok : Sound Go.Proofs.Try.prog 62 (page_Nothing) := prog_ok.sound (cx := page_Nothing.cx) rfl (EnvOK.nil _) (noDyn_ok _) Go.Proofs.Try.func62 rfl


end Go.Am
