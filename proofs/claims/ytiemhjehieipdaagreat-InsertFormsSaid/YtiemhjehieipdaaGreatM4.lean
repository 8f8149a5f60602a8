import Derived.Test.YtiemhjehieipdaaGreatM3
set_option linter.unusedVariables false
set_option linter.unusedSimpArgs false
namespace Go.Am
/-! 113: (cryostat/sound.bounds).hold -/
def sound_bounds_hold.cx : Cx := ⟨tys, [], [(2, [2, 7, 8, 9])], [], [], noDyn, [.tmp 4]⟩
def sound_bounds_hold : Sm := fun xs H Q => ∃ k, callK (sound_bounds_hold.cx) Go.Proofs.Tryz.f113 k xs H Q
def sound_bounds_hold.l2 (k : Nat) (sx0 : ByteArray) (sx1 : ByteArray) (bx2 : Bool) (xx3 : Pl) (nx4 : Nat) (ix5 : Int) (ix6 : Int) (H : Hp) (Q : Post) : Prop := loopK (sound_bounds_hold.cx) Go.Proofs.Tryz.f113 2 k (.bad :: .bad :: (.bx [(.str sx0), (.str sx1), (.bool bx2)]) :: B 4 ((.g (.sl xx3 nx4 1)) :: (.g (.int .i64 ix5)) :: (.g (.int .i64 ix6)) :: B 19 ([]))) H Q
theorem sound_bounds_hold_eq (k : Nat) (z0 : ByteArray) (z1 : ByteArray) (z2 : Bool) (z3 : Pl) (z3n : Nat) (H : Hp) (Q : Post) : callK (sound_bounds_hold.cx) Go.Proofs.Tryz.f113 (k + 1) [.agg [.str z0, .str z1, .bool z2], .g (.sl z3 z3n 1)] H Q = (
 sound_bounds_hold.l2 k z0 z1 z2 z3 z3n (nI z3n) 0 H Q) := by kernel_rfl
theorem sound_bounds_hold.l2_eq (k : Nat) (sx0 : ByteArray) (sx1 : ByteArray) (bx2 : Bool) (xx3 : Pl) (nx4 : Nat) (ix5 : Int) (ix6 : Int) (H : Hp) (Q : Post) : sound_bounds_hold.l2 (k + 1) sx0 sx1 bx2 xx3 nx4 ix5 ix6 H Q = (
 bite (ltI ix6 ix5)
 (chk true (chk ((leI 0 ix6) && (ltI ix6 (nI nx4))) (pS xx3 fun n0 n1 =>
  rd H n0 (n1 + ((tN ix6) * 1)) fun v2 =>
  dS v2 fun s3 =>
  bite (strLt s3 sx0)
  (Q (.g (.bool false)) H)
  (bite (!bx2)
   (bite (!(strLt s3 sx1))
    (Q (.g (.bool false)) H)
    (sound_bounds_hold.l2 k sx0 sx1 bx2 xx3 nx4 ix5 (wrapI .i64 (ix6 + 1)) H Q))
   (sound_bounds_hold.l2 k sx0 sx1 bx2 xx3 nx4 ix5 (wrapI .i64 (ix6 + 1)) H Q)))))
 (Q (.g (.bool true)) H)) := by kernel_rfl
theorem sound_bounds_hold_ok : Sound Go.Proofs.Tryz.prog 113 (sound_bounds_hold) := prog_ok.sound (cx := sound_bounds_hold.cx) rfl (EnvOK.nil _) (noDyn_ok _) Go.Proofs.Tryz.func113 rfl

/-! 114: (*cryostat/sound.walk).leaf -/
def sound_walk_leaf.cx : Cx := ⟨tys, [], [], [(3, [0, 1, 2])], [], noDyn, [.tmp 6]⟩
def sound_walk_leaf : Sm := fun xs H Q => ∃ k, callK (sound_walk_leaf.cx) Go.Proofs.Tryz.f114 k xs H Q
def sound_walk_leaf.l3 (k : Nat) (xx0 : Pl) (xx1 : Pl) (ix2 : Int) (H : Hp) (Q : Post) : Prop := loopK (sound_walk_leaf.cx) Go.Proofs.Tryz.f114 3 k ((.g (.ptr xx0)) :: (.g (.ptr xx1)) :: (.g (.int .i64 ix2)) :: B 31 ([])) H Q
theorem sound_walk_leaf_eq (k : Nat) (z0 : Pl) (z1 : Pl) (z2 : Int) (H : Hp) (Q : Post) : callK (sound_walk_leaf.cx) Go.Proofs.Tryz.f114 (k + 1) [.g (.ptr z0), .g (.ptr z1), .g (.int .i64 z2)] H Q = (
 pS z0 fun n0 n1 =>
 rd H n0 (n1 + 2) fun v2 =>
 dI .i64 v2 fun i3 =>
 bite (ltI i3 0)
 (pS z0 fun n4 n5 =>
  wr H n4 (n5 + 2) (.int .i64 z2) fun H6 =>
  sound_walk_leaf.l3 k z0 z1 z2 H6 Q)
 (sound_walk_leaf.l3 k z0 z1 z2 H Q)) := by kernel_rfl
theorem sound_walk_leaf.l3_eq (k : Nat) (xx0 : Pl) (xx1 : Pl) (ix2 : Int) (H : Hp) (Q : Post) : sound_walk_leaf.l3 (k + 1) xx0 xx1 ix2 H Q = (
 pS xx0 fun n0 n1 =>
 rd H n0 (n1 + 3) fun v2 =>
 dI .i64 v2 fun i3 =>
 pS xx1 fun n4 n5 =>
 rd H n4 (n5 + 2) fun v6 =>
 dL 1 v6 fun x7 n8 =>
 pS xx0 fun n9 n10 =>
 wr H n9 (n10 + 3) (.int .i64 (wrapI .i64 (i3 + (nI n8)))) fun H11 =>
 pS xx0 fun n12 n13 =>
 rd H11 n12 (n13 + 2) fun v14 =>
 dI .i64 v14 fun i15 =>
 Q (.g (.bool (eqI i15 ix2))) H11) := by kernel_rfl
theorem sound_walk_leaf_ok : Sound Go.Proofs.Tryz.prog 114 (sound_walk_leaf) := prog_ok.sound (cx := sound_walk_leaf.cx) rfl (EnvOK.nil _) (noDyn_ok _) Go.Proofs.Tryz.func114 rfl

/-! 115: (cryostat/sound.bounds).below -/
def sound_bounds_below.cx : Cx := ⟨tys, [], [], [(3, [1, 2, 3, 6])], [], noDyn, [.cell 6 159]⟩
def sound_bounds_below : Sm := fun xs H Q => ∃ k, callK (sound_bounds_below.cx) Go.Proofs.Tryz.f115 k xs H Q
def sound_bounds_below.l3 (k : Nat) (xx0 : Pl) (nx1 : Nat) (ix2 : Int) (sx3 : ByteArray) (sx4 : ByteArray) (bx5 : Bool) (sx6 : ByteArray) (sx7 : ByteArray) (bx8 : Bool) (H : Hp) (Q : Post) : Prop := loopK (sound_bounds_below.cx) Go.Proofs.Tryz.f115 3 k (.bad :: (.g (.sl xx0 nx1 1)) :: (.g (.int .i64 ix2)) :: (.bx [(.str sx3), (.str sx4), (.bool bx5)]) :: .bad :: .bad :: (.bx [(.str sx6), (.str sx7), (.bool bx8)]) :: B 19 ([])) H Q
theorem sound_bounds_below_eq (k : Nat) (z0 : ByteArray) (z1 : ByteArray) (z2 : Bool) (z3 : Pl) (z3n : Nat) (z4 : Int) (H : Hp) (Q : Post) : callK (sound_bounds_below.cx) Go.Proofs.Tryz.f115 (k + 1) [.agg [.str z0, .str z1, .bool z2], .g (.sl z3 z3n 1), .g (.int .i64 z4)] H Q = (
 bite (ltI 0 z4)
 (chk true (chk ((leI 0 (wrapI .i64 (z4 - 1))) && (ltI (wrapI .i64 (z4 - 1)) (nI z3n))) (pS z3 fun n0 n1 =>
  rd H n0 (n1 + ((tN (wrapI .i64 (z4 - 1))) * 1)) fun v2 =>
  dS v2 fun s3 =>
  sound_bounds_below.l3 k z3 z3n z4 s3 z1 z2 (mkS []) (mkS []) false H Q)))
 (sound_bounds_below.l3 k z3 z3n z4 z0 z1 z2 (mkS []) (mkS []) false H Q)) := by kernel_rfl
theorem sound_bounds_below.l3_eq (k : Nat) (xx0 : Pl) (nx1 : Nat) (ix2 : Int) (sx3 : ByteArray) (sx4 : ByteArray) (bx5 : Bool) (sx6 : ByteArray) (sx7 : ByteArray) (bx8 : Bool) (H : Hp) (Q : Post) : sound_bounds_below.l3 (k + 1) xx0 nx1 ix2 sx3 sx4 bx5 sx6 sx7 bx8 H Q = (
 bite (ltI ix2 (nI nx1))
 (chk true (chk ((leI 0 ix2) && (ltI ix2 (nI nx1))) (pS xx0 fun n0 n1 =>
  rd H n0 (n1 + ((tN ix2) * 1)) fun v2 =>
  dS v2 fun s3 =>
  Q (.agg [(.str sx3), (.str s3), (.bool false)]) H)))
 (Q (.agg [(.str sx3), (.str sx4), (.bool bx5)]) H)) := by kernel_rfl
theorem sound_bounds_below_ok : Sound Go.Proofs.Tryz.prog 115 (sound_bounds_below) := prog_ok.sound (cx := sound_bounds_below.cx) rfl (EnvOK.nil _) (noDyn_ok _) Go.Proofs.Tryz.func115 rfl

/-! 96: (*cryostat/sound.walk).sound -/
def sound_walk_sound.cx (S : Sm) : Cx := ⟨tys, [], [(8, [0, 2, 7, 9, 70, 71, 72])], [], [(65, page_May), (113, sound_bounds_hold), (114, sound_walk_leaf), (115, sound_bounds_below), (96, S)], noDyn, [.tmp 8]⟩
def sound_walk_sound.st (S : Sm) : Sm := fun xs H Q => ∃ k, callK (sound_walk_sound.cx S) Go.Proofs.Tryz.f96 k xs H Q
def sound_walk_sound.l8 (S : Sm) (k : Nat) (xx0 : Pl) (ix1 : Int) (sx2 : ByteArray) (sx3 : ByteArray) (bx4 : Bool) (nx5 : Nat) (nx6 : Nat) (xx7 : Pl) (nx8 : Nat) (ix9 : Int) (ix10 : Int) (H : Hp) (Q : Post) : Prop := loopK (sound_walk_sound.cx S) Go.Proofs.Tryz.f96 8 k ((.g (.ptr xx0)) :: .bad :: (.g (.int .i64 ix1)) :: B 4 ((.bx [(.str sx2), (.str sx3), (.bool bx4)]) :: .bad :: (.g (.ptr (some (nx5, nx6)))) :: B 60 ((.g (.sl xx7 nx8 1)) :: (.g (.int .i64 ix9)) :: (.g (.int .i64 ix10)) :: B 18 ([])))) H Q
theorem sound_walk_sound_eq (S : Sm) (k : Nat) (z0 : Pl) (z1 : Int) (z2 : Int) (z3 : ByteArray) (z4 : ByteArray) (z5 : Bool) (H : Hp) (Q : Post) : callK (sound_walk_sound.cx S) Go.Proofs.Tryz.f96 (k + 1) [.g (.ptr z0), .g (.int .i64 z1), .g (.int .i64 z2), .agg [.str z3, .str z4, .bool z5]] H Q = (
 pS z0 fun n0 n1 =>
 rd H n0 (n1 + 0) fun v2 =>
 dL 5 v2 fun x3 n4 =>
 chk true (chk ((leI 0 z1) && (ltI z1 (nI n4))) (pS x3 fun n5 n6 =>
 pS z0 fun n7 n8 =>
 rd H n7 (n8 + 1) fun v9 =>
 dL 1 v9 fun x10 n11 =>
 chk true (chk ((leI 0 z1) && (ltI z1 (nI n11))) (pS x10 fun n12 n13 =>
 rd H n12 (n13 + ((tN z1) * 1)) fun v14 =>
 dB v14 fun b15 =>
 bite b15
 (Q (.g (.bool false)) H)
 (rd H n5 (n6 + ((tN z1) * 5)) fun v16 =>
  dB v16 fun b17 =>
  rd H n5 ((n6 + ((tN z1) * 5)) + 1) fun v18 =>
  dB v18 fun b19 =>
  rd H n5 (((n6 + ((tN z1) * 5)) + 1) + 1) fun v20 =>
  dL 1 v20 fun x21 n22 =>
  rd H n5 ((((n6 + ((tN z1) * 5)) + 1) + 1) + 1) fun v23 =>
  dL 1 v23 fun x24 n25 =>
  rd H n5 (((((n6 + ((tN z1) * 5)) + 1) + 1) + 1) + 1) fun v26 =>
  dL 1 v26 fun x27 n28 =>
  cl page_May [(.agg [(.bool b17), (.bool b19), (.sl x21 n22 1), (.sl x24 n25 1), (.sl x27 n28 1)])] H fun r29 H30 =>
  rG r29 fun v31 =>
  dB v31 fun b32 =>
  bite (!b32)
  (Q (.g (.bool false)) H30)
  (bite (ltI 0 z1)
   (rd H30 n5 ((n6 + ((tN z1) * 5)) + 2) fun v33 =>
    dL 1 v33 fun x34 n35 =>
    bite (ltI (nI n35) 2)
    (Q (.g (.bool false)) H30)
    (rd H30 n5 ((n6 + ((tN z1) * 5)) + 2) fun v36 =>
     dL 1 v36 fun x37 n38 =>
     cl sound_bounds_hold [(.agg [(.str z3), (.str z4), (.bool z5)]), (.g (.sl x37 n38 1))] H30 fun r39 H40 =>
     rG r39 fun v41 =>
     dB v41 fun b42 =>
     bite (!b42)
     (Q (.g (.bool false)) H40)
     (pS z0 fun n43 n44 =>
      rd H40 n43 (n44 + 1) fun v45 =>
      dL 1 v45 fun x46 n47 =>
      chk true (chk ((leI 0 z1) && (ltI z1 (nI n47))) (pS x46 fun n48 n49 =>
      wr H40 n48 (n49 + ((tN z1) * 1)) (.bool true) fun H50 =>
      rd H50 n5 ((n6 + ((tN z1) * 5)) + 1) fun v51 =>
      dB v51 fun b52 =>
      bite b52
      (cl sound_walk_leaf [(.g (.ptr z0)), (.g (.ptr (some (n5, (n6 + ((tN z1) * 5)))))), (.g (.int .i64 z2))] H50 fun r53 H54 =>
       rG r53 fun v55 =>
       dB v55 fun b56 =>
       Q (.g (.bool b56)) H54)
      (rd H50 n5 ((n6 + ((tN z1) * 5)) + 4) fun v57 =>
       dL 1 v57 fun x58 n59 =>
       sound_walk_sound.l8 S k z0 z2 z3 z4 z5 n5 (n6 + ((tN z1) * 5)) x58 n59 (nI n59) 0 H50 Q))))))
   (rd H30 n5 ((n6 + ((tN z1) * 5)) + 2) fun v60 =>
    dL 1 v60 fun x61 n62 =>
    cl sound_bounds_hold [(.agg [(.str z3), (.str z4), (.bool z5)]), (.g (.sl x61 n62 1))] H30 fun r63 H64 =>
    rG r63 fun v65 =>
    dB v65 fun b66 =>
    bite (!b66)
    (Q (.g (.bool false)) H64)
    (pS z0 fun n67 n68 =>
     rd H64 n67 (n68 + 1) fun v69 =>
     dL 1 v69 fun x70 n71 =>
     chk true (chk ((leI 0 z1) && (ltI z1 (nI n71))) (pS x70 fun n72 n73 =>
     wr H64 n72 (n73 + ((tN z1) * 1)) (.bool true) fun H74 =>
     rd H74 n5 ((n6 + ((tN z1) * 5)) + 1) fun v75 =>
     dB v75 fun b76 =>
     bite b76
     (cl sound_walk_leaf [(.g (.ptr z0)), (.g (.ptr (some (n5, (n6 + ((tN z1) * 5)))))), (.g (.int .i64 z2))] H74 fun r77 H78 =>
      rG r77 fun v79 =>
      dB v79 fun b80 =>
      Q (.g (.bool b80)) H78)
     (rd H74 n5 ((n6 + ((tN z1) * 5)) + 4) fun v81 =>
      dL 1 v81 fun x82 n83 =>
      sound_walk_sound.l8 S k z0 z2 z3 z4 z5 n5 (n6 + ((tN z1) * 5)) x82 n83 (nI n83) 0 H74 Q)))))))))))) := by kernel_rfl
theorem sound_walk_sound.l8_eq (S : Sm) (k : Nat) (xx0 : Pl) (ix1 : Int) (sx2 : ByteArray) (sx3 : ByteArray) (bx4 : Bool) (nx5 : Nat) (nx6 : Nat) (xx7 : Pl) (nx8 : Nat) (ix9 : Int) (ix10 : Int) (H : Hp) (Q : Post) : sound_walk_sound.l8 S (k + 1) xx0 ix1 sx2 sx3 bx4 nx5 nx6 xx7 nx8 ix9 ix10 H Q = (
 bite (ltI ix10 ix9)
 (chk true (chk ((leI 0 ix10) && (ltI ix10 (nI nx8))) (pS xx7 fun n0 n1 =>
  rd H n0 (n1 + ((tN ix10) * 1)) fun v2 =>
  dI .i64 v2 fun i3 =>
  rd H nx5 (nx6 + 2) fun v4 =>
  dL 1 v4 fun x5 n6 =>
  cl sound_bounds_below [(.agg [(.str sx2), (.str sx3), (.bool bx4)]), (.g (.sl x5 n6 1)), (.g (.int .i64 ix10))] H fun r7 H8 =>
  rA r7 fun c9 =>
  uC c9 fun v10 c11 =>
  dS v10 fun s12 =>
  uC c11 fun v13 c14 =>
  dS v13 fun s15 =>
  uC c14 fun v16 c17 =>
  dB v16 fun b18 =>
  uN c17 (cl S [(.g (.ptr xx0)), (.g (.int .i64 i3)), (.g (.int .i64 (wrapI .i64 (ix1 + 1)))), (.agg [(.str s12), (.str s15), (.bool b18)])] H8 fun r19 H20 =>
  rG r19 fun v21 =>
  dB v21 fun b22 =>
  bite (!b22)
  (Q (.g (.bool false)) H20)
  (sound_walk_sound.l8 S k xx0 ix1 sx2 sx3 bx4 nx5 nx6 xx7 nx8 ix9 (wrapI .i64 (ix10 + 1)) H20 Q)))))
 (Q (.g (.bool true)) H)) := by kernel_rfl
theorem sound_walk_sound.st_ok (S : Sm) (hS : SoundC Go.Proofs.Tryz.prog 96 S) : Sound Go.Proofs.Tryz.prog 96 (sound_walk_sound.st S) := prog_ok.sound (cx := sound_walk_sound.cx S) rfl (EnvOK.cons ((page_May_ok).c ⟨_, Go.Proofs.Tryz.func65, by kernel_rfl, by kernel_rfl⟩) (EnvOK.cons ((sound_bounds_hold_ok).c ⟨_, Go.Proofs.Tryz.func113, by kernel_rfl, by kernel_rfl⟩) (EnvOK.cons ((sound_walk_leaf_ok).c ⟨_, Go.Proofs.Tryz.func114, by kernel_rfl, by kernel_rfl⟩) (EnvOK.cons ((sound_bounds_below_ok).c ⟨_, Go.Proofs.Tryz.func115, by kernel_rfl, by kernel_rfl⟩) (EnvOK.cons hS (EnvOK.nil _)))))) (noDyn_ok _) Go.Proofs.Tryz.func96 rfl
def sound_walk_sound.at : Nat → Sm
  | 0 => fun _ _ _ => False
  | n + 1 => sound_walk_sound.st (sound_walk_sound.at n)
def sound_walk_sound : Sm := fun xs H Q => ∃ n, sound_walk_sound.at n xs H Q
theorem sound_walk_sound.at_ok : ∀ n, Sound Go.Proofs.Tryz.prog 96 (sound_walk_sound.at n)
  | 0 => fun _ _ _ h => h.elim
  | n + 1 => sound_walk_sound.st_ok _ ((sound_walk_sound.at_ok n).c ⟨_, Go.Proofs.Tryz.func96, by kernel_rfl, by kernel_rfl⟩)
theorem sound_walk_sound_ok : Sound Go.Proofs.Tryz.prog 96 (sound_walk_sound) := Sound.ex (sound_walk_sound.at_ok)

/-! 97: (*cryostat/sound.walk).rest -/
def sound_walk_rest.cx : Cx := ⟨tys, [], [(2, [0, 8, 9, 10])], [], [(116, page_Nothing)], noDyn, [.tmp 2]⟩
def sound_walk_rest : Sm := fun xs H Q => ∃ k, callK (sound_walk_rest.cx) Go.Proofs.Tryz.f97 k xs H Q
def sound_walk_rest.l2 (k : Nat) (xx0 : Pl) (xx1 : Pl) (nx2 : Nat) (ix3 : Int) (ix4 : Int) (H : Hp) (Q : Post) : Prop := loopK (sound_walk_rest.cx) Go.Proofs.Tryz.f97 2 k ((.g (.ptr xx0)) :: B 7 ((.g (.sl xx1 nx2 5)) :: (.g (.int .i64 ix3)) :: (.g (.int .i64 ix4)) :: B 18 ([]))) H Q
theorem sound_walk_rest_eq (k : Nat) (z0 : Pl) (H : Hp) (Q : Post) : callK (sound_walk_rest.cx) Go.Proofs.Tryz.f97 (k + 1) [.g (.ptr z0)] H Q = (
 pS z0 fun n0 n1 =>
 rd H n0 (n1 + 0) fun v2 =>
 dL 5 v2 fun x3 n4 =>
 sound_walk_rest.l2 k z0 x3 n4 (nI n4) 0 H Q) := by kernel_rfl
theorem sound_walk_rest.l2_eq (k : Nat) (xx0 : Pl) (xx1 : Pl) (nx2 : Nat) (ix3 : Int) (ix4 : Int) (H : Hp) (Q : Post) : sound_walk_rest.l2 (k + 1) xx0 xx1 nx2 ix3 ix4 H Q = (
 bite (ltI ix4 ix3)
 (chk true (chk ((leI 0 ix4) && (ltI ix4 (nI nx2))) (pS xx1 fun n0 n1 =>
  rd H n0 (n1 + ((tN ix4) * 5)) fun v2 =>
  dB v2 fun b3 =>
  rd H n0 ((n1 + ((tN ix4) * 5)) + 1) fun v4 =>
  dB v4 fun b5 =>
  rd H n0 (((n1 + ((tN ix4) * 5)) + 1) + 1) fun v6 =>
  dL 1 v6 fun x7 n8 =>
  rd H n0 ((((n1 + ((tN ix4) * 5)) + 1) + 1) + 1) fun v9 =>
  dL 1 v9 fun x10 n11 =>
  rd H n0 (((((n1 + ((tN ix4) * 5)) + 1) + 1) + 1) + 1) fun v12 =>
  dL 1 v12 fun x13 n14 =>
  pS xx0 fun n15 n16 =>
  rd H n15 (n16 + 1) fun v17 =>
  dL 1 v17 fun x18 n19 =>
  chk true (chk ((leI 0 ix4) && (ltI ix4 (nI n19))) (pS x18 fun n20 n21 =>
  rd H n20 (n21 + ((tN ix4) * 1)) fun v22 =>
  dB v22 fun b23 =>
  bite (!b23)
  (cl page_Nothing [(.agg [(.bool b3), (.bool b5), (.sl x7 n8 1), (.sl x10 n11 1), (.sl x13 n14 1)])] H fun r24 H25 =>
   rG r24 fun v26 =>
   dB v26 fun b27 =>
   bite (!b27)
   (Q (.g (.bool false)) H25)
   (sound_walk_rest.l2 k xx0 xx1 nx2 ix3 (wrapI .i64 (ix4 + 1)) H25 Q))
  (sound_walk_rest.l2 k xx0 xx1 nx2 ix3 (wrapI .i64 (ix4 + 1)) H Q))))))
 (Q (.g (.bool true)) H)) := by kernel_rfl
theorem sound_walk_rest_ok : Sound Go.Proofs.Tryz.prog 97 (sound_walk_rest) := prog_ok.sound (cx := sound_walk_rest.cx) rfl (EnvOK.cons ((page_Nothing_ok).c ⟨_, Go.Proofs.Tryz.func116, by kernel_rfl, by kernel_rfl⟩) (EnvOK.nil _)) (noDyn_ok _) Go.Proofs.Tryz.func97 rfl

/-! 64: cryostat/sound.look -/
def sound_look.cx : Cx := ⟨tys, [14, 16], [], [], [(96, sound_walk_sound), (97, sound_walk_rest)], noDyn, [.tmp 2]⟩
def sound_look : Sm := fun xs H Q => ∃ k, callK (sound_look.cx) Go.Proofs.Tryz.f64 k xs H Q
theorem sound_look_eq (k : Nat) (z0 : Pl) (H : Hp) (Q : Post) : callK (sound_look.cx) Go.Proofs.Tryz.f64 (k + 1) [.g (.ptr z0)] H Q = (
 pS z0 fun n0 n1 =>
 rd H n0 (n1 + 0) fun v2 =>
 dL 5 v2 fun x3 n4 =>
 bite (!(eqI (nI n4) 48))
 (Q (.g (.int .i64 0)) H)
 (pS z0 fun n5 n6 =>
  rd H n5 (n6 + 0) fun v7 =>
  dL 5 v7 fun x8 n9 =>
  rd (pu H (.row true 4 (repN (tN 48) [(.bool false)]))) n5 (n6 + 0) fun v10 =>
  dL 5 v10 fun x11 n12 =>
  eqv (.g (.sl x8 n9 5)) (.g (.sl x11 n12 5)) (cl sound_walk_sound [(.g (.ptr (some ((ln (pu H (.row true 4 (repN (tN 48) [(.bool false)])))), 0)))), (.g (.int .i64 0)), (.g (.int .i64 1)), (.agg [(.str (mkS [])), (.str (mkS [])), (.bool true)])] (pu (pu H (.row true 4 (repN (tN 48) [(.bool false)]))) (.row true 156 [(.sl x8 n9 5), (.sl (some ((ln H), 0)) (tN 48) 1), (.int .i64 (-1)), (.int .i64 0)])) fun r13 H14 =>
  rG r13 fun v15 =>
  dB v15 fun b16 =>
  bite (!b16)
  (Q (.g (.int .i64 0)) H14)
  (cl sound_walk_rest [(.g (.ptr (some ((ln (pu H (.row true 4 (repN (tN 48) [(.bool false)])))), 0))))] H14 fun r17 H18 =>
   rG r17 fun v19 =>
   dB v19 fun b20 =>
   bite (!b20)
   (Q (.g (.int .i64 0)) H18)
   (rd H18 (ln (pu H (.row true 4 (repN (tN 48) [(.bool false)])))) 3 fun v21 =>
    dI .i64 v21 fun i22 =>
    bite (ltI 60 i22)
    (Q (.g (.int .i64 0)) H18)
    (rd H18 (ln (pu H (.row true 4 (repN (tN 48) [(.bool false)])))) 2 fun v23 =>
     dI .i64 v23 fun i24 =>
     Q (.g (.int .i64 i24)) H18)))))) := by kernel_rfl
theorem sound_look_ok : Sound Go.Proofs.Tryz.prog 64 (sound_look) := prog_ok.sound (cx := sound_look.cx) rfl (EnvOK.cons ((sound_walk_sound_ok).c ⟨_, Go.Proofs.Tryz.func96, by kernel_rfl, by kernel_rfl⟩) (EnvOK.cons ((sound_walk_rest_ok).c ⟨_, Go.Proofs.Tryz.func97, by kernel_rfl, by kernel_rfl⟩) (EnvOK.nil _))) (noDyn_ok _) Go.Proofs.Tryz.func64 rfl

/-! 36: cryostat/sound.Sound -/
def sound_Sound.cx : Cx := ⟨tys, [1], [], [], [(64, sound_look)], noDyn, [.tmp 2]⟩
def sound_Sound : Sm := fun xs H Q => ∃ k, callK (sound_Sound.cx) Go.Proofs.Tryz.f36 k xs H Q
theorem sound_Sound_eq (k : Nat) (z0 : Pl) (z0n : Nat) (H : Hp) (Q : Post) : callK (sound_Sound.cx) Go.Proofs.Tryz.f36 (k + 1) [.agg [.sl z0 z0n 5]] H Q = (
 cl sound_look [(.g (.ptr (some ((ln H), 0))))] (pu H (.row true 24 [(.sl z0 z0n 5)])) fun r0 H1 =>
 rG r0 fun v2 =>
 dI .i64 v2 fun i3 =>
 Q (.g (.bool (ltI 0 i3))) H1) := by kernel_rfl
theorem sound_Sound_ok : Sound Go.Proofs.Tryz.prog 36 (sound_Sound) := prog_ok.sound (cx := sound_Sound.cx) rfl (EnvOK.cons ((sound_look_ok).c ⟨_, Go.Proofs.Tryz.func64, by kernel_rfl, by kernel_rfl⟩) (EnvOK.nil _)) (noDyn_ok _) Go.Proofs.Tryz.func36 rfl

/-! 92: (*cryostat/cryostatref9.below).walk -/
def ref9_below_walk.cx (S : Sm) : Cx := ⟨tys, [], [(13, [0, 3, 4, 5, 7, 12, 13])], [(10, [0, 3, 12]), (18, [0, 3, 4, 5, 7, 12, 13, 14, 15]), (20, [0, 3, 4, 5, 7, 12, 13, 14, 15])], [(67, ref1_PageMay), (92, S)], noDyn, []⟩
def ref9_below_walk.st (S : Sm) : Sm := fun xs H Q => ∃ k, callK (ref9_below_walk.cx S) Go.Proofs.Tryz.f92 k xs H Q
def ref9_below_walk.l10 (S : Sm) (k : Nat) (xx0 : Pl) (ix1 : Int) (bx2 : Bool) (bx3 : Bool) (xx4 : Pl) (nx5 : Nat) (xx6 : Pl) (nx7 : Nat) (xx8 : Pl) (nx9 : Nat) (H : Hp) (Q : Post) : Prop := loopK (ref9_below_walk.cx S) Go.Proofs.Tryz.f92 10 k ((.g (.ptr xx0)) :: .bad :: .bad :: (.g (.int .i64 ix1)) :: B 8 ((.bx [(.bool bx2), (.bool bx3), (.sl xx4 nx5 1), (.sl xx6 nx7 1), (.sl xx8 nx9 1)]) :: B 150 ([]))) H Q
def ref9_below_walk.l13 (S : Sm) (k : Nat) (xx0 : Pl) (ix1 : Int) (sx2 : ByteArray) (sx3 : ByteArray) (xx4 : Pl) (nx5 : Nat) (bx6 : Bool) (bx7 : Bool) (xx8 : Pl) (nx9 : Nat) (xx10 : Pl) (nx11 : Nat) (xx12 : Pl) (nx13 : Nat) (ix14 : Int) (H : Hp) (Q : Post) : Prop := loopK (ref9_below_walk.cx S) Go.Proofs.Tryz.f92 13 k ((.g (.ptr xx0)) :: .bad :: .bad :: (.g (.int .i64 ix1)) :: (.g (.str sx2)) :: (.g (.str sx3)) :: .bad :: (.bx [(.sl xx4 nx5 5)]) :: B 4 ((.bx [(.bool bx6), (.bool bx7), (.sl xx8 nx9 1), (.sl xx10 nx11 1), (.sl xx12 nx13 1)]) :: (.g (.int .i64 ix14)) :: B 149 ([]))) H Q
def ref9_below_walk.l18 (S : Sm) (k : Nat) (xx0 : Pl) (ix1 : Int) (sx2 : ByteArray) (sx3 : ByteArray) (xx4 : Pl) (nx5 : Nat) (bx6 : Bool) (bx7 : Bool) (xx8 : Pl) (nx9 : Nat) (xx10 : Pl) (nx11 : Nat) (xx12 : Pl) (nx13 : Nat) (ix14 : Int) (sx15 : ByteArray) (sx16 : ByteArray) (H : Hp) (Q : Post) : Prop := loopK (ref9_below_walk.cx S) Go.Proofs.Tryz.f92 18 k ((.g (.ptr xx0)) :: .bad :: .bad :: (.g (.int .i64 ix1)) :: (.g (.str sx2)) :: (.g (.str sx3)) :: .bad :: (.bx [(.sl xx4 nx5 5)]) :: B 4 ((.bx [(.bool bx6), (.bool bx7), (.sl xx8 nx9 1), (.sl xx10 nx11 1), (.sl xx12 nx13 1)]) :: (.g (.int .i64 ix14)) :: (.g (.str sx15)) :: (.g (.str sx16)) :: B 147 ([]))) H Q
def ref9_below_walk.l20 (S : Sm) (k : Nat) (xx0 : Pl) (ix1 : Int) (sx2 : ByteArray) (sx3 : ByteArray) (xx4 : Pl) (nx5 : Nat) (bx6 : Bool) (bx7 : Bool) (xx8 : Pl) (nx9 : Nat) (xx10 : Pl) (nx11 : Nat) (xx12 : Pl) (nx13 : Nat) (ix14 : Int) (sx15 : ByteArray) (sx16 : ByteArray) (H : Hp) (Q : Post) : Prop := loopK (ref9_below_walk.cx S) Go.Proofs.Tryz.f92 20 k ((.g (.ptr xx0)) :: .bad :: .bad :: (.g (.int .i64 ix1)) :: (.g (.str sx2)) :: (.g (.str sx3)) :: .bad :: (.bx [(.sl xx4 nx5 5)]) :: B 4 ((.bx [(.bool bx6), (.bool bx7), (.sl xx8 nx9 1), (.sl xx10 nx11 1), (.sl xx12 nx13 1)]) :: (.g (.int .i64 ix14)) :: (.g (.str sx15)) :: (.g (.str sx16)) :: B 147 ([]))) H Q
theorem ref9_below_walk_eq (S : Sm) (k : Nat) (z0 : Pl) (z1 : Pl) (z1n : Nat) (z2 : Int) (z3 : Int) (z4 : ByteArray) (z5 : ByteArray) (H : Hp) (Q : Post) : callK (ref9_below_walk.cx S) Go.Proofs.Tryz.f92 (k + 1) [.g (.ptr z0), .agg [.sl z1 z1n 5], .g (.int .i64 z2), .g (.int .i64 z3), .g (.str z4), .g (.str z5)] H Q = (
 pS z0 fun n0 n1 =>
 rd H n0 (n1 + 3) fun v2 =>
 dB v2 fun b3 =>
 bite b3
 (pS z0 fun n4 n5 =>
  wr H n4 (n5 + 3) (.bool true) fun H6 =>
  Q (.tup []) H6)
 (pS z0 fun n7 n8 =>
  rd H n7 (n8 + 0) fun v9 =>
  dL 1 v9 fun x10 n11 =>
  chk true (chk ((leI 0 z2) && (ltI z2 (nI n11))) (pS x10 fun n12 n13 =>
  rd H n12 (n13 + ((tN z2) * 1)) fun v14 =>
  dB v14 fun b15 =>
  bite b15
  (pS z0 fun n16 n17 =>
   wr H n16 (n17 + 3) (.bool true) fun H18 =>
   Q (.tup []) H18)
  (chk true (chk ((leI 0 z2) && (ltI z2 (nI z1n))) (pS z1 fun n19 n20 =>
   rd H n19 (n20 + ((tN z2) * 5)) fun v21 =>
   dB v21 fun b22 =>
   rd H n19 ((n20 + ((tN z2) * 5)) + 1) fun v23 =>
   dB v23 fun b24 =>
   rd H n19 (((n20 + ((tN z2) * 5)) + 1) + 1) fun v25 =>
   dL 1 v25 fun x26 n27 =>
   rd H n19 ((((n20 + ((tN z2) * 5)) + 1) + 1) + 1) fun v28 =>
   dL 1 v28 fun x29 n30 =>
   rd H n19 (((((n20 + ((tN z2) * 5)) + 1) + 1) + 1) + 1) fun v31 =>
   dL 1 v31 fun x32 n33 =>
   cl ref1_PageMay [(.agg [(.bool b22), (.bool b24), (.sl x26 n27 1), (.sl x29 n30 1), (.sl x32 n33 1)])] H fun r34 H35 =>
   rG r34 fun v36 =>
   dB v36 fun b37 =>
   bite (!b37)
   (pS z0 fun n38 n39 =>
    wr H35 n38 (n39 + 3) (.bool true) fun H40 =>
    Q (.tup []) H40)
   (pS z0 fun n41 n42 =>
    rd H35 n41 (n42 + 0) fun v43 =>
    dL 1 v43 fun x44 n45 =>
    chk true (chk ((leI 0 z2) && (ltI z2 (nI n45))) (pS x44 fun n46 n47 =>
    wr H35 n46 (n47 + ((tN z2) * 1)) (.bool true) fun H48 =>
    chk true (chk ((leI 0 z2) && (ltI z2 (nI z1n))) (pS z1 fun n49 n50 =>
    rd H48 n49 (n50 + ((tN z2) * 5)) fun v51 =>
    dB v51 fun b52 =>
    rd H48 n49 ((n50 + ((tN z2) * 5)) + 1) fun v53 =>
    dB v53 fun b54 =>
    rd H48 n49 (((n50 + ((tN z2) * 5)) + 1) + 1) fun v55 =>
    dL 1 v55 fun x56 n57 =>
    rd H48 n49 ((((n50 + ((tN z2) * 5)) + 1) + 1) + 1) fun v58 =>
    dL 1 v58 fun x59 n60 =>
    rd H48 n49 (((((n50 + ((tN z2) * 5)) + 1) + 1) + 1) + 1) fun v61 =>
    dL 1 v61 fun x62 n63 =>
    bite (!(eqI z2 0))
    (bite (ltI (nI n57) 2)
     (pS z0 fun n64 n65 =>
      wr H48 n64 (n65 + 3) (.bool true) fun H66 =>
      Q (.tup []) H66)
     (bite (ltI 0 (nI n57))
      (chk true (chk ((leI 0 0) && (ltI 0 (nI n57))) (pS x56 fun n67 n68 =>
       rd H48 n67 (n68 + ((tN 0) * 1)) fun v69 =>
       dS v69 fun s70 =>
       bite (strLt s70 z4)
       (pS z0 fun n71 n72 =>
        wr H48 n71 (n72 + 3) (.bool true) fun H73 =>
        Q (.tup []) H73)
       (bite (!(strEq z5 (mkS [])))
        (chk true (chk ((leI 0 (wrapI .i64 ((nI n57) - 1))) && (ltI (wrapI .i64 ((nI n57) - 1)) (nI n57))) (pS x56 fun n74 n75 =>
         rd H48 n74 (n75 + ((tN (wrapI .i64 ((nI n57) - 1))) * 1)) fun v76 =>
         dS v76 fun s77 =>
         bite (!(strLt s77 z5))
         (pS z0 fun n78 n79 =>
          wr H48 n78 (n79 + 3) (.bool true) fun H80 =>
          Q (.tup []) H80)
         (bite b54
          (pS z0 fun n81 n82 =>
           rd H48 n81 (n82 + 1) fun v83 =>
           dI .i64 v83 fun i84 =>
           bite (eqI i84 0)
           (pS z0 fun n85 n86 =>
            wr H48 n85 (n86 + 1) (.int .i64 z3) fun H87 =>
            ref9_below_walk.l10 S k z0 z3 b52 b54 x56 n57 x59 n60 x62 n63 H87 Q)
           (ref9_below_walk.l10 S k z0 z3 b52 b54 x56 n57 x59 n60 x62 n63 H48 Q))
          (ref9_below_walk.l13 S k z0 z3 z4 z5 z1 z1n b52 b54 x56 n57 x59 n60 x62 n63 0 H48 Q)))))
        (bite b54
         (pS z0 fun n88 n89 =>
          rd H48 n88 (n89 + 1) fun v90 =>
          dI .i64 v90 fun i91 =>
          bite (eqI i91 0)
          (pS z0 fun n92 n93 =>
           wr H48 n92 (n93 + 1) (.int .i64 z3) fun H94 =>
           ref9_below_walk.l10 S k z0 z3 b52 b54 x56 n57 x59 n60 x62 n63 H94 Q)
          (ref9_below_walk.l10 S k z0 z3 b52 b54 x56 n57 x59 n60 x62 n63 H48 Q))
         (ref9_below_walk.l13 S k z0 z3 z4 z5 z1 z1n b52 b54 x56 n57 x59 n60 x62 n63 0 H48 Q))))))
      (bite b54
       (pS z0 fun n95 n96 =>
        rd H48 n95 (n96 + 1) fun v97 =>
        dI .i64 v97 fun i98 =>
        bite (eqI i98 0)
        (pS z0 fun n99 n100 =>
         wr H48 n99 (n100 + 1) (.int .i64 z3) fun H101 =>
         ref9_below_walk.l10 S k z0 z3 b52 b54 x56 n57 x59 n60 x62 n63 H101 Q)
        (ref9_below_walk.l10 S k z0 z3 b52 b54 x56 n57 x59 n60 x62 n63 H48 Q))
       (ref9_below_walk.l13 S k z0 z3 z4 z5 z1 z1n b52 b54 x56 n57 x59 n60 x62 n63 0 H48 Q))))
    (bite (ltI 0 (nI n57))
     (chk true (chk ((leI 0 0) && (ltI 0 (nI n57))) (pS x56 fun n102 n103 =>
      rd H48 n102 (n103 + ((tN 0) * 1)) fun v104 =>
      dS v104 fun s105 =>
      bite (strLt s105 z4)
      (pS z0 fun n106 n107 =>
       wr H48 n106 (n107 + 3) (.bool true) fun H108 =>
       Q (.tup []) H108)
      (bite (!(strEq z5 (mkS [])))
       (chk true (chk ((leI 0 (wrapI .i64 ((nI n57) - 1))) && (ltI (wrapI .i64 ((nI n57) - 1)) (nI n57))) (pS x56 fun n109 n110 =>
        rd H48 n109 (n110 + ((tN (wrapI .i64 ((nI n57) - 1))) * 1)) fun v111 =>
        dS v111 fun s112 =>
        bite (!(strLt s112 z5))
        (pS z0 fun n113 n114 =>
         wr H48 n113 (n114 + 3) (.bool true) fun H115 =>
         Q (.tup []) H115)
        (bite b54
         (pS z0 fun n116 n117 =>
          rd H48 n116 (n117 + 1) fun v118 =>
          dI .i64 v118 fun i119 =>
          bite (eqI i119 0)
          (pS z0 fun n120 n121 =>
           wr H48 n120 (n121 + 1) (.int .i64 z3) fun H122 =>
           ref9_below_walk.l10 S k z0 z3 b52 b54 x56 n57 x59 n60 x62 n63 H122 Q)
          (ref9_below_walk.l10 S k z0 z3 b52 b54 x56 n57 x59 n60 x62 n63 H48 Q))
         (ref9_below_walk.l13 S k z0 z3 z4 z5 z1 z1n b52 b54 x56 n57 x59 n60 x62 n63 0 H48 Q)))))
       (bite b54
        (pS z0 fun n123 n124 =>
         rd H48 n123 (n124 + 1) fun v125 =>
         dI .i64 v125 fun i126 =>
         bite (eqI i126 0)
         (pS z0 fun n127 n128 =>
          wr H48 n127 (n128 + 1) (.int .i64 z3) fun H129 =>
          ref9_below_walk.l10 S k z0 z3 b52 b54 x56 n57 x59 n60 x62 n63 H129 Q)
         (ref9_below_walk.l10 S k z0 z3 b52 b54 x56 n57 x59 n60 x62 n63 H48 Q))
        (ref9_below_walk.l13 S k z0 z3 z4 z5 z1 z1n b52 b54 x56 n57 x59 n60 x62 n63 0 H48 Q))))))
     (bite b54
      (pS z0 fun n130 n131 =>
       rd H48 n130 (n131 + 1) fun v132 =>
       dI .i64 v132 fun i133 =>
       bite (eqI i133 0)
       (pS z0 fun n134 n135 =>
        wr H48 n134 (n135 + 1) (.int .i64 z3) fun H136 =>
        ref9_below_walk.l10 S k z0 z3 b52 b54 x56 n57 x59 n60 x62 n63 H136 Q)
       (ref9_below_walk.l10 S k z0 z3 b52 b54 x56 n57 x59 n60 x62 n63 H48 Q))
      (ref9_below_walk.l13 S k z0 z3 z4 z5 z1 z1n b52 b54 x56 n57 x59 n60 x62 n63 0 H48 Q))))))))))))))) := by kernel_rfl
theorem ref9_below_walk.l10_eq (S : Sm) (k : Nat) (xx0 : Pl) (ix1 : Int) (bx2 : Bool) (bx3 : Bool) (xx4 : Pl) (nx5 : Nat) (xx6 : Pl) (nx7 : Nat) (xx8 : Pl) (nx9 : Nat) (H : Hp) (Q : Post) : ref9_below_walk.l10 S (k + 1) xx0 ix1 bx2 bx3 xx4 nx5 xx6 nx7 xx8 nx9 H Q = (
 pS xx0 fun n0 n1 =>
 rd H n0 (n1 + 1) fun v2 =>
 dI .i64 v2 fun i3 =>
 pS xx0 fun n4 n5 =>
 wr H n4 (n5 + 3) (.bool (!(eqI i3 ix1))) fun H6 =>
 pS xx0 fun n7 n8 =>
 rd H6 n7 (n8 + 2) fun v9 =>
 dI .i64 v9 fun i10 =>
 pS xx0 fun n11 n12 =>
 wr H6 n11 (n12 + 2) (.int .i64 (wrapI .i64 (i10 + (nI nx5)))) fun H13 =>
 Q (.tup []) H13) := by kernel_rfl
theorem ref9_below_walk.l13_eq (S : Sm) (k : Nat) (xx0 : Pl) (ix1 : Int) (sx2 : ByteArray) (sx3 : ByteArray) (xx4 : Pl) (nx5 : Nat) (bx6 : Bool) (bx7 : Bool) (xx8 : Pl) (nx9 : Nat) (xx10 : Pl) (nx11 : Nat) (xx12 : Pl) (nx13 : Nat) (ix14 : Int) (H : Hp) (Q : Post) : ref9_below_walk.l13 S (k + 1) xx0 ix1 sx2 sx3 xx4 nx5 bx6 bx7 xx8 nx9 xx10 nx11 xx12 nx13 ix14 H Q = (
 bite (ltI ix14 (nI nx13))
 (bite (ltI 0 ix14)
  (chk true (chk ((leI 0 (wrapI .i64 (ix14 - 1))) && (ltI (wrapI .i64 (ix14 - 1)) (nI nx9))) (pS xx8 fun n0 n1 =>
   rd H n0 (n1 + ((tN (wrapI .i64 (ix14 - 1))) * 1)) fun v2 =>
   dS v2 fun s3 =>
   ref9_below_walk.l18 S k xx0 ix1 sx2 sx3 xx4 nx5 bx6 bx7 xx8 nx9 xx10 nx11 xx12 nx13 ix14 s3 sx3 H Q)))
  (ref9_below_walk.l18 S k xx0 ix1 sx2 sx3 xx4 nx5 bx6 bx7 xx8 nx9 xx10 nx11 xx12 nx13 ix14 sx2 sx3 H Q))
 (Q (.tup []) H)) := by kernel_rfl
theorem ref9_below_walk.l18_eq (S : Sm) (k : Nat) (xx0 : Pl) (ix1 : Int) (sx2 : ByteArray) (sx3 : ByteArray) (xx4 : Pl) (nx5 : Nat) (bx6 : Bool) (bx7 : Bool) (xx8 : Pl) (nx9 : Nat) (xx10 : Pl) (nx11 : Nat) (xx12 : Pl) (nx13 : Nat) (ix14 : Int) (sx15 : ByteArray) (sx16 : ByteArray) (H : Hp) (Q : Post) : ref9_below_walk.l18 S (k + 1) xx0 ix1 sx2 sx3 xx4 nx5 bx6 bx7 xx8 nx9 xx10 nx11 xx12 nx13 ix14 sx15 sx16 H Q = (
 bite (ltI ix14 (nI nx9))
 (chk true (chk ((leI 0 ix14) && (ltI ix14 (nI nx9))) (pS xx8 fun n0 n1 =>
  rd H n0 (n1 + ((tN ix14) * 1)) fun v2 =>
  dS v2 fun s3 =>
  ref9_below_walk.l20 S k xx0 ix1 sx2 sx3 xx4 nx5 bx6 bx7 xx8 nx9 xx10 nx11 xx12 nx13 ix14 sx15 s3 H Q)))
 (ref9_below_walk.l20 S k xx0 ix1 sx2 sx3 xx4 nx5 bx6 bx7 xx8 nx9 xx10 nx11 xx12 nx13 ix14 sx15 sx16 H Q)) := by kernel_rfl
theorem ref9_below_walk.l20_eq (S : Sm) (k : Nat) (xx0 : Pl) (ix1 : Int) (sx2 : ByteArray) (sx3 : ByteArray) (xx4 : Pl) (nx5 : Nat) (bx6 : Bool) (bx7 : Bool) (xx8 : Pl) (nx9 : Nat) (xx10 : Pl) (nx11 : Nat) (xx12 : Pl) (nx13 : Nat) (ix14 : Int) (sx15 : ByteArray) (sx16 : ByteArray) (H : Hp) (Q : Post) : ref9_below_walk.l20 S (k + 1) xx0 ix1 sx2 sx3 xx4 nx5 bx6 bx7 xx8 nx9 xx10 nx11 xx12 nx13 ix14 sx15 sx16 H Q = (
 chk true (chk ((leI 0 ix14) && (ltI ix14 (nI nx13))) (pS xx12 fun n0 n1 =>
 rd H n0 (n1 + ((tN ix14) * 1)) fun v2 =>
 dI .i64 v2 fun i3 =>
 cl S [(.g (.ptr xx0)), (.agg [(.sl xx4 nx5 5)]), (.g (.int .i64 i3)), (.g (.int .i64 (wrapI .i64 (ix1 + 1)))), (.g (.str sx15)), (.g (.str sx16))] H fun r4 H5 =>
 ref9_below_walk.l13 S k xx0 ix1 sx2 sx3 xx4 nx5 bx6 bx7 xx8 nx9 xx10 nx11 xx12 nx13 (wrapI .i64 (ix14 + 1)) H5 Q))) := by kernel_rfl
theorem ref9_below_walk.st_ok (S : Sm) (hS : SoundC Go.Proofs.Tryz.prog 92 S) : Sound Go.Proofs.Tryz.prog 92 (ref9_below_walk.st S) := prog_ok.sound (cx := ref9_below_walk.cx S) rfl (EnvOK.cons ((ref1_PageMay_ok).c ⟨_, Go.Proofs.Tryz.func67, by kernel_rfl, by kernel_rfl⟩) (EnvOK.cons hS (EnvOK.nil _))) (noDyn_ok _) Go.Proofs.Tryz.func92 rfl
def ref9_below_walk.at : Nat → Sm
  | 0 => fun _ _ _ => False
  | n + 1 => ref9_below_walk.st (ref9_below_walk.at n)
def ref9_below_walk : Sm := fun xs H Q => ∃ n, ref9_below_walk.at n xs H Q
theorem ref9_below_walk.at_ok : ∀ n, Sound Go.Proofs.Tryz.prog 92 (ref9_below_walk.at n)
  | 0 => fun _ _ _ h => h.elim
  | n + 1 => ref9_below_walk.st_ok _ ((ref9_below_walk.at_ok n).c ⟨_, Go.Proofs.Tryz.func92, by kernel_rfl, by kernel_rfl⟩)
theorem ref9_below_walk_ok : Sound Go.Proofs.Tryz.prog 92 (ref9_below_walk) := Sound.ex (ref9_below_walk.at_ok)

/-! 93: cryostat/cryostatref9.nothing -/
def ref9_nothing.cx : Cx := ⟨tys, [], [], [], [], noDyn, [.tmp 2]⟩
def ref9_nothing : Sm := fun xs H Q => ∃ k, callK (ref9_nothing.cx) Go.Proofs.Tryz.f93 k xs H Q
theorem ref9_nothing_eq (k : Nat) (z0 : Bool) (z1 : Bool) (z2 : Pl) (z2n : Nat) (z3 : Pl) (z3n : Nat) (z4 : Pl) (z4n : Nat) (H : Hp) (Q : Post) : callK (ref9_nothing.cx) Go.Proofs.Tryz.f93 (k + 1) [.agg [.bool z0, .bool z1, .sl z2 z2n 1, .sl z3 z3n 1, .sl z4 z4n 1]] H Q = (
 bite (!z0)
 (bite (!z1)
  (Q (.g (.bool (eqI (wrapI .i64 ((wrapI .i64 ((nI z2n) + (nI z3n))) + (nI z4n))) 0))) H)
  (Q (.g (.bool false)) H))
 (Q (.g (.bool false)) H)) := by kernel_rfl
theorem ref9_nothing_ok : Sound Go.Proofs.Tryz.prog 93 (ref9_nothing) := prog_ok.sound (cx := ref9_nothing.cx) rfl (EnvOK.nil _) (noDyn_ok _) Go.Proofs.Tryz.func93 rfl

/-! 61: cryostat/cryostatref9.looked -/
def ref9_looked.cx : Cx := ⟨tys, [10, 12], [(6, [1, 4, 5, 12])], [], [(92, ref9_below_walk), (93, ref9_nothing)], noDyn, [.tmp 2, .tmp 3]⟩
def ref9_looked : Sm := fun xs H Q => ∃ k, callK (ref9_looked.cx) Go.Proofs.Tryz.f61 k xs H Q
def ref9_looked.l6 (k : Nat) (xx0 : Pl) (nx1 : Nat) (nx2 : Nat) (nx3 : Nat) (ix4 : Int) (nx5 : Nat) (nx6 : Nat) (H : Hp) (Q : Post) : Prop := loopK (ref9_looked.cx) Go.Proofs.Tryz.f61 6 k (.bad :: (.bx [(.sl xx0 nx1 5)]) :: .bad :: .bad :: (.g (.ptr (some (nx2, nx3)))) :: (.g (.int .i64 ix4)) :: B 6 ((.g (.ptr (some (nx5, nx6)))) :: B 40 ([]))) H Q
theorem ref9_looked_eq (k : Nat) (z0 : Pl) (z0n : Nat) (H : Hp) (Q : Post) : callK (ref9_looked.cx) Go.Proofs.Tryz.f61 (k + 1) [.agg [.sl z0 z0n 5]] H Q = (
 bite (!(eqI (nI z0n) 48))
 (Q (.tup [(.s (.ptr none)), (.s (.bool false))]) H)
 (cl ref9_below_walk [(.g (.ptr (some ((ln (pu H (.row true 4 (repN (tN 48) [(.bool false)])))), 0)))), (.agg [(.sl z0 z0n 5)]), (.g (.int .i64 0)), (.g (.int .i64 1)), (.g (.str (mkS []))), (.g (.str (mkS [])))] (pu (pu H (.row true 4 (repN (tN 48) [(.bool false)]))) (.row true 150 [(.sl (some ((ln H), 0)) (tN 48) 1), (.int .i64 0), (.int .i64 0), (.bool false)])) fun r0 H1 =>
  ref9_looked.l6 k z0 z0n (ln (pu H (.row true 4 (repN (tN 48) [(.bool false)])))) 0 0 (ln (pu H (.row true 4 (repN (tN 48) [(.bool false)])))) 0 H1 Q)) := by kernel_rfl
theorem ref9_looked.l6_eq (k : Nat) (xx0 : Pl) (nx1 : Nat) (nx2 : Nat) (nx3 : Nat) (ix4 : Int) (nx5 : Nat) (nx6 : Nat) (H : Hp) (Q : Post) : ref9_looked.l6 (k + 1) xx0 nx1 nx2 nx3 ix4 nx5 nx6 H Q = (
 bite (ltI ix4 48)
 (rd H nx2 (nx3 + 0) fun v0 =>
  dL 1 v0 fun x1 n2 =>
  chk true (chk ((leI 0 ix4) && (ltI ix4 (nI n2))) (pS x1 fun n3 n4 =>
  rd H n3 (n4 + ((tN ix4) * 1)) fun v5 =>
  dB v5 fun b6 =>
  bite (!b6)
  (chk true (chk ((leI 0 ix4) && (ltI ix4 (nI nx1))) (pS xx0 fun n7 n8 =>
   rd H n7 (n8 + ((tN ix4) * 5)) fun v9 =>
   dB v9 fun b10 =>
   rd H n7 ((n8 + ((tN ix4) * 5)) + 1) fun v11 =>
   dB v11 fun b12 =>
   rd H n7 (((n8 + ((tN ix4) * 5)) + 1) + 1) fun v13 =>
   dL 1 v13 fun x14 n15 =>
   rd H n7 ((((n8 + ((tN ix4) * 5)) + 1) + 1) + 1) fun v16 =>
   dL 1 v16 fun x17 n18 =>
   rd H n7 (((((n8 + ((tN ix4) * 5)) + 1) + 1) + 1) + 1) fun v19 =>
   dL 1 v19 fun x20 n21 =>
   cl ref9_nothing [(.agg [(.bool b10), (.bool b12), (.sl x14 n15 1), (.sl x17 n18 1), (.sl x20 n21 1)])] H fun r22 H23 =>
   rG r22 fun v24 =>
   dB v24 fun b25 =>
   bite (!b25)
   (wr H23 nx2 (nx3 + 3) (.bool true) fun H26 =>
    ref9_looked.l6 k xx0 nx1 nx2 nx3 (wrapI .i64 (ix4 + 1)) nx5 nx6 H26 Q)
   (ref9_looked.l6 k xx0 nx1 nx2 nx3 (wrapI .i64 (ix4 + 1)) nx5 nx6 H23 Q))))
  (ref9_looked.l6 k xx0 nx1 nx2 nx3 (wrapI .i64 (ix4 + 1)) nx5 nx6 H Q))))
 (rd H nx2 (nx3 + 3) fun v27 =>
  dB v27 fun b28 =>
  bite (!b28)
  (rd H nx2 (nx3 + 2) fun v29 =>
   dI .i64 v29 fun i30 =>
   Q (.tup [(.s (.ptr (some (nx2, nx3)))), (.s (.bool (leI i30 60)))]) H)
  (Q (.tup [(.s (.ptr (some (nx2, nx3)))), (.s (.bool false))]) H))) := by kernel_rfl
theorem ref9_looked_ok : Sound Go.Proofs.Tryz.prog 61 (ref9_looked) := prog_ok.sound (cx := ref9_looked.cx) rfl (EnvOK.cons ((ref9_below_walk_ok).c ⟨_, Go.Proofs.Tryz.func92, by kernel_rfl, by kernel_rfl⟩) (EnvOK.cons ((ref9_nothing_ok).c ⟨_, Go.Proofs.Tryz.func93, by kernel_rfl, by kernel_rfl⟩) (EnvOK.nil _))) (noDyn_ok _) Go.Proofs.Tryz.func61 rfl

/-! 31: cryostat/cryostatref9.Sound -/
def ref9_Sound.cx : Cx := ⟨tys, [], [], [], [(61, ref9_looked)], noDyn, [.tmp 2]⟩
def ref9_Sound : Sm := fun xs H Q => ∃ k, callK (ref9_Sound.cx) Go.Proofs.Tryz.f31 k xs H Q
theorem ref9_Sound_eq (k : Nat) (z0 : Pl) (z0n : Nat) (H : Hp) (Q : Post) : callK (ref9_Sound.cx) Go.Proofs.Tryz.f31 (k + 1) [.agg [.sl z0 z0n 5]] H Q = (
 cl ref9_looked [(.agg [(.sl z0 z0n 5)])] H fun r0 H1 =>
 rT r0 fun c2 =>
 uR c2 fun q3 c4 =>
 rS q3 fun v5 =>
 dP v5 fun x6 =>
 uR c4 fun q7 c8 =>
 rS q7 fun v9 =>
 dB v9 fun b10 =>
 uE c8 (Q (.g (.bool b10)) H1)) := by kernel_rfl
theorem ref9_Sound_ok : Sound Go.Proofs.Tryz.prog 31 (ref9_Sound) := prog_ok.sound (cx := ref9_Sound.cx) rfl (EnvOK.cons ((ref9_looked_ok).c ⟨_, Go.Proofs.Tryz.func61, by kernel_rfl, by kernel_rfl⟩) (EnvOK.nil _)) (noDyn_ok _) Go.Proofs.Tryz.func31 rfl

/-! 28: cryostat/cryostatref9.New -/
def ref9_New.cx : Cx := ⟨tys, [2], [], [], [], noDyn, [.cell 0 24]⟩
def ref9_New : Sm := fun xs H Q => ∃ k, callK (ref9_New.cx) Go.Proofs.Tryz.f28 k xs H Q
theorem ref9_New_eq (k : Nat)  (H : Hp) (Q : Post) : callK (ref9_New.cx) Go.Proofs.Tryz.f28 (k + 1) [] H Q = (
 chk true (chk ((leI 0 0) && (ltI 0 (nI (tN 48)))) (wr (pu H (.row true 75 (repN (tN 48) [(.bool false), (.bool false), (.sl none 0 1), (.sl none 0 1), (.sl none 0 1)]))) (ln H) (0 + ((tN 0) * 5)) (.bool true) fun H0 =>
 wr H0 (ln H) ((0 + ((tN 0) * 5)) + 1) (.bool true) fun H1 =>
 wr H1 (ln H) (((0 + ((tN 0) * 5)) + 1) + 1) (.sl none 0 1) fun H2 =>
 wr H2 (ln H) ((((0 + ((tN 0) * 5)) + 1) + 1) + 1) (.sl none 0 1) fun H3 =>
 wr H3 (ln H) (((((0 + ((tN 0) * 5)) + 1) + 1) + 1) + 1) (.sl none 0 1) fun H4 =>
 Q (.agg [(.sl (some ((ln H), 0)) (tN 48) 5)]) H4))) := by kernel_rfl
theorem ref9_New_ok : Sound Go.Proofs.Tryz.prog 28 (ref9_New) := prog_ok.sound (cx := ref9_New.cx) rfl (EnvOK.nil _) (noDyn_ok _) Go.Proofs.Tryz.func28 rfl

/-! 60: cryostat/cryostatref9.sizes -/
def ref9_sizes.cx : Cx := ⟨tys, [], [(4, [0, 5, 6, 7])], [], [], noDyn, [.tmp 4]⟩
def ref9_sizes : Sm := fun xs H Q => ∃ k, callK (ref9_sizes.cx) Go.Proofs.Tryz.f60 k xs H Q
def ref9_sizes.l4 (k : Nat) (ix0 : Int) (ix1 : Int) (ax2 : Pl) (nx3 : Nat) (ix4 : Int) (H : Hp) (Q : Post) : Prop := loopK (ref9_sizes.cx) Go.Proofs.Tryz.f60 4 k ((.g (.int .i64 ix0)) :: B 4 ((.g (.int .i64 ix1)) :: (.g (.sl ax2 nx3 1)) :: (.g (.int .i64 ix4)) :: B 28 ([]))) H Q
theorem ref9_sizes_eq (k : Nat) (z0 : Int) (z1 : Int) (H : Hp) (Q : Post) : callK (ref9_sizes.cx) Go.Proofs.Tryz.f60 (k + 1) [.g (.int .i64 z0), .g (.int .i64 z1)] H Q = (
 chk (!(eqI z1 0)) (ref9_sizes.l4 k z0 (mxI 1 (wrapI .i64 (Int.tdiv (wrapI .i64 ((wrapI .i64 (z0 + z1)) - 1)) z1))) none 0 0 H Q)) := by kernel_rfl
theorem ref9_sizes.l4_eq (k : Nat) (ix0 : Int) (ix1 : Int) (ax2 : Pl) (nx3 : Nat) (ix4 : Int) (H : Hp) (Q : Post) : ref9_sizes.l4 (k + 1) ix0 ix1 ax2 nx3 ix4 H Q = (
 bite (ltI ix4 ix1)
 (chk (!(eqI ix1 0)) (chk (!(eqI ix1 0)) (chk true (ap H 3 1 8 ax2 nx3 [(.int .i64 (wrapI .i64 ((wrapI .i64 (Int.tdiv (wrapI .i64 (ix0 * (wrapI .i64 (ix4 + 1)))) ix1)) - (wrapI .i64 (Int.tdiv (wrapI .i64 (ix0 * ix4)) ix1)))))] 1 fun x0 n1 H2 =>
  ref9_sizes.l4 k ix0 ix1 x0 n1 (wrapI .i64 (ix4 + 1)) H2 Q))))
 (Q (.g (.sl ax2 nx3 1)) H)) := by kernel_rfl
theorem ref9_sizes_ok : Sound Go.Proofs.Tryz.prog 60 (ref9_sizes) := prog_ok.sound (cx := ref9_sizes.cx) rfl (EnvOK.nil _) (noDyn_ok _) Go.Proofs.Tryz.func60 rfl

/-! 59: cryostat/cryostatref9.leaves -/
def ref9_leaves.cx : Cx := ⟨tys, [], [(5, [0, 2, 3, 4, 5, 6]), (9, [0, 2, 3, 4, 5, 6, 7, 8])], [(16, [0, 2, 3, 4, 5, 6, 7, 9])], [(60, ref9_sizes)], noDyn, [.cell 2 112]⟩
def ref9_leaves : Sm := fun xs H Q => ∃ k, callK (ref9_leaves.cx) Go.Proofs.Tryz.f59 k xs H Q
def ref9_leaves.l5 (k : Nat) (xx0 : Pl) (nx1 : Nat) (ax2 : Pl) (nx3 : Nat) (ax4 : Pl) (nx5 : Nat) (ax6 : Pl) (nx7 : Nat) (ax8 : Pl) (nx9 : Nat) (xx10 : Pl) (nx11 : Nat) (ix12 : Int) (ix13 : Int) (H : Hp) (Q : Post) : Prop := loopK (ref9_leaves.cx) Go.Proofs.Tryz.f59 5 k ((.g (.sl xx0 nx1 2)) :: .bad :: (.bx [(.sl ax2 nx3 5), (.sl ax4 nx5 1)]) :: (.bx [(.sl ax6 nx7 5), (.sl ax8 nx9 1)]) :: (.g (.sl xx10 nx11 1)) :: (.g (.int .i64 ix12)) :: (.g (.int .i64 ix13)) :: B 73 ([])) H Q
def ref9_leaves.l9 (k : Nat) (xx0 : Pl) (nx1 : Nat) (ax2 : Pl) (nx3 : Nat) (ax4 : Pl) (nx5 : Nat) (ax6 : Pl) (nx7 : Nat) (ax8 : Pl) (nx9 : Nat) (xx10 : Pl) (nx11 : Nat) (ix12 : Int) (ix13 : Int) (bx14 : Bool) (bx15 : Bool) (ax16 : Pl) (nx17 : Nat) (ax18 : Pl) (nx19 : Nat) (ax20 : Pl) (nx21 : Nat) (ix22 : Int) (H : Hp) (Q : Post) : Prop := loopK (ref9_leaves.cx) Go.Proofs.Tryz.f59 9 k ((.g (.sl xx0 nx1 2)) :: .bad :: (.bx [(.sl ax2 nx3 5), (.sl ax4 nx5 1)]) :: (.bx [(.sl ax6 nx7 5), (.sl ax8 nx9 1)]) :: (.g (.sl xx10 nx11 1)) :: (.g (.int .i64 ix12)) :: (.g (.int .i64 ix13)) :: (.bx [(.bool bx14), (.bool bx15), (.sl ax16 nx17 1), (.sl ax18 nx19 1), (.sl ax20 nx21 1)]) :: (.g (.int .i64 ix22)) :: B 71 ([])) H Q
def ref9_leaves.l16 (k : Nat) (xx0 : Pl) (nx1 : Nat) (ax2 : Pl) (nx3 : Nat) (ax4 : Pl) (nx5 : Nat) (ax6 : Pl) (nx7 : Nat) (ax8 : Pl) (nx9 : Nat) (xx10 : Pl) (nx11 : Nat) (ix12 : Int) (ix13 : Int) (bx14 : Bool) (bx15 : Bool) (ax16 : Pl) (nx17 : Nat) (ax18 : Pl) (nx19 : Nat) (ax20 : Pl) (nx21 : Nat) (sx22 : ByteArray) (H : Hp) (Q : Post) : Prop := loopK (ref9_leaves.cx) Go.Proofs.Tryz.f59 16 k ((.g (.sl xx0 nx1 2)) :: .bad :: (.bx [(.sl ax2 nx3 5), (.sl ax4 nx5 1)]) :: (.bx [(.sl ax6 nx7 5), (.sl ax8 nx9 1)]) :: (.g (.sl xx10 nx11 1)) :: (.g (.int .i64 ix12)) :: (.g (.int .i64 ix13)) :: (.bx [(.bool bx14), (.bool bx15), (.sl ax16 nx17 1), (.sl ax18 nx19 1), (.sl ax20 nx21 1)]) :: .bad :: (.g (.str sx22)) :: B 70 ([])) H Q
theorem ref9_leaves_eq (k : Nat) (z0 : Pl) (z0n : Nat) (H : Hp) (Q : Post) : callK (ref9_leaves.cx) Go.Proofs.Tryz.f59 (k + 1) [.g (.sl z0 z0n 2)] H Q = (
 cl ref9_sizes [(.g (.int .i64 (nI z0n))), (.g (.int .i64 4))] H fun r0 H1 =>
 rG r0 fun v2 =>
 dL 1 v2 fun x3 n4 =>
 ref9_leaves.l5 k z0 z0n none 0 none 0 none 0 none 0 x3 n4 0 0 H1 Q) := by kernel_rfl
theorem ref9_leaves.l5_eq (k : Nat) (xx0 : Pl) (nx1 : Nat) (ax2 : Pl) (nx3 : Nat) (ax4 : Pl) (nx5 : Nat) (ax6 : Pl) (nx7 : Nat) (ax8 : Pl) (nx9 : Nat) (xx10 : Pl) (nx11 : Nat) (ix12 : Int) (ix13 : Int) (H : Hp) (Q : Post) : ref9_leaves.l5 (k + 1) xx0 nx1 ax2 nx3 ax4 nx5 ax6 nx7 ax8 nx9 xx10 nx11 ix12 ix13 H Q = (
 bite (ltI ix13 (nI nx11))
 (ref9_leaves.l9 k xx0 nx1 ax2 nx3 ax4 nx5 ax6 nx7 ax8 nx9 xx10 nx11 ix12 ix13 true true none 0 none 0 none 0 ix12 H Q)
 (Q (.agg [(.sl ax6 nx7 5), (.sl ax8 nx9 1)]) H)) := by kernel_rfl
theorem ref9_leaves.l9_eq (k : Nat) (xx0 : Pl) (nx1 : Nat) (ax2 : Pl) (nx3 : Nat) (ax4 : Pl) (nx5 : Nat) (ax6 : Pl) (nx7 : Nat) (ax8 : Pl) (nx9 : Nat) (xx10 : Pl) (nx11 : Nat) (ix12 : Int) (ix13 : Int) (bx14 : Bool) (bx15 : Bool) (ax16 : Pl) (nx17 : Nat) (ax18 : Pl) (nx19 : Nat) (ax20 : Pl) (nx21 : Nat) (ix22 : Int) (H : Hp) (Q : Post) : ref9_leaves.l9 (k + 1) xx0 nx1 ax2 nx3 ax4 nx5 ax6 nx7 ax8 nx9 xx10 nx11 ix12 ix13 bx14 bx15 ax16 nx17 ax18 nx19 ax20 nx21 ix22 H Q = (
 chk true (chk ((leI 0 ix13) && (ltI ix13 (nI nx11))) (pS xx10 fun n0 n1 =>
 rd H n0 (n1 + ((tN ix13) * 1)) fun v2 =>
 dI .i64 v2 fun i3 =>
 bite (ltI ix22 (wrapI .i64 (ix12 + i3)))
 (chk true (chk ((leI 0 ix22) && (ltI ix22 (nI nx1))) (pS xx0 fun n4 n5 =>
  rd H n4 ((n5 + ((tN ix22) * 2)) + 0) fun v6 =>
  dS v6 fun s7 =>
  chk true (ap H 9 1 16 ax16 nx17 [(.str s7)] 1 fun x8 n9 H10 =>
  chk true (chk ((leI 0 ix22) && (ltI ix22 (nI nx1))) (pS xx0 fun n11 n12 =>
  rd H10 n11 ((n12 + ((tN ix22) * 2)) + 1) fun v13 =>
  dS v13 fun s14 =>
  chk true (ap H10 9 1 16 ax18 nx19 [(.str s14)] 1 fun x15 n16 H17 =>
  ref9_leaves.l9 k xx0 nx1 ax2 nx3 ax4 nx5 ax6 nx7 ax8 nx9 xx10 nx11 ix12 ix13 bx14 bx15 x8 n9 x15 n16 ax20 nx21 (wrapI .i64 (ix22 + 1)) H17 Q)))))))
 (chk true (chk ((leI 0 ix13) && (ltI ix13 (nI nx11))) (pS xx10 fun n18 n19 =>
  rd H n18 (n19 + ((tN ix13) * 1)) fun v20 =>
  dI .i64 v20 fun i21 =>
  bite (ltI 0 i21)
  (chk true (chk ((leI 0 ix12) && (ltI ix12 (nI nx1))) (pS xx0 fun n22 n23 =>
   rd H n22 ((n23 + ((tN ix12) * 2)) + 0) fun v24 =>
   dS v24 fun s25 =>
   ref9_leaves.l16 k xx0 nx1 ax2 nx3 ax4 nx5 ax6 nx7 ax8 nx9 xx10 nx11 ix12 ix13 bx14 bx15 ax16 nx17 ax18 nx19 ax20 nx21 s25 H Q)))
  (ref9_leaves.l16 k xx0 nx1 ax2 nx3 ax4 nx5 ax6 nx7 ax8 nx9 xx10 nx11 ix12 ix13 bx14 bx15 ax16 nx17 ax18 nx19 ax20 nx21 (mkS []) H Q))))))) := by kernel_rfl
theorem ref9_leaves.l16_eq (k : Nat) (xx0 : Pl) (nx1 : Nat) (ax2 : Pl) (nx3 : Nat) (ax4 : Pl) (nx5 : Nat) (ax6 : Pl) (nx7 : Nat) (ax8 : Pl) (nx9 : Nat) (xx10 : Pl) (nx11 : Nat) (ix12 : Int) (ix13 : Int) (bx14 : Bool) (bx15 : Bool) (ax16 : Pl) (nx17 : Nat) (ax18 : Pl) (nx19 : Nat) (ax20 : Pl) (nx21 : Nat) (sx22 : ByteArray) (H : Hp) (Q : Post) : ref9_leaves.l16 (k + 1) xx0 nx1 ax2 nx3 ax4 nx5 ax6 nx7 ax8 nx9 xx10 nx11 ix12 ix13 bx14 bx15 ax16 nx17 ax18 nx19 ax20 nx21 sx22 H Q = (
 chk true (ap H 75 5 80 ax6 nx7 [(.bool bx14), (.bool bx15), (.sl ax16 nx17 1), (.sl ax18 nx19 1), (.sl ax20 nx21 1)] 1 fun x0 n1 H2 =>
 chk true (ap H2 9 1 16 ax8 nx9 [(.str sx22)] 1 fun x3 n4 H5 =>
 chk true (chk ((leI 0 ix13) && (ltI ix13 (nI nx11))) (pS xx10 fun n6 n7 =>
 rd H5 n6 (n7 + ((tN ix13) * 1)) fun v8 =>
 dI .i64 v8 fun i9 =>
 ref9_leaves.l5 k xx0 nx1 ax2 nx3 ax4 nx5 x0 n1 x3 n4 xx10 nx11 (wrapI .i64 (ix12 + i9)) (wrapI .i64 (ix13 + 1)) H5 Q))))) := by kernel_rfl
theorem ref9_leaves_ok : Sound Go.Proofs.Tryz.prog 59 (ref9_leaves) := prog_ok.sound (cx := ref9_leaves.cx) rfl (EnvOK.cons ((ref9_sizes_ok).c ⟨_, Go.Proofs.Tryz.func60, by kernel_rfl, by kernel_rfl⟩) (EnvOK.nil _)) (noDyn_ok _) Go.Proofs.Tryz.func59 rfl

/-! 30: cryostat/cryostatref9.Build -/
def ref9_Build.cx : Cx := ⟨tys, [], [(4, [2, 3, 4, 5]), (9, [2, 3, 4, 5, 6, 7, 8, 9]), (13, [2, 3, 4, 5, 6, 7, 8, 9, 10, 11])], [], [(28, ref9_New), (59, ref9_leaves), (60, ref9_sizes)], noDyn, [.cell 2 24]⟩
def ref9_Build : Sm := fun xs H Q => ∃ k, callK (ref9_Build.cx) Go.Proofs.Tryz.f30 k xs H Q
def ref9_Build.l4 (k : Nat) (ax0 : Pl) (nx1 : Nat) (xx2 : Pl) (nx3 : Nat) (xx4 : Pl) (nx5 : Nat) (xx6 : Pl) (nx7 : Nat) (ix8 : Int) (H : Hp) (Q : Post) : Prop := loopK (ref9_Build.cx) Go.Proofs.Tryz.f30 4 k (.bad :: .bad :: (.bx [(.sl ax0 nx1 5)]) :: (.bx [(.sl xx2 nx3 5)]) :: (.bx [(.sl xx4 nx5 5), (.sl xx6 nx7 1)]) :: (.g (.int .i64 ix8)) :: B 96 ([])) H Q
def ref9_Build.l9 (k : Nat) (ax0 : Pl) (nx1 : Nat) (xx2 : Pl) (nx3 : Nat) (xx4 : Pl) (nx5 : Nat) (xx6 : Pl) (nx7 : Nat) (ix8 : Int) (ax9 : Pl) (nx10 : Nat) (ax11 : Pl) (nx12 : Nat) (xx13 : Pl) (nx14 : Nat) (ix15 : Int) (ix16 : Int) (H : Hp) (Q : Post) : Prop := loopK (ref9_Build.cx) Go.Proofs.Tryz.f30 9 k (.bad :: .bad :: (.bx [(.sl ax0 nx1 5)]) :: (.bx [(.sl xx2 nx3 5)]) :: (.bx [(.sl xx4 nx5 5), (.sl xx6 nx7 1)]) :: (.g (.int .i64 ix8)) :: (.bx [(.sl ax9 nx10 5), (.sl ax11 nx12 1)]) :: (.g (.sl xx13 nx14 1)) :: (.g (.int .i64 ix15)) :: (.g (.int .i64 ix16)) :: B 92 ([])) H Q
def ref9_Build.l13 (k : Nat) (ax0 : Pl) (nx1 : Nat) (xx2 : Pl) (nx3 : Nat) (xx4 : Pl) (nx5 : Nat) (xx6 : Pl) (nx7 : Nat) (ix8 : Int) (ax9 : Pl) (nx10 : Nat) (ax11 : Pl) (nx12 : Nat) (xx13 : Pl) (nx14 : Nat) (ix15 : Int) (ix16 : Int) (bx17 : Bool) (bx18 : Bool) (ax19 : Pl) (nx20 : Nat) (ax21 : Pl) (nx22 : Nat) (ax23 : Pl) (nx24 : Nat) (ix25 : Int) (H : Hp) (Q : Post) : Prop := loopK (ref9_Build.cx) Go.Proofs.Tryz.f30 13 k (.bad :: .bad :: (.bx [(.sl ax0 nx1 5)]) :: (.bx [(.sl xx2 nx3 5)]) :: (.bx [(.sl xx4 nx5 5), (.sl xx6 nx7 1)]) :: (.g (.int .i64 ix8)) :: (.bx [(.sl ax9 nx10 5), (.sl ax11 nx12 1)]) :: (.g (.sl xx13 nx14 1)) :: (.g (.int .i64 ix15)) :: (.g (.int .i64 ix16)) :: (.bx [(.bool bx17), (.bool bx18), (.sl ax19 nx20 1), (.sl ax21 nx22 1), (.sl ax23 nx24 1)]) :: (.g (.int .i64 ix25)) :: B 90 ([])) H Q
theorem ref9_Build_eq (k : Nat) (z0 : Pl) (z0n : Nat) (H : Hp) (Q : Post) : callK (ref9_Build.cx) Go.Proofs.Tryz.f30 (k + 1) [.g (.sl z0 z0n 2)] H Q = (
 cl ref9_New [] H fun r0 H1 =>
 rA r0 fun c2 =>
 uC c2 fun v3 c4 =>
 dL 5 v3 fun x5 n6 =>
 uN c4 (cl ref9_leaves [(.g (.sl z0 z0n 2))] H1 fun r7 H8 =>
 rA r7 fun c9 =>
 uC c9 fun v10 c11 =>
 dL 5 v10 fun x12 n13 =>
 uC c11 fun v14 c15 =>
 dL 1 v14 fun x16 n17 =>
 uN c15 (ref9_Build.l4 k none 0 x5 n6 x12 n13 x16 n17 1 H8 Q))) := by kernel_rfl
theorem ref9_Build.l4_eq (k : Nat) (ax0 : Pl) (nx1 : Nat) (xx2 : Pl) (nx3 : Nat) (xx4 : Pl) (nx5 : Nat) (xx6 : Pl) (nx7 : Nat) (ix8 : Int) (H : Hp) (Q : Post) : ref9_Build.l4 (k + 1) ax0 nx1 xx2 nx3 xx4 nx5 xx6 nx7 ix8 H Q = (
 bite (ltI 1 (nI nx5))
 (cl ref9_sizes [(.g (.int .i64 (nI nx5))), (.g (.int .i64 5))] H fun r0 H1 =>
  rG r0 fun v2 =>
  dL 1 v2 fun x3 n4 =>
  ref9_Build.l9 k ax0 nx1 xx2 nx3 xx4 nx5 xx6 nx7 ix8 none 0 none 0 x3 n4 0 0 H1 Q)
 (chk true (chk ((leI 0 0) && (ltI 0 (nI nx5))) (pS xx4 fun n5 n6 =>
  rd H n5 (n6 + ((tN 0) * 5)) fun v7 =>
  dB v7 fun b8 =>
  rd H n5 ((n6 + ((tN 0) * 5)) + 1) fun v9 =>
  dB v9 fun b10 =>
  rd H n5 (((n6 + ((tN 0) * 5)) + 1) + 1) fun v11 =>
  dL 1 v11 fun x12 n13 =>
  rd H n5 ((((n6 + ((tN 0) * 5)) + 1) + 1) + 1) fun v14 =>
  dL 1 v14 fun x15 n16 =>
  rd H n5 (((((n6 + ((tN 0) * 5)) + 1) + 1) + 1) + 1) fun v17 =>
  dL 1 v17 fun x18 n19 =>
  chk true (chk ((leI 0 0) && (ltI 0 (nI nx3))) (pS xx2 fun n20 n21 =>
  wr H n20 (n21 + ((tN 0) * 5)) (.bool b8) fun H22 =>
  wr H22 n20 ((n21 + ((tN 0) * 5)) + 1) (.bool b10) fun H23 =>
  wr H23 n20 (((n21 + ((tN 0) * 5)) + 1) + 1) (.sl x12 n13 1) fun H24 =>
  wr H24 n20 ((((n21 + ((tN 0) * 5)) + 1) + 1) + 1) (.sl x15 n16 1) fun H25 =>
  wr H25 n20 (((((n21 + ((tN 0) * 5)) + 1) + 1) + 1) + 1) (.sl x18 n19 1) fun H26 =>
  Q (.agg [(.sl xx2 nx3 5)]) H26)))))) := by kernel_rfl
theorem ref9_Build.l9_eq (k : Nat) (ax0 : Pl) (nx1 : Nat) (xx2 : Pl) (nx3 : Nat) (xx4 : Pl) (nx5 : Nat) (xx6 : Pl) (nx7 : Nat) (ix8 : Int) (ax9 : Pl) (nx10 : Nat) (ax11 : Pl) (nx12 : Nat) (xx13 : Pl) (nx14 : Nat) (ix15 : Int) (ix16 : Int) (H : Hp) (Q : Post) : ref9_Build.l9 (k + 1) ax0 nx1 xx2 nx3 xx4 nx5 xx6 nx7 ix8 ax9 nx10 ax11 nx12 xx13 nx14 ix15 ix16 H Q = (
 bite (ltI ix16 (nI nx14))
 (ref9_Build.l13 k ax0 nx1 xx2 nx3 xx4 nx5 xx6 nx7 ix8 ax9 nx10 ax11 nx12 xx13 nx14 ix15 ix16 true false none 0 none 0 none 0 ix15 H Q)
 (ref9_Build.l4 k ax0 nx1 xx2 nx3 ax9 nx10 ax11 nx12 ix8 H Q)) := by kernel_rfl
theorem ref9_Build.l13_eq (k : Nat) (ax0 : Pl) (nx1 : Nat) (xx2 : Pl) (nx3 : Nat) (xx4 : Pl) (nx5 : Nat) (xx6 : Pl) (nx7 : Nat) (ix8 : Int) (ax9 : Pl) (nx10 : Nat) (ax11 : Pl) (nx12 : Nat) (xx13 : Pl) (nx14 : Nat) (ix15 : Int) (ix16 : Int) (bx17 : Bool) (bx18 : Bool) (ax19 : Pl) (nx20 : Nat) (ax21 : Pl) (nx22 : Nat) (ax23 : Pl) (nx24 : Nat) (ix25 : Int) (H : Hp) (Q : Post) : ref9_Build.l13 (k + 1) ax0 nx1 xx2 nx3 xx4 nx5 xx6 nx7 ix8 ax9 nx10 ax11 nx12 xx13 nx14 ix15 ix16 bx17 bx18 ax19 nx20 ax21 nx22 ax23 nx24 ix25 H Q = (
 chk true (chk ((leI 0 ix16) && (ltI ix16 (nI nx14))) (pS xx13 fun n0 n1 =>
 rd H n0 (n1 + ((tN ix16) * 1)) fun v2 =>
 dI .i64 v2 fun i3 =>
 bite (ltI ix25 (wrapI .i64 (ix15 + i3)))
 (chk true (chk ((leI 0 ix25) && (ltI ix25 (nI nx5))) (pS xx4 fun n4 n5 =>
  rd H n4 (n5 + ((tN ix25) * 5)) fun v6 =>
  dB v6 fun b7 =>
  rd H n4 ((n5 + ((tN ix25) * 5)) + 1) fun v8 =>
  dB v8 fun b9 =>
  rd H n4 (((n5 + ((tN ix25) * 5)) + 1) + 1) fun v10 =>
  dL 1 v10 fun x11 n12 =>
  rd H n4 ((((n5 + ((tN ix25) * 5)) + 1) + 1) + 1) fun v13 =>
  dL 1 v13 fun x14 n15 =>
  rd H n4 (((((n5 + ((tN ix25) * 5)) + 1) + 1) + 1) + 1) fun v16 =>
  dL 1 v16 fun x17 n18 =>
  chk true (chk ((leI 0 ix8) && (ltI ix8 (nI nx3))) (pS xx2 fun n19 n20 =>
  wr H n19 (n20 + ((tN ix8) * 5)) (.bool b7) fun H21 =>
  wr H21 n19 ((n20 + ((tN ix8) * 5)) + 1) (.bool b9) fun H22 =>
  wr H22 n19 (((n20 + ((tN ix8) * 5)) + 1) + 1) (.sl x11 n12 1) fun H23 =>
  wr H23 n19 ((((n20 + ((tN ix8) * 5)) + 1) + 1) + 1) (.sl x14 n15 1) fun H24 =>
  wr H24 n19 (((((n20 + ((tN ix8) * 5)) + 1) + 1) + 1) + 1) (.sl x17 n18 1) fun H25 =>
  chk true (ap H25 3 1 8 ax23 nx24 [(.int .i64 ix8)] 1 fun x26 n27 H28 =>
  bite (ltI ix15 ix25)
  (chk true (chk ((leI 0 ix25) && (ltI ix25 (nI nx7))) (pS xx6 fun n29 n30 =>
   rd H28 n29 (n30 + ((tN ix25) * 1)) fun v31 =>
   dS v31 fun s32 =>
   chk true (ap H28 9 1 16 ax19 nx20 [(.str s32)] 1 fun x33 n34 H35 =>
   ref9_Build.l13 k ax0 nx1 xx2 nx3 xx4 nx5 xx6 nx7 (wrapI .i64 (ix8 + 1)) ax9 nx10 ax11 nx12 xx13 nx14 ix15 ix16 bx17 bx18 x33 n34 ax21 nx22 x26 n27 (wrapI .i64 (ix25 + 1)) H35 Q))))
  (ref9_Build.l13 k ax0 nx1 xx2 nx3 xx4 nx5 xx6 nx7 (wrapI .i64 (ix8 + 1)) ax9 nx10 ax11 nx12 xx13 nx14 ix15 ix16 bx17 bx18 ax19 nx20 ax21 nx22 x26 n27 (wrapI .i64 (ix25 + 1)) H28 Q)))))))
 (chk true (ap H 75 5 80 ax9 nx10 [(.bool bx17), (.bool bx18), (.sl ax19 nx20 1), (.sl ax21 nx22 1), (.sl ax23 nx24 1)] 1 fun x36 n37 H38 =>
  chk true (chk ((leI 0 ix15) && (ltI ix15 (nI nx7))) (pS xx6 fun n39 n40 =>
  rd H38 n39 (n40 + ((tN ix15) * 1)) fun v41 =>
  dS v41 fun s42 =>
  chk true (ap H38 9 1 16 ax11 nx12 [(.str s42)] 1 fun x43 n44 H45 =>
  chk true (chk ((leI 0 ix16) && (ltI ix16 (nI nx14))) (pS xx13 fun n46 n47 =>
  rd H45 n46 (n47 + ((tN ix16) * 1)) fun v48 =>
  dI .i64 v48 fun i49 =>
  ref9_Build.l9 k ax0 nx1 xx2 nx3 xx4 nx5 xx6 nx7 ix8 x36 n37 x43 n44 xx13 nx14 (wrapI .i64 (ix15 + i49)) (wrapI .i64 (ix16 + 1)) H45 Q)))))))))) := by kernel_rfl
theorem ref9_Build_ok : Sound Go.Proofs.Tryz.prog 30 (ref9_Build) := prog_ok.sound (cx := ref9_Build.cx) rfl (EnvOK.cons ((ref9_New_ok).c ⟨_, Go.Proofs.Tryz.func28, by kernel_rfl, by kernel_rfl⟩) (EnvOK.cons ((ref9_leaves_ok).c ⟨_, Go.Proofs.Tryz.func59, by kernel_rfl, by kernel_rfl⟩) (EnvOK.cons ((ref9_sizes_ok).c ⟨_, Go.Proofs.Tryz.func60, by kernel_rfl, by kernel_rfl⟩) (EnvOK.nil _)))) (noDyn_ok _) Go.Proofs.Tryz.func30 rfl

/-! 58: cryostat/cryostatref9.all -/
def ref9_all.cx (S : Sm) : Cx := ⟨tys, [], [(3, [2, 3, 7, 8]), (7, [2, 3, 7, 9])], [], [(58, S)], noDyn, [.tmp 6]⟩
def ref9_all.st (S : Sm) : Sm := fun xs H Q => ∃ k, callK (ref9_all.cx S) Go.Proofs.Tryz.f58 k xs H Q
def ref9_all.l3 (S : Sm) (k : Nat) (xx0 : Pl) (nx1 : Nat) (xx2 : Pl) (nx3 : Nat) (bx4 : Bool) (bx5 : Bool) (xx6 : Pl) (nx7 : Nat) (xx8 : Pl) (nx9 : Nat) (xx10 : Pl) (nx11 : Nat) (ix12 : Int) (H : Hp) (Q : Post) : Prop := loopK (ref9_all.cx S) Go.Proofs.Tryz.f58 3 k (.bad :: .bad :: (.g (.sl xx0 nx1 2)) :: (.bx [(.sl xx2 nx3 5)]) :: B 3 ((.bx [(.bool bx4), (.bool bx5), (.sl xx6 nx7 1), (.sl xx8 nx9 1), (.sl xx10 nx11 1)]) :: (.g (.int .i64 ix12)) :: B 43 ([]))) H Q
def ref9_all.l7 (S : Sm) (k : Nat) (xx0 : Pl) (nx1 : Nat) (xx2 : Pl) (nx3 : Nat) (bx4 : Bool) (bx5 : Bool) (xx6 : Pl) (nx7 : Nat) (xx8 : Pl) (nx9 : Nat) (xx10 : Pl) (nx11 : Nat) (ix12 : Int) (H : Hp) (Q : Post) : Prop := loopK (ref9_all.cx S) Go.Proofs.Tryz.f58 7 k (.bad :: .bad :: (.g (.sl xx0 nx1 2)) :: (.bx [(.sl xx2 nx3 5)]) :: B 3 ((.bx [(.bool bx4), (.bool bx5), (.sl xx6 nx7 1), (.sl xx8 nx9 1), (.sl xx10 nx11 1)]) :: .bad :: (.g (.int .i64 ix12)) :: B 42 ([]))) H Q
theorem ref9_all_eq (S : Sm) (k : Nat) (z0 : Pl) (z0n : Nat) (z1 : Int) (z2 : Pl) (z2n : Nat) (H : Hp) (Q : Post) : callK (ref9_all.cx S) Go.Proofs.Tryz.f58 (k + 1) [.agg [.sl z0 z0n 5], .g (.int .i64 z1), .g (.sl z2 z2n 2)] H Q = (
 chk true (chk ((leI 0 z1) && (ltI z1 (nI z0n))) (pS z0 fun n0 n1 =>
 rd H n0 (n1 + ((tN z1) * 5)) fun v2 =>
 dB v2 fun b3 =>
 rd H n0 ((n1 + ((tN z1) * 5)) + 1) fun v4 =>
 dB v4 fun b5 =>
 rd H n0 (((n1 + ((tN z1) * 5)) + 1) + 1) fun v6 =>
 dL 1 v6 fun x7 n8 =>
 rd H n0 ((((n1 + ((tN z1) * 5)) + 1) + 1) + 1) fun v9 =>
 dL 1 v9 fun x10 n11 =>
 rd H n0 (((((n1 + ((tN z1) * 5)) + 1) + 1) + 1) + 1) fun v12 =>
 dL 1 v12 fun x13 n14 =>
 ref9_all.l3 S k z2 z2n z0 z0n b3 b5 x7 n8 x10 n11 x13 n14 0 H Q))) := by kernel_rfl
theorem ref9_all.l3_eq (S : Sm) (k : Nat) (xx0 : Pl) (nx1 : Nat) (xx2 : Pl) (nx3 : Nat) (bx4 : Bool) (bx5 : Bool) (xx6 : Pl) (nx7 : Nat) (xx8 : Pl) (nx9 : Nat) (xx10 : Pl) (nx11 : Nat) (ix12 : Int) (H : Hp) (Q : Post) : ref9_all.l3 S (k + 1) xx0 nx1 xx2 nx3 bx4 bx5 xx6 nx7 xx8 nx9 xx10 nx11 ix12 H Q = (
 bite (ltI ix12 (nI nx9))
 (chk true (chk ((leI 0 ix12) && (ltI ix12 (nI nx7))) (pS xx6 fun n0 n1 =>
  rd H n0 (n1 + ((tN ix12) * 1)) fun v2 =>
  dS v2 fun s3 =>
  chk true (chk ((leI 0 ix12) && (ltI ix12 (nI nx9))) (pS xx8 fun n4 n5 =>
  rd H n4 (n5 + ((tN ix12) * 1)) fun v6 =>
  dS v6 fun s7 =>
  chk true (ap H 60 2 32 xx0 nx1 [(.str s3), (.str s7)] 1 fun x8 n9 H10 =>
  ref9_all.l3 S k x8 n9 xx2 nx3 bx4 bx5 xx6 nx7 xx8 nx9 xx10 nx11 (wrapI .i64 (ix12 + 1)) H10 Q))))))
 (ref9_all.l7 S k xx0 nx1 xx2 nx3 bx4 bx5 xx6 nx7 xx8 nx9 xx10 nx11 0 H Q)) := by kernel_rfl
theorem ref9_all.l7_eq (S : Sm) (k : Nat) (xx0 : Pl) (nx1 : Nat) (xx2 : Pl) (nx3 : Nat) (bx4 : Bool) (bx5 : Bool) (xx6 : Pl) (nx7 : Nat) (xx8 : Pl) (nx9 : Nat) (xx10 : Pl) (nx11 : Nat) (ix12 : Int) (H : Hp) (Q : Post) : ref9_all.l7 S (k + 1) xx0 nx1 xx2 nx3 bx4 bx5 xx6 nx7 xx8 nx9 xx10 nx11 ix12 H Q = (
 bite (ltI ix12 (nI nx11))
 (chk true (chk ((leI 0 ix12) && (ltI ix12 (nI nx11))) (pS xx10 fun n0 n1 =>
  rd H n0 (n1 + ((tN ix12) * 1)) fun v2 =>
  dI .i64 v2 fun i3 =>
  cl S [(.agg [(.sl xx2 nx3 5)]), (.g (.int .i64 i3)), (.g (.sl xx0 nx1 2))] H fun r4 H5 =>
  rG r4 fun v6 =>
  dL 2 v6 fun x7 n8 =>
  ref9_all.l7 S k x7 n8 xx2 nx3 bx4 bx5 xx6 nx7 xx8 nx9 xx10 nx11 (wrapI .i64 (ix12 + 1)) H5 Q)))
 (Q (.g (.sl xx0 nx1 2)) H)) := by kernel_rfl
theorem ref9_all.st_ok (S : Sm) (hS : SoundC Go.Proofs.Tryz.prog 58 S) : Sound Go.Proofs.Tryz.prog 58 (ref9_all.st S) := prog_ok.sound (cx := ref9_all.cx S) rfl (EnvOK.cons hS (EnvOK.nil _)) (noDyn_ok _) Go.Proofs.Tryz.func58 rfl
def ref9_all.at : Nat → Sm
  | 0 => fun _ _ _ => False
  | n + 1 => ref9_all.st (ref9_all.at n)
def ref9_all : Sm := fun xs H Q => ∃ n, ref9_all.at n xs H Q
theorem ref9_all.at_ok : ∀ n, Sound Go.Proofs.Tryz.prog 58 (ref9_all.at n)
  | 0 => fun _ _ _ h => h.elim
  | n + 1 => ref9_all.st_ok _ ((ref9_all.at_ok n).c ⟨_, Go.Proofs.Tryz.func58, by kernel_rfl, by kernel_rfl⟩)
theorem ref9_all_ok : Sound Go.Proofs.Tryz.prog 58 (ref9_all) := Sound.ex (ref9_all.at_ok)

/-! 26: cryostat/cryostatref9.All -/
def ref9_All.cx : Cx := ⟨tys, [], [], [], [(31, ref9_Sound), (58, ref9_all)], noDyn, [.tmp 2, .tmp 3]⟩
def ref9_All : Sm := fun xs H Q => ∃ k, callK (ref9_All.cx) Go.Proofs.Tryz.f26 k xs H Q
theorem ref9_All_eq (k : Nat) (z0 : Pl) (z0n : Nat) (H : Hp) (Q : Post) : callK (ref9_All.cx) Go.Proofs.Tryz.f26 (k + 1) [.agg [.sl z0 z0n 5]] H Q = (
 cl ref9_Sound [(.agg [(.sl z0 z0n 5)])] H fun r0 H1 =>
 rG r0 fun v2 =>
 dB v2 fun b3 =>
 bite (!b3)
 (Q (.tup [(.s (.sl none 0 2)), (.s (.int .i64 1400))]) H1)
 (cl ref9_all [(.agg [(.sl z0 z0n 5)]), (.g (.int .i64 0)), (.g (.sl none 0 2))] H1 fun r4 H5 =>
  rG r4 fun v6 =>
  dL 2 v6 fun x7 n8 =>
  Q (.tup [(.s (.sl x7 n8 2)), (.s (.int .i64 0))]) H5)) := by kernel_rfl
theorem ref9_All_ok : Sound Go.Proofs.Tryz.prog 26 (ref9_All) := prog_ok.sound (cx := ref9_All.cx) rfl (EnvOK.cons ((ref9_Sound_ok).c ⟨_, Go.Proofs.Tryz.func31, by kernel_rfl, by kernel_rfl⟩) (EnvOK.cons ((ref9_all_ok).c ⟨_, Go.Proofs.Tryz.func58, by kernel_rfl, by kernel_rfl⟩) (EnvOK.nil _))) (noDyn_ok _) Go.Proofs.Tryz.func26 rfl


end Go.Am
namespace Go.Am

section
variable {H : Hp} {Q : Post} {a : Pl} {n : Nat} {ks : List ByteArray} {lo hi : ByteArray}
theorem empty_size (s : ByteArray) : (s = mkS []) ↔ s.size = 0 := by
  constructor
  · intro e; subst e; rfl
  · intro e
    apply bs_inj
    apply List.eq_nil_of_length_eq_zero
    rw [bs_length, e]
theorem sound_bounds_hold_spec (h : Ss H a n ks) {op : Bool} (hop : op = decide (hi.size = 0)) (hQ : Q (.g (.bool (holdB lo hi ks))) H) : sound_bounds_hold [.agg [.str lo, .str hi, .bool op], .g (.sl a n 1)] H Q := by
  have hn := h.len
  have hlim := h.lim
  have loop : ∀ f k : Nat, ks.length - k < f → k ≤ ks.length → holdB lo hi (ks.take k) = true → sound_bounds_hold.l2 f lo hi op a n (nI n) (k : Int) H Q := by
    intro f
    induction f with
    | zero => intro k hf; omega
    | succ f ih =>
      intro k hf hk hh
      rw [sound_bounds_hold.l2_eq]
      by_cases hkn : k < ks.length
      · have hs : holdB lo hi (ks.take (k + 1)) = (!(blt ks[k] lo) && (decide (hi.size = 0) || blt ks[k] hi)) := by
          rw [List.take_succ_eq_append_getElem hkn]
          unfold holdB at hh ⊢
          rw [List.all_append, hh]; simp
        have hall : (!(blt ks[k] lo) && (decide (hi.size = 0) || blt ks[k] hi)) = false → holdB lo hi ks = false := by
          intro e
          unfold holdB
          rw [List.all_eq_false]
          exact ⟨ks[k], List.getElem_mem hkn, by rw [e]; simp⟩
        have go : (!(blt ks[k] lo) && (decide (hi.size = 0) || blt ks[k] hi)) = true → sound_bounds_hold.l2 f lo hi op a n (nI n) (wrapI .i64 ((k : Int) + 1)) H Q := by
          intro e
          rw [wrap_succ (by omega)]
          exact ih (k + 1) (by omega) (by omega) (by rw [hs, e])
        rw [bite_t (by simp; omega), chk_true, h.rd k rfl hkn, blt_eq, blt_eq]
        refine bite_of (fun e => ?_) (fun e => ?_)
        · rw [hall (by rw [e]; rfl)] at hQ; exact hQ
        · refine bite_of (fun e2 => ?_) (fun e2 => ?_)
          · refine bite_of (fun e3 => ?_) (fun e3 => ?_)
            · rw [hall (by rw [e]; rw [hop] at e2; simp at e2 e3; simp [e2, e3])] at hQ; exact hQ
            · exact go (by rw [e]; simp at e3; simp [e3])
          · exact go (by rw [e]; rw [hop] at e2; simp at e2; simp [e2])
      · rw [bite_f (by simp; omega)]
        rw [List.take_of_length_le (by omega)] at hh
        rw [hh] at hQ; exact hQ
  refine ⟨ks.length + 2, ?_⟩
  rw [sound_bounds_hold_eq]
  exact loop _ 0 (by omega) (Nat.zero_le _) (by simp [holdB])
theorem sound_bounds_below_spec {p : Pg} (h : Ss H a n p.keys) (hsz : ∀ k ∈ p.keys, 1 ≤ k.size) {op : Bool} (hop : op = decide (hi.size = 0)) {i : Nat} (hi' : i ≤ n) (hQ : Q (.agg [.str (loK p lo i), .str (hiK p hi i), .bool (decide ((hiK p hi i).size = 0))]) H) :
    sound_bounds_below [.agg [.str lo, .str hi, .bool op], .g (.sl a n 1), .g (.int .i64 (i : Int))] H Q := by
  have hn := h.len
  have hlim := h.lim
  refine ⟨2, ?_⟩
  rw [sound_bounds_below_eq]
  have key : sound_bounds_below.l3 1 a n (i : Int) (loK p lo i) hi op (mkS []) (mkS []) false H Q := by
    rw [sound_bounds_below.l3_eq]
    refine bite_of (fun e => ?_) (fun e => ?_)
    · have hk : i < p.keys.length := by simp at e; omega
      rw [chk_true, h.rd i rfl hk]
      have e1 : hiK p hi i = p.keys[i] := by unfold hiK; rw [List.getElem?_eq_getElem hk]; rfl
      rw [e1] at hQ
      have := hsz p.keys[i] (List.getElem_mem hk)
      rw [decide_eq_false (by omega)] at hQ
      exact hQ
    · have hk : p.keys.length ≤ i := by simp at e; omega
      have e1 : hiK p hi i = hi := by unfold hiK; rw [List.getElem?_eq_none hk]; rfl
      rw [e1, ← hop] at hQ
      exact hQ
  refine bite_of (fun e => ?_) (fun e => ?_)
  · have h0 : 0 < i := by simpa using e
    obtain ⟨j, rfl⟩ : ∃ j, i = j + 1 := ⟨i - 1, by omega⟩
    have hj : j < p.keys.length := by omega
    rw [chk_true, wrap_pred (by omega), h.rd j rfl hj]
    have e1 : loK p lo (j + 1) = p.keys[j] := by unfold loK; rw [decide_eq_true (by omega)]; simp [hj]
    rw [e1] at key
    exact key
  · have h0 : i = 0 := by simp at e; omega
    subst h0
    exact key
end

def pd (d : Nat) : Int := match d with | 0 => -1 | d + 1 => (d + 1 : Nat)
theorem pd_pos {d : Nat} (h : d ≠ 0) : pd d = d := by cases d with | zero => exact (h rfl).elim | succ d => rfl
/-- the walk's state -/
structure WOK (H : Hp) (t t' : TypeId) (lw lm : Nat) (a : Pl) (st : WS) : Prop where
  row : H[lw]? = some (.row true t [.sl a 48 5, .sl (some (lm, 0)) 48 1, .int .i64 (pd st.deep), .int .i64 st.count])
  met : H[lm]? = some (.row true t' (st.met.map GV.bool))
  len : st.met.length = 48
  ne : lw ≠ lm
section
variable {H H' : Hp} {t t' : TypeId} {lw lm : Nat} {a : Pl} {st : WS} {lo hi : Nat}
theorem WOK.mono (h : WOK H t t' lw lm a st) (hp : H <+: H') : WOK H' t t' lw lm a st :=
  ⟨by rw [pre_at hp (List.getElem?_eq_some_iff.1 h.row).1]; exact h.row, by rw [pre_at hp (List.getElem?_eq_some_iff.1 h.met).1]; exact h.met, h.len, h.ne⟩
theorem Ch.set {l : Nat} (x : Obj) (h1 : lo ≤ l) (h2 : l < hi) : Ch lo hi H (H.set l x) :=
  ⟨by simp, fun l' _ hn => by rw [List.getElem?_set_ne]; intro e; subst e; exact hn ⟨h1, h2⟩⟩
/-- a cell written -/
theorem wr_row {l j : Nat} {own : TypeId} {cs : List GV} {v : GV} {K : Hp → Prop} (h : H[l]? = some (.row true own cs)) (hj : j < cs.length) (hK : K (H.set l (.row true own (cs.set j v)))) : wr H l j v K := by
  rw [wr_of h hj]; exact hK
theorem sound_walk_leaf_spec {Q : Post} {l o : Nat} {c : PC} {p : Pg} {deep : Nat} (h : WOK H t t' lw lm a st) (hg : gt H l (o + 2) = some (.sl c.a1 c.n1 1)) (hn : c.n1 = p.keys.length) (h4 : p.keys.length ≤ 1000) (hd : 1 ≤ deep) (hc : st.count ≤ 1000000) (hlw : lo ≤ lw) (hhi : lw < hi) (hne : l ≠ lw)
    (hQ1 : leafD p deep st = none → ∀ H', Ch lo hi H H' → Q (.g (.bool false)) H') (hQ2 : ∀ st' H', leafD p deep st = some st' → Ch lo hi H H' → WOK H' t t' lw lm a st' → Q (.g (.bool true)) H') :
    sound_walk_leaf [.g (.ptr (some (lw, 0))), .g (.ptr (some (l, o))), .g (.int .i64 (deep : Int))] H Q := by
  obtain ⟨hr, hm, hl, ne⟩ := h
  have hlt := (List.getElem?_eq_some_iff.1 hr).1
  refine ⟨2, ?_⟩
  rw [sound_walk_leaf_eq, pS_some, rd_of (v := .int .i64 (pd st.deep)) (by rw [gt_some hr]; rfl), dI_int]
  -- what is done at the end
  have fin : ∀ (d : Nat) (H1 : Hp), H1[lw]? = some (.row true t [.sl a 48 5, .sl (some (lm, 0)) 48 1, .int .i64 (d : Int), .int .i64 st.count]) → H1[lm]? = H[lm]? → H1[l]? = H[l]? → Ch lo hi H H1 → leafD p deep st = (match decide (d = deep) with | true => some ⟨st.met, deep, st.count + p.keys.length⟩ | false => none) →
      sound_walk_leaf.l3 1 (some (lw, 0)) (some (l, o)) (deep : Int) H1 Q := by
    intro d H1 hr1 hm1 hl1 c1 he
    have hlt1 := (List.getElem?_eq_some_iff.1 hr1).1
    rw [sound_walk_leaf.l3_eq, pS_some, rd_of (v := .int .i64 st.count) (by rw [gt_some hr1]; rfl), dI_int, pS_some]
    rw [rd_of (v := .sl c.a1 c.n1 1) (by rw [← hg]; unfold gt; rw [hl1]), dL_sl, pS_some]
    refine wr_row hr1 (by simp) ?_
    rw [pS_some]
    have hr2 := List.getElem?_set_self (a := (Obj.row true t ([GV.sl a 48 5, .sl (some (lm, 0)) 48 1, .int .i64 (d : Int), .int .i64 st.count].set 3 (.int .i64 (wrapI .i64 ((st.count : Int) + nI c.n1)))))) hlt1
    rw [rd_of (v := .int .i64 (d : Int)) (by rw [gt_some hr2]; rfl), dI_int, eqI_def]
    have c2 := c1.trans (Ch.set (Obj.row true t ([GV.sl a 48 5, .sl (some (lm, 0)) 48 1, .int .i64 (d : Int), .int .i64 st.count].set 3 (.int .i64 (wrapI .i64 ((st.count : Int) + nI c.n1))))) hlw hhi)
    by_cases e : d = deep
    · subst e
      rw [decide_eq_true rfl] at he
      rw [decide_eq_true rfl]
      refine hQ2 _ _ he c2 ⟨?_, ?_, hl, ne⟩
      · rw [hr2]
        have w : wrapI .i64 ((st.count : Int) + nI c.n1) = ((st.count + p.keys.length : Nat) : Int) := by rw [wrap64 (by simp; omega) (by simp; omega)]; simp [hn]
        rw [w, pd_pos (d := d) (by omega)]
        rfl
      · rw [List.getElem?_set_ne ne, hm1]; exact hm
    · rw [decide_eq_false e] at he
      have e' : ¬ ((d : Int) = (deep : Int)) := by omega
      rw [decide_eq_false e']
      exact hQ1 he _ c2
  cases hd0 : st.deep with
  | zero =>
    rw [bite_t (by decide), pS_some]
    rw [hd0] at hr
    refine wr_row hr (by simp) ?_
    refine fin deep _ ?_ (by rw [List.getElem?_set_ne ne]) (by rw [List.getElem?_set_ne (Ne.symm hne)]) (Ch.set _ hlw hhi) ?_
    · rw [List.getElem?_set_self hlt]; rfl
    · unfold leafD; rw [hd0]; simp
  | succ d =>
    rw [bite_f (by simp [pd]; omega)]
    rw [hd0] at hr
    refine fin (d + 1) H hr rfl rfl (Ch.refl _ _ _) ?_
    unfold leafD
    rw [hd0]
    simp only [Nat.add_one_ne_zero, decide_false]
    by_cases e : d + 1 = deep
    · simp [e]
    · simp [e]
end
end Go.Am
namespace Go.Am

theorem gt_pre {H H' : Hp} (hp : H <+: H') {l o : Nat} {v : GV} (h : gt H l o = some v) : gt H' l o = some v := by
  have hl : l < H.length := by
    unfold gt at h
    cases e : H[l]? with
    | none => rw [e] at h; cases h
    | some x => exact (List.getElem?_eq_some_iff.1 e).1
  unfold gt at h ⊢
  rw [pre_at hp hl]; exact h
theorem gt_lt {H : Hp} {l o : Nat} {v : GV} (h : gt H l o = some v) : l < H.length := by
  unfold gt at h
  cases e : H[l]? with
  | none => rw [e] at h; cases h
  | some x => exact (List.getElem?_eq_some_iff.1 e).1

theorem kidsD_cons (rec : Int → Nat → WS → Option WS) (k : Int) (ks : List Int) (i : Nat) (st : WS) : kidsD rec (k :: ks) i st = (match rec k i st with | none => none | some st' => kidsD rec ks (i + 1) st') := rfl
section
variable {T : List Pg} {a : Pl} {cs : List PC} {H0 : Hp} {lo hi lw lm : Nat} {t t' : TypeId}
set_option maxRecDepth 100000 in
theorem sound_walk_main (hT : Tr H0 a 48 cs T) (hlo : H0.length ≤ lo) (l1 : lo ≤ lw) (l2 : lw < hi) (m1 : lo ≤ lm) (m2 : lm < hi) :
    ∀ (f at_ deep : Nat) (kl kh : ByteArray) (st : WS) (H : Hp) (Q : Post), unmet st.met < f → H0 <+: H → WOK H t t' lw lm a st → at_ < 48 → 1 ≤ deep → deep + f ≤ 1000 → st.count + 4 * unmet st.met ≤ 1000 →
      (∀ H', Ch lo hi H H' → walkD T f at_ deep kl kh st = none → Q (.g (.bool false)) H') →
      (∀ H' st', Ch lo hi H H' → WOK H' t t' lw lm a st' → walkD T f at_ deep kl kh st = some st' → Q (.g (.bool true)) H') →
      sound_walk_sound.at f [.g (.ptr (some (lw, 0))), .g (.int .i64 (at_ : Int)), .g (.int .i64 (deep : Int)), .agg [.str kl, .str kh, .bool (decide (kh.size = 0))]] H Q := by
  intro f
  induction f with
  | zero => intro _ _ _ _ _ _ _ h; omega
  | succ f ih =>
    intro at_ deep kl kh st H Q hu h0 hW hat hd1 hdf hct hQ1 hQ2
    obtain ⟨l, o, c, p, rfl, hc, hp, hpc, g0, g1, g2, g3, g4⟩ := hT.get hat
    have hl0 := gt_lt g0
    simp only [walkD_eq T f at_ deep kl kh st hp] at hQ1 hQ2
    have hpH := hpc.mono h0
    have hpl : p.leaf = c.l := hpc.leaf
    have hlm : st.met.length = 48 := hW.len
    have hmet : st.met[at_]? = some (st.met[at_]'(by omega)) := List.getElem?_eq_getElem (by omega)
    have wlt := (List.getElem?_eq_some_iff.1 hW.row).1
    have mlt := (List.getElem?_eq_some_iff.1 hW.met).1
    -- not ok
    have no : okD p at_ kl kh st = false → ∀ H', Ch lo hi H H' → Q (.g (.bool false)) H' := fun e H' c' => hQ1 H' c' (by rw [e])
    refine ⟨p.kids.length + 3, ?_⟩
    rw [sound_walk_sound_eq, pS_some, rd_of (v := .sl (some (l, o)) 48 5) (by rw [gt_some hW.row]; rfl), dL_sl, chk_true]
    refine chk_of (by simp; omega) ?_
    rw [pS_some, pS_some, rd_of (v := .sl (some (lm, 0)) 48 1) (by rw [gt_some hW.row]; rfl), dL_sl, chk_true]
    refine chk_of (by simp; omega) ?_
    have etN : tN (at_ : Int) = at_ := rfl
    rw [pS_some, etN, rd_of (v := .bool (st.met[at_]'(by omega))) (by rw [gt_some hW.met]; simp [hlm, hat]), dB_bool]
    refine bite_of (fun e => no (by unfold okD; rw [hmet, e]; rfl) H (Ch.refl _ _ _)) (fun em => ?_)
    rw [rdPage_of (gt_pre h0 g0) (gt_pre h0 g1) (gt_pre h0 g2) (gt_pre h0 g3) (gt_pre h0 g4)]
    refine page_May_spec hpH fun b H1 p1 hb => ?_
    simp only [rG_g, dB_bool]
    have h01 := h0.trans p1
    have c01 : Ch lo hi H H1 := Ch.of_pre p1
    refine bite_of (fun e => no (by unfold okD; cases hm : mayB_ p with | true => (rw [hb.2 ((mayB_iff p).1 hm)] at e; cases e) | false => simp) H1 c01) (fun eb => ?_)
    have hmay : MayP p := hb.1 (by cases b <;> simp_all)
    have hmayB : mayB_ p = true := (mayB_iff p).2 hmay
    have hn1 := hpH.keys.len
    have hks : Ss H1 c.a1 c.n1 p.keys := (hpH.mono p1).keys
    by_cases hsm : 0 < at_ ∧ p.keys.length < 2
    · rw [bite_t (by simp; omega), rd_of (v := .sl c.a1 c.n1 1) (by exact gt_pre h01 g2), dL_sl, bite_t (by simp; omega)]
      exact no (by unfold okD; simp [hsm]) H1 c01
    have hsB : (!(decide (0 < at_) && decide (p.keys.length < 2))) = true := by
      rw [Bool.not_eq_true', Bool.and_eq_false_iff, decide_eq_false_iff_not, decide_eq_false_iff_not]; omega
    -- the kids, one behind the other
    have hgo : ∀ H2, H0 <+: H2 → Ch lo hi H H2 → WOK H2 t t' lw lm (some (l, o)) ⟨st.met.set at_ true, st.deep, st.count⟩ → okD p at_ kl kh st = true → p.leaf = false →
        sound_walk_sound.l8 (sound_walk_sound.at f) (p.kids.length + 2) (some (lw, 0)) (deep : Int) kl kh (decide (kh.size = 0)) l (o + at_ * 5) c.a3 c.n3 (nI c.n3) 0 H2 Q := by
      intro H2 h02 c02 hW2 hok hlf
      rw [hok, hlf] at hQ1 hQ2
      dsimp only at hQ1 hQ2
      obtain ⟨k1, k2, k3, k4, k5⟩ := hmay.2.inner hlf
      have hm1 : st.met[at_]? = some false := by rw [hmet, em]
      have hus := unmet_set hm1
      have hn3 := hpH.kids.len
      have hk5 : p.kids.length ≤ 5 := by have := hmay.1; omega
      generalize hR : kidsD (fun k i s => walkD T f k.toNat (deep + 1) (loK p kl i) (hiK p kh i) s) p.kids 0 ⟨st.met.set at_ true, st.deep, st.count⟩ = R at hQ1 hQ2
      have loop : ∀ (g i : Nat) (H3 : Hp) (s3 : WS), p.kids.length - i < g → i ≤ p.kids.length → H0 <+: H3 → Ch lo hi H H3 → WOK H3 t t' lw lm (some (l, o)) s3 → unmet s3.met < f → s3.count + 4 * unmet s3.met ≤ 1000 →
          kidsD (fun k i s => walkD T f k.toNat (deep + 1) (loK p kl i) (hiK p kh i) s) (p.kids.drop i) i s3 = R →
          sound_walk_sound.l8 (sound_walk_sound.at f) g (some (lw, 0)) (deep : Int) kl kh (decide (kh.size = 0)) l (o + at_ * 5) c.a3 c.n3 (nI c.n3) (i : Int) H3 Q := by
        intro g
        induction g with
        | zero => intro i H3 s3 h; omega
        | succ g ihg =>
          intro i H3 s3 hg hi' h03 c03 hW3 hu3 hc3 heq
          rw [sound_walk_sound.l8_eq]
          by_cases hik : i < p.kids.length
          · rw [List.drop_eq_getElem_cons hik] at heq
            rw [kidsD_cons] at heq
            have hk48 := k4 p.kids[i] (List.getElem_mem hik)
            have ek : p.kids[i] = ((p.kids[i].toNat : Nat) : Int) := by omega
            have hkl : (p.kids[i].toNat) < 48 := by omega
            have hki : Is H3 c.a3 c.n3 p.kids := (hpc.mono h03).kids
            rw [bite_t (by simp; omega), chk_true, hki.rd i rfl hik]
            rw [rd_of (v := .sl c.a1 c.n1 1) (by exact gt_pre h03 g2), dL_sl]
            refine sound_bounds_below_spec (p := p) (hpc.mono h03).keys (fun k hk => (hmay.2.keys k hk).1) rfl (by have := (hpc.mono h03).keys.len; omega) ?_
            simp only [rA_agg, uC_cons, dS_str, dB_bool, uN_nil]
            have wd : wrapI .i64 ((deep : Int) + 1) = ((deep + 1 : Nat) : Int) := wrap_succ (by omega)
            rw [wd]
            generalize hkk : p.kids[i] = kk at *
            rw [ek]
            refine ih kk.toNat (deep + 1) (loK p kl i) (hiK p kh i) s3 H3 _ hu3 h03 hW3 hkl (by omega) (by omega) hc3 (fun H4 c4 hw => ?_) (fun H4 s4 c4 hW4 hw => ?_)
            · simp only [rG_g, dB_bool]
              rw [bite_t (by decide)]
              rw [hw] at heq
              exact hQ1 H4 (c03.trans c4) heq.symm
            · simp only [rG_g, dB_bool]
              rw [bite_f (by decide), wrap_succ (by omega)]
              rw [hw] at heq
              dsimp only at heq
              obtain ⟨u1, u2, u3, u4⟩ := walkD_unmet T _ _ _ _ _ _ _ hw
              exact ihg (i + 1) H4 s4 (by omega) (by omega) (c4.pre h03 hlo) (c03.trans c4) hW4 (by omega) (by omega) heq
          · rw [bite_f (by simp; omega)]
            rw [List.drop_of_length_le (by omega)] at heq
            exact hQ2 H3 s3 c03 hW3 heq.symm
      exact loop _ 0 H2 _ (by omega) (Nat.zero_le _) h02 c02 hW2 (by dsimp only; omega) (by dsimp only; omega) hR
    rcases Nat.eq_zero_or_pos at_ with hz | hz
    case' inl => rw [bite_f (by simp; omega)]
    case' inr => rw [bite_t (by simp; omega), rd_of (v := .sl c.a1 c.n1 1) (by exact gt_pre h01 g2), dL_sl, bite_f (by simp; omega)]
    all_goals
      rw [rd_of (v := .sl c.a1 c.n1 1) (by exact gt_pre h01 g2), dL_sl]
      refine sound_bounds_hold_spec hks rfl ?_
      simp only [rG_g, dB_bool]
      refine bite_of (fun e => no (by unfold okD; simp at e; rw [e]; simp) H1 c01) (fun eh => ?_)
      have hhold : holdB kl kh p.keys = true := by simpa using eh
      have hok : okD p at_ kl kh st = true := by unfold okD; rw [hmet, em, hmayB, hsB, hhold]; rfl
      have hW1 := hW.mono p1
      rw [pS_some, rd_of (v := .sl (some (lm, 0)) 48 1) (by rw [gt_some hW1.row]; rfl), dL_sl, chk_true]
      refine chk_of (by simp; omega) ?_
      rw [pS_some]
      refine wr_row hW1.met (by simp [hlm]; omega) ?_
      have ez : 0 + at_ * 1 = at_ := by omega
      rw [ez, ← List.map_set]
      have c1 : Ch lo hi H (H1.set lm (.row true t' ((st.met.set at_ true).map GV.bool))) := c01.trans (Ch.set _ m1 m2)
      have h02 := c1.pre h0 hlo
      have mlt1 := (List.getElem?_eq_some_iff.1 hW1.met).1
      have hW2 : WOK (H1.set lm (.row true t' ((st.met.set at_ true).map GV.bool))) t t' lw lm (some (l, o)) ⟨st.met.set at_ true, st.deep, st.count⟩ :=
        ⟨by rw [List.getElem?_set_ne (Ne.symm hW.ne)]; exact hW1.row, List.getElem?_set_self mlt1, by simp [hlm], hW.ne⟩
      rw [rd_of (v := .bool c.l) (by exact gt_pre h02 g1), dB_bool]
      refine bite_of (fun e => ?_) (fun e => ?_)
      · have hlf : p.leaf = true := by rw [hpl, e]
        rw [hok, hlf] at hQ1 hQ2
        dsimp only at hQ1 hQ2
        refine sound_walk_leaf_spec (p := p) (lo := lo) (hi := hi) hW2 (gt_pre h02 g2) hn1 (by have := hmay.1; omega) hd1 (by dsimp only; omega) l1 l2 (by omega) (fun e H' c' => ?_) (fun st' H' e c' hW' => ?_)
        · simp only [rG_g, dB_bool]
          exact hQ1 H' (c1.trans c') e
        · simp only [rG_g, dB_bool]
          exact hQ2 H' st' (c1.trans c') hW' e
      · have hlf : p.leaf = false := by rw [hpl, e]
        rw [rd_of (v := .sl c.a3 c.n3 1) (by exact gt_pre h02 g4), dL_sl]
        exact hgo _ h02 c1 hW2 hok hlf
end
end Go.Am
namespace Go.Am

section
variable {H : Hp} {Q : Post} {c : PC} {p : Pg}
theorem nothing_eq {H : Hp} {u l : Bool} {a1 : Pl} {n1 : Nat} {a2 : Pl} {n2 : Nat} {a3 : Pl} {n3 : Nat} {p : Pg} (h : PgAt H u l a1 n1 a2 n2 a3 n3 p) {X : Bool → Prop} (hX : X (nothingB p)) :
    bite (!u) (bite (!l) (X (eqI (wrapI .i64 ((wrapI .i64 ((nI n1) + (nI n2))) + (nI n3))) 0)) (X false)) (X false) := by
  obtain ⟨hu, hl, hk, hv, hi⟩ := h
  have e1 := hk.len
  have e2 := hv.len
  have e3 := hi.len
  have l1 := hk.lim
  have l2 := hv.lim
  have l3 := hi.lim
  unfold nothingB at hX
  rw [hu, hl] at hX
  refine bite_of (fun e => ?_) (fun e => ?_)
  · rw [e, Bool.true_and] at hX
    refine bite_of (fun e' => ?_) (fun e' => ?_)
    · rw [e', Bool.true_and] at hX
      rw [wrap64 (n := nI n1 + nI n2) (by simp; omega) (by simp; omega), wrap64 (by simp; omega) (by simp; omega), eqI_def]
      have : decide (nI n1 + nI n2 + nI n3 = 0) = (p.keys.isEmpty && (p.vals.isEmpty && p.kids.isEmpty)) := by
        rw [Bool.eq_iff_iff]
        simp only [decide_eq_true_eq, Bool.and_eq_true, List.isEmpty_iff_length_eq_zero]
        simp only [nI_def]
        omega
      rw [this]
      exact hX
    · rw [e', Bool.false_and] at hX; exact hX
  · rw [e, Bool.false_and] at hX; exact hX
theorem page_Nothing_spec (h : c.at H p) (hQ : Q (.g (.bool (nothingB p))) H) : page_Nothing [.agg [.bool c.u, .bool c.l, .sl c.a1 c.n1 1, .sl c.a2 c.n2 1, .sl c.a3 c.n3 1]] H Q := by
  refine ⟨1, ?_⟩
  rw [page_Nothing_eq]
  exact nothing_eq h (X := fun b => Q (.g (.bool b)) H) hQ
theorem ref9_nothing_spec (h : c.at H p) (hQ : Q (.g (.bool (nothingB p))) H) : ref9_nothing [.agg [.bool c.u, .bool c.l, .sl c.a1 c.n1 1, .sl c.a2 c.n2 1, .sl c.a3 c.n3 1]] H Q := by
  refine ⟨1, ?_⟩
  rw [ref9_nothing_eq]
  exact nothing_eq h (X := fun b => Q (.g (.bool b)) H) hQ
end

def restK (T : List Pg) (met : List Bool) (k : Nat) : Bool := (List.range k).all fun i => met[i]?.getD true || nothingB (T[i]?.getD noPg)
theorem restK_succ (T : List Pg) (met : List Bool) (k : Nat) : restK T met (k + 1) = (restK T met k && (met[k]?.getD true || nothingB (T[k]?.getD noPg))) := by simp [restK, List.range_succ]
theorem restK_false {T : List Pg} {met : List Bool} {k m : Nat} (h : restK T met k = false) (hk : k ≤ m) : restK T met m = false := by
  induction hk with
  | refl => exact h
  | step _ ih => rw [restK_succ, ih]; rfl

section
variable {T : List Pg} {a : Pl} {cs : List PC} {H0 H : Hp} {Q : Post} {lw lm : Nat} {t t' : TypeId} {st : WS}
theorem sound_walk_rest_spec (hT : Tr H0 a 48 cs T) (h0 : H0 <+: H) (hW : WOK H t t' lw lm a st) (hQ : Q (.g (.bool (restD T st.met))) H) : sound_walk_rest [.g (.ptr (some (lw, 0)))] H Q := by
  have hlm := hW.len
  have hlT := hT.lenT
  have hQ' : Q (.g (.bool (restK T st.met 48))) H := by have : restD T st.met = restK T st.met 48 := by unfold restD restK; rw [hlT]
                                                        rw [← this]; exact hQ
  have loop : ∀ f k : Nat, 48 - k < f → k ≤ 48 → restK T st.met k = true → sound_walk_rest.l2 f (some (lw, 0)) a 48 (nI 48) (k : Int) H Q := by
    intro f
    induction f with
    | zero => intro k hf; omega
    | succ f ih =>
      intro k hf hk hr
      rw [sound_walk_rest.l2_eq]
      by_cases hkn : k < 48
      · obtain ⟨l, o, c, p, rfl, hc, hp, hpc, g0, g1, g2, g3, g4⟩ := (hT.mono h0).get hkn
        have hs := restK_succ T st.met k
        have hmet : st.met[k]? = some (st.met[k]'(by omega)) := List.getElem?_eq_getElem (by omega)
        rw [hr, hmet, hp, Option.getD_some, Option.getD_some, Bool.true_and] at hs
        rw [bite_t (by simp; omega), chk_true]
        refine chk_of (by simp; omega) ?_
        have etN : tN (k : Int) = k := rfl
        rw [pS_some, etN, rdPage_of g0 g1 g2 g3 g4, pS_some, rd_of (v := .sl (some (lm, 0)) 48 1) (by rw [gt_some hW.row]; rfl), dL_sl, chk_true]
        refine chk_of (by simp; omega) ?_
        rw [pS_some, rd_of (v := .bool (st.met[k]'(by omega))) (by rw [gt_some hW.met]; simp [hlm, hkn]), dB_bool, wrap_succ (by omega)]
        refine bite_of (fun e => ?_) (fun e => ?_)
        · have em : st.met[k]'(by omega) = false := by simpa using e
          rw [em, Bool.false_or] at hs
          refine page_Nothing_spec hpc ?_
          simp only [rG_g, dB_bool]
          refine bite_of (fun e2 => ?_) (fun e2 => ?_)
          · have : nothingB p = false := by simpa using e2
            rw [this] at hs
            rw [restK_false hs (by omega)] at hQ'
            exact hQ'
          · have : nothingB p = true := by simpa using e2
            rw [this] at hs
            exact ih (k + 1) (by omega) (by omega) hs
        · have em : st.met[k]'(by omega) = true := by simpa using e
          rw [em, Bool.true_or] at hs
          exact ih (k + 1) (by omega) (by omega) hs
      · obtain rfl : k = 48 := by omega
        rw [bite_f (by decide)]
        rw [hr] at hQ'
        exact hQ'
  refine ⟨50, ?_⟩
  rw [sound_walk_rest_eq, pS_some, rd_of (v := .sl a 48 5) (by rw [gt_some hW.row]; rfl), dL_sl]
  exact loop 49 0 (by omega) (Nat.zero_le _) rfl
theorem unmet_rep : ∀ n, unmet (List.replicate n false) = n
  | 0 => rfl
  | n + 1 => by have := unmet_rep n; unfold unmet at this ⊢; simp [List.replicate_succ]
set_option maxRecDepth 100000 in
theorem sound_look_spec {n lt : Nat} (hT : Tr H a n cs T) (hg : gt H lt 0 = some (.sl a n 5)) (hQ : ∀ H', H <+: H' → Q (.g (.int .i64 (heightD T : Int))) H') : sound_look [.g (.ptr (some (lt, 0)))] H Q := by
  refine ⟨1, ?_⟩
  have hlT := hT.lenT
  rw [sound_look_eq, pS_some, rd_of (v := .sl a n 5) (by exact hg), dL_sl]
  refine bite_of (fun e => ?_) (fun e => ?_)
  · have : ¬ T.length = 48 := by simp at e; omega
    have h0 : heightD T = 0 := by unfold heightD; rw [decide_eq_false this]
    have := hQ H (List.prefix_refl _)
    rw [h0] at this
    exact this
  · obtain rfl : n = 48 := by simp at e; omega
    have hlt := gt_lt hg
    have p1 := pre_pu H (.row true tB (repN (tN 48) [.bool false]))
    rw [pS_some, rd_of (v := .sl a 48 5) (by exact hg), dL_sl, rd_of (v := .sl a 48 5) (by exact gt_pre p1 hg), dL_sl]
    refine ⟨rfl, ?_⟩
    simp only [pu_def, ln_def]
    have p2 := p1.trans (pre_pu _ (.row true tWalk [.sl a 48 5, .sl (some (H.length, 0)) 48 1, .int .i64 (-1), .int .i64 0]))
    have hl1 : (H ++ [Obj.row true tB (repN (tN 48) [.bool false])]).length = H.length + 1 := by simp
    have hW : WOK ((H ++ [.row true tB (repN (tN 48) [.bool false])]) ++ [.row true tWalk [.sl a 48 5, .sl (some (H.length, 0)) 48 1, .int .i64 (-1), .int .i64 0]]) tWalk tB (H.length + 1) H.length a ws0 := by
      refine ⟨?_, ?_, rfl, by omega⟩
      · rw [List.getElem?_append_right (by rw [hl1]; omega), hl1]; simp [ws0, pd]
      · rw [List.append_assoc, List.getElem?_append_right (Nat.le_refl _)]; simp; rfl
    rw [hl1]
    have hu : unmet ws0.met = 48 := unmet_rep 48
    refine ⟨49, ?_⟩
    refine sound_walk_main (T := T) (H0 := H) hT (lo := H.length) (hi := H.length + 2) (Nat.le_refl _) (by omega) (by omega) (Nat.le_refl _) (by omega) 49 0 1 (mkS []) (mkS []) ws0 _ _ (by rw [hu]; omega) p2 hW (by omega) (by omega) (by omega) (by rw [hu]; show 0 + 4 * 48 ≤ 1000; omega) (fun H' c' hw => ?_) (fun H' st' c' hW' hw => ?_)
    · simp only [rG_g, dB_bool]
      rw [bite_t (by decide)]
      have h0 : heightD T = 0 := by unfold heightD; rw [decide_eq_true hlT]; dsimp only; rw [hw]
      have := hQ H' (c'.pre p2 (Nat.le_refl _))
      rw [h0] at this
      exact this
    · simp only [rG_g, dB_bool]
      rw [bite_f (by decide)]
      have p3 := c'.pre p2 (Nat.le_refl _)
      refine sound_walk_rest_spec hT p3 hW' ?_
      simp only [rG_g, dB_bool]
      obtain ⟨_, _, u3, u4⟩ := walkD_unmet T _ _ _ _ _ _ _ hw
      have hh : heightD T = (match restD T st'.met && decide (st'.count ≤ 60) with | true => st'.deep | false => 0) := by unfold heightD; rw [decide_eq_true hlT]; dsimp only; rw [hw]; rfl
      refine bite_of (fun e => ?_) (fun e => ?_)
      · have er : restD T st'.met = false := by simpa using e
        rw [er, Bool.false_and] at hh
        have := hQ H' p3
        rw [hh] at this
        exact this
      · have er : restD T st'.met = true := by simpa using e
        rw [er, Bool.true_and] at hh
        rw [rd_of (v := .int .i64 st'.count) (by rw [gt_some hW'.row]; rfl), dI_int]
        refine bite_of (fun e => ?_) (fun e => ?_)
        · have : ¬ st'.count ≤ 60 := by simp at e; omega
          rw [decide_eq_false this] at hh
          have := hQ H' p3
          rw [hh] at this
          exact this
        · have : st'.count ≤ 60 := by simp at e; omega
          rw [decide_eq_true this] at hh
          rw [rd_of (v := .int .i64 (pd st'.deep)) (by rw [gt_some hW'.row]; rfl), dI_int, pd_pos (u3 (Nat.le_refl _))]
          have := hQ H' p3
          rw [hh] at this
          exact this
theorem sound_Sound_spec {n : Nat} (hT : Tr H a n cs T) (hQ : ∀ H', H <+: H' → Q (.g (.bool (decide (0 < heightD T)))) H') : sound_Sound [.agg [.sl a n 5]] H Q := by
  refine ⟨1, ?_⟩
  rw [sound_Sound_eq]
  have p1 := pre_pu H (.row true tTr [.sl a n 5])
  refine sound_look_spec (hT.mono p1) (by simp [gt]) fun H' p2 => ?_
  simp only [rG_g, dI_int, ltI_def]
  have := hQ H' (p1.trans p2)
  rwa [show decide ((0 : Int) < (heightD T : Int)) = decide (0 < heightD T) from by rw [Bool.eq_iff_iff]; simp]
end
end Go.Am
namespace Go.Am

theorem less_trans : ∀ x y z : List UInt8, Op.bytesLess x y = true → Op.bytesLess y z = true → Op.bytesLess x z = true
  | _, _, [], _, h => by rename_i y _; cases y <;> simp [Op.bytesLess] at h
  | _, [], _ :: _, h, _ => by rename_i x _ _ _; cases x <;> simp [Op.bytesLess] at h
  | [], _ :: _, _ :: _, _, _ => rfl
  | a :: x, b :: y, c :: z, h1, h2 => by
    simp only [Op.bytesLess, Bool.or_eq_true, Bool.and_eq_true, decide_eq_true_eq, beq_iff_eq] at h1 h2 ⊢
    rcases h1 with h1 | ⟨rfl, h1⟩
    · rcases h2 with h2 | ⟨rfl, h2⟩
      · exact .inl (UInt8.lt_trans h1 h2)
      · exact .inl h1
    · rcases h2 with h2 | ⟨rfl, h2⟩
      · exact .inl h2
      · exact .inr ⟨rfl, less_trans x y z h1 h2⟩
theorem blt_trans {a b c : ByteArray} (h1 : blt a b = true) (h2 : blt b c = true) : blt a c = true := less_trans _ _ _ h1 h2
theorem rising_lt {ks : List ByteArray} (h : Rising ks) : ∀ (i d : Nat) (hd : i + d + 1 < ks.length), blt (ks[i]'(by omega)) ks[i + d + 1] = true := by
  intro i d
  induction d with
  | zero => intro hd; have := h i hd; rw [blt_eq] at this; exact this
  | succ d ih =>
    intro hd
    have h1 := ih (by omega)
    have h2 := h (i + d + 1) (by omega)
    rw [blt_eq] at h2
    exact blt_trans h1 h2
theorem hold_ends {lo hi : ByteArray} {ks : List ByteArray} (hr : Rising ks) (h0 : 0 < ks.length) : holdB lo hi ks = (!(blt (ks[0]'h0) lo) && (decide (hi.size = 0) || blt (ks[ks.length - 1]'(by omega)) hi)) := by
  rw [Bool.eq_iff_iff]
  constructor
  · intro h
    unfold holdB at h
    rw [List.all_eq_true] at h
    have a := h ks[0] (List.getElem_mem _)
    have b := h (ks[ks.length - 1]'(by omega)) (List.getElem_mem _)
    rw [Bool.and_eq_true] at a b ⊢
    exact ⟨a.1, b.2⟩
  · intro h
    rw [Bool.and_eq_true] at h
    obtain ⟨ha, hb⟩ := h
    unfold holdB
    rw [List.all_eq_true]
    intro x hx
    obtain ⟨i, hi', rfl⟩ := List.getElem_of_mem hx
    rw [Bool.and_eq_true]
    constructor
    · rcases Nat.eq_zero_or_pos i with e | e
      · subst e; exact ha
      · cases q : blt ks[i] lo with
        | false => rfl
        | true =>
          have := rising_lt hr 0 (i - 1) (by omega)
          simp only [show 0 + (i - 1) + 1 = i by omega] at this
          rw [blt_trans this q] at ha; exact ha
    · rw [Bool.or_eq_true] at hb ⊢
      rcases hb with hb | hb
      · exact .inl hb
      · right
        by_cases e : i = ks.length - 1
        · subst e; exact hb
        · have := rising_lt hr i (ks.length - 1 - i - 1) (by omega)
          simp only [show i + (ks.length - 1 - i - 1) + 1 = ks.length - 1 by omega] at this
          exact blt_trans this hb
theorem ref_hold {H : Hp} {a : Pl} {n : Nat} {ks : List ByteArray} {lo hi : ByteArray} (h : Ss H a n ks) (hr : Rising ks) {X Y : Prop} (hX : holdB lo hi ks = true → X) (hY : holdB lo hi ks = false → Y) :
    bite (ltI 0 (nI n)) (chk true (chk ((leI 0 0) && (ltI 0 (nI n))) (pS a fun n67 n68 => rd H n67 (n68 + ((tN 0) * 1)) fun v69 => dS v69 fun s70 => bite (strLt s70 lo) Y (bite (!(strEq hi (mkS [])))
      (chk true (chk ((leI 0 (wrapI .i64 ((nI n) - 1))) && (ltI (wrapI .i64 ((nI n) - 1)) (nI n))) (pS a fun n74 n75 => rd H n74 (n75 + ((tN (wrapI .i64 ((nI n) - 1))) * 1)) fun v76 => dS v76 fun s77 => bite (!(strLt s77 hi)) Y X))) X)))) X := by
  have hn := h.len
  have hlim := h.lim
  refine bite_of (fun e => ?_) (fun e => ?_)
  · have h0 : 0 < ks.length := by simp at e; omega
    have he := hold_ends (lo := lo) (hi := hi) hr h0
    rw [chk_true]
    have r := h.rd 0 (i := 0) rfl h0
    rw [r, blt_eq]
    refine bite_of (fun e1 => hY (by rw [he, e1]; rfl)) (fun e1 => ?_)
    refine bite_of (fun e2 => ?_) (fun e2 => ?_)
    · have hs : ¬ hi.size = 0 := by rw [strEq_def] at e2; intro q; rw [← empty_size] at q; simp [q] at e2
      rw [chk_true]
      have w : wrapI .i64 ((nI n) - 1) = ((ks.length - 1 : Nat) : Int) := by rw [wrap64 (by simp; omega) (by simp; omega)]; simp; omega
      rw [w, h.rd (ks.length - 1) rfl (by omega), blt_eq]
      refine bite_of (fun e3 => hY (by rw [he, e1, decide_eq_false hs]; simpa using e3)) (fun e3 => hX (by rw [he, e1, decide_eq_false hs]; simpa using e3))
    · have hs : hi.size = 0 := by rw [strEq_def] at e2; rw [← empty_size]; simpa using e2
      exact hX (by rw [he, e1, decide_eq_true hs]; rfl)
  · have h0 : ks = [] := by apply List.eq_nil_of_length_eq_zero; simp at e; omega
    exact hX (by rw [h0]; rfl)

/-- the document's walk: its state; a wrong one -/
structure BOK (H : Hp) (t t' : TypeId) (lb lm : Nat) (st : WS) : Prop where
  row : H[lb]? = some (.row true t [.sl (some (lm, 0)) 48 1, .int .i64 st.deep, .int .i64 st.count, .bool false])
  met : H[lm]? = some (.row true t' (st.met.map GV.bool))
  len : st.met.length = 48
  ne : lb ≠ lm
def BW (H : Hp) (t : TypeId) (lb lm : Nat) (t' : TypeId) : Prop := (∃ d m, H[lb]? = some (.row true t [.sl (some (lm, 0)) 48 1, .int .i64 d, .int .i64 m, .bool true])) ∧ (∃ met : List Bool, met.length = 48 ∧ H[lm]? = some (.row true t' (met.map GV.bool)))
section
variable {H H' : Hp} {t t' : TypeId} {lb lm : Nat} {st : WS} {lo hi : Nat}
theorem BOK.mono (h : BOK H t t' lb lm st) (hp : H <+: H') : BOK H' t t' lb lm st :=
  ⟨by rw [pre_at hp (List.getElem?_eq_some_iff.1 h.row).1]; exact h.row, by rw [pre_at hp (List.getElem?_eq_some_iff.1 h.met).1]; exact h.met, h.len, h.ne⟩
theorem BW.mono (h : BW H t lb lm t') (hp : H <+: H') : BW H' t lb lm t' := by
  obtain ⟨⟨d, m, h1⟩, met, h2, h3⟩ := h
  exact ⟨⟨d, m, by rw [pre_at hp (List.getElem?_eq_some_iff.1 h1).1]; exact h1⟩, met, h2, by rw [pre_at hp (List.getElem?_eq_some_iff.1 h3).1]; exact h3⟩
theorem BOK.wrong {K : Hp → Prop} (h : BOK H t t' lb lm st) (h1 : lo ≤ lb) (h2 : lb < hi) (hK : ∀ H', Ch lo hi H H' → BW H' t lb lm t' → K H') : pS (some (lb, 0)) fun n m => wr H n (m + 3) (.bool true) K := by
  rw [pS_some]
  refine wr_row h.row (by simp) (hK _ (Ch.set _ h1 h2) ⟨⟨st.deep, st.count, ?_⟩, st.met, h.len, ?_⟩)
  · rw [List.getElem?_set_self (List.getElem?_eq_some_iff.1 h.row).1]; rfl
  · rw [List.getElem?_set_ne h.ne]; exact h.met
end
end Go.Am
namespace Go.Am

section
variable {T : List Pg} {a : Pl} {cs : List PC} {H0 : Hp} {lo hi lb lm : Nat} {t t' : TypeId}
theorem ref9_walk_wrong {H : Hp} {Q : Post} {x : Pl} {n : Nat} {i d : Int} {kl kh : ByteArray} (f : Nat) (hB : BW H t lb lm t') (ne : lb ≠ lm) (l1 : lo ≤ lb) (l2 : lb < hi) (hQ : ∀ H', Ch lo hi H H' → BW H' t lb lm t' → Q (.tup []) H') :
    ref9_below_walk.at (f + 1) [.g (.ptr (some (lb, 0))), .agg [.sl x n 5], .g (.int .i64 i), .g (.int .i64 d), .g (.str kl), .g (.str kh)] H Q := by
  obtain ⟨⟨d0, m0, hr⟩, met, hl, hm⟩ := hB
  refine ⟨1, ?_⟩
  rw [ref9_below_walk_eq, pS_some, rd_of (v := .bool true) (by rw [gt_some hr]; rfl), dB_bool, bite_true, pS_some]
  refine wr_row hr (by simp) (hQ _ (Ch.set _ l1 l2) ⟨⟨d0, m0, ?_⟩, met, hl, ?_⟩)
  · rw [List.getElem?_set_self (List.getElem?_eq_some_iff.1 hr).1]; rfl
  · rw [List.getElem?_set_ne ne]; exact hm

set_option maxRecDepth 100000 in
theorem ref9_walk_main (hT : Tr H0 a 48 cs T) (hlo : H0.length ≤ lo) (l1 : lo ≤ lb) (l2 : lb < hi) (m1 : lo ≤ lm) (m2 : lm < hi) :
    ∀ (f at_ deep : Nat) (kl kh : ByteArray) (st : WS) (H : Hp) (Q : Post), unmet st.met < f → H0 <+: H → BOK H t t' lb lm st → at_ < 48 → 1 ≤ deep → deep + f ≤ 1000 → st.count + 4 * unmet st.met ≤ 1000 →
      (∀ H', Ch lo hi H H' → BW H' t lb lm t' → walkD T f at_ deep kl kh st = none → Q (.tup []) H') →
      (∀ H' st', Ch lo hi H H' → BOK H' t t' lb lm st' → walkD T f at_ deep kl kh st = some st' → Q (.tup []) H') →
      ref9_below_walk.at f [.g (.ptr (some (lb, 0))), .agg [.sl a 48 5], .g (.int .i64 (at_ : Int)), .g (.int .i64 (deep : Int)), .g (.str kl), .g (.str kh)] H Q := by
  intro f
  induction f with
  | zero => intro _ _ _ _ _ _ _ h; omega
  | succ f ih =>
    intro at_ deep kl kh st H Q hu h0 hB hat hd1 hdf hct hQ1 hQ2
    obtain ⟨l, o, c, p, rfl, hc, hp, hpc, g0, g1, g2, g3, g4⟩ := hT.get hat
    have hl0 := gt_lt g0
    simp only [walkD_eq T f at_ deep kl kh st hp] at hQ1 hQ2
    have hpH := hpc.mono h0
    have hpl : p.leaf = c.l := hpc.leaf
    have hlm : st.met.length = 48 := hB.len
    have hmet : st.met[at_]? = some (st.met[at_]'(by omega)) := List.getElem?_eq_getElem (by omega)
    have mlt := (List.getElem?_eq_some_iff.1 hB.met).1
    have no : okD p at_ kl kh st = false → ∀ H', Ch lo hi H H' → BW H' t lb lm t' → Q (.tup []) H' := fun e H' c' b' => hQ1 H' c' b' (by rw [e])
    refine ⟨3 * p.kids.length + 5, ?_⟩
    rw [ref9_below_walk_eq, pS_some, rd_of (v := .bool false) (by rw [gt_some hB.row]; rfl), dB_bool, bite_false]
    rw [pS_some, rd_of (v := .sl (some (lm, 0)) 48 1) (by rw [gt_some hB.row]; rfl), dL_sl, chk_true]
    refine chk_of (by simp; omega) ?_
    have etN : tN (at_ : Int) = at_ := rfl
    rw [pS_some, etN, rd_of (v := .bool (st.met[at_]'(by omega))) (by rw [gt_some hB.met]; simp [hlm, hat]), dB_bool]
    refine bite_of (fun e => hB.wrong l1 l2 fun H' c' b' => no (by unfold okD; rw [hmet, e]; rfl) H' c' b') (fun em => ?_)
    rw [chk_true]
    refine chk_of (by simp; omega) ?_
    rw [pS_some, rdPage_of (gt_pre h0 g0) (gt_pre h0 g1) (gt_pre h0 g2) (gt_pre h0 g3) (gt_pre h0 g4)]
    refine ref1_PageMay_spec hpH fun b hb => ?_
    simp only [rG_g, dB_bool]
    refine bite_of (fun e => hB.wrong l1 l2 fun H' c' b' => no (by unfold okD; cases hm : mayB_ p with | true => (rw [hb.2 ((mayB_iff p).1 hm)] at e; cases e) | false => simp) H' c' b') (fun eb => ?_)
    have hmay : MayP p := hb.1 (by cases b <;> simp_all)
    have hmayB : mayB_ p = true := (mayB_iff p).2 hmay
    have hn1 := hpH.keys.len
    rw [pS_some, rd_of (v := .sl (some (lm, 0)) 48 1) (by rw [gt_some hB.row]; rfl), dL_sl, chk_true]
    refine chk_of (by simp; omega) ?_
    rw [pS_some]
    refine wr_row hB.met (by simp [hlm]; omega) ?_
    have ez : 0 + at_ * 1 = at_ := by omega
    rw [ez, ← List.map_set]
    have c1 : Ch lo hi H (H.set lm (.row true t' ((st.met.set at_ true).map GV.bool))) := Ch.set _ m1 m2
    have h02 := c1.pre h0 hlo
    have hB2 : BOK (H.set lm (.row true t' ((st.met.set at_ true).map GV.bool))) t t' lb lm ⟨st.met.set at_ true, st.deep, st.count⟩ :=
      ⟨by rw [List.getElem?_set_ne (Ne.symm hB.ne)]; exact hB.row, List.getElem?_set_self mlt, by simp [hlm], hB.ne⟩
    generalize H.set lm (.row true t' ((st.met.set at_ true).map GV.bool)) = H2 at c1 h02 hB2 ⊢
    rw [chk_true]
    refine chk_of (by simp; omega) ?_
    rw [pS_some, rdPage_of (gt_pre h02 g0) (gt_pre h02 g1) (gt_pre h02 g2) (gt_pre h02 g3) (gt_pre h02 g4)]
    have hks : Ss H2 c.a1 c.n1 p.keys := (hpc.mono h02).keys
    -- wrong here
    have wrong2 : okD p at_ kl kh st = false → pS (some (lb, 0)) fun n m => wr H2 n (m + 3) (.bool true) fun H' => Q (.tup []) H' := fun e => hB2.wrong l1 l2 fun H' c' b' => no e H' (c1.trans c') b'
    -- a leaf, or the kids
    have tail : okD p at_ kl kh st = true → bite c.l (pS (some (lb, 0)) fun n88 n89 => rd H2 n88 (n89 + 1) fun v90 => dI .i64 v90 fun i91 => bite (eqI i91 0)
          (pS (some (lb, 0)) fun n92 n93 => wr H2 n92 (n93 + 1) (.int .i64 (deep : Int)) fun H94 => ref9_below_walk.l10 (ref9_below_walk.at f) (3 * p.kids.length + 4) (some (lb, 0)) (deep : Int) c.u c.l c.a1 c.n1 c.a2 c.n2 c.a3 c.n3 H94 Q)
          (ref9_below_walk.l10 (ref9_below_walk.at f) (3 * p.kids.length + 4) (some (lb, 0)) (deep : Int) c.u c.l c.a1 c.n1 c.a2 c.n2 c.a3 c.n3 H2 Q))
        (ref9_below_walk.l13 (ref9_below_walk.at f) (3 * p.kids.length + 4) (some (lb, 0)) (deep : Int) kl kh (some (l, o)) 48 c.u c.l c.a1 c.n1 c.a2 c.n2 c.a3 c.n3 0 H2 Q) := by
      intro hok
      rw [hok] at hQ1 hQ2
      dsimp only at hQ1 hQ2
      refine bite_of (fun e => ?_) (fun e => ?_)
      · have hlf : p.leaf = true := by rw [hpl, e]
        rw [hlf] at hQ1 hQ2
        dsimp only at hQ1 hQ2
        have lblt := (List.getElem?_eq_some_iff.1 hB2.row).1
        -- what is done at the end
        have fin : ∀ (d : Nat) (H3 : Hp), H3[lb]? = some (.row true t [.sl (some (lm, 0)) 48 1, .int .i64 (d : Int), .int .i64 st.count, .bool false]) → H3[lm]? = H2[lm]? → Ch lo hi H H3 →
            leafD p deep ⟨st.met.set at_ true, st.deep, st.count⟩ = (match decide (d = deep) with | true => some ⟨st.met.set at_ true, deep, st.count + p.keys.length⟩ | false => none) →
            ref9_below_walk.l10 (ref9_below_walk.at f) (3 * p.kids.length + 4) (some (lb, 0)) (deep : Int) c.u c.l c.a1 c.n1 c.a2 c.n2 c.a3 c.n3 H3 Q := by
          intro d H3 hr3 hm3 c3 he
          have lb3 := (List.getElem?_eq_some_iff.1 hr3).1
          rw [ref9_below_walk.l10_eq, pS_some, rd_of (v := .int .i64 (d : Int)) (by rw [gt_some hr3]; rfl), dI_int, pS_some]
          refine wr_row hr3 (by simp) ?_
          have hr4 := List.getElem?_set_self (a := (Obj.row true t ([GV.sl (some (lm, 0)) 48 1, .int .i64 (d : Int), .int .i64 st.count, .bool false].set 3 (.bool (!(eqI (d : Int) (deep : Int))))))) lb3
          have c4 := c3.trans (Ch.set (Obj.row true t ([GV.sl (some (lm, 0)) 48 1, .int .i64 (d : Int), .int .i64 st.count, .bool false].set 3 (.bool (!(eqI (d : Int) (deep : Int)))))) l1 l2)
          have hm4 : (H3.set lb (Obj.row true t ([GV.sl (some (lm, 0)) 48 1, .int .i64 (d : Int), .int .i64 st.count, .bool false].set 3 (.bool (!(eqI (d : Int) (deep : Int)))))))[lm]? = H2[lm]? := by rw [List.getElem?_set_ne hB2.ne, hm3]
          generalize H3.set lb (Obj.row true t ([GV.sl (some (lm, 0)) 48 1, .int .i64 (d : Int), .int .i64 st.count, .bool false].set 3 (.bool (!(eqI (d : Int) (deep : Int)))))) = H4 at hr4 c4 hm4 ⊢
          have lb4 := (List.getElem?_eq_some_iff.1 hr4).1
          rw [pS_some, rd_of (v := .int .i64 st.count) (by rw [gt_some hr4]; rfl), dI_int, pS_some]
          have w : wrapI .i64 ((st.count : Int) + nI c.n1) = ((st.count + p.keys.length : Nat) : Int) := by have := hmay.1; rw [wrap64 (by simp; omega) (by simp; omega)]; simp [hn1]
          rw [w]
          refine wr_row hr4 (by simp) ?_
          have c5 := c4.trans (Ch.set (Obj.row true t (([GV.sl (some (lm, 0)) 48 1, .int .i64 (d : Int), .int .i64 st.count, .bool false].set 3 (.bool (!(eqI (d : Int) (deep : Int))))).set (0 + 2) (.int .i64 ((st.count + p.keys.length : Nat) : Int)))) l1 l2)
          have hr5 := List.getElem?_set_self (a := (Obj.row true t (([GV.sl (some (lm, 0)) 48 1, .int .i64 (d : Int), .int .i64 st.count, .bool false].set 3 (.bool (!(eqI (d : Int) (deep : Int))))).set (0 + 2) (.int .i64 ((st.count + p.keys.length : Nat) : Int))))) lb4
          by_cases ed : d = deep
          · subst ed
            rw [decide_eq_true rfl] at he
            refine hQ2 _ _ c5 ⟨?_, ?_, by simp [hlm], hB2.ne⟩ he
            · rw [hr5]; simp [eqI_def]
            · rw [List.getElem?_set_ne hB2.ne, hm4]; exact hB2.met
          · rw [decide_eq_false ed] at he
            refine hQ1 _ c5 ⟨⟨(d : Int), ((st.count + p.keys.length : Nat) : Int), ?_⟩, st.met.set at_ true, by simp [hlm], ?_⟩ he
            · have ed' : ¬ ((d : Int) = (deep : Int)) := by omega
              rw [hr5]; simp [eqI_def, ed']
            · rw [List.getElem?_set_ne hB2.ne, hm4]; exact hB2.met
        rw [pS_some, rd_of (v := .int .i64 st.deep) (by rw [gt_some hB2.row]; rfl), dI_int]
        refine bite_of (fun ez => ?_) (fun ez => ?_)
        · have hz : st.deep = 0 := by simp at ez; omega
          rw [pS_some]
          refine wr_row hB2.row (by simp) ?_
          refine fin deep _ ?_ (by rw [List.getElem?_set_ne hB2.ne]) (c1.trans (Ch.set _ l1 l2)) ?_
          · rw [List.getElem?_set_self lblt]; rfl
          · unfold leafD; simp [hz]
        · have hz : ¬ st.deep = 0 := by simp at ez; omega
          refine fin st.deep H2 hB2.row rfl c1 ?_
          unfold leafD
          dsimp only
          rw [decide_eq_false hz]
          by_cases ed : st.deep = deep
          · rw [decide_eq_true ed]
          · rw [decide_eq_false ed]
      · have hlf : p.leaf = false := by rw [hpl, e]
        rw [hlf] at hQ1 hQ2
        dsimp only at hQ1 hQ2
        obtain ⟨k1, k2, k3, k4, k5⟩ := hmay.2.inner hlf
        have hm1 : st.met[at_]? = some false := by rw [hmet, em]
        have hus := unmet_set hm1
        have hn3 := hpH.kids.len
        have hk5 : p.kids.length ≤ 5 := by have := hmay.1; omega
        have hf1 : 1 ≤ f := by omega
        generalize hR : kidsD (fun k i s => walkD T f k.toNat (deep + 1) (loK p kl i) (hiK p kh i) s) p.kids 0 ⟨st.met.set at_ true, st.deep, st.count⟩ = R at hQ1 hQ2
        have wd : wrapI .i64 ((deep : Int) + 1) = ((deep + 1 : Nat) : Int) := wrap_succ (by omega)
        -- one step
        have step : ∀ (g i : Nat) (H3 : Hp) (hik : i < p.kids.length), H0 <+: H3 →
            (ref9_below_walk.at f [.g (.ptr (some (lb, 0))), .agg [.sl (some (l, o)) 48 5], .g (.int .i64 p.kids[i]), .g (.int .i64 ((deep + 1 : Nat) : Int)), .g (.str (loK p kl i)), .g (.str (hiK p kh i))] H3 fun r4 H5 =>
              ref9_below_walk.l13 (ref9_below_walk.at f) g (some (lb, 0)) (deep : Int) kl kh (some (l, o)) 48 c.u c.l c.a1 c.n1 c.a2 c.n2 c.a3 c.n3 ((i + 1 : Nat) : Int) H5 Q) →
            ref9_below_walk.l13 (ref9_below_walk.at f) (g + 3) (some (lb, 0)) (deep : Int) kl kh (some (l, o)) 48 c.u c.l c.a1 c.n1 c.a2 c.n2 c.a3 c.n3 (i : Int) H3 Q := by
          intro g i H3 hik h03 hstep
          have hkeys : Ss H3 c.a1 c.n1 p.keys := (hpc.mono h03).keys
          have hkids : Is H3 c.a3 c.n3 p.kids := (hpc.mono h03).kids
          rw [ref9_below_walk.l13_eq, bite_t (by simp; omega)]
          have s20 : ∀ x y, x = loK p kl i → y = hiK p kh i → ref9_below_walk.l20 (ref9_below_walk.at f) (g + 1) (some (lb, 0)) (deep : Int) kl kh (some (l, o)) 48 c.u c.l c.a1 c.n1 c.a2 c.n2 c.a3 c.n3 (i : Int) x y H3 Q := by
            intro x y ex ey
            subst ex; subst ey
            rw [ref9_below_walk.l20_eq, chk_true, hkids.rd i rfl hik, wd, wrap_succ (by omega)]
            exact hstep
          have s18 : ∀ x, x = loK p kl i → ref9_below_walk.l18 (ref9_below_walk.at f) (g + 2) (some (lb, 0)) (deep : Int) kl kh (some (l, o)) 48 c.u c.l c.a1 c.n1 c.a2 c.n2 c.a3 c.n3 (i : Int) x kh H3 Q := by
            intro x ex
            rw [ref9_below_walk.l18_eq]
            refine bite_of (fun e => ?_) (fun e => ?_)
            · have hk : i < p.keys.length := by have := hkeys.len; simp at e; omega
              rw [chk_true, hkeys.rd i rfl hk]
              exact s20 _ _ ex (by unfold hiK; rw [List.getElem?_eq_getElem hk]; rfl)
            · have hk : p.keys.length ≤ i := by have := hkeys.len; simp at e; omega
              exact s20 _ _ ex (by unfold hiK; rw [List.getElem?_eq_none hk]; rfl)
          refine bite_of (fun e => ?_) (fun e => ?_)
          · have h0i : 0 < i := by simpa using e
            obtain ⟨j, rfl⟩ : ∃ j, i = j + 1 := ⟨i - 1, by omega⟩
            have hj : j < p.keys.length := by omega
            rw [chk_true, wrap_pred (by omega), hkeys.rd j rfl hj]
            exact s18 _ (by unfold loK; rw [decide_eq_true (by omega)]; simp [hj])
          · have h0i : i = 0 := by simp at e; omega
            subst h0i
            exact s18 _ rfl
        -- once wrong, wrong
        have bad : ∀ (g i : Nat) (H3 : Hp), 3 * (p.kids.length - i) < g → i ≤ p.kids.length → H0 <+: H3 → Ch lo hi H H3 → BW H3 t lb lm t' → R = none → ref9_below_walk.l13 (ref9_below_walk.at f) g (some (lb, 0)) (deep : Int) kl kh (some (l, o)) 48 c.u c.l c.a1 c.n1 c.a2 c.n2 c.a3 c.n3 (i : Int) H3 Q := by
          intro g
          induction g using Nat.strongRecOn with
          | _ g ihg =>
            intro i H3 hg hi' h03 c03 hW3 hRn
            by_cases hik : i < p.kids.length
            · obtain ⟨g, rfl⟩ : ∃ g', g = g' + 3 := ⟨g - 3, by omega⟩
              refine step g i H3 hik h03 ?_
              obtain ⟨f', rfl⟩ : ∃ f', f = f' + 1 := ⟨f - 1, by omega⟩
              refine ref9_walk_wrong (lo := lo) (hi := hi) f' hW3 hB2.ne l1 l2 fun H4 c4 b4 => ?_
              exact ihg g (by omega) (i + 1) H4 (by omega) (by omega) (c4.pre h03 hlo) (c03.trans c4) b4 hRn
            · obtain ⟨g, rfl⟩ : ∃ g', g = g' + 1 := ⟨g - 1, by omega⟩
              rw [ref9_below_walk.l13_eq, bite_f (by have := (hpc.mono h03).kids.len; simp; omega)]
              exact hQ1 H3 c03 hW3 hRn
        have loop : ∀ (g i : Nat) (H3 : Hp) (s3 : WS), 3 * (p.kids.length - i) < g → i ≤ p.kids.length → H0 <+: H3 → Ch lo hi H H3 → BOK H3 t t' lb lm s3 → unmet s3.met < f → s3.count + 4 * unmet s3.met ≤ 1000 →
            kidsD (fun k i s => walkD T f k.toNat (deep + 1) (loK p kl i) (hiK p kh i) s) (p.kids.drop i) i s3 = R →
            ref9_below_walk.l13 (ref9_below_walk.at f) g (some (lb, 0)) (deep : Int) kl kh (some (l, o)) 48 c.u c.l c.a1 c.n1 c.a2 c.n2 c.a3 c.n3 (i : Int) H3 Q := by
          intro g
          induction g using Nat.strongRecOn with
          | _ g ihg =>
            intro i H3 s3 hg hi' h03 c03 hW3 hu3 hc3 heq
            by_cases hik : i < p.kids.length
            · obtain ⟨g, rfl⟩ : ∃ g', g = g' + 3 := ⟨g - 3, by omega⟩
              refine step g i H3 hik h03 ?_
              rw [List.drop_eq_getElem_cons hik, kidsD_cons] at heq
              have hk48 := k4 p.kids[i] (List.getElem_mem hik)
              have ek : p.kids[i] = ((p.kids[i].toNat : Nat) : Int) := by omega
              have hkl : (p.kids[i].toNat) < 48 := by omega
              generalize hkk : p.kids[i] = kk at *
              rw [ek]
              refine ih kk.toNat (deep + 1) (loK p kl i) (hiK p kh i) s3 H3 _ hu3 h03 hW3 hkl (by omega) (by omega) hc3 (fun H4 c4 b4 hw => ?_) (fun H4 s4 c4 hW4 hw => ?_)
              · rw [hw] at heq
                exact bad g (i + 1) H4 (by omega) (by omega) (c4.pre h03 hlo) (c03.trans c4) b4 heq.symm
              · rw [hw] at heq
                dsimp only at heq
                obtain ⟨u1, u2, u3, u4⟩ := walkD_unmet T _ _ _ _ _ _ _ hw
                exact ihg g (by omega) (i + 1) H4 s4 (by omega) (by omega) (c4.pre h03 hlo) (c03.trans c4) hW4 (by omega) (by omega) heq
            · obtain ⟨g, rfl⟩ : ∃ g', g = g' + 1 := ⟨g - 1, by omega⟩
              rw [ref9_below_walk.l13_eq, bite_f (by have := (hpc.mono h03).kids.len; simp; omega)]
              rw [List.drop_of_length_le (by omega)] at heq
              exact hQ2 H3 s3 c03 hW3 heq.symm
        exact loop _ 0 H2 _ (by omega) (Nat.zero_le _) h02 c1 hB2 (by dsimp only; omega) (by dsimp only; omega) hR
    -- the checks
    have hB0 : (!(decide (0 < at_) && decide (p.keys.length < 2))) = true → okD p at_ kl kh st = holdB kl kh p.keys := by intro e; unfold okD; rw [hmet, em, hmayB, e]; simp
    refine bite_of (fun e => ?_) (fun e => ?_)
    · have hz : 0 < at_ := by simp at e; omega
      refine bite_of (fun e2 => wrong2 ?_) (fun e2 => ?_)
      · have : p.keys.length < 2 := by simp at e2; omega
        unfold okD; simp [hz, this]
      · have hs : (!(decide (0 < at_) && decide (p.keys.length < 2))) = true := by
          have : ¬ p.keys.length < 2 := by simp at e2; omega
          simp [this]
        exact ref_hold hks hmay.2.rising (fun hh => tail (by rw [hB0 hs, hh])) (fun hh => wrong2 (by rw [hB0 hs, hh]))
    · have hz : at_ = 0 := by simp at e; omega
      have hs : (!(decide (0 < at_) && decide (p.keys.length < 2))) = true := by subst hz; rfl
      exact ref_hold hks hmay.2.rising (fun hh => tail (by rw [hB0 hs, hh])) (fun hh => wrong2 (by rw [hB0 hs, hh]))
end
end Go.Am
namespace Go.Am

section
variable {T : List Pg} {a : Pl} {cs : List PC} {H0 H : Hp} {Q : Post} {lb lm : Nat} {t t' : TypeId} {lo hi : Nat}
theorem looked_loop (hT : Tr H0 a 48 cs T) (hlo : H0.length ≤ lo) (l1 : lo ≤ lb) (l2 : lb < hi) (ne : lb ≠ lm) {met : List Bool} (hlm : met.length = 48) {d m : Int} {w0 : Bool}
    (hQ : ∀ H' w, H0 <+: H' → H'[lb]? = some (.row true t [.sl (some (lm, 0)) 48 1, .int .i64 d, .int .i64 m, .bool w]) → w = (w0 || !(restD T met)) → 
      (bite (!w) (Q (.tup [.s (.ptr (some (lb, 0))), .s (.bool (decide (m ≤ 60)))]) H') (Q (.tup [.s (.ptr (some (lb, 0))), .s (.bool false)]) H'))) :
    ∀ (f i : Nat) (w : Bool) (H : Hp), 48 - i < f → i ≤ 48 → H0 <+: H → H[lb]? = some (.row true t [.sl (some (lm, 0)) 48 1, .int .i64 d, .int .i64 m, .bool w]) → H[lm]? = some (.row true t' (met.map GV.bool)) → w = (w0 || !(restK T met i)) →
      ref9_looked.l6 f a 48 lb 0 (i : Int) lb 0 H Q := by
  intro f
  induction f with
  | zero => intro i w H h; omega
  | succ f ih =>
    intro i w H hf hi' h0 hr hm hw
    have hlT := hT.lenT
    rw [ref9_looked.l6_eq]
    by_cases hik : i < 48
    · obtain ⟨l, o, c, p, rfl, hc, hp, hpc, g0, g1, g2, g3, g4⟩ := (hT.mono h0).get hik
      have hmet : met[i]? = some (met[i]'(by omega)) := List.getElem?_eq_getElem (by omega)
      have hs := restK_succ T met i
      rw [hmet, hp, Option.getD_some, Option.getD_some] at hs
      have etN : tN (i : Int) = i := rfl
      rw [bite_t (by simp; omega), rd_of (v := .sl (some (lm, 0)) 48 1) (by rw [gt_some hr]; rfl), dL_sl, chk_true]
      refine chk_of (by simp; omega) ?_
      rw [pS_some, etN, rd_of (v := .bool (met[i]'(by omega))) (by rw [gt_some hm]; simp [hlm, hik]), dB_bool, wrap_succ (by omega)]
      refine bite_of (fun e => ?_) (fun e => ?_)
      · have em : met[i]'(by omega) = false := by simpa using e
        rw [em, Bool.false_or] at hs
        rw [chk_true]
        refine chk_of (by simp; omega) ?_
        rw [pS_some, rdPage_of g0 g1 g2 g3 g4]
        refine ref9_nothing_spec hpc ?_
        simp only [rG_g, dB_bool]
        refine bite_of (fun e2 => ?_) (fun e2 => ?_)
        · have hn : nothingB p = false := by simpa using e2
          rw [hn, Bool.and_false] at hs
          refine wr_row hr (by simp) ?_
          refine ih (i + 1) true _ (by omega) (by omega) ((Ch.set (lo := lo) (hi := hi) _ l1 l2).pre h0 hlo) ?_ (by rw [List.getElem?_set_ne ne]; exact hm) (by rw [hs]; simp)
          rw [List.getElem?_set_self (List.getElem?_eq_some_iff.1 hr).1]; rfl
        · have hn : nothingB p = true := by simpa using e2
          rw [hn, Bool.and_true] at hs
          exact ih (i + 1) w H (by omega) (by omega) h0 hr hm (by rw [hs]; exact hw)
      · have em : met[i]'(by omega) = true := by simpa using e
        rw [em, Bool.true_or, Bool.and_true] at hs
        exact ih (i + 1) w H (by omega) (by omega) h0 hr hm (by rw [hs]; exact hw)
    · obtain rfl : i = 48 := by omega
      rw [bite_f (by decide), rd_of (v := .bool w) (by rw [gt_some hr]; rfl), dB_bool]
      have hrest : restD T met = restK T met 48 := by unfold restD restK; rw [hlT]
      have := hQ H w h0 hr (by rw [hrest]; exact hw)
      rw [rd_of (v := .int .i64 m) (by rw [gt_some hr]; rfl), dI_int, leI_def]
      exact this
set_option maxRecDepth 100000 in
theorem ref9_looked_spec {n : Nat} (hT : Tr H a n cs T) (hQ1 : ∀ H' r, H <+: H' → heightD T = 0 → Q (.tup [.s (.ptr r), .s (.bool false)]) H') (hQ2 : ∀ H' l, H <+: H' → 0 < heightD T → gt H' l 1 = some (.int .i64 (heightD T : Int)) → Q (.tup [.s (.ptr (some (l, 0))), .s (.bool true)]) H') :
    ref9_looked [.agg [.sl a n 5]] H Q := by
  refine ⟨51, ?_⟩
  have hlT := hT.lenT
  rw [ref9_looked_eq]
  refine bite_of (fun e => ?_) (fun e => ?_)
  · have : ¬ T.length = 48 := by simp at e; omega
    exact hQ1 H none (List.prefix_refl _) (by unfold heightD; rw [decide_eq_false this])
  · obtain rfl : n = 48 := by simp at e; omega
    simp only [pu_def, ln_def]
    have p2 := (pre_pu H (.row true tB (repN (tN 48) [.bool false]))).trans (pre_pu _ (.row true tBelow [.sl (some (H.length, 0)) (tN 48) 1, .int .i64 0, .int .i64 0, .bool false]))
    have hl1 : (H ++ [Obj.row true tB (repN (tN 48) [.bool false])]).length = H.length + 1 := by simp
    have hW : BOK ((H ++ [.row true tB (repN (tN 48) [.bool false])]) ++ [.row true tBelow [.sl (some (H.length, 0)) (tN 48) 1, .int .i64 0, .int .i64 0, .bool false]]) tBelow tB (H.length + 1) H.length ws0 := by
      refine ⟨?_, ?_, rfl, by omega⟩
      · rw [List.getElem?_append_right (by rw [hl1]; omega), hl1]; simp [ws0]
      · rw [List.append_assoc, List.getElem?_append_right (Nat.le_refl _)]; simp; rfl
    rw [hl1]
    have hu : unmet ws0.met = 48 := unmet_rep 48
    refine ⟨49, ?_⟩
    refine ref9_walk_main (T := T) (H0 := H) hT (lo := H.length) (hi := H.length + 2) (Nat.le_refl _) (by omega) (by omega) (Nat.le_refl _) (by omega) 49 0 1 (mkS []) (mkS []) ws0 _ _ (by rw [hu]; omega) p2 hW (by omega) (by omega) (by omega) (by rw [hu]; show 0 + 4 * 48 ≤ 1000; omega) (fun H' c' hb hw => ?_) (fun H' st' c' hb hw => ?_)
    · have h0 : heightD T = 0 := by unfold heightD; rw [decide_eq_true hlT]; dsimp only; rw [hw]
      obtain ⟨⟨d, m, hr⟩, met, hml, hm⟩ := hb
      refine looked_loop (lo := H.length) (hi := H.length + 2) (w0 := true) hT (Nat.le_refl _) (by omega) (by omega) (by omega) hml (fun H2 w h02 hr2 hw2 => ?_) 50 0 true H' (by omega) (Nat.zero_le _) (c'.pre p2 (Nat.le_refl _)) hr hm rfl
      rw [Bool.true_or] at hw2
      subst hw2
      rw [bite_f (by decide)]
      exact hQ1 H2 _ h02 h0
    · obtain ⟨_, _, u3, u4⟩ := walkD_unmet T _ _ _ _ _ _ _ hw
      have hh : heightD T = (match restD T st'.met && decide (st'.count ≤ 60) with | true => st'.deep | false => 0) := by unfold heightD; rw [decide_eq_true hlT]; dsimp only; rw [hw]; rfl
      refine looked_loop (lo := H.length) (hi := H.length + 2) (w0 := false) hT (Nat.le_refl _) (by omega) (by omega) (by omega) hb.len (fun H2 w h02 hr2 hw2 => ?_) 50 0 false H' (by omega) (Nat.zero_le _) (c'.pre p2 (Nat.le_refl _)) hb.row hb.met rfl
      rw [Bool.false_or] at hw2
      have hd := u3 (Nat.le_refl _)
      cases er : restD T st'.met with
      | false =>
        rw [er] at hh hw2
        subst hw2
        rw [Bool.false_and] at hh
        rw [bite_f (by decide)]
        exact hQ1 H2 _ h02 hh
      | true =>
        rw [er] at hh hw2
        subst hw2
        rw [Bool.true_and] at hh
        rw [bite_t (by decide)]
        by_cases e : st'.count ≤ 60
        · rw [decide_eq_true e] at hh
          rw [decide_eq_true (by omega)]
          refine hQ2 H2 _ h02 (by rw [hh]; dsimp only; omega) ?_
          rw [gt_some hr2, hh]; rfl
        · rw [decide_eq_false e] at hh
          rw [decide_eq_false (by omega)]
          exact hQ1 H2 _ h02 hh
theorem ref9_Sound_spec {n : Nat} (hT : Tr H a n cs T) (hQ : ∀ H', H <+: H' → Q (.g (.bool (decide (0 < heightD T)))) H') : ref9_Sound [.agg [.sl a n 5]] H Q := by
  refine ⟨1, ?_⟩
  rw [ref9_Sound_eq]
  refine ref9_looked_spec hT (fun H' r p h0 => ?_) (fun H' l p h0 hg => ?_)
  · simp only [rT_tup, uR_cons, rS_s, dP_ptr, dB_bool, uE_nil]
    have := hQ H' p
    rwa [decide_eq_false (by omega)] at this
  · simp only [rT_tup, uR_cons, rS_s, dP_ptr, dB_bool, uE_nil]
    have := hQ H' p
    rwa [decide_eq_true h0] at this
end
end Go.Am
namespace Go.Am

/-! rows of pages -/
/-- does a page stand on a row? -/
def PC.on (c : PC) (l : Nat) : Prop := ∃ o, c.a1 = some (l, o) ∨ c.a2 = some (l, o) ∨ c.a3 = some (l, o)
theorem PC.at.lt {H : Hp} {c : PC} {p : Pg} (h : c.at H p) {l : Nat} (hl : c.on l) : l < H.length := by
  obtain ⟨o, h1 | h1 | h1⟩ := hl
  · have := h.keys.cells; rw [h1] at this; exact cells_lt this
  · have := h.vals.cells; rw [h1] at this; exact cells_lt this
  · have := h.kids.cells; rw [h1] at this; exact cells_lt this
theorem PC.at.keep {H H' : Hp} {c : PC} {p : Pg} (h : c.at H p) (hk : ∀ l, c.on l → H'[l]? = H[l]?) : c.at H' p := by
  obtain ⟨h1, h2, h3, h4, h5⟩ := h
  refine ⟨h1, h2, ⟨?_, h3.len, h3.lim⟩, ⟨?_, h4.len, h4.lim⟩, ⟨?_, h5.len, h5.lim⟩⟩
  · rw [← h3.cells]; exact cells_at fun l o e => hk l ⟨o, .inl e⟩
  · rw [← h4.cells]; exact cells_at fun l o e => hk l ⟨o, .inr (.inl e)⟩
  · rw [← h5.cells]; exact cells_at fun l o e => hk l ⟨o, .inr (.inr e)⟩
/-- append, elements of more cells -/
theorem ap_z {H0 H : Hp} {t z by_ : Nat} {a : Pl} {n m : Nat} {cs ds : List GV} {K : Pl → Nat → Hp → Prop} (hz : 1 ≤ z) (h0 : H0 <+: H) (h : Own H H0.length t a (n * z) cs) (hm : ds.length = m * z) (hl : (n + m) * by_ ≤ Lim)
    (hK : ∀ a' H', Own H' H0.length t a' ((n + m) * z) (cs ++ ds) → Ex H0 a H H' → (∀ l o, a' = some (l, o) → H.length ≤ l ∧ o = 0) → K a' (n + m) H') : ap H t z by_ a n ds m K := by
  unfold ap app?
  rw [if_pos ⟨hl, hm⟩]
  rcases h with ⟨rfl, hn, rfl⟩ | ⟨l, rfl, hb, hrow, hlen⟩
  · have hn0 : n = 0 := by rcases Nat.eq_zero_or_pos n with e | e; exact e; have := Nat.mul_le_mul e hz; omega
    subst hn0
    simp only [Nat.zero_add] at hK ⊢
    by_cases hm0 : m = 0
    · subst hm0
      rw [Nat.zero_mul] at hm
      obtain rfl : ds = [] := List.eq_nil_of_length_eq_zero hm
      simp only [if_pos]
      exact hK none H (.inl ⟨rfl, by omega, rfl⟩) ⟨h0, Nat.le_refl _, fun _ _ _ => rfl⟩ (fun _ _ e => by cases e)
    · simp only [if_pos, if_neg hm0]
      refine hK _ _ (.inr ⟨H.length, rfl, pre_len h0, by simp, by simpa using hm⟩) ⟨h0.trans (List.prefix_append _ _), by simp, fun l hl _ => by rw [List.getElem?_append_left hl]⟩ (fun _ _ e => by cases e; exact ⟨Nat.le_refl _, rfl⟩)
  · simp only [hrow]
    rw [if_pos ⟨trivial, trivial, hlen⟩]
    have hlt := (List.getElem?_eq_some_iff.1 hrow).1
    refine hK _ _ (.inr ⟨H.length, rfl, pre_len h0, by simp, by rw [List.length_append, hlen, hm, Nat.add_mul]⟩) ⟨(pre_set h0 hb .dead).trans (List.prefix_append _ _), by simp, fun l' hl' hne => ?_⟩ (fun _ _ e => by cases e; exact ⟨Nat.le_refl _, rfl⟩)
    have hll : l ≠ l' := fun e => hne (by rw [e])
    rw [List.getElem?_append_left (by simpa using hl'), List.getElem?_set_ne hll]

/-- pages in a row of one's own -/
structure OT (H : Hp) (b : Nat) (t : TypeId) (a : Pl) (n : Nat) (cs : List PC) (T : List Pg) : Prop where
  own : Own H b t a (n * 5) (pcells cs)
  len : cs.length = n
  lenT : T.length = n
  all : ∀ i (h : i < cs.length) (h' : i < T.length), (cs[i]).at H T[i]
  off : ∀ c ∈ cs, ∀ l, c.on l → a ≠ some (l, 0)
section
variable {H0 H H' : Hp} {b : Nat} {t : TypeId} {a : Pl} {n : Nat} {cs : List PC} {T : List Pg} {c : PC} {p : Pg}
theorem OT.tr (h : OT H b t a n cs T) : Tr H a n cs T := ⟨h.own.cells, h.len, h.lenT, h.all⟩
theorem OT.nil (H : Hp) (b : Nat) (t : TypeId) : OT H b t none 0 [] [] := ⟨.inl ⟨rfl, rfl, rfl⟩, rfl, rfl, fun i h => (by simp at h), fun c h => (by simp at h)⟩
theorem OT.keep (h : OT H b t a n cs T) (ha : ∀ l, a = some (l, 0) → H'[l]? = H[l]?) (hp : ∀ c ∈ cs, ∀ l, c.on l → H'[l]? = H[l]?) : OT H' b t a n cs T :=
  ⟨h.own.keep ha, h.len, h.lenT, fun i h1 h2 => (h.all i h1 h2).keep (hp _ (List.getElem_mem h1)), h.off⟩
theorem OT.onlt (h : OT H b t a n cs T) {c : PC} (hc : c ∈ cs) {l : Nat} (hl : c.on l) : l < H.length := by
  obtain ⟨i, hi, rfl⟩ := List.getElem_of_mem hc
  exact (h.all i hi (by have := h.len; have := h.lenT; omega)).lt hl
theorem OT.mono (h : OT H b t a n cs T) (hp : H <+: H') : OT H' b t a n cs T := h.keep (fun l e => pre_at hp (h.own.lt' e)) (fun c hc l hl => pre_at hp (h.onlt hc hl))
/-- another row turned -/
theorem OT.ex (h : OT H b t a n cs T) {x : Pl} (hx : Ex H0 x H H') (hd : Dj x a) (ho : ∀ c ∈ cs, ∀ l, c.on l → x ≠ some (l, 0)) : OT H' b t a n cs T :=
  h.keep (fun l e => hx.row l (h.own.lt' e) fun e0 => hd l e0 e) (fun c hc l hl => hx.row l (h.onlt hc hl) (ho c hc l hl))
theorem OT.add (h : OT H H0.length t a n cs T) (h0 : H0 <+: H) (hc : c.at H p) (hoff : ∀ l, c.on l → a ≠ some (l, 0)) (hl : (n + 1) * 80 ≤ Lim) {K : Pl → Nat → Hp → Prop}
    (hK : ∀ a' H', OT H' H0.length t a' (n + 1) (cs ++ [c]) (T ++ [p]) → Ex H0 a H H' → (∀ l o, a' = some (l, o) → H.length ≤ l ∧ o = 0) → K a' (n + 1) H') : ap H t 5 80 a n [.bool c.u, .bool c.l, .sl c.a1 c.n1 1, .sl c.a2 c.n2 1, .sl c.a3 c.n3 1] 1 K := by
  refine ap_z (by omega) h0 h.own rfl hl fun a' H' o x f => hK a' H' ?_ x f
  refine ⟨by rw [pcells_append]; simpa [pcells, PC.cells] using o, by simp [h.len], by simp [h.lenT], fun i h1 h2 => ?_, fun d hd l hl e => ?_⟩
  · rw [List.getElem_append, List.getElem_append]
    have q1 := h.len
    have q2 := h.lenT
    by_cases e : i < n
    · rw [dif_pos (by omega), dif_pos (by omega)]
      exact (h.all i (by omega) (by omega)).keep fun l hl => x.row l (h.onlt (List.getElem_mem _) hl) (h.off _ (List.getElem_mem _) l hl)
    · rw [dif_neg (by omega), dif_neg (by omega)]
      simp only [List.getElem_singleton]
      exact hc.keep fun l hl => x.row l (hc.lt hl) (hoff l hl)
  · have := (f l 0 e).1
    rcases List.mem_append.1 hd with q | q
    · have := h.onlt q hl; omega
    · rw [List.mem_singleton.1 q] at hl
      have := hc.lt hl; omega
end

/-- a page in rows of one's own -/
structure PC.own (c : PC) (H : Hp) (b : Nat) (p : Pg) : Prop where
  used : p.used = c.u
  leaf : p.leaf = c.l
  keys : Own H b tS c.a1 c.n1 (p.keys.map GV.str)
  vals : Own H b tS c.a2 c.n2 (p.vals.map GV.str)
  kids : Own H b tI c.a3 c.n3 (p.kids.map (GV.int .i64))
  d12 : Dr c.a1 c.a2
  d13 : Dr c.a1 c.a3
  d23 : Dr c.a2 c.a3
theorem PC.own.keep {H H' : Hp} {b : Nat} {c : PC} {p : Pg} (h : c.own H b p) (hk : ∀ l, c.on l → H'[l]? = H[l]?) : c.own H' b p :=
  ⟨h.used, h.leaf, h.keys.keep fun l e => hk l ⟨0, .inl e⟩, h.vals.keep fun l e => hk l ⟨0, .inr (.inl e)⟩, h.kids.keep fun l e => hk l ⟨0, .inr (.inr e)⟩, h.d12, h.d13, h.d23⟩
section
variable {H : Hp} {Q : Post} {c : PC} {p : Pg}
end

section
variable {H : Hp} {Q : Post} {a : Pl} {n : Nat} {cs : List PC} {T : List Pg}
end
end Go.Am
namespace Go.Am

/-! a tree built -/
def cutN (n k i : Nat) : Nat := n * i / k
def kOf (n most : Nat) : Nat := max 1 ((n + most - 1) / most)
theorem cutN_le {n k i : Nat} (hk : i ≤ k) (h0 : 0 < k) : cutN n k i ≤ n := by
  unfold cutN
  exact Nat.div_le_of_le_mul (by rw [Nat.mul_comm]; exact Nat.mul_le_mul_right _ hk)
theorem cutN_mono (n k i : Nat) : cutN n k i ≤ cutN n k (i + 1) := Nat.div_le_div_right (Nat.mul_le_mul_left _ (by omega))
theorem cutN_zero (n k : Nat) : cutN n k 0 = 0 := by simp [cutN]
theorem cutN_all {n k : Nat} (h : 0 < k) : cutN n k k = n := Nat.mul_div_cancel _ h
theorem cutN_lt {n k i : Nat} (hk : i < k) (hn : 0 < n) : cutN n k i < n := by
  unfold cutN
  rw [Nat.div_lt_iff_lt_mul (by omega)]
  exact Nat.mul_lt_mul_of_pos_left hk hn
theorem kOf_pos (n most : Nat) : 0 < kOf n most := by unfold kOf; omega
def sizesD (n most : Nat) : List Nat := (List.range (kOf n most)).map fun i => cutN n (kOf n most) (i + 1) - cutN n (kOf n most) i
abbrev Lvl := List (Pg × ByteArray)
def leafAt (ps : List (ByteArray × ByteArray)) (k i : Nat) : Pg × ByteArray :=
  (⟨true, true, ((ps.drop (cutN ps.length k i)).take (cutN ps.length k (i + 1) - cutN ps.length k i)).map (·.1), ((ps.drop (cutN ps.length k i)).take (cutN ps.length k (i + 1) - cutN ps.length k i)).map (·.2), []⟩,
   match decide (0 < cutN ps.length k (i + 1) - cutN ps.length k i) with | true => (ps[cutN ps.length k i]?.map (·.1)).getD (mkS []) | false => mkS [])
def leavesD (ps : List (ByteArray × ByteArray)) : Lvl := (List.range (kOf ps.length 4)).map (leafAt ps (kOf ps.length 4))
def upAt (xs : Lvl) (next k i : Nat) : Pg × ByteArray :=
  (⟨true, false, ((xs.drop (cutN xs.length k i + 1)).take (cutN xs.length k (i + 1) - (cutN xs.length k i + 1))).map (·.2), [], (List.range (cutN xs.length k (i + 1) - cutN xs.length k i)).map fun j => ((next + (cutN xs.length k i + j) : Nat) : Int)⟩,
   (xs[cutN xs.length k i]?.map (·.2)).getD (mkS []))
def upD (xs : Lvl) (next : Nat) : Lvl := (List.range (kOf xs.length 5)).map (upAt xs next (kOf xs.length 5))
def placeD (T : List Pg) (xs : Lvl) (next : Nat) : Nat → List Pg
  | 0 => T
  | j + 1 => (placeD T xs next j).set (next + j) ((xs[j]?.map (·.1)).getD noPg)
def newT : List Pg := ⟨true, true, [], [], []⟩ :: List.replicate 47 noPg
def buildGo : Nat → List Pg → Nat → Lvl → List Pg
  | 0, T, _, _ => T
  | f + 1, T, next, xs => match decide (1 < xs.length) with
    | true => buildGo f (placeD T xs next xs.length) (next + xs.length) (upD xs next)
    | false => T.set 0 ((xs[0]?.map (·.1)).getD noPg)
def buildD (ps : List (ByteArray × ByteArray)) : List Pg := buildGo 64 newT 1 (leavesD ps)

section
variable {H : Hp} {Q : Post}
theorem tdiv_nat (a b : Nat) : Int.tdiv (a : Int) (b : Int) = ((a / b : Nat) : Int) := (Int.ofNat_tdiv a b).symm
theorem ref9_sizes_spec {n most : Nat} (hn : n ≤ 1000) (h1 : 1 ≤ most) (h2 : most ≤ 1000) (hQ : ∀ a' H', H <+: H' → Own H' H.length tI a' (kOf n most) (((sizesD n most).map fun (x : Nat) => (x : Int)).map (GV.int .i64)) → Is H' a' (kOf n most) ((sizesD n most).map fun (x : Nat) => (x : Int)) → Q (.g (.sl a' (kOf n most) 1)) H') :
    ref9_sizes [.g (.int .i64 (n : Int)), .g (.int .i64 (most : Int))] H Q := by
  have hk := kOf_pos n most
  have hk1 : kOf n most ≤ 2000 := by
    unfold kOf
    have : (n + most - 1) / most ≤ n + most - 1 := Nat.div_le_self _ _
    omega
  have hm : mxI 1 (wrapI .i64 (Int.tdiv (wrapI .i64 ((wrapI .i64 ((n : Int) + (most : Int))) - 1)) (most : Int))) = (kOf n most : Int) := by
    rw [wrap64 (n := (n : Int) + (most : Int)) (by omega) (by omega), wrap64 (n := (n : Int) + (most : Int) - 1) (by omega) (by omega)]
    have e : (n : Int) + (most : Int) - 1 = ((n + most - 1 : Nat) : Int) := by omega
    have hq : (n + most - 1) / most ≤ n + most - 1 := Nat.div_le_self _ _
    rw [e, tdiv_nat]
    unfold kOf mxI
    generalize (n + most - 1) / most = q at *
    rw [wrap64 (by omega) (by omega)]
    split <;> omega
  refine ⟨kOf n most + 2, ?_⟩
  rw [ref9_sizes_eq, hm]
  refine chk_of (by rw [eqI_def]; simp; omega) ?_
  generalize hkk : kOf n most = k at *
  have hcut : ∀ i, i ≤ k → wrapI .i64 (Int.tdiv (wrapI .i64 ((n : Int) * (i : Int))) (k : Int)) = (cutN n k i : Int) := by
    intro i hi
    have hb : n * i ≤ 1000 * 2000 := Nat.mul_le_mul hn (by omega)
    have e : (n : Int) * (i : Int) = ((n * i : Nat) : Int) := by simp
    rw [e, wrap64 (n := ((n * i : Nat) : Int)) (by omega) (by omega), tdiv_nat]
    have hd : n * i / k ≤ n * i := Nat.div_le_self _ _
    unfold cutN
    generalize n * i / k = q at *
    generalize n * i = q2 at *
    rw [wrap64 (by omega) (by omega)]
  have loop : ∀ (f i : Nat) (a' : Pl) (H' : Hp), k - i < f → i ≤ k → H <+: H' → Own H' H.length tI a' i ((((List.range i).map fun i => cutN n k (i + 1) - cutN n k i).map fun (x : Nat) => (x : Int)).map (GV.int .i64)) → ref9_sizes.l4 f (n : Int) (k : Int) a' i (i : Int) H' Q := by
    intro f
    induction f with
    | zero => intro i _ _ h; omega
    | succ f ih =>
      intro i a' H' hf hi hp ho
      rw [ref9_sizes.l4_eq]
      by_cases hik : i < k
      · rw [bite_t (by simp; omega)]
        refine chk_of (by rw [eqI_def]; simp; omega) (chk_of (by rw [eqI_def]; simp; omega) ?_)
        rw [chk_true, wrap_succ (by omega), hcut (i + 1) (by omega), hcut i (by omega)]
        have hmono := cutN_mono n k i
        have hle := cutN_le (n := n) (k := k) (i := i + 1) (by omega) (by omega)
        have e : wrapI .i64 ((cutN n k (i + 1) : Int) - (cutN n k i : Int)) = ((cutN n k (i + 1) - cutN n k i : Nat) : Int) := by rw [wrap64 (by omega) (by omega)]; omega
        rw [e]
        refine ap_own hp ho rfl (by unfold Lim; omega) fun a'' H'' o x _ => ?_
        refine ih (i + 1) a'' H'' (by omega) (by omega) x.pre ?_
        rw [List.range_succ, List.map_append, List.map_append, List.map_append]
        exact o
      · obtain rfl : i = k := by omega
        rw [bite_f (by simp)]
        have hs : sizesD n most = (List.range i).map fun j => cutN n i (j + 1) - cutN n i j := by unfold sizesD; rw [hkk]
        refine hQ a' H' hp (by rw [hs]; exact ho) ⟨?_, ?_, by omega⟩
        · rw [hs]; exact ho.cells
        · rw [hs]; simp
  exact loop _ 0 none H (by omega) (Nat.zero_le _) (List.prefix_refl _) (.inl ⟨rfl, rfl, rfl⟩)

/-- a new tree -/
def newC : List PC := ⟨true, true, none, 0, none, 0, none, 0⟩ :: List.replicate 47 ⟨false, false, none, 0, none, 0, none, 0⟩
theorem wr_last {t : TypeId} {cs : List GV} {j : Nat} {v : GV} {K : Hp → Prop} (hj : j < cs.length) (hK : K (H ++ [.row true t (cs.set j v)])) : wr (H ++ [.row true t cs]) H.length j v K := by
  refine wr_row (own := t) (cs := cs) (by simp) hj ?_
  rw [List.set_append_right _ _ (Nat.le_refl _)]
  simpa using hK
theorem newC_get (i : Nat) (h : i < newC.length) : newC[i]'h = if i = 0 then ⟨true, true, none, 0, none, 0, none, 0⟩ else ⟨false, false, none, 0, none, 0, none, 0⟩ := by
  cases i with
  | zero => rfl
  | succ i => rw [if_neg (by omega)]; exact List.getElem_replicate (by have : i + 1 < 48 := h; simp; omega)
theorem newT_get (i : Nat) (h : i < newT.length) : newT[i]'h = if i = 0 then ⟨true, true, [], [], []⟩ else noPg := by
  cases i with
  | zero => rfl
  | succ i => rw [if_neg (by omega)]; exact List.getElem_replicate (by have : i + 1 < 48 := h; simp; omega)
theorem newC_at (H : Hp) : ∀ i (h : i < newC.length) (h' : i < newT.length), (newC[i]'h).at H (newT[i]'h') := by
  intro i h h'
  rw [newC_get i h, newT_get i h']
  split
  · exact ⟨rfl, rfl, .nil _, .nil _, .nil _⟩
  · exact noPg_at _
theorem newC_off : ∀ c ∈ newC, ∀ l, ¬ c.on l := by
  intro c hc l ⟨o, h⟩
  unfold newC at hc
  rcases List.mem_cons.1 hc with rfl | hc
  · simp at h
  · rw [(List.mem_replicate.1 hc).2] at h; simp at h
theorem new_ot (H : Hp) : OT (H ++ [.row true tPg (pcells newC)]) H.length tPg (some (H.length, 0)) 48 newC newT :=
  ⟨.inr ⟨H.length, rfl, Nat.le_refl _, by simp, by rw [pcells_length]; rfl⟩, rfl, rfl, newC_at _, fun c hc l hl => (newC_off c hc l hl).elim⟩
theorem ref9_New_spec (hQ : ∀ H', H <+: H' → OT H' H.length tPg (some (H.length, 0)) 48 newC newT → Q (.agg [.sl (some (H.length, 0)) 48 5]) H') : ref9_New [] H Q := by
  refine ⟨1, ?_⟩
  rw [ref9_New_eq, chk_true]
  refine chk_of (by decide) ?_
  have hl : (repN (tN 48) [GV.bool false, .bool false, .sl none 0 1, .sl none 0 1, .sl none 0 1]).length = 240 := rfl
  refine wr_last (by rw [hl]; decide) (wr_last (by simp only [List.length_set, hl]; decide) (wr_last (by simp only [List.length_set, hl]; decide) (wr_last (by simp only [List.length_set, hl]; decide) (wr_last (by simp only [List.length_set, hl]; decide) ?_))))
  exact hQ _ (pre_pu _ _) (new_ot H)
end
end Go.Am
namespace Go.Am

/-- pairs of texts -/
abbrev KV := List (ByteArray × ByteArray)
def kvCells (ps : KV) : List GV := ps.flatMap fun x => [.str x.1, .str x.2]
theorem kvCells_get {ps : KV} {i : Nat} (hi : i < ps.length) : (kvCells ps)[i * 2]? = some (.str ps[i].1) ∧ (kvCells ps)[i * 2 + 1]? = some (.str ps[i].2) := by
  unfold kvCells
  induction ps generalizing i with
  | nil => simp at hi
  | cons c cs ih =>
    simp only [List.flatMap_cons]
    cases i with
    | zero => simp
    | succ i =>
      have := ih (i := i) (by simpa using hi)
      rw [List.getElem?_append_right (by simp; omega), List.getElem?_append_right (by simp; omega)]
      have e1 : (i + 1) * 2 - [GV.str c.1, GV.str c.2].length = i * 2 := by simp; omega
      have e2 : (i + 1) * 2 + 1 - [GV.str c.1, GV.str c.2].length = i * 2 + 1 := by simp; omega
      rw [e1, e2]
      simpa using this
structure Kv (H : Hp) (a : Pl) (n : Nat) (ps : KV) : Prop where
  cells : cells? H a (n * 2) = some (kvCells ps)
  len : ps.length = n
theorem Kv.mono {H H' : Hp} (hp : H <+: H') {a : Pl} {n : Nat} {ps : KV} (h : Kv H a n ps) : Kv H' a n ps := ⟨cells_mono hp h.cells, h.len⟩
theorem Kv.get {H : Hp} {a : Pl} {n : Nat} {ps : KV} (h : Kv H a n ps) {i : Nat} (hi : i < ps.length) : ∃ l o, a = some (l, o) ∧ gt H l (o + i * 2) = some (.str ps[i].1) ∧ gt H l (o + i * 2 + 1) = some (.str ps[i].2) := by
  have hc := h.cells
  have hl := h.len
  cases a with
  | none => simp [cells?] at hc; omega
  | some q =>
    obtain ⟨l, o⟩ := q
    obtain ⟨k1, k2⟩ := kvCells_get hi
    refine ⟨l, o, rfl, ?_, ?_⟩
    · rw [cells_get hc (by omega), k1]
    · rw [Nat.add_assoc, cells_get hc (by omega), k2]

/-- leaves being built: pages, their least keys; a page's keys, values -/
structure LJ (B H : Hp) (x : Pl) (m : Nat) (cs : List PC) (T : List Pg) (y : Pl) (ls : List ByteArray) (k : Pl) (ks : List ByteArray) (v : Pl) (vs : List ByteArray) : Prop where
  pre : B <+: H
  X : OT H B.length tPg x m cs T
  Y : Own H B.length tS y m (ls.map GV.str)
  K : Own H B.length tS k ks.length (ks.map GV.str)
  V : Own H B.length tS v vs.length (vs.map GV.str)
  xy : Dj x y
  xk : Dj x k
  xv : Dj x v
  yk : Dj y k
  yv : Dj y v
  kv : Dj k v
  yo : ∀ c ∈ cs, ∀ l, c.on l → y ≠ some (l, 0)
  ko : ∀ c ∈ cs, ∀ l, c.on l → k ≠ some (l, 0)
  vo : ∀ c ∈ cs, ∀ l, c.on l → v ≠ some (l, 0)
  lo : ∀ c ∈ cs, ∀ l, c.on l → B.length ≤ l
section
variable {B H : Hp} {x : Pl} {m : Nat} {cs : List PC} {T : List Pg} {y : Pl} {ls : List ByteArray} {k : Pl} {ks : List ByteArray} {v : Pl} {vs : List ByteArray}
theorem OT.offNew {H : Hp} {b : Nat} {t : TypeId} {a a' : Pl} {n : Nat} {cs : List PC} {T : List Pg} (h : OT H b t a n cs T) (f : ∀ l o, a' = some (l, o) → H.length ≤ l) : ∀ c ∈ cs, ∀ l, c.on l → a' ≠ some (l, 0) := fun c hc l hl e => by
  have := f l 0 e; have := h.onlt hc hl; omega
theorem LJ.key (g : LJ B H x m cs T y ls k ks v vs) (s : ByteArray) (hn : ks.length ≤ 1000) {K : Pl → Nat → Hp → Prop} (hK : ∀ k' H', LJ B H' x m cs T y ls k' (ks ++ [s]) v vs → K k' (ks.length + 1) H') : ap H tS 1 16 k ks.length [.str s] 1 K :=
  ap_own g.pre g.K rfl (by unfold Lim; omega) fun k' H' o e f => hK k' H' ⟨e.pre, g.X.ex e g.xk.symm g.ko, g.Y.after g.yk.symm e, by rw [List.map_append, List.length_append]; exact o, g.V.after g.kv e,
    g.xy, (Dj.fresh g.X.own f).symm, g.xv, (Dj.fresh g.Y f).symm, g.yv, Dj.fresh g.V f, g.yo, g.X.offNew f, g.vo, g.lo⟩
theorem LJ.val (g : LJ B H x m cs T y ls k ks v vs) (s : ByteArray) (hn : vs.length ≤ 1000) {K : Pl → Nat → Hp → Prop} (hK : ∀ v' H', LJ B H' x m cs T y ls k ks v' (vs ++ [s]) → K v' (vs.length + 1) H') : ap H tS 1 16 v vs.length [.str s] 1 K :=
  ap_own g.pre g.V rfl (by unfold Lim; omega) fun v' H' o e f => hK v' H' ⟨e.pre, g.X.ex e g.xv.symm g.vo, g.Y.after g.yv.symm e, g.K.after g.kv.symm e, by rw [List.map_append, List.length_append]; exact o,
    g.xy, g.xk, (Dj.fresh g.X.own f).symm, g.yk, (Dj.fresh g.Y f).symm, (Dj.fresh g.K f).symm, g.yo, g.ko, g.X.offNew f, g.lo⟩
/-- a page done -/
theorem LJ.page (g : LJ B H x m cs T y ls k ks v vs) (hks : ks.length ≤ 1000) (hvs : vs.length ≤ 1000) (hm : m ≤ 1000) (s : ByteArray) {K : Pl → Nat → Hp → Pl → Nat → Hp → Prop}
    (hK : ∀ x' H1 y' H2 c, LJ B H2 x' (m + 1) (cs ++ [c]) (T ++ [⟨true, true, ks, vs, []⟩]) y' (ls ++ [s]) none [] none [] → K x' (m + 1) H1 y' (m + 1) H2) :
    ap H tPg 5 80 x m [.bool true, .bool true, .sl k ks.length 1, .sl v vs.length 1, .sl none 0 1] 1 fun x' n' H1 => ap H1 tS 1 16 y m [.str s] 1 fun y' n2 H2 => K x' n' H1 y' n2 H2 := by
  have hon : ∀ l, (⟨true, true, k, ks.length, v, vs.length, none, 0⟩ : PC).on l → k = some (l, 0) ∨ v = some (l, 0) := by
    rintro l ⟨o, q | q | q⟩
    · left; rcases g.K with ⟨e, _⟩ | ⟨l', e, _⟩
      · simp at q; rw [e] at q; cases q
      · simp at q; rw [e] at q; cases q; exact e
    · right; rcases g.V with ⟨e, _⟩ | ⟨l', e, _⟩
      · simp at q; rw [e] at q; cases q
      · simp at q; rw [e] at q; cases q; exact e
    · cases q
  have hat : (⟨true, true, k, ks.length, v, vs.length, none, 0⟩ : PC).at H ⟨true, true, ks, vs, []⟩ :=
    ⟨rfl, rfl, ⟨g.K.cells, rfl, by show ks.length * 16 ≤ _; omega⟩, ⟨g.V.cells, rfl, by show vs.length * 16 ≤ _; omega⟩, .nil _⟩
  refine g.X.add (c := ⟨true, true, k, ks.length, v, vs.length, none, 0⟩) g.pre hat (fun l hl e => by rcases hon l hl with q | q; exact g.xk l e q; exact g.xv l e q) (by unfold Lim; omega) fun x' H1 o1 e1 f1 => ?_
  have yo1 : ∀ c ∈ cs ++ [(⟨true, true, k, ks.length, v, vs.length, none, 0⟩ : PC)], ∀ l, c.on l → y ≠ some (l, 0) := by
    intro c hc l hl e
    rcases List.mem_append.1 hc with q | q
    · exact g.yo c q l hl e
    · rw [List.mem_singleton.1 q] at hl
      rcases hon l hl with q | q
      · exact g.yk l e q
      · exact g.yv l e q
  have f1' : ∀ l o, x' = some (l, o) → H.length ≤ l := fun l o e => (f1 l o e).1
  refine ap_own e1.pre (g.Y.after g.xy e1) rfl (by unfold Lim; omega) fun y' H2 o2 e2 f2 => hK x' H1 y' H2 _ ⟨e2.pre, o1.ex e2 (Dj.fresh g.Y f1').symm yo1, by rw [List.map_append]; exact o2, .inl ⟨rfl, rfl, rfl⟩, .inl ⟨rfl, rfl, rfl⟩,
    (Dj.fresh o1.own f2).symm, fun _ _ e => (by cases e), fun _ _ e => (by cases e), fun _ _ e => (by cases e), fun _ _ e => (by cases e), fun _ e => (by cases e), o1.offNew f2, fun c hc l hl e => (by cases e), fun c hc l hl e => (by cases e), fun c hc l hl => by
      rcases List.mem_append.1 hc with q | q
      · exact g.lo c q l hl
      · rw [List.mem_singleton.1 q] at hl
        rcases hon l hl with q | q
        · rcases g.K with ⟨e, _⟩ | ⟨l', e, hb, _⟩
          · rw [q] at e; cases e
          · rw [q] at e; cases e; exact hb
        · rcases g.V with ⟨e, _⟩ | ⟨l', e, hb, _⟩
          · rw [q] at e; cases e
          · rw [q] at e; cases e; exact hb⟩
end

section
variable {H0 : Hp} {Q : Post} {a : Pl} {n : Nat} {ps : KV}
theorem ref9_leaves_spec (hp : Kv H0 a n ps) (hn : n ≤ 1000)
    (hQ : ∀ x y cs H', H0 <+: H' → OT H' H0.length tPg x (leavesD ps).length cs ((leavesD ps).map (·.1)) → Own H' H0.length tS y (leavesD ps).length (((leavesD ps).map (·.2)).map GV.str) → Dj x y → (∀ c ∈ cs, ∀ l, c.on l → y ≠ some (l, 0)) → (∀ c ∈ cs, ∀ l, c.on l → H0.length ≤ l) →
      Q (.agg [.sl x (leavesD ps).length 5, .sl y (leavesD ps).length 1]) H') : ref9_leaves [.g (.sl a n 2)] H0 Q := by
  have hpl := hp.len
  refine ⟨n + 3 * kOf ps.length 4 + 5, ?_⟩
  rw [ref9_leaves_eq]
  have enI : nI n = ((ps.length : Nat) : Int) := by rw [nI_def, hpl]
  rw [enI]
  refine ref9_sizes_spec (n := ps.length) (most := 4) (by omega) (by omega) (by omega) fun sa B pB _ hS => ?_
  simp only [rG_g, dL_sl]
  have hk := kOf_pos ps.length 4
  have hD : leavesD ps = (List.range (kOf ps.length 4)).map (leafAt ps (kOf ps.length 4)) := rfl
  have hSD : sizesD ps.length 4 = (List.range (kOf ps.length 4)).map fun i => cutN ps.length (kOf ps.length 4) (i + 1) - cutN ps.length (kOf ps.length 4) i := rfl
  have hk2 : kOf ps.length 4 ≤ 1001 := by
    unfold kOf
    have : (ps.length + 4 - 1) / 4 ≤ ps.length := by omega
    omega
  generalize kOf ps.length 4 = k at *
  have hDl : (leavesD ps).length = k := by rw [hD]; simp
  have hsl : ((sizesD ps.length 4).map fun (x : Nat) => (x : Int)).length = k := by rw [hSD]; simp
  have hsg : ∀ i (h : i < ((sizesD ps.length 4).map fun (x : Nat) => (x : Int)).length), ((sizesD ps.length 4).map fun (x : Nat) => (x : Int))[i] = ((cutN ps.length k (i + 1) - cutN ps.length k i : Nat) : Int) := fun i h => by
    simp only [hSD, List.getElem_map, List.getElem_range]
  have loop : ∀ (F i : Nat) (H : Hp) (x : Pl) (cs : List PC) (y : Pl), n + 3 * (k - i) + 1 < F + cutN ps.length k i → i ≤ k → LJ B H x i cs (((List.range i).map (leafAt ps k)).map (·.1)) y (((List.range i).map (leafAt ps k)).map (·.2)) none [] none [] →
      ref9_leaves.l5 F a n none 0 none 0 x i y i sa k ((cutN ps.length k i : Nat) : Int) (i : Int) H Q := by
    intro F
    induction F using Nat.strongRecOn with
    | _ F ihF =>
      intro i H x cs y hF hi g
      have hci := cutN_le (n := ps.length) (k := k) (i := i) hi hk
      obtain ⟨F, rfl⟩ : ∃ F', F = F' + 1 := ⟨F - 1, by omega⟩
      rw [ref9_leaves.l5_eq]
      by_cases hik : i < k
      · rw [bite_t (by simp; omega)]
        have hmono := cutN_mono ps.length k i
        have hci1 := cutN_le (n := ps.length) (k := k) (i := i + 1) (by omega) hk
        -- what the page has
        have inner : ∀ (d G : Nat) (j : Nat) (H : Hp) (kk : Pl) (v : Pl), cutN ps.length k (i + 1) - j = d → cutN ps.length k i ≤ j → j ≤ cutN ps.length k (i + 1) → n + 3 * (k - i) < G + j → G ≤ F →
            LJ B H x i cs (((List.range i).map (leafAt ps k)).map (·.1)) y (((List.range i).map (leafAt ps k)).map (·.2)) kk (((ps.drop (cutN ps.length k i)).take (j - cutN ps.length k i)).map (·.1)) v (((ps.drop (cutN ps.length k i)).take (j - cutN ps.length k i)).map (·.2)) →
            ref9_leaves.l9 G a n none 0 none 0 x i y i sa k ((cutN ps.length k i : Nat) : Int) (i : Int) true true kk (((ps.drop (cutN ps.length k i)).take (j - cutN ps.length k i)).map (·.1)).length v (((ps.drop (cutN ps.length k i)).take (j - cutN ps.length k i)).map (·.2)).length none 0 (j : Int) H Q := by
          intro d
          induction d with
          | zero =>
            intro G j H kk v hd hj1 hj2 hG hGF g
            obtain rfl : j = cutN ps.length k (i + 1) := by omega
            obtain ⟨G, rfl⟩ : ∃ G', G = G' + 2 := ⟨G - 2, by omega⟩
            have hS' := hS.mono g.pre
            rw [ref9_leaves.l9_eq, chk_true, hS'.rd i rfl (by rw [hsl]; exact hik), hsg]
            have w1 : wrapI .i64 (((cutN ps.length k i : Nat) : Int) + ((cutN ps.length k (i + 1) - cutN ps.length k i : Nat) : Int)) = ((cutN ps.length k (i + 1) : Nat) : Int) := by rw [wrap64 (by omega) (by omega)]; omega
            rw [w1, bite_f (by simp), chk_true, hS'.rd i rfl (by rw [hsl]; exact hik), hsg]
            have hle : ((ps.drop (cutN ps.length k i)).take (cutN ps.length k (i + 1) - cutN ps.length k i)).length ≤ 1000 := by simp; omega
            -- behind it
            have fin : ∀ s, s = (leafAt ps k i).2 → ref9_leaves.l16 (G + 1) a n none 0 none 0 x i y i sa k ((cutN ps.length k i : Nat) : Int) (i : Int) true true kk (((ps.drop (cutN ps.length k i)).take (cutN ps.length k (i + 1) - cutN ps.length k i)).map (·.1)).length v (((ps.drop (cutN ps.length k i)).take (cutN ps.length k (i + 1) - cutN ps.length k i)).map (·.2)).length none 0 s H Q := by
              intro s hs
              rw [ref9_leaves.l16_eq, chk_true]
              refine g.page (by simpa using hle) (by simpa using hle) (by omega) s (K := fun x0 n1 H2 x3 n4 H5 => chk true (chk ((leI 0 (i : Int)) && (ltI (i : Int) (nI k))) (pS sa fun n6 n7 => rd H5 n6 (n7 + ((tN (i : Int)) * 1)) fun v8 => dI .i64 v8 fun i9 => ref9_leaves.l5 G a n none 0 none 0 x0 n1 x3 n4 sa k (wrapI .i64 (((cutN ps.length k i : Nat) : Int) + i9)) (wrapI .i64 ((i : Int) + 1)) H5 Q))) ?_
              intro x' H1 y' H2 c g2
              have hS2 := hS.mono g2.pre
              rw [chk_true, hS2.rd i rfl (by rw [hsl]; exact hik), hsg, w1, wrap_succ (by omega)]
              refine ihF G (by omega) (i + 1) H2 x' (cs ++ [c]) y' (by omega) (by omega) ?_
              rw [List.range_succ, List.map_append, List.map_append, List.map_append]
              rw [hs] at g2
              exact g2
            refine bite_of (fun e => ?_) (fun e => ?_)
            · have h0 : 0 < cutN ps.length k (i + 1) - cutN ps.length k i := by simp at e; omega
              have hlt : cutN ps.length k i < ps.length := by omega
              obtain ⟨l, o, ea, hg1, hg2⟩ := (hp.mono (pB.trans g.pre)).get hlt
              subst ea
              rw [chk_true]
              refine chk_of (by simp; omega) ?_
              have etN : tN ((cutN ps.length k i : Nat) : Int) = cutN ps.length k i := rfl
              rw [pS_some, etN, rd_of (v := .str ps[cutN ps.length k i].1) (by exact hg1), dS_str]
              exact fin _ (by unfold leafAt; rw [decide_eq_true h0]; simp [hlt])
            · have h0 : ¬ 0 < cutN ps.length k (i + 1) - cutN ps.length k i := by simp at e; omega
              exact fin _ (by unfold leafAt; rw [decide_eq_false h0])
          | succ d ihd =>
            intro G j H kk v hd hj1 hj2 hG hGF g
            obtain ⟨G, rfl⟩ : ∃ G', G = G' + 1 := ⟨G - 1, by omega⟩
            have hS' := hS.mono g.pre
            have hjl : j < ps.length := by omega
            rw [ref9_leaves.l9_eq, chk_true, hS'.rd i rfl (by rw [hsl]; exact hik), hsg]
            have w1 : wrapI .i64 (((cutN ps.length k i : Nat) : Int) + ((cutN ps.length k (i + 1) - cutN ps.length k i : Nat) : Int)) = ((cutN ps.length k (i + 1) : Nat) : Int) := by rw [wrap64 (by omega) (by omega)]; omega
            rw [w1, bite_t (by simp; omega), chk_true]
            obtain ⟨l, o, ea, hg1, hg2⟩ := (hp.mono pB).get hjl
            subst ea
            have etN : tN (j : Int) = j := rfl
            have hlen : ((ps.drop (cutN ps.length k i)).take (j - cutN ps.length k i)).length ≤ 1000 := by simp; omega
            have hnext : (ps.drop (cutN ps.length k i)).take (j + 1 - cutN ps.length k i) = (ps.drop (cutN ps.length k i)).take (j - cutN ps.length k i) ++ [ps[j]] := by
              have e1 : j + 1 - cutN ps.length k i = (j - cutN ps.length k i) + 1 := by omega
              rw [e1, List.take_succ_eq_append_getElem (by simp; omega)]
              congr 1
              simp
              congr 1
              omega
            refine chk_of (by simp; omega) ?_
            rw [pS_some, etN, rd_of (v := .str ps[j].1) (by exact gt_pre g.pre hg1), dS_str, chk_true]
            refine g.key ps[j].1 (by simpa using hlen) fun k' H1 g1 => ?_
            rw [chk_true]
            refine chk_of (by simp; omega) ?_
            rw [pS_some, rd_of (v := .str ps[j].2) (by exact gt_pre g1.pre hg2), dS_str, chk_true]
            refine g1.val ps[j].2 (by simpa using hlen) fun v' H2 g2 => ?_
            rw [wrap_succ (by omega)]
            have := ihd G (j + 1) H2 k' v' (by omega) (by omega) (by omega) (by omega) (by omega) (by rw [hnext, List.map_append, List.map_append]; exact g2)
            rw [hnext, List.map_append, List.map_append, List.length_append, List.length_append] at this
            exact this
        have := inner _ F (cutN ps.length k i) H none none rfl (Nat.le_refl _) hmono (by omega) (Nat.le_refl _) (by simpa using g)
        simpa using this
      · obtain rfl : i = k := by omega
        rw [bite_f (by simp)]
        have := hQ x y cs H (pB.trans g.pre)
        rw [hDl, hD] at this
        have hbl := pB.length_le
        refine this ⟨?_, g.X.len, g.X.lenT, g.X.all, g.X.off⟩ ?_ g.xy g.yo (fun c hc l hl => by have := g.lo c hc l hl; omega)
        · rcases g.X.own with h | ⟨l, h1, h2, h3⟩
          · exact .inl h
          · exact .inr ⟨l, h1, by omega, h3⟩
        · rcases g.Y with h | ⟨l, h1, h2, h3⟩
          · exact .inl h
          · exact .inr ⟨l, h1, by omega, h3⟩
  have := loop (n + 3 * k + 4) 0 B none [] none (by rw [cutN_zero]; omega) (Nat.zero_le _) ⟨List.prefix_refl _, OT.nil _ _ _, .inl ⟨rfl, rfl, rfl⟩, .inl ⟨rfl, rfl, rfl⟩, .inl ⟨rfl, rfl, rfl⟩, fun _ e => (by cases e), fun _ e => (by cases e), fun _ e => (by cases e), fun _ e => (by cases e), fun _ e => (by cases e), fun _ e => (by cases e), fun c hc => (by simp at hc), fun c hc => (by simp at hc), fun c hc => (by simp at hc), fun c hc => (by simp at hc)⟩
  rw [cutN_zero] at this
  exact this
end
end Go.Am
namespace Go.Am

/-! rows that one writes (M), rows that stay (F), pages (P): apart -/
structure Sp (H : Hp) (M F : List Pl) (P : List PC) : Prop where
  mm : ∀ i j, i ≠ j → Dj (M.getD i none) (M.getD j none)
  mf : ∀ i, ∀ b ∈ F, Dj (M.getD i none) b
  mp : ∀ i, ∀ c ∈ P, ∀ l, c.on l → M.getD i none ≠ some (l, 0)
  lm : ∀ i l o, M.getD i none = some (l, o) → l < H.length
  lf : ∀ b ∈ F, ∀ l o, b = some (l, o) → l < H.length
  lp : ∀ c ∈ P, ∀ l, c.on l → l < H.length
section
variable {H H' : Hp} {M F : List Pl} {P : List PC} {B : Hp}
theorem getD_set (M : List Pl) (j : Nat) (a : Pl) (i : Nat) : (M.set j a).getD i none = a ∨ (M.set j a).getD i none = M.getD i none := by
  rw [List.getD_eq_getElem?_getD, List.getElem?_set]
  split
  · split
    · exact .inl rfl
    · right; rename_i e h; subst e; rw [List.getD_eq_getElem?_getD, List.getElem?_eq_none (by omega)]
  · right; rw [List.getD_eq_getElem?_getD]
theorem getD_set_self (M : List Pl) (j : Nat) (a : Pl) (i : Nat) (h : (M.set j a).getD i none ≠ M.getD i none) : i = j := by
  rw [List.getD_eq_getElem?_getD, List.getElem?_set, List.getD_eq_getElem?_getD] at h
  split at h
  · rename_i e; exact e.symm
  · exact (h rfl).elim
theorem Sp.grow (h : Sp H M F P) (hl : H.length ≤ H'.length) : Sp H' M F P :=
  ⟨h.mm, h.mf, h.mp, fun i l o e => Nat.lt_of_lt_of_le (h.lm i l o e) hl, fun b hb l o e => Nat.lt_of_lt_of_le (h.lf b hb l o e) hl, fun c hc l e => Nat.lt_of_lt_of_le (h.lp c hc l e) hl⟩
/-- one of them anew -/
theorem Sp.step (h : Sp H M F P) (hl : H.length ≤ H'.length) (j : Nat) {a : Pl} (f : ∀ l o, a = some (l, o) → H.length ≤ l ∧ l < H'.length) : Sp H' (M.set j a) F P := by
  refine ⟨fun i k hne l e1 e2 => ?_, fun i b hb l e1 e2 => ?_, fun i c hc l hl e => ?_, fun i l o e => ?_, fun b hb l o e => Nat.lt_of_lt_of_le (h.lf b hb l o e) hl, fun c hc l e => Nat.lt_of_lt_of_le (h.lp c hc l e) hl⟩
  · by_cases q1 : (M.set j a).getD i none = M.getD i none
    · by_cases q2 : (M.set j a).getD k none = M.getD k none
      · rw [q1] at e1; rw [q2] at e2; exact h.mm i k hne l e1 e2
      · rcases getD_set M j a k with q | q
        · rw [q] at e2; rw [q1] at e1
          have := f l 0 e2; have := h.lm i l 0 e1; omega
        · exact q2 q
    · by_cases q2 : (M.set j a).getD k none = M.getD k none
      · rcases getD_set M j a i with q | q
        · rw [q] at e1; rw [q2] at e2
          have := f l 0 e1; have := h.lm k l 0 e2; omega
        · exact q1 q
      · exact hne ((getD_set_self M j a i q1).trans (getD_set_self M j a k q2).symm)
  · rcases getD_set M j a i with q | q
    · rw [q] at e1; have := f l 0 e1; have := h.lf b hb l 0 e2; omega
    · rw [q] at e1; exact h.mf i b hb l e1 e2
  · rcases getD_set M j a i with q | q
    · rw [q] at e; have := f l 0 e; have := h.lp c hc l hl; omega
    · rw [q] at e; exact h.mp i c hc l hl e
  · rcases getD_set M j a i with q | q
    · rw [q] at e; exact (f l o e).2
    · rw [q] at e; exact Nat.lt_of_lt_of_le (h.lm i l o e) hl
end

/-! pages written -/
theorem pcells_set (cs : List PC) (i : Nat) (c : PC) (hi : i < cs.length) : (((((pcells cs).set (i * 5) (.bool c.u)).set (i * 5 + 1) (.bool c.l)).set (i * 5 + 1 + 1) (.sl c.a1 c.n1 1)).set (i * 5 + 1 + 1 + 1) (.sl c.a2 c.n2 1)).set (i * 5 + 1 + 1 + 1 + 1) (.sl c.a3 c.n3 1) = pcells (cs.set i c) := by
  induction cs generalizing i with
  | nil => simp at hi
  | cons d cs ih =>
    have e : pcells (d :: cs) = d.cells ++ pcells cs := rfl
    cases i with
    | zero => rw [e]; rfl
    | succ i =>
      have := ih i (by simpa using hi)
      rw [e]
      have s : ∀ (x : List GV) (k : Nat) (v : GV), (d.cells ++ x).set (i * 5 + 5 + k) v = d.cells ++ x.set (i * 5 + k) v := fun x k v => by
        rw [List.set_append_right _ _ (by simp; omega)]
        congr 2
        simp; omega
      have e5 : (i + 1) * 5 = i * 5 + 5 + 0 := by omega
      have q1 : (i + 1) * 5 + 1 = i * 5 + 5 + 1 := by omega
      have q2 : (i + 1) * 5 + 1 + 1 = i * 5 + 5 + (1 + 1) := by omega
      have q3 : (i + 1) * 5 + 1 + 1 + 1 = i * 5 + 5 + (1 + 1 + 1) := by omega
      have q4 : (i + 1) * 5 + 1 + 1 + 1 + 1 = i * 5 + 5 + (1 + 1 + 1 + 1) := by omega
      rw [q4, q3, q2, q1, e5, s, s, s, s, s]
      show d.cells ++ _ = d.cells ++ pcells (cs.set i c)
      rw [← this]
      rfl
theorem wr5 {H : Hp} {l : Nat} {t : TypeId} {cs : List PC} {i : Nat} {c : PC} {K : Hp → Prop} (h : H[l]? = some (.row true t (pcells cs))) (hi : i < cs.length) (hK : K (H.set l (.row true t (pcells (cs.set i c))))) :
    wr H l (i * 5) (.bool c.u) fun H1 => wr H1 l (i * 5 + 1) (.bool c.l) fun H2 => wr H2 l (i * 5 + 1 + 1) (.sl c.a1 c.n1 1) fun H3 => wr H3 l (i * 5 + 1 + 1 + 1) (.sl c.a2 c.n2 1) fun H4 => wr H4 l (i * 5 + 1 + 1 + 1 + 1) (.sl c.a3 c.n3 1) K := by
  have hl := (List.getElem?_eq_some_iff.1 h).1
  have hlen := pcells_length cs
  refine wr_row h (by omega) ?_
  refine wr_row (own := t) (cs := (pcells cs).set (i * 5) (.bool c.u)) (List.getElem?_set_self hl) (by simp; omega) ?_
  rw [List.set_set]
  refine wr_row (own := t) (cs := ((pcells cs).set (i * 5) (.bool c.u)).set (i * 5 + 1) (.bool c.l)) (List.getElem?_set_self hl) (by simp; omega) ?_
  rw [List.set_set]
  refine wr_row (own := t) (cs := (((pcells cs).set (i * 5) (.bool c.u)).set (i * 5 + 1) (.bool c.l)).set (i * 5 + 1 + 1) (.sl c.a1 c.n1 1)) (List.getElem?_set_self hl) (by simp; omega) ?_
  rw [List.set_set]
  refine wr_row (own := t) (cs := ((((pcells cs).set (i * 5) (.bool c.u)).set (i * 5 + 1) (.bool c.l)).set (i * 5 + 1 + 1) (.sl c.a1 c.n1 1)).set (i * 5 + 1 + 1 + 1) (.sl c.a2 c.n2 1)) (List.getElem?_set_self hl) (by simp; omega) ?_
  rw [List.set_set, pcells_set cs i c hi]
  exact hK
/-- a page of a row of one's own written -/
theorem OT.place {B H : Hp} {t : TypeId} {tp : Nat} {n : Nat} {cs : List PC} {T : List Pg} {i : Nat} {c : PC} {p : Pg} (h : OT H B.length t (some (tp, 0)) n cs T) (hi : i < n) (hc : c.at H p) (hoff : ∀ l, c.on l → l ≠ tp) :
    OT (H.set tp (.row true t (pcells (cs.set i c)))) B.length t (some (tp, 0)) n (cs.set i c) (T.set i p) := by
  have q1 := h.len
  have q2 := h.lenT
  rcases h.own with ⟨e, _⟩ | ⟨l, e, hb, hr, hl⟩
  · cases e
  cases e
  have hlt := (List.getElem?_eq_some_iff.1 hr).1
  have hoffT : ∀ d ∈ cs, ∀ l, d.on l → l ≠ tp := fun d hd l hl e => h.off d hd l hl (by rw [e])
  refine ⟨.inr ⟨tp, rfl, hb, List.getElem?_set_self hlt, by rw [pcells_length]; simp [q1]⟩, by simp [q1], by simp [q2], fun j h1 h2 => ?_, fun d hd l hl e => ?_⟩
  · rw [List.getElem_set, List.getElem_set]
    by_cases e : i = j
    · rw [if_pos e, if_pos e]
      exact hc.keep fun l hl => by rw [List.getElem?_set_ne (Ne.symm (hoff l hl))]
    · rw [if_neg e, if_neg e]
      simp at h1 h2
      exact (h.all j h1 h2).keep fun l hl => by rw [List.getElem?_set_ne (Ne.symm (hoffT _ (List.getElem_mem _) l hl))]
  · have e' : l = tp := by cases e; rfl
    rcases List.mem_or_eq_of_mem_set hd with q | q
    · exact hoffT d q l hl e'
    · subst q; exact hoff l hl e'
end Go.Am
namespace Go.Am

section
variable {H : Hp} {M F : List Pl} {P P' : List PC} {c : PC}
theorem Sp.sub (h : Sp H M F P) (hs : ∀ c ∈ P', c ∈ P) : Sp H M F P' := ⟨h.mm, h.mf, fun i c hc => h.mp i c (hs c hc), h.lm, h.lf, fun c hc => h.lp c (hs c hc)⟩
theorem Sp.addP (h : Sp H M F P) (hc : ∀ i l, c.on l → M.getD i none ≠ some (l, 0)) (hl : ∀ l, c.on l → l < H.length) : Sp H M F (P ++ [c]) :=
  ⟨h.mm, h.mf, fun i d hd l hon => by
    rcases List.mem_append.1 hd with q | q
    · exact h.mp i d q l hon
    · rw [List.mem_singleton.1 q] at hon; exact hc i l hon, h.lm, h.lf, fun d hd l hon => by
    rcases List.mem_append.1 hd with q | q
    · exact h.lp d q l hon
    · rw [List.mem_singleton.1 q] at hon; exact hl l hon⟩
theorem Own.ltAny {H : Hp} {b : Nat} {t : TypeId} {a : Pl} {n : Nat} {cs : List GV} (h : Own H b t a n cs) {l o : Nat} (e : a = some (l, o)) : l < H.length := by
  rcases h with ⟨q, _⟩ | ⟨m, q, _, hr, _⟩
  · rw [q] at e; cases e
  · rw [q] at e; cases e; exact (List.getElem?_eq_some_iff.1 hr).1
theorem Own.zero {H : Hp} {b : Nat} {t : TypeId} {a : Pl} {n : Nat} {cs : List GV} (h : Own H b t a n cs) {l o : Nat} (e : a = some (l, o)) : a = some (l, 0) := by
  rcases h with ⟨q, _⟩ | ⟨m, q, _, hr, _⟩
  · rw [q] at e; cases e
  · rw [q] at e; cases e; exact q
end

/-- a level of pages being built -/
structure BJ (B H : Hp) (tp : Nat) (tcs : List PC) (T : List Pg) (x : Pl) (n : Nat) (xcs : List PC) (xT : List Pg) (y : Pl) (yls : List ByteArray) (sa : Pl) (k : Nat) (ss : List Int)
    (up : Pl) (m : Nat) (ucs : List PC) (uT : List Pg) (ul : Pl) (m2 : Nat) (uls : List ByteArray) (kk : Pl) (ks : List ByteArray) (ii : Pl) (is : List Int) : Prop where
  pre : B <+: H
  TP : OT H B.length tPg (some (tp, 0)) 48 tcs T
  X : OT H B.length tPg x n xcs xT
  Y : Own H B.length tS y n (yls.map GV.str)
  S : Own H B.length tI sa k (ss.map (GV.int .i64))
  UP : OT H B.length tPg up m ucs uT
  UL : Own H B.length tS ul m2 (uls.map GV.str)
  K : Own H B.length tS kk ks.length (ks.map GV.str)
  I : Own H B.length tI ii is.length (is.map (GV.int .i64))
  sp : Sp H [some (tp, 0), up, ul, kk, ii] [x, y, sa] (tcs ++ xcs ++ ucs)
section
variable {B H : Hp} {tp : Nat} {tcs : List PC} {T : List Pg} {x : Pl} {n : Nat} {xcs : List PC} {xT : List Pg} {y : Pl} {yls : List ByteArray} {sa : Pl} {k : Nat} {ss : List Int}
    {up : Pl} {m : Nat} {ucs : List PC} {uT : List Pg} {ul : Pl} {m2 : Nat} {uls : List ByteArray} {kk : Pl} {ks : List ByteArray} {ii : Pl} {is : List Int}
theorem BJ.kid (g : BJ B H tp tcs T x n xcs xT y yls sa k ss up m ucs uT ul m2 uls kk ks ii is) (s : Int) (hn : is.length ≤ 1000) {K : Pl → Nat → Hp → Prop}
    (hK : ∀ i' H', BJ B H' tp tcs T x n xcs xT y yls sa k ss up m ucs uT ul m2 uls kk ks i' (is ++ [s]) → K i' (is.length + 1) H') : ap H tI 1 8 ii is.length [.int .i64 s] 1 K :=
  ap_own g.pre g.I rfl (by unfold Lim; omega) fun i' H' o e f => hK i' H'
    ⟨e.pre, g.TP.ex e (g.sp.mm 4 0 (by decide)) (fun c hc l hl => g.sp.mp 4 c (by simp [hc]) l hl), g.X.ex e (g.sp.mf 4 x (by simp)) (fun c hc l hl => g.sp.mp 4 c (by simp [hc]) l hl), g.Y.after (g.sp.mf 4 y (by simp)) e, g.S.after (g.sp.mf 4 sa (by simp)) e,
     g.UP.ex e (g.sp.mm 4 1 (by decide)) (fun c hc l hl => g.sp.mp 4 c (by simp [hc]) l hl), g.UL.after (g.sp.mm 4 2 (by decide)) e, g.K.after (g.sp.mm 4 3 (by decide)) e, by rw [List.map_append, List.length_append]; exact o,
     g.sp.step e.len 4 (fun l o' q => ⟨f l o' q, o.ltAny q⟩)⟩
theorem BJ.key (g : BJ B H tp tcs T x n xcs xT y yls sa k ss up m ucs uT ul m2 uls kk ks ii is) (s : ByteArray) (hn : ks.length ≤ 1000) {K : Pl → Nat → Hp → Prop}
    (hK : ∀ k' H', BJ B H' tp tcs T x n xcs xT y yls sa k ss up m ucs uT ul m2 uls k' (ks ++ [s]) ii is → K k' (ks.length + 1) H') : ap H tS 1 16 kk ks.length [.str s] 1 K :=
  ap_own g.pre g.K rfl (by unfold Lim; omega) fun i' H' o e f => hK i' H'
    ⟨e.pre, g.TP.ex e (g.sp.mm 3 0 (by decide)) (fun c hc l hl => g.sp.mp 3 c (by simp [hc]) l hl), g.X.ex e (g.sp.mf 3 x (by simp)) (fun c hc l hl => g.sp.mp 3 c (by simp [hc]) l hl), g.Y.after (g.sp.mf 3 y (by simp)) e, g.S.after (g.sp.mf 3 sa (by simp)) e,
     g.UP.ex e (g.sp.mm 3 1 (by decide)) (fun c hc l hl => g.sp.mp 3 c (by simp [hc]) l hl), g.UL.after (g.sp.mm 3 2 (by decide)) e, by rw [List.map_append, List.length_append]; exact o, g.I.after (g.sp.mm 3 4 (by decide)) e,
     g.sp.step e.len 3 (fun l o' q => ⟨f l o' q, o.ltAny q⟩)⟩
theorem BJ.least (g : BJ B H tp tcs T x n xcs xT y yls sa k ss up m ucs uT ul m2 uls kk ks ii is) (s : ByteArray) (hn : m2 ≤ 1000) {K : Pl → Nat → Hp → Prop}
    (hK : ∀ k' H', BJ B H' tp tcs T x n xcs xT y yls sa k ss up m ucs uT k' (m2 + 1) (uls ++ [s]) kk ks ii is → K k' (m2 + 1) H') : ap H tS 1 16 ul m2 [.str s] 1 K :=
  ap_own g.pre g.UL rfl (by unfold Lim; omega) fun i' H' o e f => hK i' H'
    ⟨e.pre, g.TP.ex e (g.sp.mm 2 0 (by decide)) (fun c hc l hl => g.sp.mp 2 c (by simp [hc]) l hl), g.X.ex e (g.sp.mf 2 x (by simp)) (fun c hc l hl => g.sp.mp 2 c (by simp [hc]) l hl), g.Y.after (g.sp.mf 2 y (by simp)) e, g.S.after (g.sp.mf 2 sa (by simp)) e,
     g.UP.ex e (g.sp.mm 2 1 (by decide)) (fun c hc l hl => g.sp.mp 2 c (by simp [hc]) l hl), by rw [List.map_append]; exact o, g.K.after (g.sp.mm 2 3 (by decide)) e, g.I.after (g.sp.mm 2 4 (by decide)) e,
     g.sp.step e.len 2 (fun l o' q => ⟨f l o' q, o.ltAny q⟩)⟩
/-- a page done -/
theorem BJ.page (g : BJ B H tp tcs T x n xcs xT y yls sa k ss up m ucs uT ul m2 uls kk ks ii is) (hks : ks.length ≤ 1000) (his : is.length ≤ 1000) (hm : m ≤ 1000) {K : Pl → Nat → Hp → Prop}
    (hK : ∀ u' H' c, BJ B H' tp tcs T x n xcs xT y yls sa k ss u' (m + 1) (ucs ++ [c]) (uT ++ [⟨true, false, ks, [], is⟩]) ul m2 uls none [] none [] → K u' (m + 1) H') :
    ap H tPg 5 80 up m [.bool true, .bool false, .sl kk ks.length 1, .sl none 0 1, .sl ii is.length 1] 1 K := by
  have hon : ∀ l, (⟨true, false, kk, ks.length, none, 0, ii, is.length⟩ : PC).on l → kk = some (l, 0) ∨ ii = some (l, 0) := by
    rintro l ⟨o, q | q | q⟩
    · exact .inl (g.K.zero q)
    · cases q
    · exact .inr (g.I.zero q)
  have hat : (⟨true, false, kk, ks.length, none, 0, ii, is.length⟩ : PC).at H ⟨true, false, ks, [], is⟩ :=
    ⟨rfl, rfl, ⟨g.K.cells, rfl, by show ks.length * 16 ≤ _; omega⟩, .nil _, ⟨g.I.cells, rfl, by show is.length * 8 ≤ _; omega⟩⟩
  refine g.UP.add (c := ⟨true, false, kk, ks.length, none, 0, ii, is.length⟩) g.pre hat (fun l hl e => by rcases hon l hl with q | q; exact g.sp.mm 1 3 (by decide) l e q; exact g.sp.mm 1 4 (by decide) l e q) (by unfold Lim; omega) fun u' H1 o1 e1 f1 => hK u' H1 ⟨true, false, kk, ks.length, none, 0, ii, is.length⟩ ?_
  have sp1 : Sp H [some (tp, 0), up, ul, none, none] [x, y, sa] (tcs ++ xcs ++ ucs) := (g.sp.step (Nat.le_refl _) 3 (a := none) (fun _ _ q => by cases q)).step (Nat.le_refl _) 4 (a := none) (fun _ _ q => by cases q)
  have sp2 := sp1.addP (c := ⟨true, false, kk, ks.length, none, 0, ii, is.length⟩) (fun i l hl e => by
    rcases hon l hl with q | q
    · match i, e with
      | 0, e => exact g.sp.mm 0 3 (by decide) l e q
      | 1, e => exact g.sp.mm 1 3 (by decide) l e q
      | 2, e => exact g.sp.mm 2 3 (by decide) l e q
      | 3, e => cases e
      | 4, e => cases e
      | i + 5, e => simp at e
    · match i, e with
      | 0, e => exact g.sp.mm 0 4 (by decide) l e q
      | 1, e => exact g.sp.mm 1 4 (by decide) l e q
      | 2, e => exact g.sp.mm 2 4 (by decide) l e q
      | 3, e => cases e
      | 4, e => cases e
      | i + 5, e => simp at e) (fun l hl => hat.lt hl)
  have sp3 := (sp2.sub (P' := tcs ++ xcs ++ (ucs ++ [⟨true, false, kk, ks.length, none, 0, ii, is.length⟩])) (fun c hc => by rw [List.append_assoc] at *; simpa using hc)).step e1.len 1 (a := u') (fun l o q => ⟨(f1 l o q).1, o1.own.ltAny q⟩)
  exact ⟨e1.pre, g.TP.ex e1 (g.sp.mm 1 0 (by decide)) (fun c hc l hl => g.sp.mp 1 c (by simp [hc]) l hl), g.X.ex e1 (g.sp.mf 1 x (by simp)) (fun c hc l hl => g.sp.mp 1 c (by simp [hc]) l hl), g.Y.after (g.sp.mf 1 y (by simp)) e1, g.S.after (g.sp.mf 1 sa (by simp)) e1,
    o1, g.UL.after (g.sp.mm 1 2 (by decide)) e1, .inl ⟨rfl, rfl, rfl⟩, .inl ⟨rfl, rfl, rfl⟩, sp3⟩
/-- a page put into the tree -/
theorem BJ.place (g : BJ B H tp tcs T x n xcs xT y yls sa k ss up m ucs uT ul m2 uls kk ks ii is) {i j : Nat} (hi : i < 48) {c : PC} {p : Pg} (hc : xcs[j]? = some c) (hp : xT[j]? = some p) {K : Hp → Prop}
    (hK : ∀ H' tcs', BJ B H' tp tcs' (T.set i p) x n xcs xT y yls sa k ss up m ucs uT ul m2 uls kk ks ii is → K H') :
    wr H tp (i * 5) (.bool c.u) fun H1 => wr H1 tp (i * 5 + 1) (.bool c.l) fun H2 => wr H2 tp (i * 5 + 1 + 1) (.sl c.a1 c.n1 1) fun H3 => wr H3 tp (i * 5 + 1 + 1 + 1) (.sl c.a2 c.n2 1) fun H4 => wr H4 tp (i * 5 + 1 + 1 + 1 + 1) (.sl c.a3 c.n3 1) K := by
  obtain ⟨hj, rfl⟩ := List.getElem?_eq_some_iff.1 hc
  obtain ⟨hj', rfl⟩ := List.getElem?_eq_some_iff.1 hp
  have hat := g.X.all j hj hj'
  have hmem : xcs[j] ∈ xcs := List.getElem_mem hj
  have hl := g.TP.len
  rcases g.TP.own with ⟨e, _⟩ | ⟨l, e, hb, hr, hlen⟩
  · cases e
  cases e
  have hoff : ∀ l, (xcs[j]).on l → l ≠ tp := fun l hl e => g.sp.mp 0 _ (by simp [hmem]) l hl (by rw [e]; rfl)
  refine wr5 hr (by omega) ?_
  have e : Ex B (some (tp, 0)) H (H.set tp (.row true tPg (pcells (tcs.set i xcs[j])))) := ⟨pre_set g.pre hb _, by simp, fun l _ hne => by rw [List.getElem?_set_ne]; intro q; subst q; exact hne rfl⟩
  refine hK _ (tcs.set i xcs[j]) ⟨e.pre, g.TP.place hi hat hoff, g.X.ex e (g.sp.mf 0 x (by simp)) (fun c hc l hl => g.sp.mp 0 c (by simp [hc]) l hl), g.Y.after (g.sp.mf 0 y (by simp)) e, g.S.after (g.sp.mf 0 sa (by simp)) e,
    g.UP.ex e (g.sp.mm 0 1 (by decide)) (fun c hc l hl => g.sp.mp 0 c (by simp [hc]) l hl), g.UL.after (g.sp.mm 0 2 (by decide)) e, g.K.after (g.sp.mm 0 3 (by decide)) e, g.I.after (g.sp.mm 0 4 (by decide)) e, (g.sp.grow e.len).sub fun c hc => ?_⟩
  simp only [List.mem_append] at hc ⊢
  rcases hc with (hc | hc) | hc
  · rcases List.mem_or_eq_of_mem_set hc with q | q
    · exact .inl (.inl q)
    · subst q; exact .inl (.inr hmem)
  · exact .inl (.inr hc)
  · exact .inr hc
end
end Go.Am
namespace Go.Am

theorem Own.base {H : Hp} {b b' : Nat} {t : TypeId} {a : Pl} {n : Nat} {cs : List GV} (h : Own H b t a n cs) (hb : b' ≤ b) : Own H b' t a n cs := by
  rcases h with h | ⟨l, h1, h2, h3⟩
  · exact .inl h
  · exact .inr ⟨l, h1, by omega, h3⟩
theorem Own.above {H : Hp} {b : Nat} {t : TypeId} {a : Pl} {n : Nat} {cs : List GV} (h : Own H b t a n cs) {l o : Nat} (e : a = some (l, o)) : b ≤ l := by
  rcases h with ⟨h, _⟩ | ⟨l', h1, h2, _⟩
  · rw [h] at e; cases e
  · rw [h1] at e; cases e; exact h2
/-- a level done -/
structure BS (B H : Hp) (tp : Nat) (tcs : List PC) (T : List Pg) (x : Pl) (n : Nat) (xcs : List PC) (xT : List Pg) (y : Pl) (yls : List ByteArray) : Prop where
  pre : B <+: H
  TP : OT H B.length tPg (some (tp, 0)) 48 tcs T
  X : OT H B.length tPg x n xcs xT
  Y : Own H B.length tS y n (yls.map GV.str)
  sp : Sp H [some (tp, 0)] [x, y] (tcs ++ xcs)
section
variable {B H H' : Hp} {tp : Nat} {tcs : List PC} {T : List Pg} {x : Pl} {n : Nat} {xcs : List PC} {xT : List Pg} {y : Pl} {yls : List ByteArray} {sa : Pl} {k : Nat} {ss : List Int}
    {up : Pl} {m : Nat} {ucs : List PC} {uT : List Pg} {ul : Pl} {uls : List ByteArray}
theorem BS.start (g : BS B H tp tcs T x n xcs xT y yls) (hp : H <+: H') (hS : Own H' H.length tI sa k (ss.map (GV.int .i64))) : BJ B H' tp tcs T x n xcs xT y yls sa k ss none 0 [] [] none 0 [] none [] none [] := by
  have hBl := g.pre.length_le
  have hl := hp.length_le
  refine ⟨g.pre.trans hp, g.TP.mono hp, g.X.mono hp, g.Y.mono hp, hS.base hBl, OT.nil _ _ _, .inl ⟨rfl, rfl, rfl⟩, .inl ⟨rfl, rfl, rfl⟩, .inl ⟨rfl, rfl, rfl⟩, ?_⟩
  have hM : ∀ i l o, ([some (tp, 0), none, none, none, none] : List Pl).getD i none = some (l, o) → i = 0 ∧ l = tp ∧ o = 0 := by
    intro i l o e
    match i, e with
    | 0, e => cases e; exact ⟨rfl, rfl, rfl⟩
    | 1, e => cases e
    | 2, e => cases e
    | 3, e => cases e
    | 4, e => cases e
    | i + 5, e => simp at e
  have htp : tp < H.length := g.sp.lm 0 tp 0 rfl
  refine ⟨fun i j hne l e1 e2 => ?_, fun i b hb l e1 e2 => ?_, fun i c hc l hl' e => ?_, fun i l o e => ?_, fun b hb l o e => ?_, fun c hc l hl' => ?_⟩
  · exact hne ((hM i l 0 e1).1.trans (hM j l 0 e2).1.symm)
  · obtain ⟨_, rfl, _⟩ := hM i l 0 e1
    simp only [List.mem_cons, List.not_mem_nil, or_false] at hb
    rcases hb with rfl | rfl | rfl
    · exact g.sp.mf 0 _ (by simp) l rfl e2
    · exact g.sp.mf 0 _ (by simp) l rfl e2
    · have := hS.above e2; omega
  · obtain ⟨_, rfl, _⟩ := hM i l 0 e
    exact g.sp.mp 0 c (by simpa using hc) l hl' rfl
  · obtain ⟨_, rfl, _⟩ := hM i l o e; omega
  · simp only [List.mem_cons, List.not_mem_nil, or_false] at hb
    rcases hb with rfl | rfl | rfl
    · have := g.sp.lf _ (by simp) l o e; omega
    · have := g.sp.lf _ (by simp) l o e; omega
    · exact hS.ltAny e
  · have := g.sp.lp c (by simpa using hc) l hl'; omega
theorem BJ.done (g : BJ B H tp tcs T x n xcs xT y yls sa k ss up m ucs uT ul m uls none [] none []) : BS B H tp tcs T up m ucs uT ul uls := by
  have hM : ∀ i l o, ([some (tp, 0)] : List Pl).getD i none = some (l, o) → i = 0 ∧ l = tp ∧ o = 0 := by
    intro i l o e
    match i, e with
    | 0, e => cases e; exact ⟨rfl, rfl, rfl⟩
    | i + 1, e => simp at e
  refine ⟨g.pre, g.TP, g.UP, g.UL, fun i j hne l e1 e2 => ?_, fun i b hb l e1 e2 => ?_, fun i c hc l hl' e => ?_, fun i l o e => ?_, fun b hb l o e => ?_, fun c hc l hl' => ?_⟩
  · exact hne ((hM i l 0 e1).1.trans (hM j l 0 e2).1.symm)
  · obtain ⟨_, rfl, _⟩ := hM i l 0 e1
    simp only [List.mem_cons, List.not_mem_nil, or_false] at hb
    rcases hb with rfl | rfl
    · exact g.sp.mm 0 1 (by decide) l rfl e2
    · exact g.sp.mm 0 2 (by decide) l rfl e2
  · obtain ⟨_, rfl, _⟩ := hM i l 0 e
    refine g.sp.mp 0 c ?_ l hl' rfl
    simp only [List.mem_append] at hc ⊢
    rcases hc with q | q
    · exact .inl (.inl q)
    · exact .inr q
  · obtain ⟨_, rfl, _⟩ := hM i l o e
    exact g.sp.lm 0 l 0 rfl
  · simp only [List.mem_cons, List.not_mem_nil, or_false] at hb
    rcases hb with rfl | rfl
    · exact g.sp.lm 1 l o e
    · exact g.sp.lm 2 l o e
  · refine g.sp.lp c ?_ l hl'
    simp only [List.mem_append] at hc ⊢
    rcases hc with q | q
    · exact .inl (.inl q)
    · exact .inr q
end

section
variable {B : Hp} {Q : Post} {tp : Nat}
theorem build_l9 {xs : Lvl} {next0 : Nat} {T0 : List Pg} {x y : Pl} {xcs : List PC} {sa : Pl} {REST : Nat} (hn2 : 2 ≤ xs.length) (hb : next0 + xs.length ≤ 48)
    (hK : ∀ (F : Nat) (H : Hp) (tcs : List PC) (up : Pl) (ucs : List PC) (ul : Pl), REST ≤ F → BS B H tp tcs (placeD T0 xs next0 xs.length) up (upD xs next0).length ucs ((upD xs next0).map (·.1)) ul ((upD xs next0).map (·.2)) →
      ref9_Build.l4 F none 0 (some (tp, 0)) 48 up (upD xs next0).length ul (upD xs next0).length ((next0 + xs.length : Nat) : Int) H Q) :
    ∀ (F i : Nat) (H : Hp) (tcs : List PC) (up : Pl) (ucs : List PC) (ul : Pl), xs.length + 3 * (kOf xs.length 5 - i) + REST < F + cutN xs.length (kOf xs.length 5) i → i ≤ kOf xs.length 5 →
      BJ B H tp tcs (placeD T0 xs next0 (cutN xs.length (kOf xs.length 5) i)) x xs.length xcs (xs.map (·.1)) y (xs.map (·.2)) sa (kOf xs.length 5) ((sizesD xs.length 5).map fun (x : Nat) => (x : Int)) up i ucs (((List.range i).map (upAt xs next0 (kOf xs.length 5))).map (·.1)) ul i (((List.range i).map (upAt xs next0 (kOf xs.length 5))).map (·.2)) none [] none [] →
      ref9_Build.l9 F none 0 (some (tp, 0)) 48 x xs.length y xs.length ((next0 + cutN xs.length (kOf xs.length 5) i : Nat) : Int) up i ul i sa (kOf xs.length 5) ((cutN xs.length (kOf xs.length 5) i : Nat) : Int) (i : Int) H Q := by
  have hk := kOf_pos xs.length 5
  have hSD : sizesD xs.length 5 = (List.range (kOf xs.length 5)).map fun i => cutN xs.length (kOf xs.length 5) (i + 1) - cutN xs.length (kOf xs.length 5) i := rfl
  have hUD : upD xs next0 = (List.range (kOf xs.length 5)).map (upAt xs next0 (kOf xs.length 5)) := rfl
  have hk2 : kOf xs.length 5 ≤ 48 := by
    unfold kOf
    have : (xs.length + 5 - 1) / 5 ≤ xs.length := by omega
    omega
  generalize kOf xs.length 5 = k at *
  have hUl : (upD xs next0).length = k := by rw [hUD]; simp
  rw [hUl] at hK
  have hsl : ((sizesD xs.length 5).map fun (x : Nat) => (x : Int)).length = k := by rw [hSD]; simp
  have hsg : ∀ i (h : i < ((sizesD xs.length 5).map fun (x : Nat) => (x : Int)).length), ((sizesD xs.length 5).map fun (x : Nat) => (x : Int))[i] = ((cutN xs.length k (i + 1) - cutN xs.length k i : Nat) : Int) := fun i h => by
    simp only [hSD, List.getElem_map, List.getElem_range]
  intro F
  induction F using Nat.strongRecOn with
  | _ F ihF =>
    intro i H tcs up ucs ul hF hi g
    have hci := cutN_le (n := xs.length) (k := k) (i := i) hi hk
    obtain ⟨F, rfl⟩ : ∃ F', F = F' + 1 := ⟨F - 1, by omega⟩
    rw [ref9_Build.l9_eq]
    by_cases hik : i < k
    · rw [bite_t (by simp; omega)]
      have hmono := cutN_mono xs.length k i
      have hci1 := cutN_le (n := xs.length) (k := k) (i := i + 1) (by omega) hk
      have hclt := cutN_lt (n := xs.length) hik (by omega)
      have isS : ∀ {H tcs T up m ucs uT ul m2 uls kk ks ii is}, BJ B H tp tcs T x xs.length xcs (xs.map (·.1)) y (xs.map (·.2)) sa k ((sizesD xs.length 5).map fun (x : Nat) => (x : Int)) up m ucs uT ul m2 uls kk ks ii is → Is H sa k ((sizesD xs.length 5).map fun (x : Nat) => (x : Int)) := fun g => ⟨g.S.cells, hsl.symm, by omega⟩
      have isY : ∀ {H tcs T up m ucs uT ul m2 uls kk ks ii is}, BJ B H tp tcs T x xs.length xcs (xs.map (·.1)) y (xs.map (·.2)) sa k ((sizesD xs.length 5).map fun (x : Nat) => (x : Int)) up m ucs uT ul m2 uls kk ks ii is → Ss H y xs.length (xs.map (·.2)) := fun g => ⟨g.Y.cells, by simp, by omega⟩
      have w1 : wrapI .i64 (((cutN xs.length k i : Nat) : Int) + ((cutN xs.length k (i + 1) - cutN xs.length k i : Nat) : Int)) = ((cutN xs.length k (i + 1) : Nat) : Int) := by rw [wrap64 (by omega) (by omega)]; omega
      have inner : ∀ (d G j : Nat) (H : Hp) (tcs : List PC) (kk ii : Pl), cutN xs.length k (i + 1) - j = d → cutN xs.length k i ≤ j → j ≤ cutN xs.length k (i + 1) → xs.length + 3 * (k - i) + REST < G + j + 1 → G ≤ F →
          BJ B H tp tcs (placeD T0 xs next0 j) x xs.length xcs (xs.map (·.1)) y (xs.map (·.2)) sa k ((sizesD xs.length 5).map fun (x : Nat) => (x : Int)) up i ucs (((List.range i).map (upAt xs next0 k)).map (·.1)) ul i (((List.range i).map (upAt xs next0 k)).map (·.2))
            kk (((xs.drop (cutN xs.length k i + 1)).take (j - (cutN xs.length k i + 1))).map (·.2)) ii ((List.range (j - cutN xs.length k i)).map fun r => ((next0 + (cutN xs.length k i + r) : Nat) : Int)) →
          ref9_Build.l13 G none 0 (some (tp, 0)) 48 x xs.length y xs.length ((next0 + j : Nat) : Int) up i ul i sa k ((cutN xs.length k i : Nat) : Int) (i : Int) true false kk (((xs.drop (cutN xs.length k i + 1)).take (j - (cutN xs.length k i + 1))).map (·.2)).length none 0 ii ((List.range (j - cutN xs.length k i)).map fun r => ((next0 + (cutN xs.length k i + r) : Nat) : Int)).length (j : Int) H Q := by
        intro d
        induction d with
        | zero =>
          intro G j H tcs kk ii hd hj1 hj2 hG hGF g
          obtain rfl : j = cutN xs.length k (i + 1) := by omega
          obtain ⟨G, rfl⟩ : ∃ G', G = G' + 1 := ⟨G - 1, by omega⟩
          rw [ref9_Build.l13_eq, chk_true, (isS g).rd i rfl (by rw [hsl]; exact hik), hsg, w1, bite_f (by simp), chk_true]
          refine g.page (by simp; omega) (by simp; omega) (by omega) fun u' H1 c g1 => ?_
          rw [chk_true, (isY g1).rd (cutN xs.length k i) rfl (by simp; omega), chk_true]
          refine g1.least _ (by omega) fun ul' H2 g2 => ?_
          rw [chk_true, (isS g2).rd i rfl (by rw [hsl]; exact hik), hsg, w1, wrap_succ (by omega)]
          refine ihF G (by omega) (i + 1) H2 tcs u' (ucs ++ [c]) ul' (by omega) (by omega) ?_
          rw [List.range_succ, List.map_append, List.map_append, List.map_append]
          have e2 : (upAt xs next0 k i).2 = (xs.map (·.2))[cutN xs.length k i]'(by simp; omega) := by
            unfold upAt
            dsimp only
            rw [List.getElem?_eq_getElem hclt, List.getElem_map]
            rfl
          show BJ B H2 tp tcs (placeD T0 xs next0 (cutN xs.length k (i + 1))) x xs.length xcs (xs.map (·.1)) y (xs.map (·.2)) sa k _ u' (i + 1) (ucs ++ [c]) (_ ++ [(upAt xs next0 k i).1]) ul' (i + 1) (_ ++ [(upAt xs next0 k i).2]) none [] none []
          rw [e2]
          exact g2
        | succ d ihd =>
          intro G j H tcs kk ii hd hj1 hj2 hG hGF g
          obtain ⟨G, rfl⟩ : ∃ G', G = G' + 1 := ⟨G - 1, by omega⟩
          have hjl : j < xs.length := by omega
          rw [ref9_Build.l13_eq, chk_true, (isS g).rd i rfl (by rw [hsl]; exact hik), hsg, w1, bite_t (by simp; omega), chk_true]
          refine chk_of (by simp; omega) ?_
          obtain ⟨l, o, c, p, ex, hc, hp, hpc, g0, g1, g2, g3, g4⟩ := g.X.tr.get hjl
          have etN : tN (j : Int) = j := rfl
          have etN2 : 0 + tN ((next0 + j : Nat) : Int) * 5 = (next0 + j) * 5 := by rw [Nat.zero_add]; rfl
          have px : ∀ K : Nat → Nat → Prop, pS x K = K l o := fun K => by rw [ex]; rfl
          rw [px, etN, rdPage_of g0 g1 g2 g3 g4, chk_true]
          refine chk_of (by simp; omega) ?_
          rw [pS_some, etN2]
          refine g.place (i := next0 + j) (by omega) hc hp fun H1 tcs1 h1 => ?_
          have hpl : placeD T0 xs next0 (j + 1) = (placeD T0 xs next0 j).set (next0 + j) p := by
            show (placeD T0 xs next0 j).set (next0 + j) _ = _
            have : ((xs[j]?.map (·.1)).getD noPg) = p := by
              rw [List.getElem?_map] at hp
              rw [hp]; rfl
            rw [this]
          rw [← hpl] at h1
          rw [chk_true]
          refine h1.kid _ (by simp; omega) fun ii' H2 h2 => ?_
          have hr : (List.range (j + 1 - cutN xs.length k i)).map (fun r => ((next0 + (cutN xs.length k i + r) : Nat) : Int)) = (List.range (j - cutN xs.length k i)).map (fun r => ((next0 + (cutN xs.length k i + r) : Nat) : Int)) ++ [((next0 + j : Nat) : Int)] := by
            rw [show j + 1 - cutN xs.length k i = (j - cutN xs.length k i) + 1 by omega, List.range_succ, List.map_append]
            simp
            omega
          rw [← hr] at h2
          have hrl : ((List.range (j - cutN xs.length k i)).map (fun r => ((next0 + (cutN xs.length k i + r) : Nat) : Int))).length + 1 = ((List.range (j + 1 - cutN xs.length k i)).map (fun r => ((next0 + (cutN xs.length k i + r) : Nat) : Int))).length := by simp; omega
          rw [hrl]
          have wn : wrapI .i64 (((next0 + j : Nat) : Int) + 1) = ((next0 + (j + 1) : Nat) : Int) := by rw [wrap64 (by omega) (by omega)]; omega
          rw [wn, wrap_succ (by omega)]
          refine bite_of (fun e => ?_) (fun e => ?_)
          · have hlj : cutN xs.length k i < j := by simpa using e
            have r := fun K => (isY h2).rd j (i := (j : Int)) rfl (by simp; omega) K
            rw [etN] at r
            rw [chk_true, r, chk_true]
            refine h2.key _ (by simp; omega) fun kk' H3 h3 => ?_
            have hks : ((xs.drop (cutN xs.length k i + 1)).take (j + 1 - (cutN xs.length k i + 1))).map (·.2) = ((xs.drop (cutN xs.length k i + 1)).take (j - (cutN xs.length k i + 1))).map (·.2) ++ [(xs.map (·.2))[j]'(by simp; omega)] := by
              rw [show j + 1 - (cutN xs.length k i + 1) = (j - (cutN xs.length k i + 1)) + 1 by omega, List.take_succ_eq_append_getElem (by simp; omega), List.map_append]
              congr 1
              simp
              congr 2
              omega
            rw [← hks] at h3
            have hkl : (((xs.drop (cutN xs.length k i + 1)).take (j - (cutN xs.length k i + 1))).map (·.2)).length + 1 = (((xs.drop (cutN xs.length k i + 1)).take (j + 1 - (cutN xs.length k i + 1))).map (·.2)).length := by rw [hks, List.length_append]; rfl
            rw [hkl]
            exact ihd G (j + 1) H3 tcs1 kk' ii' (by omega) (by omega) (by omega) (by omega) (by omega) h3
          · have hlj : cutN xs.length k i = j := by simp at e; omega
            have hks : ((xs.drop (cutN xs.length k i + 1)).take (j + 1 - (cutN xs.length k i + 1))).map (·.2) = ((xs.drop (cutN xs.length k i + 1)).take (j - (cutN xs.length k i + 1))).map (·.2) := by
              rw [show j + 1 - (cutN xs.length k i + 1) = 0 by omega, show j - (cutN xs.length k i + 1) = 0 by omega]
            rw [← hks] at h2
            rw [← hks]
            exact ihd G (j + 1) H2 tcs1 kk ii' (by omega) (by omega) (by omega) (by omega) (by omega) h2
      have hstart := inner _ F (cutN xs.length k i) H tcs none none rfl (Nat.le_refl _) hmono (by omega) (Nat.le_refl _) (by
        rw [show cutN xs.length k i - (cutN xs.length k i + 1) = 0 by omega, show cutN xs.length k i - cutN xs.length k i = 0 by omega]
        exact g)
      rw [show cutN xs.length k i - (cutN xs.length k i + 1) = 0 by omega, show cutN xs.length k i - cutN xs.length k i = 0 by omega] at hstart
      exact hstart
    · obtain rfl : i = k := by omega
      rw [bite_f (by simp)]
      rw [cutN_all hk] at g hF ⊢
      have hd := g.done
      rw [← hUD] at hd
      exact hK F H tcs up ucs ul (by omega) hd
end
end Go.Am
namespace Go.Am

theorem OT.base {H : Hp} {b b' : Nat} {t : TypeId} {a : Pl} {n : Nat} {cs : List PC} {T : List Pg} (h : OT H b t a n cs T) (hb : b' ≤ b) : OT H b' t a n cs T := ⟨h.own.base hb, h.len, h.lenT, h.all, h.off⟩
section
variable {B : Hp} {Q : Post} {tp : Nat}
theorem build_l4 : ∀ (D : Nat) (xs : Lvl) (next : Nat) (T : List Pg) (F : Nat) (H : Hp) (tcs : List PC) (x : Pl) (xcs : List PC) (y : Pl), xs.length ≤ D → 1 ≤ xs.length → next + 2 * xs.length ≤ 48 → 8 * xs.length + 8 ≤ F →
    BS B H tp tcs T x xs.length xcs (xs.map (·.1)) y (xs.map (·.2)) → (∀ H' tcs', B <+: H' → OT H' B.length tPg (some (tp, 0)) 48 tcs' (buildGo D T next xs) → Q (.agg [.sl (some (tp, 0)) 48 5]) H') →
    ref9_Build.l4 F none 0 (some (tp, 0)) 48 x xs.length y xs.length (next : Int) H Q := by
  intro D
  induction D with
  | zero => intro xs _ _ _ _ _ _ _ _ h1 h2; omega
  | succ D ih =>
    intro xs next T F H tcs x xcs y hD h1 hb hF g hQ
    obtain ⟨F, rfl⟩ : ∃ F', F = F' + 1 := ⟨F - 1, by omega⟩
    rw [ref9_Build.l4_eq]
    refine bite_of (fun e => ?_) (fun e => ?_)
    · have h2 : 2 ≤ xs.length := by simp at e; omega
      have hk2 : 2 * kOf xs.length 5 ≤ xs.length := by
        unfold kOf
        have : 2 * ((xs.length + 5 - 1) / 5) ≤ xs.length := by omega
        omega
      have hk0 := kOf_pos xs.length 5
      have hUl : (upD xs next).length = kOf xs.length 5 := by unfold upD; simp
      refine ref9_sizes_spec (n := xs.length) (most := 5) (by omega) (by omega) (by omega) fun sa H1 p1 oS _ => ?_
      simp only [rG_g, dL_sl]
      have hst := g.start p1 oS
      have := build_l9 (Q := Q) (B := B) (tp := tp) (xs := xs) (next0 := next) (T0 := T) (x := x) (y := y) (xcs := xcs) (sa := sa) (REST := 8 * kOf xs.length 5 + 8) h2 (by omega) (fun F2 H2 tcs2 up ucs ul hF2 g2 => by
        refine ih (upD xs next) (next + xs.length) (placeD T xs next xs.length) F2 H2 tcs2 up ucs ul (by omega) (by omega) (by omega) (by omega) g2 fun H' tcs' hp ho => ?_
        refine hQ H' tcs' hp ?_
        have e2 : buildGo (D + 1) T next xs = buildGo D (placeD T xs next xs.length) (next + xs.length) (upD xs next) := by
          show (match decide (1 < xs.length) with | true => _ | false => _) = _
          rw [decide_eq_true (by omega)]
        rw [e2]
        exact ho) F 0 H1 tcs none [] none (by rw [cutN_zero]; omega) (Nat.zero_le _) (by rw [cutN_zero]; exact hst)
      rw [cutN_zero] at this
      exact this
    · have h11 : xs.length = 1 := by simp at e; omega
      rw [chk_true]
      refine chk_of (by simp; omega) ?_
      obtain ⟨l, o, c, p, ex, hc, hp, hpc, g0, g1, g2, g3, g4⟩ := g.X.tr.get (i := 0) (by omega)
      have px : ∀ K : Nat → Nat → Prop, pS x K = K l o := fun K => by rw [ex]; rfl
      have et0 : tN 0 = 0 := rfl
      rw [px, et0, rdPage_of g0 g1 g2 g3 g4, chk_true]
      refine chk_of (by simp) ?_
      have e0 : 0 + 0 * 5 = 0 * 5 := by omega
      rw [pS_some, e0]
      refine (g.start (sa := none) (k := 0) (ss := []) (List.prefix_refl _) (.inl ⟨rfl, rfl, rfl⟩)).place (i := 0) (by omega) hc hp fun H' tcs' g' => ?_
      refine hQ H' tcs' g'.pre ?_
      have e2 : buildGo (D + 1) T next xs = T.set 0 p := by
        show (match decide (1 < xs.length) with | true => _ | false => _) = _
        rw [decide_eq_false (by omega)]
        dsimp only
        rw [List.getElem?_map] at hp
        rw [hp]; rfl
      rw [e2]
      exact g'.TP
theorem ref9_Build_spec {H : Hp} {a : Pl} {n : Nat} {ps : KV} (hp : Kv H a n ps) (hn : n ≤ 64) (hQ : ∀ H' tp cs, H <+: H' → OT H' H.length tPg (some (tp, 0)) 48 cs (buildD ps) → Q (.agg [.sl (some (tp, 0)) 48 5]) H') : ref9_Build [.g (.sl a n 2)] H Q := by
  have hpl := hp.len
  refine ⟨8 * 17 + 20, ?_⟩
  rw [ref9_Build_eq]
  refine ref9_New_spec fun H1 p1 o1 => ?_
  simp only [rA_agg, uC_cons, dL_sl, uN_nil]
  refine ref9_leaves_spec (hp.mono p1) (by omega) fun x y cs H2 p2 oX oY hxy hyo hlo => ?_
  simp only [rA_agg, uC_cons, dL_sl, uN_nil]
  have hL : (leavesD ps).length = kOf ps.length 4 := by unfold leavesD; simp
  have hk : kOf ps.length 4 ≤ 17 := by unfold kOf; omega
  have hk0 := kOf_pos ps.length 4
  have l1 := p1.length_le
  have htp : H.length < H1.length := o1.own.ltAny rfl
  have l2 := p2.length_le
  have o2 := o1.mono p2
  have hM : ∀ i l o, ([some (H.length, 0)] : List Pl).getD i none = some (l, o) → i = 0 ∧ l = H.length ∧ o = 0 := by
    intro i l o e
    match i, e with
    | 0, e => cases e; exact ⟨rfl, rfl, rfl⟩
    | i + 1, e => simp at e
  have g : BS H H2 H.length newC newT x (leavesD ps).length cs ((leavesD ps).map (·.1)) y ((leavesD ps).map (·.2)) := by
    refine ⟨p1.trans p2, o2, oX.base l1, oY.base l1, fun i j hne l e1 e2 => ?_, fun i b hb l e1 e2 => ?_, fun i c hc l hl' e => ?_, fun i l o e => ?_, fun b hb l o e => ?_, fun c hc l hl' => ?_⟩
    · exact hne ((hM i l 0 e1).1.trans (hM j l 0 e2).1.symm)
    · obtain ⟨_, rfl, _⟩ := hM i l 0 e1
      simp only [List.mem_cons, List.not_mem_nil, or_false] at hb
      rcases hb with rfl | rfl
      · have := oX.own.above e2; omega
      · have := oY.above e2; omega
    · obtain ⟨_, rfl, _⟩ := hM i l 0 e
      rcases List.mem_append.1 hc with q | q
      · exact newC_off c q _ hl'
      · have := hlo c q _ hl'; omega
    · obtain ⟨_, rfl, _⟩ := hM i l o e; omega
    · simp only [List.mem_cons, List.not_mem_nil, or_false] at hb
      rcases hb with rfl | rfl
      · exact oX.own.ltAny e
      · exact oY.ltAny e
    · rcases List.mem_append.1 hc with q | q
      · exact (newC_off c q _ hl').elim
      · exact oX.onlt q hl'
  refine build_l4 64 (leavesD ps) 1 newT (8 * 17 + 19) H2 newC x cs y (by omega) (by omega) (by omega) (by omega) g fun H' tcs' hp' ho => ?_
  exact hQ H' H.length tcs' hp' ho
end
end Go.Am
namespace Go.Am

/-- a tree whose rows are all one's own -/
structure CT (B H : Hp) (t : TypeId) (a : Pl) (n : Nat) (ds : List PC) (T : List Pg) : Prop where
  pre : B <+: H
  ot : OT H B.length t a n ds T
  own : ∀ i (h : i < ds.length) (h' : i < T.length), (ds[i]).own H B.length T[i]
  ap : ∀ i j (hi : i < ds.length) (hj : j < ds.length), i ≠ j → ∀ l, (ds[i]).on l → ¬ (ds[j]).on l
section
variable {B H H' : Hp} {t : TypeId} {a : Pl} {n : Nat} {ds : List PC} {T : List Pg}
theorem CT.mono (g : CT B H t a n ds T) (hp : H <+: H') : CT B H' t a n ds T :=
  ⟨g.pre.trans hp, g.ot.mono hp, fun i h h' => (g.own i h h').keep fun l hl => pre_at hp (g.ot.onlt (List.getElem_mem h) hl), g.ap⟩
/-- a page's row of keys turned -/
theorem CT.setRow (g : CT B H t a n ds T) {i : Nat} (hi : i < ds.length) (hi' : i < T.length) {l : Nat} (hon : (ds[i]).on l) (x : Obj) (hb : B.length ≤ l) (p : Pg)
    (hat : (ds[i]).at (H.set l x) p) (how : (ds[i]).own (H.set l x) B.length p) : CT B (H.set l x) t a n ds (T.set i p) := by
  have q1 := g.ot.len
  have q2 := g.ot.lenT
  have other : ∀ j (h : j < ds.length), j ≠ i → ∀ m, (ds[j]).on m → (H.set l x)[m]? = H[m]? := fun j h hne m hm => by
    rw [List.getElem?_set_ne]
    intro e; subst e
    exact g.ap i j hi h (Ne.symm hne) l hon hm
  refine ⟨pre_set g.pre hb x, ⟨g.ot.own.keep fun m e => ?_, q1, by simp [q2], fun j h1 h2 => ?_, g.ot.off⟩, fun j h1 h2 => ?_, g.ap⟩
  · rw [List.getElem?_set_ne]
    intro e'; subst e'
    exact g.ot.off _ (List.getElem_mem hi) l hon e
  · rw [List.getElem_set]
    by_cases e : i = j
    · subst e; rw [if_pos rfl]; exact hat
    · rw [if_neg e]
      simp at h2
      exact (g.ot.all j h1 h2).keep (other j h1 (Ne.symm e))
  · rw [List.getElem_set]
    by_cases e : i = j
    · subst e; rw [if_pos rfl]; exact how
    · rw [if_neg e]
      simp at h2
      exact (g.own j h1 h2).keep (other j h1 (Ne.symm e))
theorem CT.key (g : CT B H t a n ds T) {i j : Nat} (hi : i < ds.length) (hi' : i < T.length) (hj : j < (T[i]).keys.length) (s : ByteArray) {K : Hp → Prop}
    (hK : ∀ H', CT B H' t a n ds (T.set i { T[i] with keys := (T[i]).keys.set j s }) → K H') : ∃ l, (ds[i]).a1 = some (l, 0) ∧ wr H l j (.str s) K := by
  have ho := g.own i hi hi'
  have hat := g.ot.all i hi hi'
  rcases ho.keys with ⟨_, h, _⟩ | ⟨l, e, hb, hr, hl⟩
  · have := hat.keys.len; omega
  have hlt := (List.getElem?_eq_some_iff.1 hr).1
  have hon : (ds[i]).on l := ⟨0, .inl e⟩
  refine ⟨l, e, wr_row hr (by simpa using hj) ?_⟩
  rw [← List.map_set]
  have keep : ∀ {tt : TypeId} {x : Pl} {m : Nat} {es : List GV} (y : Obj), Own H B.length tt x m es → Dr (ds[i]).a1 x → Own (H.set l y) B.length tt x m es := fun y h hd => h.keep fun m e' => by
    rw [List.getElem?_set_ne]; intro q; subst q; exact hd l 0 0 e e'
  have how : (ds[i]).own (H.set l (.row true tS (((T[i]).keys.set j s).map GV.str))) B.length { T[i] with keys := (T[i]).keys.set j s } :=
    ⟨ho.used, ho.leaf, .inr ⟨l, e, hb, List.getElem?_set_self hlt, by simpa using hl⟩, keep _ ho.vals ho.d12, keep _ ho.kids ho.d13, ho.d12, ho.d13, ho.d23⟩
  refine hK _ (g.setRow hi hi' hon _ hb _ ⟨hat.used, hat.leaf, ⟨how.keys.cells, ?_, hat.keys.lim⟩, ⟨how.vals.cells, hat.vals.len, hat.vals.lim⟩, ⟨how.kids.cells, hat.kids.len, hat.kids.lim⟩⟩ how)
  simpa using hat.keys.len
theorem CT.kid (g : CT B H t a n ds T) {i j : Nat} (hi : i < ds.length) (hi' : i < T.length) (hj : j < (T[i]).kids.length) (s : Int) {K : Hp → Prop}
    (hK : ∀ H', CT B H' t a n ds (T.set i { T[i] with kids := (T[i]).kids.set j s }) → K H') : ∃ l, (ds[i]).a3 = some (l, 0) ∧ wr H l j (.int .i64 s) K := by
  have ho := g.own i hi hi'
  have hat := g.ot.all i hi hi'
  rcases ho.kids with ⟨_, h, _⟩ | ⟨l, e, hb, hr, hl⟩
  · have := hat.kids.len; omega
  have hlt := (List.getElem?_eq_some_iff.1 hr).1
  have hon : (ds[i]).on l := ⟨0, .inr (.inr e)⟩
  refine ⟨l, e, wr_row hr (by simpa using hj) ?_⟩
  rw [← List.map_set]
  have keep : ∀ {tt : TypeId} {x : Pl} {m : Nat} {es : List GV} (y : Obj), Own H B.length tt x m es → Dr x (ds[i]).a3 → Own (H.set l y) B.length tt x m es := fun y h hd => h.keep fun m e' => by
    rw [List.getElem?_set_ne]; intro q; subst q; exact hd l 0 0 e' e
  have how : (ds[i]).own (H.set l (.row true tI (((T[i]).kids.set j s).map (GV.int .i64)))) B.length { T[i] with kids := (T[i]).kids.set j s } :=
    ⟨ho.used, ho.leaf, keep _ ho.keys ho.d13, keep _ ho.vals ho.d23, .inr ⟨l, e, hb, List.getElem?_set_self hlt, by simpa using hl⟩, ho.d12, ho.d13, ho.d23⟩
  refine hK _ (g.setRow hi hi' hon _ hb _ ⟨hat.used, hat.leaf, ⟨how.keys.cells, hat.keys.len, hat.keys.lim⟩, ⟨how.vals.cells, hat.vals.len, hat.vals.lim⟩, ⟨how.kids.cells, ?_, hat.kids.lim⟩⟩ how)
  simpa using hat.kids.len
end

theorem tr_nil (H : Hp) : Tr H none 0 [] [] := ⟨rfl, rfl, rfl, fun i h => (by simp at h)⟩

section
variable {H : Hp} {Q : Post}
end
end Go.Am
namespace Go.Am

theorem and_mask {k m : Nat} (hk : k < 2 ^ 63) (hm : m ≤ 30) {j : Int} (hj : j = ((2 ^ m - 1 : Nat) : Int)) : bitsI .and .i64 (k : Int) j = ((k % 2 ^ m : Nat) : Int) := by
  subst hj
  have h1 : (BitVec.ofInt 64 (k : Int)).toNat = k := by
    rw [BitVec.ofInt_natCast, BitVec.toNat_ofNat, Nat.mod_eq_of_lt (by omega)]
  have h30 : 2 ^ m ≤ 2 ^ 30 := Nat.pow_le_pow_right (by omega) hm
  have h2 : (BitVec.ofInt 64 ((2 ^ m - 1 : Nat) : Int)).toNat = 2 ^ m - 1 := by
    rw [BitVec.ofInt_natCast, BitVec.toNat_ofNat, Nat.mod_eq_of_lt (by omega)]
  have h3 : (BitVec.ofInt 64 (k : Int) &&& BitVec.ofInt 64 ((2 ^ m - 1 : Nat) : Int)).toNat = k % 2 ^ m := by
    rw [BitVec.toNat_and, h1, h2, Nat.and_two_pow_sub_one_eq_mod]
  have hlt : k % 2 ^ m < 2 ^ m := Nat.mod_lt _ (Nat.pos_of_ne_zero (by simp))
  show IntKind.i64.wrap (((BitVec.ofInt 64 (k : Int) &&& BitVec.ofInt 64 ((2 ^ m - 1 : Nat) : Int)).toNat : Nat) : Int) = _
  rw [h3]
  exact wrap64 (by omega) (by omega)
theorem shr4 (k : Nat) : shrI .i64 (k : Int) 4 = ((k / 16 : Nat) : Int) := by
  show Int.fdiv (k : Int) (2 ^ (min 4 64)) = _
  rw [show ((2 : Int) ^ (min 4 64)) = ((16 : Nat) : Int) from rfl, Int.fdiv_eq_ediv_of_nonneg _ (by omega)]
  rfl
def lettersD (k : Nat) : ByteArray := mkS [bof ((97 + k / 16 % 16 : Nat) : Int), bof ((97 + k % 16 : Nat) : Int)]
section
variable {H : Hp} {Q : Post}
theorem letters_word {k : Nat} (hk : k ≤ 100000) : (wrapI .u8 (wrapI .i64 (97 + (bitsI .and .i64 (shrI .i64 (k : Int) 4) 15)))) = ((bof ((97 + k / 16 % 16 : Nat) : Int)).toNat : Int) ∧ (wrapI .u8 (wrapI .i64 (97 + (bitsI .and .i64 (k : Int) 15)))) = ((bof ((97 + k % 16 : Nat) : Int)).toNat : Int) := by
  have e1 := and_mask (k := k / 16) (m := 4) (j := 15) (by omega) (by omega) rfl
  have e2 := and_mask (k := k) (m := 4) (j := 15) (by omega) (by omega) rfl
  rw [shr4, e1, e2]
  have h : ∀ r : Nat, r < 16 → wrapI .u8 (wrapI .i64 (97 + (r : Int))) = ((bof ((97 + r : Nat) : Int)).toNat : Int) := by
    intro r hr
    rw [wrap64 (by omega) (by omega)]
    have := u8_eq (n := ((97 + r : Nat) : Int)) (by omega) (by omega)
    have e : (97 + (r : Int)) = ((97 + r : Nat) : Int) := by omega
    rw [e]
    injection this
  exact ⟨h _ (Nat.mod_lt _ (by omega)), h _ (Nat.mod_lt _ (by omega))⟩
end
/-- pairs in a row of one's own -/
theorem ap_kv {H0 H : Hp} {t : TypeId} {a : Pl} {n : Nat} {ps : KV} {K : Pl → Nat → Hp → Prop} (h0 : H0 <+: H) (h : Own H H0.length t a (n * 2) (kvCells ps)) (x y : ByteArray) (hn : n ≤ 100000)
    (hK : ∀ a' H', Own H' H0.length t a' ((n + 1) * 2) (kvCells (ps ++ [(x, y)])) → H0 <+: H' → K a' (n + 1) H') : ap H t 2 32 a n [.str x, .str y] 1 K :=
  ap_z (by omega) h0 h rfl (by unfold Lim; omega) fun a' H' o e f => hK a' H' (by unfold kvCells at *; rw [List.flatMap_append]; simpa using o) e.pre
theorem Own.kv {H : Hp} {b : Nat} {t : TypeId} {a : Pl} {n : Nat} {ps : KV} (h : Own H b t a (n * 2) (kvCells ps)) (hl : ps.length = n) : Kv H a n ps := ⟨h.cells, hl⟩

/-! SoundFull -/
def kvL (n : Nat) : KV := (List.range n).map fun i => (lettersD i, mkS [])
theorem kvL_length (n : Nat) : (kvL n).length = n := by simp [kvL]
theorem kvL_succ (n : Nat) : kvL (n + 1) = kvL n ++ [(lettersD n, mkS [])] := by simp [kvL, List.range_succ]
end Go.Am
