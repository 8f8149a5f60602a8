import Derived.Test.YtmjnenpllddhfaaF60
set_option linter.unusedVariables false
set_option linter.unusedSimpArgs false
namespace Go.Am
/-! 59: (cryostat/sound.bounds).hold -/
def sound_bounds_hold.cx : Cx := ⟨tys, [], [(2, [2, 7, 8, 9])], [], [], noDyn, [.tmp 4]⟩
def sound_bounds_hold : Sm := fun xs H Q => ∃ k, callK (sound_bounds_hold.cx) Go.Proofs.Try.f59 k xs H Q
def sound_bounds_hold.l2 (k : Nat) (sx0 : ByteArray) (sx1 : ByteArray) (bx2 : Bool) (xx3 : Pl) (nx4 : Nat) (ix5 : Int) (ix6 : Int) (H : Hp) (Q : Post) : Prop := loopK (sound_bounds_hold.cx) Go.Proofs.Try.f59 2 k (.bad :: .bad :: (.bx [(.str sx0), (.str sx1), (.bool bx2)]) :: B 4 ((.g (.sl xx3 nx4 1)) :: (.g (.int .i64 ix5)) :: (.g (.int .i64 ix6)) :: B 19 ([]))) H Q
theorem sound_bounds_hold_eq (k : Nat) (z0 : ByteArray) (z1 : ByteArray) (z2 : Bool) (z3 : Pl) (z3n : Nat) (H : Hp) (Q : Post) : callK (sound_bounds_hold.cx) Go.Proofs.Try.f59 (k + 1) [.agg [.str z0, .str z1, .bool z2], .g (.sl z3 z3n 1)] H Q = (
 sound_bounds_hold.l2 k z0 z1 z2 z3 z3n (nI z3n) 0 H Q) := by kernel_rfl
theorem sound_bounds_hold.l2_eq (k : Nat) (sx0 : ByteArray) (sx1 : ByteArray) (bx2 : Bool) (xx3 : Pl) (nx4 : Nat) (ix5 : Int) (ix6 : Int) (H : Hp) (Q : Post) : sound_bounds_hold.l2 (k + 1) sx0 sx1 bx2 xx3 nx4 ix5 ix6 H Q = (
 bite (ltI ix6 ix5)
 (chk true (chk ((leI 0 ix6) && (ltI ix6 (nI nx4))) (pS xx3 fun n0 n1 =>
  rd H n0 (n1 + ((tN ix6) * 1)) fun v2 =>
  dS v2 fun s3 =>
  bite (strLt s3 sx0)
  (Q (.g (.bool false)) H)
  (bite (!bx2)
   (bite (!(strLt s3 sx1))
    (Q (.g (.bool false)) H)
    (sound_bounds_hold.l2 k sx0 sx1 bx2 xx3 nx4 ix5 (wrapI .i64 (ix6 + 1)) H Q))
   (sound_bounds_hold.l2 k sx0 sx1 bx2 xx3 nx4 ix5 (wrapI .i64 (ix6 + 1)) H Q)))))
 (Q (.g (.bool true)) H)) := by kernel_rfl
theorem sound_bounds_hold_ok : Sound Go.Proofs.Try.prog 59 (sound_bounds_hold) := prog_ok.sound (cx := sound_bounds_hold.cx) rfl (EnvOK.nil _) (noDyn_ok _) Go.Proofs.Try.func59 rfl

/-! 60: (*cryostat/sound.walk).leaf -/
def sound_walk_leaf.cx : Cx := ⟨tys, [], [], [(3, [0, 1, 2])], [], noDyn, [.tmp 6]⟩
def sound_walk_leaf : Sm := fun xs H Q => ∃ k, callK (sound_walk_leaf.cx) Go.Proofs.Try.f60 k xs H Q
def sound_walk_leaf.l3 (k : Nat) (xx0 : Pl) (xx1 : Pl) (ix2 : Int) (H : Hp) (Q : Post) : Prop := loopK (sound_walk_leaf.cx) Go.Proofs.Try.f60 3 k ((.g (.ptr xx0)) :: (.g (.ptr xx1)) :: (.g (.int .i64 ix2)) :: B 31 ([])) H Q
theorem sound_walk_leaf_eq (k : Nat) (z0 : Pl) (z1 : Pl) (z2 : Int) (H : Hp) (Q : Post) : callK (sound_walk_leaf.cx) Go.Proofs.Try.f60 (k + 1) [.g (.ptr z0), .g (.ptr z1), .g (.int .i64 z2)] H Q = (
 pS z0 fun n0 n1 =>
 rd H n0 (n1 + 2) fun v2 =>
 dI .i64 v2 fun i3 =>
 bite (ltI i3 0)
 (pS z0 fun n4 n5 =>
  wr H n4 (n5 + 2) (.int .i64 z2) fun H6 =>
  sound_walk_leaf.l3 k z0 z1 z2 H6 Q)
 (sound_walk_leaf.l3 k z0 z1 z2 H Q)) := by kernel_rfl
theorem sound_walk_leaf.l3_eq (k : Nat) (xx0 : Pl) (xx1 : Pl) (ix2 : Int) (H : Hp) (Q : Post) : sound_walk_leaf.l3 (k + 1) xx0 xx1 ix2 H Q = (
 pS xx0 fun n0 n1 =>
 rd H n0 (n1 + 3) fun v2 =>
 dI .i64 v2 fun i3 =>
 pS xx1 fun n4 n5 =>
 rd H n4 (n5 + 2) fun v6 =>
 dL 1 v6 fun x7 n8 =>
 pS xx0 fun n9 n10 =>
 wr H n9 (n10 + 3) (.int .i64 (wrapI .i64 (i3 + (nI n8)))) fun H11 =>
 pS xx0 fun n12 n13 =>
 rd H11 n12 (n13 + 2) fun v14 =>
 dI .i64 v14 fun i15 =>
 Q (.g (.bool (eqI i15 ix2))) H11) := by kernel_rfl
theorem sound_walk_leaf_ok : Sound Go.Proofs.Try.prog 60 (sound_walk_leaf) := prog_ok.sound (cx := sound_walk_leaf.cx) rfl (EnvOK.nil _) (noDyn_ok _) Go.Proofs.Try.func60 rfl

/-! 61: (cryostat/sound.bounds).below -/
def sound_bounds_below.cx : Cx := ⟨tys, [], [], [(3, [1, 2, 3, 6])], [], noDyn, [.cell 6 89]⟩
def sound_bounds_below : Sm := fun xs H Q => ∃ k, callK (sound_bounds_below.cx) Go.Proofs.Try.f61 k xs H Q
def sound_bounds_below.l3 (k : Nat) (xx0 : Pl) (nx1 : Nat) (ix2 : Int) (sx3 : ByteArray) (sx4 : ByteArray) (bx5 : Bool) (sx6 : ByteArray) (sx7 : ByteArray) (bx8 : Bool) (H : Hp) (Q : Post) : Prop := loopK (sound_bounds_below.cx) Go.Proofs.Try.f61 3 k (.bad :: (.g (.sl xx0 nx1 1)) :: (.g (.int .i64 ix2)) :: (.bx [(.str sx3), (.str sx4), (.bool bx5)]) :: .bad :: .bad :: (.bx [(.str sx6), (.str sx7), (.bool bx8)]) :: B 19 ([])) H Q
theorem sound_bounds_below_eq (k : Nat) (z0 : ByteArray) (z1 : ByteArray) (z2 : Bool) (z3 : Pl) (z3n : Nat) (z4 : Int) (H : Hp) (Q : Post) : callK (sound_bounds_below.cx) Go.Proofs.Try.f61 (k + 1) [.agg [.str z0, .str z1, .bool z2], .g (.sl z3 z3n 1), .g (.int .i64 z4)] H Q = (
 bite (ltI 0 z4)
 (chk true (chk ((leI 0 (wrapI .i64 (z4 - 1))) && (ltI (wrapI .i64 (z4 - 1)) (nI z3n))) (pS z3 fun n0 n1 =>
  rd H n0 (n1 + ((tN (wrapI .i64 (z4 - 1))) * 1)) fun v2 =>
  dS v2 fun s3 =>
  sound_bounds_below.l3 k z3 z3n z4 s3 z1 z2 (mkS []) (mkS []) false H Q)))
 (sound_bounds_below.l3 k z3 z3n z4 z0 z1 z2 (mkS []) (mkS []) false H Q)) := by kernel_rfl
theorem sound_bounds_below.l3_eq (k : Nat) (xx0 : Pl) (nx1 : Nat) (ix2 : Int) (sx3 : ByteArray) (sx4 : ByteArray) (bx5 : Bool) (sx6 : ByteArray) (sx7 : ByteArray) (bx8 : Bool) (H : Hp) (Q : Post) : sound_bounds_below.l3 (k + 1) xx0 nx1 ix2 sx3 sx4 bx5 sx6 sx7 bx8 H Q = (
 bite (ltI ix2 (nI nx1))
 (chk true (chk ((leI 0 ix2) && (ltI ix2 (nI nx1))) (pS xx0 fun n0 n1 =>
  rd H n0 (n1 + ((tN ix2) * 1)) fun v2 =>
  dS v2 fun s3 =>
  Q (.agg [(.str sx3), (.str s3), (.bool false)]) H)))
 (Q (.agg [(.str sx3), (.str sx4), (.bool bx5)]) H)) := by kernel_rfl
theorem sound_bounds_below_ok : Sound Go.Proofs.Try.prog 61 (sound_bounds_below) := prog_ok.sound (cx := sound_bounds_below.cx) rfl (EnvOK.nil _) (noDyn_ok _) Go.Proofs.Try.func61 rfl

/-! 51: (*cryostat/sound.walk).sound -/
def sound_walk_sound.cx (S : Sm) : Cx := ⟨tys, [], [(8, [0, 2, 7, 9, 70, 71, 72])], [], [(58, page_May), (59, sound_bounds_hold), (60, sound_walk_leaf), (61, sound_bounds_below), (51, S)], noDyn, [.tmp 8]⟩
def sound_walk_sound.st (S : Sm) : Sm := fun xs H Q => ∃ k, callK (sound_walk_sound.cx S) Go.Proofs.Try.f51 k xs H Q
def sound_walk_sound.l8 (S : Sm) (k : Nat) (xx0 : Pl) (ix1 : Int) (sx2 : ByteArray) (sx3 : ByteArray) (bx4 : Bool) (nx5 : Nat) (nx6 : Nat) (xx7 : Pl) (nx8 : Nat) (ix9 : Int) (ix10 : Int) (H : Hp) (Q : Post) : Prop := loopK (sound_walk_sound.cx S) Go.Proofs.Try.f51 8 k ((.g (.ptr xx0)) :: .bad :: (.g (.int .i64 ix1)) :: B 4 ((.bx [(.str sx2), (.str sx3), (.bool bx4)]) :: .bad :: (.g (.ptr (some (nx5, nx6)))) :: B 60 ((.g (.sl xx7 nx8 1)) :: (.g (.int .i64 ix9)) :: (.g (.int .i64 ix10)) :: B 18 ([])))) H Q
theorem sound_walk_sound_eq (S : Sm) (k : Nat) (z0 : Pl) (z1 : Int) (z2 : Int) (z3 : ByteArray) (z4 : ByteArray) (z5 : Bool) (H : Hp) (Q : Post) : callK (sound_walk_sound.cx S) Go.Proofs.Try.f51 (k + 1) [.g (.ptr z0), .g (.int .i64 z1), .g (.int .i64 z2), .agg [.str z3, .str z4, .bool z5]] H Q = (
 pS z0 fun n0 n1 =>
 rd H n0 (n1 + 0) fun v2 =>
 dL 5 v2 fun x3 n4 =>
 chk true (chk ((leI 0 z1) && (ltI z1 (nI n4))) (pS x3 fun n5 n6 =>
 pS z0 fun n7 n8 =>
 rd H n7 (n8 + 1) fun v9 =>
 dL 1 v9 fun x10 n11 =>
 chk true (chk ((leI 0 z1) && (ltI z1 (nI n11))) (pS x10 fun n12 n13 =>
 rd H n12 (n13 + ((tN z1) * 1)) fun v14 =>
 dB v14 fun b15 =>
 bite b15
 (Q (.g (.bool false)) H)
 (rd H n5 (n6 + ((tN z1) * 5)) fun v16 =>
  dB v16 fun b17 =>
  rd H n5 ((n6 + ((tN z1) * 5)) + 1) fun v18 =>
  dB v18 fun b19 =>
  rd H n5 (((n6 + ((tN z1) * 5)) + 1) + 1) fun v20 =>
  dL 1 v20 fun x21 n22 =>
  rd H n5 ((((n6 + ((tN z1) * 5)) + 1) + 1) + 1) fun v23 =>
  dL 1 v23 fun x24 n25 =>
  rd H n5 (((((n6 + ((tN z1) * 5)) + 1) + 1) + 1) + 1) fun v26 =>
  dL 1 v26 fun x27 n28 =>
  cl page_May [(.agg [(.bool b17), (.bool b19), (.sl x21 n22 1), (.sl x24 n25 1), (.sl x27 n28 1)])] H fun r29 H30 =>
  rG r29 fun v31 =>
  dB v31 fun b32 =>
  bite (!b32)
  (Q (.g (.bool false)) H30)
  (bite (ltI 0 z1)
   (rd H30 n5 ((n6 + ((tN z1) * 5)) + 2) fun v33 =>
    dL 1 v33 fun x34 n35 =>
    bite (ltI (nI n35) 2)
    (Q (.g (.bool false)) H30)
    (rd H30 n5 ((n6 + ((tN z1) * 5)) + 2) fun v36 =>
     dL 1 v36 fun x37 n38 =>
     cl sound_bounds_hold [(.agg [(.str z3), (.str z4), (.bool z5)]), (.g (.sl x37 n38 1))] H30 fun r39 H40 =>
     rG r39 fun v41 =>
     dB v41 fun b42 =>
     bite (!b42)
     (Q (.g (.bool false)) H40)
     (pS z0 fun n43 n44 =>
      rd H40 n43 (n44 + 1) fun v45 =>
      dL 1 v45 fun x46 n47 =>
      chk true (chk ((leI 0 z1) && (ltI z1 (nI n47))) (pS x46 fun n48 n49 =>
      wr H40 n48 (n49 + ((tN z1) * 1)) (.bool true) fun H50 =>
      rd H50 n5 ((n6 + ((tN z1) * 5)) + 1) fun v51 =>
      dB v51 fun b52 =>
      bite b52
      (cl sound_walk_leaf [(.g (.ptr z0)), (.g (.ptr (some (n5, (n6 + ((tN z1) * 5)))))), (.g (.int .i64 z2))] H50 fun r53 H54 =>
       rG r53 fun v55 =>
       dB v55 fun b56 =>
       Q (.g (.bool b56)) H54)
      (rd H50 n5 ((n6 + ((tN z1) * 5)) + 4) fun v57 =>
       dL 1 v57 fun x58 n59 =>
       sound_walk_sound.l8 S k z0 z2 z3 z4 z5 n5 (n6 + ((tN z1) * 5)) x58 n59 (nI n59) 0 H50 Q))))))
   (rd H30 n5 ((n6 + ((tN z1) * 5)) + 2) fun v60 =>
    dL 1 v60 fun x61 n62 =>
    cl sound_bounds_hold [(.agg [(.str z3), (.str z4), (.bool z5)]), (.g (.sl x61 n62 1))] H30 fun r63 H64 =>
    rG r63 fun v65 =>
    dB v65 fun b66 =>
    bite (!b66)
    (Q (.g (.bool false)) H64)
    (pS z0 fun n67 n68 =>
     rd H64 n67 (n68 + 1) fun v69 =>
     dL 1 v69 fun x70 n71 =>
     chk true (chk ((leI 0 z1) && (ltI z1 (nI n71))) (pS x70 fun n72 n73 =>
     wr H64 n72 (n73 + ((tN z1) * 1)) (.bool true) fun H74 =>
     rd H74 n5 ((n6 + ((tN z1) * 5)) + 1) fun v75 =>
     dB v75 fun b76 =>
     bite b76
     (cl sound_walk_leaf [(.g (.ptr z0)), (.g (.ptr (some (n5, (n6 + ((tN z1) * 5)))))), (.g (.int .i64 z2))] H74 fun r77 H78 =>
      rG r77 fun v79 =>
      dB v79 fun b80 =>
      Q (.g (.bool b80)) H78)
     (rd H74 n5 ((n6 + ((tN z1) * 5)) + 4) fun v81 =>
      dL 1 v81 fun x82 n83 =>
      sound_walk_sound.l8 S k z0 z2 z3 z4 z5 n5 (n6 + ((tN z1) * 5)) x82 n83 (nI n83) 0 H74 Q)))))))))))) := by kernel_rfl
theorem sound_walk_sound.l8_eq (S : Sm) (k : Nat) (xx0 : Pl) (ix1 : Int) (sx2 : ByteArray) (sx3 : ByteArray) (bx4 : Bool) (nx5 : Nat) (nx6 : Nat) (xx7 : Pl) (nx8 : Nat) (ix9 : Int) (ix10 : Int) (H : Hp) (Q : Post) : sound_walk_sound.l8 S (k + 1) xx0 ix1 sx2 sx3 bx4 nx5 nx6 xx7 nx8 ix9 ix10 H Q = (
 bite (ltI ix10 ix9)
 (chk true (chk ((leI 0 ix10) && (ltI ix10 (nI nx8))) (pS xx7 fun n0 n1 =>
  rd H n0 (n1 + ((tN ix10) * 1)) fun v2 =>
  dI .i64 v2 fun i3 =>
  rd H nx5 (nx6 + 2) fun v4 =>
  dL 1 v4 fun x5 n6 =>
  cl sound_bounds_below [(.agg [(.str sx2), (.str sx3), (.bool bx4)]), (.g (.sl x5 n6 1)), (.g (.int .i64 ix10))] H fun r7 H8 =>
  rA r7 fun c9 =>
  uC c9 fun v10 c11 =>
  dS v10 fun s12 =>
  uC c11 fun v13 c14 =>
  dS v13 fun s15 =>
  uC c14 fun v16 c17 =>
  dB v16 fun b18 =>
  uN c17 (cl S [(.g (.ptr xx0)), (.g (.int .i64 i3)), (.g (.int .i64 (wrapI .i64 (ix1 + 1)))), (.agg [(.str s12), (.str s15), (.bool b18)])] H8 fun r19 H20 =>
  rG r19 fun v21 =>
  dB v21 fun b22 =>
  bite (!b22)
  (Q (.g (.bool false)) H20)
  (sound_walk_sound.l8 S k xx0 ix1 sx2 sx3 bx4 nx5 nx6 xx7 nx8 ix9 (wrapI .i64 (ix10 + 1)) H20 Q)))))
 (Q (.g (.bool true)) H)) := by kernel_rfl
theorem sound_walk_sound.st_ok (S : Sm) (hS : SoundC Go.Proofs.Try.prog 51 S) : Sound Go.Proofs.Try.prog 51 (sound_walk_sound.st S) := prog_ok.sound (cx := sound_walk_sound.cx S) rfl (EnvOK.cons ((page_May_ok).c ⟨_, Go.Proofs.Try.func58, by kernel_rfl, by kernel_rfl⟩) (EnvOK.cons ((sound_bounds_hold_ok).c ⟨_, Go.Proofs.Try.func59, by kernel_rfl, by kernel_rfl⟩) (EnvOK.cons ((sound_walk_leaf_ok).c ⟨_, Go.Proofs.Try.func60, by kernel_rfl, by kernel_rfl⟩) (EnvOK.cons ((sound_bounds_below_ok).c ⟨_, Go.Proofs.Try.func61, by kernel_rfl, by kernel_rfl⟩) (EnvOK.cons hS (EnvOK.nil _)))))) (noDyn_ok _) Go.Proofs.Try.func51 rfl
def sound_walk_sound.at : Nat → Sm
  | 0 => fun _ _ _ => False
  | n + 1 => sound_walk_sound.st (sound_walk_sound.at n)
def sound_walk_sound : Sm := fun xs H Q => ∃ n, sound_walk_sound.at n xs H Q
theorem sound_walk_sound.at_ok : ∀ n, Sound Go.Proofs.Try.prog 51 (sound_walk_sound.at n)
  | 0 => fun _ _ _ h => h.elim
  | n + 1 => sound_walk_sound.st_ok _ ((sound_walk_sound.at_ok n).c ⟨_, Go.Proofs.Try.func51, by kernel_rfl, by kernel_rfl⟩)
theorem sound_walk_sound_ok : Sound Go.Proofs.Try.prog 51 (sound_walk_sound) := Sound.ex (sound_walk_sound.at_ok)

/-! 52: (*cryostat/sound.walk).rest -/
def sound_walk_rest.cx : Cx := ⟨tys, [], [(2, [0, 8, 9, 10])], [], [(62, page_Nothing)], noDyn, [.tmp 2]⟩
def sound_walk_rest : Sm := fun xs H Q => ∃ k, callK (sound_walk_rest.cx) Go.Proofs.Try.f52 k xs H Q
def sound_walk_rest.l2 (k : Nat) (xx0 : Pl) (xx1 : Pl) (nx2 : Nat) (ix3 : Int) (ix4 : Int) (H : Hp) (Q : Post) : Prop := loopK (sound_walk_rest.cx) Go.Proofs.Try.f52 2 k ((.g (.ptr xx0)) :: B 7 ((.g (.sl xx1 nx2 5)) :: (.g (.int .i64 ix3)) :: (.g (.int .i64 ix4)) :: B 18 ([]))) H Q
theorem sound_walk_rest_eq (k : Nat) (z0 : Pl) (H : Hp) (Q : Post) : callK (sound_walk_rest.cx) Go.Proofs.Try.f52 (k + 1) [.g (.ptr z0)] H Q = (
 pS z0 fun n0 n1 =>
 rd H n0 (n1 + 0) fun v2 =>
 dL 5 v2 fun x3 n4 =>
 sound_walk_rest.l2 k z0 x3 n4 (nI n4) 0 H Q) := by kernel_rfl
theorem sound_walk_rest.l2_eq (k : Nat) (xx0 : Pl) (xx1 : Pl) (nx2 : Nat) (ix3 : Int) (ix4 : Int) (H : Hp) (Q : Post) : sound_walk_rest.l2 (k + 1) xx0 xx1 nx2 ix3 ix4 H Q = (
 bite (ltI ix4 ix3)
 (chk true (chk ((leI 0 ix4) && (ltI ix4 (nI nx2))) (pS xx1 fun n0 n1 =>
  rd H n0 (n1 + ((tN ix4) * 5)) fun v2 =>
  dB v2 fun b3 =>
  rd H n0 ((n1 + ((tN ix4) * 5)) + 1) fun v4 =>
  dB v4 fun b5 =>
  rd H n0 (((n1 + ((tN ix4) * 5)) + 1) + 1) fun v6 =>
  dL 1 v6 fun x7 n8 =>
  rd H n0 ((((n1 + ((tN ix4) * 5)) + 1) + 1) + 1) fun v9 =>
  dL 1 v9 fun x10 n11 =>
  rd H n0 (((((n1 + ((tN ix4) * 5)) + 1) + 1) + 1) + 1) fun v12 =>
  dL 1 v12 fun x13 n14 =>
  pS xx0 fun n15 n16 =>
  rd H n15 (n16 + 1) fun v17 =>
  dL 1 v17 fun x18 n19 =>
  chk true (chk ((leI 0 ix4) && (ltI ix4 (nI n19))) (pS x18 fun n20 n21 =>
  rd H n20 (n21 + ((tN ix4) * 1)) fun v22 =>
  dB v22 fun b23 =>
  bite (!b23)
  (cl page_Nothing [(.agg [(.bool b3), (.bool b5), (.sl x7 n8 1), (.sl x10 n11 1), (.sl x13 n14 1)])] H fun r24 H25 =>
   rG r24 fun v26 =>
   dB v26 fun b27 =>
   bite (!b27)
   (Q (.g (.bool false)) H25)
   (sound_walk_rest.l2 k xx0 xx1 nx2 ix3 (wrapI .i64 (ix4 + 1)) H25 Q))
  (sound_walk_rest.l2 k xx0 xx1 nx2 ix3 (wrapI .i64 (ix4 + 1)) H Q))))))
 (Q (.g (.bool true)) H)) := by kernel_rfl
theorem sound_walk_rest_ok : Sound Go.Proofs.Try.prog 52 (sound_walk_rest) := prog_ok.sound (cx := sound_walk_rest.cx) rfl (EnvOK.cons ((page_Nothing_ok).c ⟨_, Go.Proofs.Try.func62, by kernel_rfl, by kernel_rfl⟩) (EnvOK.nil _)) (noDyn_ok _) Go.Proofs.Try.func52 rfl

/-! 40: cryostat/sound.look -/
def sound_look.cx : Cx := ⟨tys, [16], [], [], [(51, sound_walk_sound), (52, sound_walk_rest)], noDyn, [.tmp 2]⟩
def sound_look : Sm := fun xs H Q => ∃ k, callK (sound_look.cx) Go.Proofs.Try.f40 k xs H Q
theorem sound_look_eq (k : Nat) (z0 : Pl) (H : Hp) (Q : Post) : callK (sound_look.cx) Go.Proofs.Try.f40 (k + 1) [.g (.ptr z0)] H Q = (
 pS z0 fun n0 n1 =>
 rd H n0 (n1 + 0) fun v2 =>
 dL 5 v2 fun x3 n4 =>
 bite (!(eqI (nI n4) 48))
 (Q (.g (.int .i64 0)) H)
 (pS z0 fun n5 n6 =>
  rd H n5 (n6 + 0) fun v7 =>
  dL 5 v7 fun x8 n9 =>
  rd (pu H (.row true 4 (repN (tN 48) [(.bool false)]))) n5 (n6 + 0) fun v10 =>
  dL 5 v10 fun x11 n12 =>
  eqv (.g (.sl x8 n9 5)) (.g (.sl x11 n12 5)) (cl sound_walk_sound [(.g (.ptr (some ((ln (pu H (.row true 4 (repN (tN 48) [(.bool false)])))), 0)))), (.g (.int .i64 0)), (.g (.int .i64 1)), (.agg [(.str (mkS [])), (.str (mkS [])), (.bool true)])] (pu (pu H (.row true 4 (repN (tN 48) [(.bool false)]))) (.row true 86 [(.sl x8 n9 5), (.sl (some ((ln H), 0)) (tN 48) 1), (.int .i64 (-1)), (.int .i64 0)])) fun r13 H14 =>
  rG r13 fun v15 =>
  dB v15 fun b16 =>
  bite (!b16)
  (Q (.g (.int .i64 0)) H14)
  (cl sound_walk_rest [(.g (.ptr (some ((ln (pu H (.row true 4 (repN (tN 48) [(.bool false)])))), 0))))] H14 fun r17 H18 =>
   rG r17 fun v19 =>
   dB v19 fun b20 =>
   bite (!b20)
   (Q (.g (.int .i64 0)) H18)
   (rd H18 (ln (pu H (.row true 4 (repN (tN 48) [(.bool false)])))) 3 fun v21 =>
    dI .i64 v21 fun i22 =>
    bite (ltI 60 i22)
    (Q (.g (.int .i64 0)) H18)
    (rd H18 (ln (pu H (.row true 4 (repN (tN 48) [(.bool false)])))) 2 fun v23 =>
     dI .i64 v23 fun i24 =>
     Q (.g (.int .i64 i24)) H18)))))) := by kernel_rfl
theorem sound_look_ok : Sound Go.Proofs.Try.prog 40 (sound_look) := prog_ok.sound (cx := sound_look.cx) rfl (EnvOK.cons ((sound_walk_sound_ok).c ⟨_, Go.Proofs.Try.func51, by kernel_rfl, by kernel_rfl⟩) (EnvOK.cons ((sound_walk_rest_ok).c ⟨_, Go.Proofs.Try.func52, by kernel_rfl, by kernel_rfl⟩) (EnvOK.nil _))) (noDyn_ok _) Go.Proofs.Try.func40 rfl

/-! 15: cryostat/sound.Sound -/
def sound_Sound.cx : Cx := ⟨tys, [1], [], [], [(40, sound_look)], noDyn, [.tmp 2]⟩
def sound_Sound : Sm := fun xs H Q => ∃ k, callK (sound_Sound.cx) Go.Proofs.Try.f15 k xs H Q
theorem sound_Sound_eq (k : Nat) (z0 : Pl) (z0n : Nat) (H : Hp) (Q : Post) : callK (sound_Sound.cx) Go.Proofs.Try.f15 (k + 1) [.agg [.sl z0 z0n 5]] H Q = (
 cl sound_look [(.g (.ptr (some ((ln H), 0))))] (pu H (.row true 24 [(.sl z0 z0n 5)])) fun r0 H1 =>
 rG r0 fun v2 =>
 dI .i64 v2 fun i3 =>
 Q (.g (.bool (ltI 0 i3))) H1) := by kernel_rfl
theorem sound_Sound_ok : Sound Go.Proofs.Try.prog 15 (sound_Sound) := prog_ok.sound (cx := sound_Sound.cx) rfl (EnvOK.cons ((sound_look_ok).c ⟨_, Go.Proofs.Try.func40, by kernel_rfl, by kernel_rfl⟩) (EnvOK.nil _)) (noDyn_ok _) Go.Proofs.Try.func15 rfl

/-! 17: cryostat/sound.Height -/
def sound_Height.cx : Cx := ⟨tys, [1], [], [], [(40, sound_look)], noDyn, [.tmp 2]⟩
def sound_Height : Sm := fun xs H Q => ∃ k, callK (sound_Height.cx) Go.Proofs.Try.f17 k xs H Q
theorem sound_Height_eq (k : Nat) (z0 : Pl) (z0n : Nat) (H : Hp) (Q : Post) : callK (sound_Height.cx) Go.Proofs.Try.f17 (k + 1) [.agg [.sl z0 z0n 5]] H Q = (
 cl sound_look [(.g (.ptr (some ((ln H), 0))))] (pu H (.row true 24 [(.sl z0 z0n 5)])) fun r0 H1 =>
 rG r0 fun v2 =>
 dI .i64 v2 fun i3 =>
 Q (.g (.int .i64 i3)) H1) := by kernel_rfl
theorem sound_Height_ok : Sound Go.Proofs.Try.prog 17 (sound_Height) := prog_ok.sound (cx := sound_Height.cx) rfl (EnvOK.cons ((sound_look_ok).c ⟨_, Go.Proofs.Try.func40, by kernel_rfl, by kernel_rfl⟩) (EnvOK.nil _)) (noDyn_ok _) Go.Proofs.Try.func17 rfl

/-! 20: cryostat/sound.New -/
def sound_New.cx : Cx := ⟨tys, [], [], [], [], noDyn, [.cell 0 24]⟩
def sound_New : Sm := fun xs H Q => ∃ k, callK (sound_New.cx) Go.Proofs.Try.f20 k xs H Q
theorem sound_New_eq (k : Nat)  (H : Hp) (Q : Post) : callK (sound_New.cx) Go.Proofs.Try.f20 (k + 1) [] H Q = (
 chk true (chk ((leI 0 0) && (ltI 0 (nI (tN 48)))) (wr (pu H (.row true 34 (repN (tN 48) [(.bool false), (.bool false), (.sl none 0 1), (.sl none 0 1), (.sl none 0 1)]))) (ln H) (0 + ((tN 0) * 5)) (.bool true) fun H0 =>
 wr H0 (ln H) ((0 + ((tN 0) * 5)) + 1) (.bool true) fun H1 =>
 wr H1 (ln H) (((0 + ((tN 0) * 5)) + 1) + 1) (.sl none 0 1) fun H2 =>
 wr H2 (ln H) ((((0 + ((tN 0) * 5)) + 1) + 1) + 1) (.sl none 0 1) fun H3 =>
 wr H3 (ln H) (((((0 + ((tN 0) * 5)) + 1) + 1) + 1) + 1) (.sl none 0 1) fun H4 =>
 Q (.agg [(.sl (some ((ln H), 0)) (tN 48) 5)]) H4))) := by kernel_rfl
theorem sound_New_ok : Sound Go.Proofs.Try.prog 20 (sound_New) := prog_ok.sound (cx := sound_New.cx) rfl (EnvOK.nil _) (noDyn_ok _) Go.Proofs.Try.func20 rfl

/-! 53: (*cryostat/cryostatref9.below).walk -/
def ref9_below_walk.cx (S : Sm) : Cx := ⟨tys, [], [(13, [0, 3, 4, 5, 7, 12, 13])], [(10, [0, 3, 12]), (18, [0, 3, 4, 5, 7, 12, 13, 14, 15]), (20, [0, 3, 4, 5, 7, 12, 13, 14, 15])], [(27, ref1_PageMay), (53, S)], noDyn, []⟩
def ref9_below_walk.st (S : Sm) : Sm := fun xs H Q => ∃ k, callK (ref9_below_walk.cx S) Go.Proofs.Try.f53 k xs H Q
def ref9_below_walk.l10 (S : Sm) (k : Nat) (xx0 : Pl) (ix1 : Int) (bx2 : Bool) (bx3 : Bool) (xx4 : Pl) (nx5 : Nat) (xx6 : Pl) (nx7 : Nat) (xx8 : Pl) (nx9 : Nat) (H : Hp) (Q : Post) : Prop := loopK (ref9_below_walk.cx S) Go.Proofs.Try.f53 10 k ((.g (.ptr xx0)) :: .bad :: .bad :: (.g (.int .i64 ix1)) :: B 8 ((.bx [(.bool bx2), (.bool bx3), (.sl xx4 nx5 1), (.sl xx6 nx7 1), (.sl xx8 nx9 1)]) :: B 150 ([]))) H Q
def ref9_below_walk.l13 (S : Sm) (k : Nat) (xx0 : Pl) (ix1 : Int) (sx2 : ByteArray) (sx3 : ByteArray) (xx4 : Pl) (nx5 : Nat) (bx6 : Bool) (bx7 : Bool) (xx8 : Pl) (nx9 : Nat) (xx10 : Pl) (nx11 : Nat) (xx12 : Pl) (nx13 : Nat) (ix14 : Int) (H : Hp) (Q : Post) : Prop := loopK (ref9_below_walk.cx S) Go.Proofs.Try.f53 13 k ((.g (.ptr xx0)) :: .bad :: .bad :: (.g (.int .i64 ix1)) :: (.g (.str sx2)) :: (.g (.str sx3)) :: .bad :: (.bx [(.sl xx4 nx5 5)]) :: B 4 ((.bx [(.bool bx6), (.bool bx7), (.sl xx8 nx9 1), (.sl xx10 nx11 1), (.sl xx12 nx13 1)]) :: (.g (.int .i64 ix14)) :: B 149 ([]))) H Q
def ref9_below_walk.l18 (S : Sm) (k : Nat) (xx0 : Pl) (ix1 : Int) (sx2 : ByteArray) (sx3 : ByteArray) (xx4 : Pl) (nx5 : Nat) (bx6 : Bool) (bx7 : Bool) (xx8 : Pl) (nx9 : Nat) (xx10 : Pl) (nx11 : Nat) (xx12 : Pl) (nx13 : Nat) (ix14 : Int) (sx15 : ByteArray) (sx16 : ByteArray) (H : Hp) (Q : Post) : Prop := loopK (ref9_below_walk.cx S) Go.Proofs.Try.f53 18 k ((.g (.ptr xx0)) :: .bad :: .bad :: (.g (.int .i64 ix1)) :: (.g (.str sx2)) :: (.g (.str sx3)) :: .bad :: (.bx [(.sl xx4 nx5 5)]) :: B 4 ((.bx [(.bool bx6), (.bool bx7), (.sl xx8 nx9 1), (.sl xx10 nx11 1), (.sl xx12 nx13 1)]) :: (.g (.int .i64 ix14)) :: (.g (.str sx15)) :: (.g (.str sx16)) :: B 147 ([]))) H Q
def ref9_below_walk.l20 (S : Sm) (k : Nat) (xx0 : Pl) (ix1 : Int) (sx2 : ByteArray) (sx3 : ByteArray) (xx4 : Pl) (nx5 : Nat) (bx6 : Bool) (bx7 : Bool) (xx8 : Pl) (nx9 : Nat) (xx10 : Pl) (nx11 : Nat) (xx12 : Pl) (nx13 : Nat) (ix14 : Int) (sx15 : ByteArray) (sx16 : ByteArray) (H : Hp) (Q : Post) : Prop := loopK (ref9_below_walk.cx S) Go.Proofs.Try.f53 20 k ((.g (.ptr xx0)) :: .bad :: .bad :: (.g (.int .i64 ix1)) :: (.g (.str sx2)) :: (.g (.str sx3)) :: .bad :: (.bx [(.sl xx4 nx5 5)]) :: B 4 ((.bx [(.bool bx6), (.bool bx7), (.sl xx8 nx9 1), (.sl xx10 nx11 1), (.sl xx12 nx13 1)]) :: (.g (.int .i64 ix14)) :: (.g (.str sx15)) :: (.g (.str sx16)) :: B 147 ([]))) H Q
theorem ref9_below_walk_eq (S : Sm) (k : Nat) (z0 : Pl) (z1 : Pl) (z1n : Nat) (z2 : Int) (z3 : Int) (z4 : ByteArray) (z5 : ByteArray) (H : Hp) (Q : Post) : callK (ref9_below_walk.cx S) Go.Proofs.Try.f53 (k + 1) [.g (.ptr z0), .agg [.sl z1 z1n 5], .g (.int .i64 z2), .g (.int .i64 z3), .g (.str z4), .g (.str z5)] H Q = (
 pS z0 fun n0 n1 =>
 rd H n0 (n1 + 3) fun v2 =>
 dB v2 fun b3 =>
 bite b3
 (pS z0 fun n4 n5 =>
  wr H n4 (n5 + 3) (.bool true) fun H6 =>
  Q (.tup []) H6)
 (pS z0 fun n7 n8 =>
  rd H n7 (n8 + 0) fun v9 =>
  dL 1 v9 fun x10 n11 =>
  chk true (chk ((leI 0 z2) && (ltI z2 (nI n11))) (pS x10 fun n12 n13 =>
  rd H n12 (n13 + ((tN z2) * 1)) fun v14 =>
  dB v14 fun b15 =>
  bite b15
  (pS z0 fun n16 n17 =>
   wr H n16 (n17 + 3) (.bool true) fun H18 =>
   Q (.tup []) H18)
  (chk true (chk ((leI 0 z2) && (ltI z2 (nI z1n))) (pS z1 fun n19 n20 =>
   rd H n19 (n20 + ((tN z2) * 5)) fun v21 =>
   dB v21 fun b22 =>
   rd H n19 ((n20 + ((tN z2) * 5)) + 1) fun v23 =>
   dB v23 fun b24 =>
   rd H n19 (((n20 + ((tN z2) * 5)) + 1) + 1) fun v25 =>
   dL 1 v25 fun x26 n27 =>
   rd H n19 ((((n20 + ((tN z2) * 5)) + 1) + 1) + 1) fun v28 =>
   dL 1 v28 fun x29 n30 =>
   rd H n19 (((((n20 + ((tN z2) * 5)) + 1) + 1) + 1) + 1) fun v31 =>
   dL 1 v31 fun x32 n33 =>
   cl ref1_PageMay [(.agg [(.bool b22), (.bool b24), (.sl x26 n27 1), (.sl x29 n30 1), (.sl x32 n33 1)])] H fun r34 H35 =>
   rG r34 fun v36 =>
   dB v36 fun b37 =>
   bite (!b37)
   (pS z0 fun n38 n39 =>
    wr H35 n38 (n39 + 3) (.bool true) fun H40 =>
    Q (.tup []) H40)
   (pS z0 fun n41 n42 =>
    rd H35 n41 (n42 + 0) fun v43 =>
    dL 1 v43 fun x44 n45 =>
    chk true (chk ((leI 0 z2) && (ltI z2 (nI n45))) (pS x44 fun n46 n47 =>
    wr H35 n46 (n47 + ((tN z2) * 1)) (.bool true) fun H48 =>
    chk true (chk ((leI 0 z2) && (ltI z2 (nI z1n))) (pS z1 fun n49 n50 =>
    rd H48 n49 (n50 + ((tN z2) * 5)) fun v51 =>
    dB v51 fun b52 =>
    rd H48 n49 ((n50 + ((tN z2) * 5)) + 1) fun v53 =>
    dB v53 fun b54 =>
    rd H48 n49 (((n50 + ((tN z2) * 5)) + 1) + 1) fun v55 =>
    dL 1 v55 fun x56 n57 =>
    rd H48 n49 ((((n50 + ((tN z2) * 5)) + 1) + 1) + 1) fun v58 =>
    dL 1 v58 fun x59 n60 =>
    rd H48 n49 (((((n50 + ((tN z2) * 5)) + 1) + 1) + 1) + 1) fun v61 =>
    dL 1 v61 fun x62 n63 =>
    bite (!(eqI z2 0))
    (bite (ltI (nI n57) 2)
     (pS z0 fun n64 n65 =>
      wr H48 n64 (n65 + 3) (.bool true) fun H66 =>
      Q (.tup []) H66)
     (bite (ltI 0 (nI n57))
      (chk true (chk ((leI 0 0) && (ltI 0 (nI n57))) (pS x56 fun n67 n68 =>
       rd H48 n67 (n68 + ((tN 0) * 1)) fun v69 =>
       dS v69 fun s70 =>
       bite (strLt s70 z4)
       (pS z0 fun n71 n72 =>
        wr H48 n71 (n72 + 3) (.bool true) fun H73 =>
        Q (.tup []) H73)
       (bite (!(strEq z5 (mkS [])))
        (chk true (chk ((leI 0 (wrapI .i64 ((nI n57) - 1))) && (ltI (wrapI .i64 ((nI n57) - 1)) (nI n57))) (pS x56 fun n74 n75 =>
         rd H48 n74 (n75 + ((tN (wrapI .i64 ((nI n57) - 1))) * 1)) fun v76 =>
         dS v76 fun s77 =>
         bite (!(strLt s77 z5))
         (pS z0 fun n78 n79 =>
          wr H48 n78 (n79 + 3) (.bool true) fun H80 =>
          Q (.tup []) H80)
         (bite b54
          (pS z0 fun n81 n82 =>
           rd H48 n81 (n82 + 1) fun v83 =>
           dI .i64 v83 fun i84 =>
           bite (eqI i84 0)
           (pS z0 fun n85 n86 =>
            wr H48 n85 (n86 + 1) (.int .i64 z3) fun H87 =>
            ref9_below_walk.l10 S k z0 z3 b52 b54 x56 n57 x59 n60 x62 n63 H87 Q)
           (ref9_below_walk.l10 S k z0 z3 b52 b54 x56 n57 x59 n60 x62 n63 H48 Q))
          (ref9_below_walk.l13 S k z0 z3 z4 z5 z1 z1n b52 b54 x56 n57 x59 n60 x62 n63 0 H48 Q)))))
        (bite b54
         (pS z0 fun n88 n89 =>
          rd H48 n88 (n89 + 1) fun v90 =>
          dI .i64 v90 fun i91 =>
          bite (eqI i91 0)
          (pS z0 fun n92 n93 =>
           wr H48 n92 (n93 + 1) (.int .i64 z3) fun H94 =>
           ref9_below_walk.l10 S k z0 z3 b52 b54 x56 n57 x59 n60 x62 n63 H94 Q)
          (ref9_below_walk.l10 S k z0 z3 b52 b54 x56 n57 x59 n60 x62 n63 H48 Q))
         (ref9_below_walk.l13 S k z0 z3 z4 z5 z1 z1n b52 b54 x56 n57 x59 n60 x62 n63 0 H48 Q))))))
      (bite b54
       (pS z0 fun n95 n96 =>
        rd H48 n95 (n96 + 1) fun v97 =>
        dI .i64 v97 fun i98 =>
        bite (eqI i98 0)
        (pS z0 fun n99 n100 =>
         wr H48 n99 (n100 + 1) (.int .i64 z3) fun H101 =>
         ref9_below_walk.l10 S k z0 z3 b52 b54 x56 n57 x59 n60 x62 n63 H101 Q)
        (ref9_below_walk.l10 S k z0 z3 b52 b54 x56 n57 x59 n60 x62 n63 H48 Q))
       (ref9_below_walk.l13 S k z0 z3 z4 z5 z1 z1n b52 b54 x56 n57 x59 n60 x62 n63 0 H48 Q))))
    (bite (ltI 0 (nI n57))
     (chk true (chk ((leI 0 0) && (ltI 0 (nI n57))) (pS x56 fun n102 n103 =>
      rd H48 n102 (n103 + ((tN 0) * 1)) fun v104 =>
      dS v104 fun s105 =>
      bite (strLt s105 z4)
      (pS z0 fun n106 n107 =>
       wr H48 n106 (n107 + 3) (.bool true) fun H108 =>
       Q (.tup []) H108)
      (bite (!(strEq z5 (mkS [])))
       (chk true (chk ((leI 0 (wrapI .i64 ((nI n57) - 1))) && (ltI (wrapI .i64 ((nI n57) - 1)) (nI n57))) (pS x56 fun n109 n110 =>
        rd H48 n109 (n110 + ((tN (wrapI .i64 ((nI n57) - 1))) * 1)) fun v111 =>
        dS v111 fun s112 =>
        bite (!(strLt s112 z5))
        (pS z0 fun n113 n114 =>
         wr H48 n113 (n114 + 3) (.bool true) fun H115 =>
         Q (.tup []) H115)
        (bite b54
         (pS z0 fun n116 n117 =>
          rd H48 n116 (n117 + 1) fun v118 =>
          dI .i64 v118 fun i119 =>
          bite (eqI i119 0)
          (pS z0 fun n120 n121 =>
           wr H48 n120 (n121 + 1) (.int .i64 z3) fun H122 =>
           ref9_below_walk.l10 S k z0 z3 b52 b54 x56 n57 x59 n60 x62 n63 H122 Q)
          (ref9_below_walk.l10 S k z0 z3 b52 b54 x56 n57 x59 n60 x62 n63 H48 Q))
         (ref9_below_walk.l13 S k z0 z3 z4 z5 z1 z1n b52 b54 x56 n57 x59 n60 x62 n63 0 H48 Q)))))
       (bite b54
        (pS z0 fun n123 n124 =>
         rd H48 n123 (n124 + 1) fun v125 =>
         dI .i64 v125 fun i126 =>
         bite (eqI i126 0)
         (pS z0 fun n127 n128 =>
          wr H48 n127 (n128 + 1) (.int .i64 z3) fun H129 =>
          ref9_below_walk.l10 S k z0 z3 b52 b54 x56 n57 x59 n60 x62 n63 H129 Q)
         (ref9_below_walk.l10 S k z0 z3 b52 b54 x56 n57 x59 n60 x62 n63 H48 Q))
        (ref9_below_walk.l13 S k z0 z3 z4 z5 z1 z1n b52 b54 x56 n57 x59 n60 x62 n63 0 H48 Q))))))
     (bite b54
      (pS z0 fun n130 n131 =>
       rd H48 n130 (n131 + 1) fun v132 =>
       dI .i64 v132 fun i133 =>
       bite (eqI i133 0)
       (pS z0 fun n134 n135 =>
        wr H48 n134 (n135 + 1) (.int .i64 z3) fun H136 =>
        ref9_below_walk.l10 S k z0 z3 b52 b54 x56 n57 x59 n60 x62 n63 H136 Q)
       (ref9_below_walk.l10 S k z0 z3 b52 b54 x56 n57 x59 n60 x62 n63 H48 Q))
      (ref9_below_walk.l13 S k z0 z3 z4 z5 z1 z1n b52 b54 x56 n57 x59 n60 x62 n63 0 H48 Q))))))))))))))) := by kernel_rfl
theorem ref9_below_walk.l10_eq (S : Sm) (k : Nat) (xx0 : Pl) (ix1 : Int) (bx2 : Bool) (bx3 : Bool) (xx4 : Pl) (nx5 : Nat) (xx6 : Pl) (nx7 : Nat) (xx8 : Pl) (nx9 : Nat) (H : Hp) (Q : Post) : ref9_below_walk.l10 S (k + 1) xx0 ix1 bx2 bx3 xx4 nx5 xx6 nx7 xx8 nx9 H Q = (
 pS xx0 fun n0 n1 =>
 rd H n0 (n1 + 1) fun v2 =>
 dI .i64 v2 fun i3 =>
 pS xx0 fun n4 n5 =>
 wr H n4 (n5 + 3) (.bool (!(eqI i3 ix1))) fun H6 =>
 pS xx0 fun n7 n8 =>
 rd H6 n7 (n8 + 2) fun v9 =>
 dI .i64 v9 fun i10 =>
 pS xx0 fun n11 n12 =>
 wr H6 n11 (n12 + 2) (.int .i64 (wrapI .i64 (i10 + (nI nx5)))) fun H13 =>
 Q (.tup []) H13) := by kernel_rfl
theorem ref9_below_walk.l13_eq (S : Sm) (k : Nat) (xx0 : Pl) (ix1 : Int) (sx2 : ByteArray) (sx3 : ByteArray) (xx4 : Pl) (nx5 : Nat) (bx6 : Bool) (bx7 : Bool) (xx8 : Pl) (nx9 : Nat) (xx10 : Pl) (nx11 : Nat) (xx12 : Pl) (nx13 : Nat) (ix14 : Int) (H : Hp) (Q : Post) : ref9_below_walk.l13 S (k + 1) xx0 ix1 sx2 sx3 xx4 nx5 bx6 bx7 xx8 nx9 xx10 nx11 xx12 nx13 ix14 H Q = (
 bite (ltI ix14 (nI nx13))
 (bite (ltI 0 ix14)
  (chk true (chk ((leI 0 (wrapI .i64 (ix14 - 1))) && (ltI (wrapI .i64 (ix14 - 1)) (nI nx9))) (pS xx8 fun n0 n1 =>
   rd H n0 (n1 + ((tN (wrapI .i64 (ix14 - 1))) * 1)) fun v2 =>
   dS v2 fun s3 =>
   ref9_below_walk.l18 S k xx0 ix1 sx2 sx3 xx4 nx5 bx6 bx7 xx8 nx9 xx10 nx11 xx12 nx13 ix14 s3 sx3 H Q)))
  (ref9_below_walk.l18 S k xx0 ix1 sx2 sx3 xx4 nx5 bx6 bx7 xx8 nx9 xx10 nx11 xx12 nx13 ix14 sx2 sx3 H Q))
 (Q (.tup []) H)) := by kernel_rfl
theorem ref9_below_walk.l18_eq (S : Sm) (k : Nat) (xx0 : Pl) (ix1 : Int) (sx2 : ByteArray) (sx3 : ByteArray) (xx4 : Pl) (nx5 : Nat) (bx6 : Bool) (bx7 : Bool) (xx8 : Pl) (nx9 : Nat) (xx10 : Pl) (nx11 : Nat) (xx12 : Pl) (nx13 : Nat) (ix14 : Int) (sx15 : ByteArray) (sx16 : ByteArray) (H : Hp) (Q : Post) : ref9_below_walk.l18 S (k + 1) xx0 ix1 sx2 sx3 xx4 nx5 bx6 bx7 xx8 nx9 xx10 nx11 xx12 nx13 ix14 sx15 sx16 H Q = (
 bite (ltI ix14 (nI nx9))
 (chk true (chk ((leI 0 ix14) && (ltI ix14 (nI nx9))) (pS xx8 fun n0 n1 =>
  rd H n0 (n1 + ((tN ix14) * 1)) fun v2 =>
  dS v2 fun s3 =>
  ref9_below_walk.l20 S k xx0 ix1 sx2 sx3 xx4 nx5 bx6 bx7 xx8 nx9 xx10 nx11 xx12 nx13 ix14 sx15 s3 H Q)))
 (ref9_below_walk.l20 S k xx0 ix1 sx2 sx3 xx4 nx5 bx6 bx7 xx8 nx9 xx10 nx11 xx12 nx13 ix14 sx15 sx16 H Q)) := by kernel_rfl
theorem ref9_below_walk.l20_eq (S : Sm) (k : Nat) (xx0 : Pl) (ix1 : Int) (sx2 : ByteArray) (sx3 : ByteArray) (xx4 : Pl) (nx5 : Nat) (bx6 : Bool) (bx7 : Bool) (xx8 : Pl) (nx9 : Nat) (xx10 : Pl) (nx11 : Nat) (xx12 : Pl) (nx13 : Nat) (ix14 : Int) (sx15 : ByteArray) (sx16 : ByteArray) (H : Hp) (Q : Post) : ref9_below_walk.l20 S (k + 1) xx0 ix1 sx2 sx3 xx4 nx5 bx6 bx7 xx8 nx9 xx10 nx11 xx12 nx13 ix14 sx15 sx16 H Q = (
 chk true (chk ((leI 0 ix14) && (ltI ix14 (nI nx13))) (pS xx12 fun n0 n1 =>
 rd H n0 (n1 + ((tN ix14) * 1)) fun v2 =>
 dI .i64 v2 fun i3 =>
 cl S [(.g (.ptr xx0)), (.agg [(.sl xx4 nx5 5)]), (.g (.int .i64 i3)), (.g (.int .i64 (wrapI .i64 (ix1 + 1)))), (.g (.str sx15)), (.g (.str sx16))] H fun r4 H5 =>
 ref9_below_walk.l13 S k xx0 ix1 sx2 sx3 xx4 nx5 bx6 bx7 xx8 nx9 xx10 nx11 xx12 nx13 (wrapI .i64 (ix14 + 1)) H5 Q))) := by kernel_rfl
theorem ref9_below_walk.st_ok (S : Sm) (hS : SoundC Go.Proofs.Try.prog 53 S) : Sound Go.Proofs.Try.prog 53 (ref9_below_walk.st S) := prog_ok.sound (cx := ref9_below_walk.cx S) rfl (EnvOK.cons ((ref1_PageMay_ok).c ⟨_, Go.Proofs.Try.func27, by kernel_rfl, by kernel_rfl⟩) (EnvOK.cons hS (EnvOK.nil _))) (noDyn_ok _) Go.Proofs.Try.func53 rfl
def ref9_below_walk.at : Nat → Sm
  | 0 => fun _ _ _ => False
  | n + 1 => ref9_below_walk.st (ref9_below_walk.at n)
def ref9_below_walk : Sm := fun xs H Q => ∃ n, ref9_below_walk.at n xs H Q
theorem ref9_below_walk.at_ok : ∀ n, Sound Go.Proofs.Try.prog 53 (ref9_below_walk.at n)
  | 0 => fun _ _ _ h => h.elim
  | n + 1 => ref9_below_walk.st_ok _ ((ref9_below_walk.at_ok n).c ⟨_, Go.Proofs.Try.func53, by kernel_rfl, by kernel_rfl⟩)
theorem ref9_below_walk_ok : Sound Go.Proofs.Try.prog 53 (ref9_below_walk) := Sound.ex (ref9_below_walk.at_ok)

/-! 54: cryostat/cryostatref9.nothing -/
def ref9_nothing.cx : Cx := ⟨tys, [], [], [], [], noDyn, [.tmp 2]⟩
def ref9_nothing : Sm := fun xs H Q => ∃ k, callK (ref9_nothing.cx) Go.Proofs.Try.f54 k xs H Q
theorem ref9_nothing_eq (k : Nat) (z0 : Bool) (z1 : Bool) (z2 : Pl) (z2n : Nat) (z3 : Pl) (z3n : Nat) (z4 : Pl) (z4n : Nat) (H : Hp) (Q : Post) : callK (ref9_nothing.cx) Go.Proofs.Try.f54 (k + 1) [.agg [.bool z0, .bool z1, .sl z2 z2n 1, .sl z3 z3n 1, .sl z4 z4n 1]] H Q = (
 bite (!z0)
 (bite (!z1)
  (Q (.g (.bool (eqI (wrapI .i64 ((wrapI .i64 ((nI z2n) + (nI z3n))) + (nI z4n))) 0))) H)
  (Q (.g (.bool false)) H))
 (Q (.g (.bool false)) H)) := by kernel_rfl
theorem ref9_nothing_ok : Sound Go.Proofs.Try.prog 54 (ref9_nothing) := prog_ok.sound (cx := ref9_nothing.cx) rfl (EnvOK.nil _) (noDyn_ok _) Go.Proofs.Try.func54 rfl

/-! 41: cryostat/cryostatref9.looked -/
def ref9_looked.cx : Cx := ⟨tys, [12], [(6, [1, 4, 5, 12])], [], [(53, ref9_below_walk), (54, ref9_nothing)], noDyn, [.tmp 2, .tmp 3]⟩
def ref9_looked : Sm := fun xs H Q => ∃ k, callK (ref9_looked.cx) Go.Proofs.Try.f41 k xs H Q
def ref9_looked.l6 (k : Nat) (xx0 : Pl) (nx1 : Nat) (nx2 : Nat) (nx3 : Nat) (ix4 : Int) (nx5 : Nat) (nx6 : Nat) (H : Hp) (Q : Post) : Prop := loopK (ref9_looked.cx) Go.Proofs.Try.f41 6 k (.bad :: (.bx [(.sl xx0 nx1 5)]) :: .bad :: .bad :: (.g (.ptr (some (nx2, nx3)))) :: (.g (.int .i64 ix4)) :: B 6 ((.g (.ptr (some (nx5, nx6)))) :: B 40 ([]))) H Q
theorem ref9_looked_eq (k : Nat) (z0 : Pl) (z0n : Nat) (H : Hp) (Q : Post) : callK (ref9_looked.cx) Go.Proofs.Try.f41 (k + 1) [.agg [.sl z0 z0n 5]] H Q = (
 bite (!(eqI (nI z0n) 48))
 (Q (.tup [(.s (.ptr none)), (.s (.bool false))]) H)
 (cl ref9_below_walk [(.g (.ptr (some ((ln (pu H (.row true 4 (repN (tN 48) [(.bool false)])))), 0)))), (.agg [(.sl z0 z0n 5)]), (.g (.int .i64 0)), (.g (.int .i64 1)), (.g (.str (mkS []))), (.g (.str (mkS [])))] (pu (pu H (.row true 4 (repN (tN 48) [(.bool false)]))) (.row true 69 [(.sl (some ((ln H), 0)) (tN 48) 1), (.int .i64 0), (.int .i64 0), (.bool false)])) fun r0 H1 =>
  ref9_looked.l6 k z0 z0n (ln (pu H (.row true 4 (repN (tN 48) [(.bool false)])))) 0 0 (ln (pu H (.row true 4 (repN (tN 48) [(.bool false)])))) 0 H1 Q)) := by kernel_rfl
theorem ref9_looked.l6_eq (k : Nat) (xx0 : Pl) (nx1 : Nat) (nx2 : Nat) (nx3 : Nat) (ix4 : Int) (nx5 : Nat) (nx6 : Nat) (H : Hp) (Q : Post) : ref9_looked.l6 (k + 1) xx0 nx1 nx2 nx3 ix4 nx5 nx6 H Q = (
 bite (ltI ix4 48)
 (rd H nx2 (nx3 + 0) fun v0 =>
  dL 1 v0 fun x1 n2 =>
  chk true (chk ((leI 0 ix4) && (ltI ix4 (nI n2))) (pS x1 fun n3 n4 =>
  rd H n3 (n4 + ((tN ix4) * 1)) fun v5 =>
  dB v5 fun b6 =>
  bite (!b6)
  (chk true (chk ((leI 0 ix4) && (ltI ix4 (nI nx1))) (pS xx0 fun n7 n8 =>
   rd H n7 (n8 + ((tN ix4) * 5)) fun v9 =>
   dB v9 fun b10 =>
   rd H n7 ((n8 + ((tN ix4) * 5)) + 1) fun v11 =>
   dB v11 fun b12 =>
   rd H n7 (((n8 + ((tN ix4) * 5)) + 1) + 1) fun v13 =>
   dL 1 v13 fun x14 n15 =>
   rd H n7 ((((n8 + ((tN ix4) * 5)) + 1) + 1) + 1) fun v16 =>
   dL 1 v16 fun x17 n18 =>
   rd H n7 (((((n8 + ((tN ix4) * 5)) + 1) + 1) + 1) + 1) fun v19 =>
   dL 1 v19 fun x20 n21 =>
   cl ref9_nothing [(.agg [(.bool b10), (.bool b12), (.sl x14 n15 1), (.sl x17 n18 1), (.sl x20 n21 1)])] H fun r22 H23 =>
   rG r22 fun v24 =>
   dB v24 fun b25 =>
   bite (!b25)
   (wr H23 nx2 (nx3 + 3) (.bool true) fun H26 =>
    ref9_looked.l6 k xx0 nx1 nx2 nx3 (wrapI .i64 (ix4 + 1)) nx5 nx6 H26 Q)
   (ref9_looked.l6 k xx0 nx1 nx2 nx3 (wrapI .i64 (ix4 + 1)) nx5 nx6 H23 Q))))
  (ref9_looked.l6 k xx0 nx1 nx2 nx3 (wrapI .i64 (ix4 + 1)) nx5 nx6 H Q))))
 (rd H nx2 (nx3 + 3) fun v27 =>
  dB v27 fun b28 =>
  bite (!b28)
  (rd H nx2 (nx3 + 2) fun v29 =>
   dI .i64 v29 fun i30 =>
   Q (.tup [(.s (.ptr (some (nx2, nx3)))), (.s (.bool (leI i30 60)))]) H)
  (Q (.tup [(.s (.ptr (some (nx2, nx3)))), (.s (.bool false))]) H))) := by kernel_rfl
theorem ref9_looked_ok : Sound Go.Proofs.Try.prog 41 (ref9_looked) := prog_ok.sound (cx := ref9_looked.cx) rfl (EnvOK.cons ((ref9_below_walk_ok).c ⟨_, Go.Proofs.Try.func53, by kernel_rfl, by kernel_rfl⟩) (EnvOK.cons ((ref9_nothing_ok).c ⟨_, Go.Proofs.Try.func54, by kernel_rfl, by kernel_rfl⟩) (EnvOK.nil _))) (noDyn_ok _) Go.Proofs.Try.func41 rfl

/-! 16: cryostat/cryostatref9.Sound -/
def ref9_Sound.cx : Cx := ⟨tys, [], [], [], [(41, ref9_looked)], noDyn, [.tmp 2]⟩
def ref9_Sound : Sm := fun xs H Q => ∃ k, callK (ref9_Sound.cx) Go.Proofs.Try.f16 k xs H Q
theorem ref9_Sound_eq (k : Nat) (z0 : Pl) (z0n : Nat) (H : Hp) (Q : Post) : callK (ref9_Sound.cx) Go.Proofs.Try.f16 (k + 1) [.agg [.sl z0 z0n 5]] H Q = (
 cl ref9_looked [(.agg [(.sl z0 z0n 5)])] H fun r0 H1 =>
 rT r0 fun c2 =>
 uR c2 fun q3 c4 =>
 rS q3 fun v5 =>
 dP v5 fun x6 =>
 uR c4 fun q7 c8 =>
 rS q7 fun v9 =>
 dB v9 fun b10 =>
 uE c8 (Q (.g (.bool b10)) H1)) := by kernel_rfl
theorem ref9_Sound_ok : Sound Go.Proofs.Try.prog 16 (ref9_Sound) := prog_ok.sound (cx := ref9_Sound.cx) rfl (EnvOK.cons ((ref9_looked_ok).c ⟨_, Go.Proofs.Try.func41, by kernel_rfl, by kernel_rfl⟩) (EnvOK.nil _)) (noDyn_ok _) Go.Proofs.Try.func16 rfl

/-! 18: cryostat/cryostatref9.Height -/
def ref9_Height.cx : Cx := ⟨tys, [], [], [], [(41, ref9_looked)], noDyn, [.tmp 2]⟩
def ref9_Height : Sm := fun xs H Q => ∃ k, callK (ref9_Height.cx) Go.Proofs.Try.f18 k xs H Q
theorem ref9_Height_eq (k : Nat) (z0 : Pl) (z0n : Nat) (H : Hp) (Q : Post) : callK (ref9_Height.cx) Go.Proofs.Try.f18 (k + 1) [.agg [.sl z0 z0n 5]] H Q = (
 cl ref9_looked [(.agg [(.sl z0 z0n 5)])] H fun r0 H1 =>
 rT r0 fun c2 =>
 uR c2 fun q3 c4 =>
 rS q3 fun v5 =>
 dP v5 fun x6 =>
 uR c4 fun q7 c8 =>
 rS q7 fun v9 =>
 dB v9 fun b10 =>
 uE c8 (bite (!b10)
 (Q (.g (.int .i64 0)) H1)
 (pS x6 fun n11 n12 =>
  rd H1 n11 (n12 + 1) fun v13 =>
  dI .i64 v13 fun i14 =>
  Q (.g (.int .i64 i14)) H1))) := by kernel_rfl
theorem ref9_Height_ok : Sound Go.Proofs.Try.prog 18 (ref9_Height) := prog_ok.sound (cx := ref9_Height.cx) rfl (EnvOK.cons ((ref9_looked_ok).c ⟨_, Go.Proofs.Try.func41, by kernel_rfl, by kernel_rfl⟩) (EnvOK.nil _)) (noDyn_ok _) Go.Proofs.Try.func18 rfl

/-! 21: cryostat/cryostatref9.New -/
def ref9_New.cx : Cx := ⟨tys, [], [], [], [], noDyn, [.cell 0 24]⟩
def ref9_New : Sm := fun xs H Q => ∃ k, callK (ref9_New.cx) Go.Proofs.Try.f21 k xs H Q
theorem ref9_New_eq (k : Nat)  (H : Hp) (Q : Post) : callK (ref9_New.cx) Go.Proofs.Try.f21 (k + 1) [] H Q = (
 chk true (chk ((leI 0 0) && (ltI 0 (nI (tN 48)))) (wr (pu H (.row true 34 (repN (tN 48) [(.bool false), (.bool false), (.sl none 0 1), (.sl none 0 1), (.sl none 0 1)]))) (ln H) (0 + ((tN 0) * 5)) (.bool true) fun H0 =>
 wr H0 (ln H) ((0 + ((tN 0) * 5)) + 1) (.bool true) fun H1 =>
 wr H1 (ln H) (((0 + ((tN 0) * 5)) + 1) + 1) (.sl none 0 1) fun H2 =>
 wr H2 (ln H) ((((0 + ((tN 0) * 5)) + 1) + 1) + 1) (.sl none 0 1) fun H3 =>
 wr H3 (ln H) (((((0 + ((tN 0) * 5)) + 1) + 1) + 1) + 1) (.sl none 0 1) fun H4 =>
 Q (.agg [(.sl (some ((ln H), 0)) (tN 48) 5)]) H4))) := by kernel_rfl
theorem ref9_New_ok : Sound Go.Proofs.Try.prog 21 (ref9_New) := prog_ok.sound (cx := ref9_New.cx) rfl (EnvOK.nil _) (noDyn_ok _) Go.Proofs.Try.func21 rfl

/-! 14: cryostat/cryostatlaw0.CopyTree -/
def law0_CopyTree.cx : Cx := ⟨tys, [], [(3, [1, 2, 3, 4])], [], [(39, law0_CopyPage)], noDyn, [.cell 2 24]⟩
def law0_CopyTree : Sm := fun xs H Q => ∃ k, callK (law0_CopyTree.cx) Go.Proofs.Try.f14 k xs H Q
def law0_CopyTree.l3 (k : Nat) (xx0 : Pl) (nx1 : Nat) (ax2 : Pl) (nx3 : Nat) (ax4 : Pl) (nx5 : Nat) (ix6 : Int) (H : Hp) (Q : Post) : Prop := loopK (law0_CopyTree.cx) Go.Proofs.Try.f14 3 k (.bad :: (.bx [(.sl xx0 nx1 5)]) :: (.bx [(.sl ax2 nx3 5)]) :: (.bx [(.sl ax4 nx5 5)]) :: (.g (.int .i64 ix6)) :: B 19 ([])) H Q
theorem law0_CopyTree_eq (k : Nat) (z0 : Pl) (z0n : Nat) (H : Hp) (Q : Post) : callK (law0_CopyTree.cx) Go.Proofs.Try.f14 (k + 1) [.agg [.sl z0 z0n 5]] H Q = (
 law0_CopyTree.l3 k z0 z0n none 0 none 0 0 H Q) := by kernel_rfl
theorem law0_CopyTree.l3_eq (k : Nat) (xx0 : Pl) (nx1 : Nat) (ax2 : Pl) (nx3 : Nat) (ax4 : Pl) (nx5 : Nat) (ix6 : Int) (H : Hp) (Q : Post) : law0_CopyTree.l3 (k + 1) xx0 nx1 ax2 nx3 ax4 nx5 ix6 H Q = (
 bite (ltI ix6 (nI nx1))
 (chk true (chk ((leI 0 ix6) && (ltI ix6 (nI nx1))) (pS xx0 fun n0 n1 =>
  rd H n0 (n1 + ((tN ix6) * 5)) fun v2 =>
  dB v2 fun b3 =>
  rd H n0 ((n1 + ((tN ix6) * 5)) + 1) fun v4 =>
  dB v4 fun b5 =>
  rd H n0 (((n1 + ((tN ix6) * 5)) + 1) + 1) fun v6 =>
  dL 1 v6 fun x7 n8 =>
  rd H n0 ((((n1 + ((tN ix6) * 5)) + 1) + 1) + 1) fun v9 =>
  dL 1 v9 fun x10 n11 =>
  rd H n0 (((((n1 + ((tN ix6) * 5)) + 1) + 1) + 1) + 1) fun v12 =>
  dL 1 v12 fun x13 n14 =>
  cl law0_CopyPage [(.agg [(.bool b3), (.bool b5), (.sl x7 n8 1), (.sl x10 n11 1), (.sl x13 n14 1)])] H fun r15 H16 =>
  rA r15 fun c17 =>
  uC c17 fun v18 c19 =>
  dB v18 fun b20 =>
  uC c19 fun v21 c22 =>
  dB v21 fun b23 =>
  uC c22 fun v24 c25 =>
  dL 1 v24 fun x26 n27 =>
  uC c25 fun v28 c29 =>
  dL 1 v28 fun x30 n31 =>
  uC c29 fun v32 c33 =>
  dL 1 v32 fun x34 n35 =>
  uN c33 (chk true (ap H16 34 5 80 ax4 nx5 [(.bool b20), (.bool b23), (.sl x26 n27 1), (.sl x30 n31 1), (.sl x34 n35 1)] 1 fun x36 n37 H38 =>
  law0_CopyTree.l3 k xx0 nx1 ax2 nx3 x36 n37 (wrapI .i64 (ix6 + 1)) H38 Q)))))
 (Q (.agg [(.sl ax4 nx5 5)]) H)) := by kernel_rfl
theorem law0_CopyTree_ok : Sound Go.Proofs.Try.prog 14 (law0_CopyTree) := prog_ok.sound (cx := law0_CopyTree.cx) rfl (EnvOK.cons ((law0_CopyPage_ok).c ⟨_, Go.Proofs.Try.func39, by kernel_rfl, by kernel_rfl⟩) (EnvOK.nil _)) (noDyn_ok _) Go.Proofs.Try.func14 rfl

/-! 19: cryostat/cryostatlaw0.SameTree -/
def law0_SameTree.cx : Cx := ⟨tys, [], [(4, [2, 3, 5])], [], [(42, law0_SamePage)], noDyn, [.tmp 4]⟩
def law0_SameTree : Sm := fun xs H Q => ∃ k, callK (law0_SameTree.cx) Go.Proofs.Try.f19 k xs H Q
def law0_SameTree.l4 (k : Nat) (xx0 : Pl) (nx1 : Nat) (xx2 : Pl) (nx3 : Nat) (ix4 : Int) (H : Hp) (Q : Post) : Prop := loopK (law0_SameTree.cx) Go.Proofs.Try.f19 4 k (.bad :: .bad :: (.bx [(.sl xx0 nx1 5)]) :: (.bx [(.sl xx2 nx3 5)]) :: .bad :: (.g (.int .i64 ix4)) :: B 26 ([])) H Q
theorem law0_SameTree_eq (k : Nat) (z0 : Pl) (z0n : Nat) (z1 : Pl) (z1n : Nat) (H : Hp) (Q : Post) : callK (law0_SameTree.cx) Go.Proofs.Try.f19 (k + 1) [.agg [.sl z0 z0n 5], .agg [.sl z1 z1n 5]] H Q = (
 bite (!(eqI (nI z0n) (nI z1n)))
 (Q (.g (.bool false)) H)
 (law0_SameTree.l4 k z0 z0n z1 z1n 0 H Q)) := by kernel_rfl
theorem law0_SameTree.l4_eq (k : Nat) (xx0 : Pl) (nx1 : Nat) (xx2 : Pl) (nx3 : Nat) (ix4 : Int) (H : Hp) (Q : Post) : law0_SameTree.l4 (k + 1) xx0 nx1 xx2 nx3 ix4 H Q = (
 bite (ltI ix4 (nI nx1))
 (chk true (chk ((leI 0 ix4) && (ltI ix4 (nI nx1))) (pS xx0 fun n0 n1 =>
  rd H n0 (n1 + ((tN ix4) * 5)) fun v2 =>
  dB v2 fun b3 =>
  rd H n0 ((n1 + ((tN ix4) * 5)) + 1) fun v4 =>
  dB v4 fun b5 =>
  rd H n0 (((n1 + ((tN ix4) * 5)) + 1) + 1) fun v6 =>
  dL 1 v6 fun x7 n8 =>
  rd H n0 ((((n1 + ((tN ix4) * 5)) + 1) + 1) + 1) fun v9 =>
  dL 1 v9 fun x10 n11 =>
  rd H n0 (((((n1 + ((tN ix4) * 5)) + 1) + 1) + 1) + 1) fun v12 =>
  dL 1 v12 fun x13 n14 =>
  chk true (chk ((leI 0 ix4) && (ltI ix4 (nI nx3))) (pS xx2 fun n15 n16 =>
  rd H n15 (n16 + ((tN ix4) * 5)) fun v17 =>
  dB v17 fun b18 =>
  rd H n15 ((n16 + ((tN ix4) * 5)) + 1) fun v19 =>
  dB v19 fun b20 =>
  rd H n15 (((n16 + ((tN ix4) * 5)) + 1) + 1) fun v21 =>
  dL 1 v21 fun x22 n23 =>
  rd H n15 ((((n16 + ((tN ix4) * 5)) + 1) + 1) + 1) fun v24 =>
  dL 1 v24 fun x25 n26 =>
  rd H n15 (((((n16 + ((tN ix4) * 5)) + 1) + 1) + 1) + 1) fun v27 =>
  dL 1 v27 fun x28 n29 =>
  cl law0_SamePage [(.agg [(.bool b3), (.bool b5), (.sl x7 n8 1), (.sl x10 n11 1), (.sl x13 n14 1)]), (.agg [(.bool b18), (.bool b20), (.sl x22 n23 1), (.sl x25 n26 1), (.sl x28 n29 1)])] H fun r30 H31 =>
  rG r30 fun v32 =>
  dB v32 fun b33 =>
  bite (!b33)
  (Q (.g (.bool false)) H31)
  (law0_SameTree.l4 k xx0 nx1 xx2 nx3 (wrapI .i64 (ix4 + 1)) H31 Q))))))
 (Q (.g (.bool true)) H)) := by kernel_rfl
theorem law0_SameTree_ok : Sound Go.Proofs.Try.prog 19 (law0_SameTree) := prog_ok.sound (cx := law0_SameTree.cx) rfl (EnvOK.cons ((law0_SamePage_ok).c ⟨_, Go.Proofs.Try.func42, by kernel_rfl, by kernel_rfl⟩) (EnvOK.nil _)) (noDyn_ok _) Go.Proofs.Try.func19 rfl

/-! 44: cryostat/cryostatref9.sizes -/
def ref9_sizes.cx : Cx := ⟨tys, [], [(4, [0, 5, 6, 7])], [], [], noDyn, [.tmp 4]⟩
def ref9_sizes : Sm := fun xs H Q => ∃ k, callK (ref9_sizes.cx) Go.Proofs.Try.f44 k xs H Q
def ref9_sizes.l4 (k : Nat) (ix0 : Int) (ix1 : Int) (ax2 : Pl) (nx3 : Nat) (ix4 : Int) (H : Hp) (Q : Post) : Prop := loopK (ref9_sizes.cx) Go.Proofs.Try.f44 4 k ((.g (.int .i64 ix0)) :: B 4 ((.g (.int .i64 ix1)) :: (.g (.sl ax2 nx3 1)) :: (.g (.int .i64 ix4)) :: B 28 ([]))) H Q
theorem ref9_sizes_eq (k : Nat) (z0 : Int) (z1 : Int) (H : Hp) (Q : Post) : callK (ref9_sizes.cx) Go.Proofs.Try.f44 (k + 1) [.g (.int .i64 z0), .g (.int .i64 z1)] H Q = (
 chk (!(eqI z1 0)) (ref9_sizes.l4 k z0 (mxI 1 (wrapI .i64 (Int.tdiv (wrapI .i64 ((wrapI .i64 (z0 + z1)) - 1)) z1))) none 0 0 H Q)) := by kernel_rfl
theorem ref9_sizes.l4_eq (k : Nat) (ix0 : Int) (ix1 : Int) (ax2 : Pl) (nx3 : Nat) (ix4 : Int) (H : Hp) (Q : Post) : ref9_sizes.l4 (k + 1) ix0 ix1 ax2 nx3 ix4 H Q = (
 bite (ltI ix4 ix1)
 (chk (!(eqI ix1 0)) (chk (!(eqI ix1 0)) (chk true (ap H 3 1 8 ax2 nx3 [(.int .i64 (wrapI .i64 ((wrapI .i64 (Int.tdiv (wrapI .i64 (ix0 * (wrapI .i64 (ix4 + 1)))) ix1)) - (wrapI .i64 (Int.tdiv (wrapI .i64 (ix0 * ix4)) ix1)))))] 1 fun x0 n1 H2 =>
  ref9_sizes.l4 k ix0 ix1 x0 n1 (wrapI .i64 (ix4 + 1)) H2 Q))))
 (Q (.g (.sl ax2 nx3 1)) H)) := by kernel_rfl
theorem ref9_sizes_ok : Sound Go.Proofs.Try.prog 44 (ref9_sizes) := prog_ok.sound (cx := ref9_sizes.cx) rfl (EnvOK.nil _) (noDyn_ok _) Go.Proofs.Try.func44 rfl

/-! 43: cryostat/cryostatref9.leaves -/
def ref9_leaves.cx : Cx := ⟨tys, [], [(5, [0, 2, 3, 4, 5, 6]), (9, [0, 2, 3, 4, 5, 6, 7, 8])], [(16, [0, 2, 3, 4, 5, 6, 7, 9])], [(44, ref9_sizes)], noDyn, [.cell 2 73]⟩
def ref9_leaves : Sm := fun xs H Q => ∃ k, callK (ref9_leaves.cx) Go.Proofs.Try.f43 k xs H Q
def ref9_leaves.l5 (k : Nat) (xx0 : Pl) (nx1 : Nat) (ax2 : Pl) (nx3 : Nat) (ax4 : Pl) (nx5 : Nat) (ax6 : Pl) (nx7 : Nat) (ax8 : Pl) (nx9 : Nat) (xx10 : Pl) (nx11 : Nat) (ix12 : Int) (ix13 : Int) (H : Hp) (Q : Post) : Prop := loopK (ref9_leaves.cx) Go.Proofs.Try.f43 5 k ((.g (.sl xx0 nx1 2)) :: .bad :: (.bx [(.sl ax2 nx3 5), (.sl ax4 nx5 1)]) :: (.bx [(.sl ax6 nx7 5), (.sl ax8 nx9 1)]) :: (.g (.sl xx10 nx11 1)) :: (.g (.int .i64 ix12)) :: (.g (.int .i64 ix13)) :: B 73 ([])) H Q
def ref9_leaves.l9 (k : Nat) (xx0 : Pl) (nx1 : Nat) (ax2 : Pl) (nx3 : Nat) (ax4 : Pl) (nx5 : Nat) (ax6 : Pl) (nx7 : Nat) (ax8 : Pl) (nx9 : Nat) (xx10 : Pl) (nx11 : Nat) (ix12 : Int) (ix13 : Int) (bx14 : Bool) (bx15 : Bool) (ax16 : Pl) (nx17 : Nat) (ax18 : Pl) (nx19 : Nat) (ax20 : Pl) (nx21 : Nat) (ix22 : Int) (H : Hp) (Q : Post) : Prop := loopK (ref9_leaves.cx) Go.Proofs.Try.f43 9 k ((.g (.sl xx0 nx1 2)) :: .bad :: (.bx [(.sl ax2 nx3 5), (.sl ax4 nx5 1)]) :: (.bx [(.sl ax6 nx7 5), (.sl ax8 nx9 1)]) :: (.g (.sl xx10 nx11 1)) :: (.g (.int .i64 ix12)) :: (.g (.int .i64 ix13)) :: (.bx [(.bool bx14), (.bool bx15), (.sl ax16 nx17 1), (.sl ax18 nx19 1), (.sl ax20 nx21 1)]) :: (.g (.int .i64 ix22)) :: B 71 ([])) H Q
def ref9_leaves.l16 (k : Nat) (xx0 : Pl) (nx1 : Nat) (ax2 : Pl) (nx3 : Nat) (ax4 : Pl) (nx5 : Nat) (ax6 : Pl) (nx7 : Nat) (ax8 : Pl) (nx9 : Nat) (xx10 : Pl) (nx11 : Nat) (ix12 : Int) (ix13 : Int) (bx14 : Bool) (bx15 : Bool) (ax16 : Pl) (nx17 : Nat) (ax18 : Pl) (nx19 : Nat) (ax20 : Pl) (nx21 : Nat) (sx22 : ByteArray) (H : Hp) (Q : Post) : Prop := loopK (ref9_leaves.cx) Go.Proofs.Try.f43 16 k ((.g (.sl xx0 nx1 2)) :: .bad :: (.bx [(.sl ax2 nx3 5), (.sl ax4 nx5 1)]) :: (.bx [(.sl ax6 nx7 5), (.sl ax8 nx9 1)]) :: (.g (.sl xx10 nx11 1)) :: (.g (.int .i64 ix12)) :: (.g (.int .i64 ix13)) :: (.bx [(.bool bx14), (.bool bx15), (.sl ax16 nx17 1), (.sl ax18 nx19 1), (.sl ax20 nx21 1)]) :: .bad :: (.g (.str sx22)) :: B 70 ([])) H Q
theorem ref9_leaves_eq (k : Nat) (z0 : Pl) (z0n : Nat) (H : Hp) (Q : Post) : callK (ref9_leaves.cx) Go.Proofs.Try.f43 (k + 1) [.g (.sl z0 z0n 2)] H Q = (
 cl ref9_sizes [(.g (.int .i64 (nI z0n))), (.g (.int .i64 4))] H fun r0 H1 =>
 rG r0 fun v2 =>
 dL 1 v2 fun x3 n4 =>
 ref9_leaves.l5 k z0 z0n none 0 none 0 none 0 none 0 x3 n4 0 0 H1 Q) := by kernel_rfl
theorem ref9_leaves.l5_eq (k : Nat) (xx0 : Pl) (nx1 : Nat) (ax2 : Pl) (nx3 : Nat) (ax4 : Pl) (nx5 : Nat) (ax6 : Pl) (nx7 : Nat) (ax8 : Pl) (nx9 : Nat) (xx10 : Pl) (nx11 : Nat) (ix12 : Int) (ix13 : Int) (H : Hp) (Q : Post) : ref9_leaves.l5 (k + 1) xx0 nx1 ax2 nx3 ax4 nx5 ax6 nx7 ax8 nx9 xx10 nx11 ix12 ix13 H Q = (
 bite (ltI ix13 (nI nx11))
 (ref9_leaves.l9 k xx0 nx1 ax2 nx3 ax4 nx5 ax6 nx7 ax8 nx9 xx10 nx11 ix12 ix13 true true none 0 none 0 none 0 ix12 H Q)
 (Q (.agg [(.sl ax6 nx7 5), (.sl ax8 nx9 1)]) H)) := by kernel_rfl
theorem ref9_leaves.l9_eq (k : Nat) (xx0 : Pl) (nx1 : Nat) (ax2 : Pl) (nx3 : Nat) (ax4 : Pl) (nx5 : Nat) (ax6 : Pl) (nx7 : Nat) (ax8 : Pl) (nx9 : Nat) (xx10 : Pl) (nx11 : Nat) (ix12 : Int) (ix13 : Int) (bx14 : Bool) (bx15 : Bool) (ax16 : Pl) (nx17 : Nat) (ax18 : Pl) (nx19 : Nat) (ax20 : Pl) (nx21 : Nat) (ix22 : Int) (H : Hp) (Q : Post) : ref9_leaves.l9 (k + 1) xx0 nx1 ax2 nx3 ax4 nx5 ax6 nx7 ax8 nx9 xx10 nx11 ix12 ix13 bx14 bx15 ax16 nx17 ax18 nx19 ax20 nx21 ix22 H Q = (
 chk true (chk ((leI 0 ix13) && (ltI ix13 (nI nx11))) (pS xx10 fun n0 n1 =>
 rd H n0 (n1 + ((tN ix13) * 1)) fun v2 =>
 dI .i64 v2 fun i3 =>
 bite (ltI ix22 (wrapI .i64 (ix12 + i3)))
 (chk true (chk ((leI 0 ix22) && (ltI ix22 (nI nx1))) (pS xx0 fun n4 n5 =>
  rd H n4 ((n5 + ((tN ix22) * 2)) + 0) fun v6 =>
  dS v6 fun s7 =>
  chk true (ap H 9 1 16 ax16 nx17 [(.str s7)] 1 fun x8 n9 H10 =>
  chk true (chk ((leI 0 ix22) && (ltI ix22 (nI nx1))) (pS xx0 fun n11 n12 =>
  rd H10 n11 ((n12 + ((tN ix22) * 2)) + 1) fun v13 =>
  dS v13 fun s14 =>
  chk true (ap H10 9 1 16 ax18 nx19 [(.str s14)] 1 fun x15 n16 H17 =>
  ref9_leaves.l9 k xx0 nx1 ax2 nx3 ax4 nx5 ax6 nx7 ax8 nx9 xx10 nx11 ix12 ix13 bx14 bx15 x8 n9 x15 n16 ax20 nx21 (wrapI .i64 (ix22 + 1)) H17 Q)))))))
 (chk true (chk ((leI 0 ix13) && (ltI ix13 (nI nx11))) (pS xx10 fun n18 n19 =>
  rd H n18 (n19 + ((tN ix13) * 1)) fun v20 =>
  dI .i64 v20 fun i21 =>
  bite (ltI 0 i21)
  (chk true (chk ((leI 0 ix12) && (ltI ix12 (nI nx1))) (pS xx0 fun n22 n23 =>
   rd H n22 ((n23 + ((tN ix12) * 2)) + 0) fun v24 =>
   dS v24 fun s25 =>
   ref9_leaves.l16 k xx0 nx1 ax2 nx3 ax4 nx5 ax6 nx7 ax8 nx9 xx10 nx11 ix12 ix13 bx14 bx15 ax16 nx17 ax18 nx19 ax20 nx21 s25 H Q)))
  (ref9_leaves.l16 k xx0 nx1 ax2 nx3 ax4 nx5 ax6 nx7 ax8 nx9 xx10 nx11 ix12 ix13 bx14 bx15 ax16 nx17 ax18 nx19 ax20 nx21 (mkS []) H Q))))))) := by kernel_rfl
theorem ref9_leaves.l16_eq (k : Nat) (xx0 : Pl) (nx1 : Nat) (ax2 : Pl) (nx3 : Nat) (ax4 : Pl) (nx5 : Nat) (ax6 : Pl) (nx7 : Nat) (ax8 : Pl) (nx9 : Nat) (xx10 : Pl) (nx11 : Nat) (ix12 : Int) (ix13 : Int) (bx14 : Bool) (bx15 : Bool) (ax16 : Pl) (nx17 : Nat) (ax18 : Pl) (nx19 : Nat) (ax20 : Pl) (nx21 : Nat) (sx22 : ByteArray) (H : Hp) (Q : Post) : ref9_leaves.l16 (k + 1) xx0 nx1 ax2 nx3 ax4 nx5 ax6 nx7 ax8 nx9 xx10 nx11 ix12 ix13 bx14 bx15 ax16 nx17 ax18 nx19 ax20 nx21 sx22 H Q = (
 chk true (ap H 34 5 80 ax6 nx7 [(.bool bx14), (.bool bx15), (.sl ax16 nx17 1), (.sl ax18 nx19 1), (.sl ax20 nx21 1)] 1 fun x0 n1 H2 =>
 chk true (ap H2 9 1 16 ax8 nx9 [(.str sx22)] 1 fun x3 n4 H5 =>
 chk true (chk ((leI 0 ix13) && (ltI ix13 (nI nx11))) (pS xx10 fun n6 n7 =>
 rd H5 n6 (n7 + ((tN ix13) * 1)) fun v8 =>
 dI .i64 v8 fun i9 =>
 ref9_leaves.l5 k xx0 nx1 ax2 nx3 ax4 nx5 x0 n1 x3 n4 xx10 nx11 (wrapI .i64 (ix12 + i9)) (wrapI .i64 (ix13 + 1)) H5 Q))))) := by kernel_rfl
theorem ref9_leaves_ok : Sound Go.Proofs.Try.prog 43 (ref9_leaves) := prog_ok.sound (cx := ref9_leaves.cx) rfl (EnvOK.cons ((ref9_sizes_ok).c ⟨_, Go.Proofs.Try.func44, by kernel_rfl, by kernel_rfl⟩) (EnvOK.nil _)) (noDyn_ok _) Go.Proofs.Try.func43 rfl

/-! 24: cryostat/cryostatref9.Build -/
def ref9_Build.cx : Cx := ⟨tys, [], [(4, [2, 3, 4, 5]), (9, [2, 3, 4, 5, 6, 7, 8, 9]), (13, [2, 3, 4, 5, 6, 7, 8, 9, 10, 11])], [], [(21, ref9_New), (43, ref9_leaves), (44, ref9_sizes)], noDyn, [.cell 2 24]⟩
def ref9_Build : Sm := fun xs H Q => ∃ k, callK (ref9_Build.cx) Go.Proofs.Try.f24 k xs H Q
def ref9_Build.l4 (k : Nat) (ax0 : Pl) (nx1 : Nat) (xx2 : Pl) (nx3 : Nat) (xx4 : Pl) (nx5 : Nat) (xx6 : Pl) (nx7 : Nat) (ix8 : Int) (H : Hp) (Q : Post) : Prop := loopK (ref9_Build.cx) Go.Proofs.Try.f24 4 k (.bad :: .bad :: (.bx [(.sl ax0 nx1 5)]) :: (.bx [(.sl xx2 nx3 5)]) :: (.bx [(.sl xx4 nx5 5), (.sl xx6 nx7 1)]) :: (.g (.int .i64 ix8)) :: B 96 ([])) H Q
def ref9_Build.l9 (k : Nat) (ax0 : Pl) (nx1 : Nat) (xx2 : Pl) (nx3 : Nat) (xx4 : Pl) (nx5 : Nat) (xx6 : Pl) (nx7 : Nat) (ix8 : Int) (ax9 : Pl) (nx10 : Nat) (ax11 : Pl) (nx12 : Nat) (xx13 : Pl) (nx14 : Nat) (ix15 : Int) (ix16 : Int) (H : Hp) (Q : Post) : Prop := loopK (ref9_Build.cx) Go.Proofs.Try.f24 9 k (.bad :: .bad :: (.bx [(.sl ax0 nx1 5)]) :: (.bx [(.sl xx2 nx3 5)]) :: (.bx [(.sl xx4 nx5 5), (.sl xx6 nx7 1)]) :: (.g (.int .i64 ix8)) :: (.bx [(.sl ax9 nx10 5), (.sl ax11 nx12 1)]) :: (.g (.sl xx13 nx14 1)) :: (.g (.int .i64 ix15)) :: (.g (.int .i64 ix16)) :: B 92 ([])) H Q
def ref9_Build.l13 (k : Nat) (ax0 : Pl) (nx1 : Nat) (xx2 : Pl) (nx3 : Nat) (xx4 : Pl) (nx5 : Nat) (xx6 : Pl) (nx7 : Nat) (ix8 : Int) (ax9 : Pl) (nx10 : Nat) (ax11 : Pl) (nx12 : Nat) (xx13 : Pl) (nx14 : Nat) (ix15 : Int) (ix16 : Int) (bx17 : Bool) (bx18 : Bool) (ax19 : Pl) (nx20 : Nat) (ax21 : Pl) (nx22 : Nat) (ax23 : Pl) (nx24 : Nat) (ix25 : Int) (H : Hp) (Q : Post) : Prop := loopK (ref9_Build.cx) Go.Proofs.Try.f24 13 k (.bad :: .bad :: (.bx [(.sl ax0 nx1 5)]) :: (.bx [(.sl xx2 nx3 5)]) :: (.bx [(.sl xx4 nx5 5), (.sl xx6 nx7 1)]) :: (.g (.int .i64 ix8)) :: (.bx [(.sl ax9 nx10 5), (.sl ax11 nx12 1)]) :: (.g (.sl xx13 nx14 1)) :: (.g (.int .i64 ix15)) :: (.g (.int .i64 ix16)) :: (.bx [(.bool bx17), (.bool bx18), (.sl ax19 nx20 1), (.sl ax21 nx22 1), (.sl ax23 nx24 1)]) :: (.g (.int .i64 ix25)) :: B 90 ([])) H Q
theorem ref9_Build_eq (k : Nat) (z0 : Pl) (z0n : Nat) (H : Hp) (Q : Post) : callK (ref9_Build.cx) Go.Proofs.Try.f24 (k + 1) [.g (.sl z0 z0n 2)] H Q = (
 cl ref9_New [] H fun r0 H1 =>
 rA r0 fun c2 =>
 uC c2 fun v3 c4 =>
 dL 5 v3 fun x5 n6 =>
 uN c4 (cl ref9_leaves [(.g (.sl z0 z0n 2))] H1 fun r7 H8 =>
 rA r7 fun c9 =>
 uC c9 fun v10 c11 =>
 dL 5 v10 fun x12 n13 =>
 uC c11 fun v14 c15 =>
 dL 1 v14 fun x16 n17 =>
 uN c15 (ref9_Build.l4 k none 0 x5 n6 x12 n13 x16 n17 1 H8 Q))) := by kernel_rfl
theorem ref9_Build.l4_eq (k : Nat) (ax0 : Pl) (nx1 : Nat) (xx2 : Pl) (nx3 : Nat) (xx4 : Pl) (nx5 : Nat) (xx6 : Pl) (nx7 : Nat) (ix8 : Int) (H : Hp) (Q : Post) : ref9_Build.l4 (k + 1) ax0 nx1 xx2 nx3 xx4 nx5 xx6 nx7 ix8 H Q = (
 bite (ltI 1 (nI nx5))
 (cl ref9_sizes [(.g (.int .i64 (nI nx5))), (.g (.int .i64 5))] H fun r0 H1 =>
  rG r0 fun v2 =>
  dL 1 v2 fun x3 n4 =>
  ref9_Build.l9 k ax0 nx1 xx2 nx3 xx4 nx5 xx6 nx7 ix8 none 0 none 0 x3 n4 0 0 H1 Q)
 (chk true (chk ((leI 0 0) && (ltI 0 (nI nx5))) (pS xx4 fun n5 n6 =>
  rd H n5 (n6 + ((tN 0) * 5)) fun v7 =>
  dB v7 fun b8 =>
  rd H n5 ((n6 + ((tN 0) * 5)) + 1) fun v9 =>
  dB v9 fun b10 =>
  rd H n5 (((n6 + ((tN 0) * 5)) + 1) + 1) fun v11 =>
  dL 1 v11 fun x12 n13 =>
  rd H n5 ((((n6 + ((tN 0) * 5)) + 1) + 1) + 1) fun v14 =>
  dL 1 v14 fun x15 n16 =>
  rd H n5 (((((n6 + ((tN 0) * 5)) + 1) + 1) + 1) + 1) fun v17 =>
  dL 1 v17 fun x18 n19 =>
  chk true (chk ((leI 0 0) && (ltI 0 (nI nx3))) (pS xx2 fun n20 n21 =>
  wr H n20 (n21 + ((tN 0) * 5)) (.bool b8) fun H22 =>
  wr H22 n20 ((n21 + ((tN 0) * 5)) + 1) (.bool b10) fun H23 =>
  wr H23 n20 (((n21 + ((tN 0) * 5)) + 1) + 1) (.sl x12 n13 1) fun H24 =>
  wr H24 n20 ((((n21 + ((tN 0) * 5)) + 1) + 1) + 1) (.sl x15 n16 1) fun H25 =>
  wr H25 n20 (((((n21 + ((tN 0) * 5)) + 1) + 1) + 1) + 1) (.sl x18 n19 1) fun H26 =>
  Q (.agg [(.sl xx2 nx3 5)]) H26)))))) := by kernel_rfl
theorem ref9_Build.l9_eq (k : Nat) (ax0 : Pl) (nx1 : Nat) (xx2 : Pl) (nx3 : Nat) (xx4 : Pl) (nx5 : Nat) (xx6 : Pl) (nx7 : Nat) (ix8 : Int) (ax9 : Pl) (nx10 : Nat) (ax11 : Pl) (nx12 : Nat) (xx13 : Pl) (nx14 : Nat) (ix15 : Int) (ix16 : Int) (H : Hp) (Q : Post) : ref9_Build.l9 (k + 1) ax0 nx1 xx2 nx3 xx4 nx5 xx6 nx7 ix8 ax9 nx10 ax11 nx12 xx13 nx14 ix15 ix16 H Q = (
 bite (ltI ix16 (nI nx14))
 (ref9_Build.l13 k ax0 nx1 xx2 nx3 xx4 nx5 xx6 nx7 ix8 ax9 nx10 ax11 nx12 xx13 nx14 ix15 ix16 true false none 0 none 0 none 0 ix15 H Q)
 (ref9_Build.l4 k ax0 nx1 xx2 nx3 ax9 nx10 ax11 nx12 ix8 H Q)) := by kernel_rfl
theorem ref9_Build.l13_eq (k : Nat) (ax0 : Pl) (nx1 : Nat) (xx2 : Pl) (nx3 : Nat) (xx4 : Pl) (nx5 : Nat) (xx6 : Pl) (nx7 : Nat) (ix8 : Int) (ax9 : Pl) (nx10 : Nat) (ax11 : Pl) (nx12 : Nat) (xx13 : Pl) (nx14 : Nat) (ix15 : Int) (ix16 : Int) (bx17 : Bool) (bx18 : Bool) (ax19 : Pl) (nx20 : Nat) (ax21 : Pl) (nx22 : Nat) (ax23 : Pl) (nx24 : Nat) (ix25 : Int) (H : Hp) (Q : Post) : ref9_Build.l13 (k + 1) ax0 nx1 xx2 nx3 xx4 nx5 xx6 nx7 ix8 ax9 nx10 ax11 nx12 xx13 nx14 ix15 ix16 bx17 bx18 ax19 nx20 ax21 nx22 ax23 nx24 ix25 H Q = (
 chk true (chk ((leI 0 ix16) && (ltI ix16 (nI nx14))) (pS xx13 fun n0 n1 =>
 rd H n0 (n1 + ((tN ix16) * 1)) fun v2 =>
 dI .i64 v2 fun i3 =>
 bite (ltI ix25 (wrapI .i64 (ix15 + i3)))
 (chk true (chk ((leI 0 ix25) && (ltI ix25 (nI nx5))) (pS xx4 fun n4 n5 =>
  rd H n4 (n5 + ((tN ix25) * 5)) fun v6 =>
  dB v6 fun b7 =>
  rd H n4 ((n5 + ((tN ix25) * 5)) + 1) fun v8 =>
  dB v8 fun b9 =>
  rd H n4 (((n5 + ((tN ix25) * 5)) + 1) + 1) fun v10 =>
  dL 1 v10 fun x11 n12 =>
  rd H n4 ((((n5 + ((tN ix25) * 5)) + 1) + 1) + 1) fun v13 =>
  dL 1 v13 fun x14 n15 =>
  rd H n4 (((((n5 + ((tN ix25) * 5)) + 1) + 1) + 1) + 1) fun v16 =>
  dL 1 v16 fun x17 n18 =>
  chk true (chk ((leI 0 ix8) && (ltI ix8 (nI nx3))) (pS xx2 fun n19 n20 =>
  wr H n19 (n20 + ((tN ix8) * 5)) (.bool b7) fun H21 =>
  wr H21 n19 ((n20 + ((tN ix8) * 5)) + 1) (.bool b9) fun H22 =>
  wr H22 n19 (((n20 + ((tN ix8) * 5)) + 1) + 1) (.sl x11 n12 1) fun H23 =>
  wr H23 n19 ((((n20 + ((tN ix8) * 5)) + 1) + 1) + 1) (.sl x14 n15 1) fun H24 =>
  wr H24 n19 (((((n20 + ((tN ix8) * 5)) + 1) + 1) + 1) + 1) (.sl x17 n18 1) fun H25 =>
  chk true (ap H25 3 1 8 ax23 nx24 [(.int .i64 ix8)] 1 fun x26 n27 H28 =>
  bite (ltI ix15 ix25)
  (chk true (chk ((leI 0 ix25) && (ltI ix25 (nI nx7))) (pS xx6 fun n29 n30 =>
   rd H28 n29 (n30 + ((tN ix25) * 1)) fun v31 =>
   dS v31 fun s32 =>
   chk true (ap H28 9 1 16 ax19 nx20 [(.str s32)] 1 fun x33 n34 H35 =>
   ref9_Build.l13 k ax0 nx1 xx2 nx3 xx4 nx5 xx6 nx7 (wrapI .i64 (ix8 + 1)) ax9 nx10 ax11 nx12 xx13 nx14 ix15 ix16 bx17 bx18 x33 n34 ax21 nx22 x26 n27 (wrapI .i64 (ix25 + 1)) H35 Q))))
  (ref9_Build.l13 k ax0 nx1 xx2 nx3 xx4 nx5 xx6 nx7 (wrapI .i64 (ix8 + 1)) ax9 nx10 ax11 nx12 xx13 nx14 ix15 ix16 bx17 bx18 ax19 nx20 ax21 nx22 x26 n27 (wrapI .i64 (ix25 + 1)) H28 Q)))))))
 (chk true (ap H 34 5 80 ax9 nx10 [(.bool bx17), (.bool bx18), (.sl ax19 nx20 1), (.sl ax21 nx22 1), (.sl ax23 nx24 1)] 1 fun x36 n37 H38 =>
  chk true (chk ((leI 0 ix15) && (ltI ix15 (nI nx7))) (pS xx6 fun n39 n40 =>
  rd H38 n39 (n40 + ((tN ix15) * 1)) fun v41 =>
  dS v41 fun s42 =>
  chk true (ap H38 9 1 16 ax11 nx12 [(.str s42)] 1 fun x43 n44 H45 =>
  chk true (chk ((leI 0 ix16) && (ltI ix16 (nI nx14))) (pS xx13 fun n46 n47 =>
  rd H45 n46 (n47 + ((tN ix16) * 1)) fun v48 =>
  dI .i64 v48 fun i49 =>
  ref9_Build.l9 k ax0 nx1 xx2 nx3 xx4 nx5 xx6 nx7 ix8 x36 n37 x43 n44 xx13 nx14 (wrapI .i64 (ix15 + i49)) (wrapI .i64 (ix16 + 1)) H45 Q)))))))))) := by kernel_rfl
theorem ref9_Build_ok : Sound Go.Proofs.Try.prog 24 (ref9_Build) := prog_ok.sound (cx := ref9_Build.cx) rfl (EnvOK.cons ((ref9_New_ok).c ⟨_, Go.Proofs.Try.func21, by kernel_rfl, by kernel_rfl⟩) (EnvOK.cons ((ref9_leaves_ok).c ⟨_, Go.Proofs.Try.func43, by kernel_rfl, by kernel_rfl⟩) (EnvOK.cons ((ref9_sizes_ok).c ⟨_, Go.Proofs.Try.func44, by kernel_rfl, by kernel_rfl⟩) (EnvOK.nil _)))) (noDyn_ok _) Go.Proofs.Try.func24 rfl

/-! 22: cryostat/cryostatlaw10.awake -/
def law10_awake.cx : Cx := ⟨tys, [], [], [], [(20, sound_New), (24, ref9_Build), (14, law0_CopyTree), (25, law0_Num), (21, ref9_New), (19, law0_SameTree), (15, sound_Sound), (17, sound_Height)], noDyn, [.tmp 0]⟩
def law10_awake : Sm := fun xs H Q => ∃ k, callK (law10_awake.cx) Go.Proofs.Try.f22 k xs H Q
theorem law10_awake_eq (k : Nat)  (H : Hp) (Q : Post) : callK (law10_awake.cx) Go.Proofs.Try.f22 (k + 1) [] H Q = (
 cl sound_New [] H fun r0 H1 =>
 rA r0 fun c2 =>
 uC c2 fun v3 c4 =>
 dL 5 v3 fun x5 n6 =>
 uN c4 (bite (!(eqI (nI n6) 48))
 (Q (.g (.bool false)) H1)
 (cl ref9_Build [(.g (.sl (some ((ln H1), 0)) 5 2))] (pu H1 (.row false 0 [(.str (mkS [97])), (.str (mkS [])), (.str (mkS [98])), (.str (mkS [])), (.str (mkS [99])), (.str (mkS [])), (.str (mkS [100])), (.str (mkS [])), (.str (mkS [101])), (.str (mkS []))])) fun r7 H8 =>
  rA r7 fun c9 =>
  uC c9 fun v10 c11 =>
  dL 5 v10 fun x12 n13 =>
  uN c11 (cl law0_CopyTree [(.agg [(.sl x12 n13 5)])] H8 fun r14 H15 =>
  rA r14 fun c16 =>
  uC c16 fun v17 c18 =>
  dL 5 v17 fun x19 n20 =>
  uN c18 (chk true (chk ((leI 0 0) && (ltI 0 (nI n20))) (pS x19 fun n21 n22 =>
  rd H15 n21 ((n22 + ((tN 0) * 5)) + 2) fun v23 =>
  dL 1 v23 fun x24 n25 =>
  chk true (chk ((leI 0 0) && (ltI 0 (nI n25))) (pS x24 fun n26 n27 =>
  wr H15 n26 (n27 + ((tN 0) * 1)) (.str (mkS [101])) fun H28 =>
  cl law0_Num [(.g (.int .i64 0))] H28 fun r29 H30 =>
  rG r29 fun v31 =>
  dI .i64 v31 fun i32 =>
  bite (eqI i32 0)
  (cl ref9_New [] H30 fun r33 H34 =>
   rA r33 fun c35 =>
   uC c35 fun v36 c37 =>
   dL 5 v36 fun x38 n39 =>
   uN c37 (cl law0_SameTree [(.agg [(.sl x5 n6 5)]), (.agg [(.sl x38 n39 5)])] H34 fun r40 H41 =>
   rG r40 fun v42 =>
   dB v42 fun b43 =>
   bite b43
   (cl sound_Sound [(.agg [(.sl x5 n6 5)])] H41 fun r44 H45 =>
    rG r44 fun v46 =>
    dB v46 fun b47 =>
    bite b47
    (cl sound_Height [(.agg [(.sl x5 n6 5)])] H45 fun r48 H49 =>
     rG r48 fun v50 =>
     dI .i64 v50 fun i51 =>
     bite (eqI i51 1)
     (cl sound_Sound [(.agg [(.sl x12 n13 5)])] H49 fun r52 H53 =>
      rG r52 fun v54 =>
      dB v54 fun b55 =>
      bite b55
      (cl sound_Height [(.agg [(.sl x12 n13 5)])] H53 fun r56 H57 =>
       rG r56 fun v58 =>
       dI .i64 v58 fun i59 =>
       bite (eqI i59 2)
       (cl sound_Sound [(.agg [(.sl x19 n20 5)])] H57 fun r60 H61 =>
        rG r60 fun v62 =>
        dB v62 fun b63 =>
        bite (!b63)
        (cl sound_Height [(.agg [(.sl x19 n20 5)])] H61 fun r64 H65 =>
         rG r64 fun v66 =>
         dI .i64 v66 fun i67 =>
         bite (eqI i67 0)
         (cl sound_Sound [(.agg [(.sl none 0 5)])] H65 fun r68 H69 =>
          rG r68 fun v70 =>
          dB v70 fun b71 =>
          Q (.g (.bool (!b71))) H69)
         (Q (.g (.bool false)) H65))
        (Q (.g (.bool false)) H61))
       (Q (.g (.bool false)) H57))
      (Q (.g (.bool false)) H53))
     (Q (.g (.bool false)) H49))
    (Q (.g (.bool false)) H45))
   (Q (.g (.bool false)) H41)))
  (Q (.g (.bool false)) H30)))))))))) := by kernel_rfl
theorem law10_awake_ok : Sound Go.Proofs.Try.prog 22 (law10_awake) := prog_ok.sound (cx := law10_awake.cx) rfl (EnvOK.cons ((sound_New_ok).c ⟨_, Go.Proofs.Try.func20, by kernel_rfl, by kernel_rfl⟩) (EnvOK.cons ((ref9_Build_ok).c ⟨_, Go.Proofs.Try.func24, by kernel_rfl, by kernel_rfl⟩) (EnvOK.cons ((law0_CopyTree_ok).c ⟨_, Go.Proofs.Try.func14, by kernel_rfl, by kernel_rfl⟩) (EnvOK.cons ((law0_Num_ok).c ⟨_, Go.Proofs.Try.func25, by kernel_rfl, by kernel_rfl⟩) (EnvOK.cons ((ref9_New_ok).c ⟨_, Go.Proofs.Try.func21, by kernel_rfl, by kernel_rfl⟩) (EnvOK.cons ((law0_SameTree_ok).c ⟨_, Go.Proofs.Try.func19, by kernel_rfl, by kernel_rfl⟩) (EnvOK.cons ((sound_Sound_ok).c ⟨_, Go.Proofs.Try.func15, by kernel_rfl, by kernel_rfl⟩) (EnvOK.cons ((sound_Height_ok).c ⟨_, Go.Proofs.Try.func17, by kernel_rfl, by kernel_rfl⟩) (EnvOK.nil _))))))))) (noDyn_ok _) Go.Proofs.Try.func22 rfl

/-! 3: cryostat/cryostatlaw10.Sounds -/
def law10_Sounds.cx : Cx := ⟨tys, [], [], [], [(14, law0_CopyTree), (15, sound_Sound), (16, ref9_Sound), (17, sound_Height), (18, ref9_Height), (20, sound_New), (21, ref9_New), (19, law0_SameTree), (22, law10_awake)], noDyn, [.tmp 2]⟩
def law10_Sounds : Sm := fun xs H Q => ∃ k, callK (law10_Sounds.cx) Go.Proofs.Try.f3 k xs H Q
theorem law10_Sounds_eq (k : Nat) (z0 : Pl) (z0n : Nat) (H : Hp) (Q : Post) : callK (law10_Sounds.cx) Go.Proofs.Try.f3 (k + 1) [.agg [.sl z0 z0n 5]] H Q = (
 cl law0_CopyTree [(.agg [(.sl z0 z0n 5)])] H fun r0 H1 =>
 rA r0 fun c2 =>
 uC c2 fun v3 c4 =>
 dL 5 v3 fun x5 n6 =>
 uN c4 (cl sound_Sound [(.agg [(.sl x5 n6 5)])] H1 fun r7 H8 =>
 rG r7 fun v9 =>
 dB v9 fun b10 =>
 cl ref9_Sound [(.agg [(.sl z0 z0n 5)])] H8 fun r11 H12 =>
 rG r11 fun v13 =>
 dB v13 fun b14 =>
 bite (!(eqB b10 b14))
 (Q (.g (.bool false)) H12)
 (cl sound_Height [(.agg [(.sl x5 n6 5)])] H12 fun r15 H16 =>
  rG r15 fun v17 =>
  dI .i64 v17 fun i18 =>
  cl ref9_Height [(.agg [(.sl z0 z0n 5)])] H16 fun r19 H20 =>
  rG r19 fun v21 =>
  dI .i64 v21 fun i22 =>
  bite (!(eqI i18 i22))
  (Q (.g (.bool false)) H20)
  (cl sound_New [] H20 fun r23 H24 =>
   rA r23 fun c25 =>
   uC c25 fun v26 c27 =>
   dL 5 v26 fun x28 n29 =>
   uN c27 (cl ref9_New [] H24 fun r30 H31 =>
   rA r30 fun c32 =>
   uC c32 fun v33 c34 =>
   dL 5 v33 fun x35 n36 =>
   uN c34 (cl law0_SameTree [(.agg [(.sl x28 n29 5)]), (.agg [(.sl x35 n36 5)])] H31 fun r37 H38 =>
   rG r37 fun v39 =>
   dB v39 fun b40 =>
   bite (!b40)
   (Q (.g (.bool false)) H38)
   (cl law0_SameTree [(.agg [(.sl x5 n6 5)]), (.agg [(.sl z0 z0n 5)])] H38 fun r41 H42 =>
    rG r41 fun v43 =>
    dB v43 fun b44 =>
    bite b44
    (cl law10_awake [] H42 fun r45 H46 =>
     rG r45 fun v47 =>
     dB v47 fun b48 =>
     Q (.g (.bool b48)) H46)
    (Q (.g (.bool false)) H42)))))))) := by kernel_rfl
theorem law10_Sounds_ok : Sound Go.Proofs.Try.prog 3 (law10_Sounds) := prog_ok.sound (cx := law10_Sounds.cx) rfl (EnvOK.cons ((law0_CopyTree_ok).c ⟨_, Go.Proofs.Try.func14, by kernel_rfl, by kernel_rfl⟩) (EnvOK.cons ((sound_Sound_ok).c ⟨_, Go.Proofs.Try.func15, by kernel_rfl, by kernel_rfl⟩) (EnvOK.cons ((ref9_Sound_ok).c ⟨_, Go.Proofs.Try.func16, by kernel_rfl, by kernel_rfl⟩) (EnvOK.cons ((sound_Height_ok).c ⟨_, Go.Proofs.Try.func17, by kernel_rfl, by kernel_rfl⟩) (EnvOK.cons ((ref9_Height_ok).c ⟨_, Go.Proofs.Try.func18, by kernel_rfl, by kernel_rfl⟩) (EnvOK.cons ((sound_New_ok).c ⟨_, Go.Proofs.Try.func20, by kernel_rfl, by kernel_rfl⟩) (EnvOK.cons ((ref9_New_ok).c ⟨_, Go.Proofs.Try.func21, by kernel_rfl, by kernel_rfl⟩) (EnvOK.cons ((law0_SameTree_ok).c ⟨_, Go.Proofs.Try.func19, by kernel_rfl, by kernel_rfl⟩) (EnvOK.cons ((law10_awake_ok).c ⟨_, Go.Proofs.Try.func22, by kernel_rfl, by kernel_rfl⟩) (EnvOK.nil _)))))))))) (noDyn_ok _) Go.Proofs.Try.func3 rfl


end Go.Am
