import Derived.Test.YtmjnenpllddhfaaFA0
set_option linter.unusedVariables false
set_option linter.unusedSimpArgs false
namespace Go.Am
/-! 4: cryostat/cryostatlaw10.SoundTurned -/
def law10_SoundTurned.cx : Cx := ⟨tys, [33, 34], [(7, [1, 3, 4]), (14, [1, 3, 5, 6, 7])], [(11, [1, 3])], [(22, law10_awake), (16, ref9_Sound), (15, sound_Sound), (14, law0_CopyTree), (17, sound_Height)], noDyn, [.tmp 2]⟩
def law10_SoundTurned : Sm := fun xs H Q => ∃ k, callK (law10_SoundTurned.cx) Go.Proofs.Try.f4 k xs H Q
def law10_SoundTurned.l7 (k : Nat) (xx0 : Pl) (nx1 : Nat) (xx2 : Pl) (nx3 : Nat) (ix4 : Int) (H : Hp) (Q : Post) : Prop := loopK (law10_SoundTurned.cx) Go.Proofs.Try.f4 7 k (.bad :: (.bx [(.sl xx0 nx1 5)]) :: .bad :: (.bx [(.sl xx2 nx3 5)]) :: (.g (.int .i64 ix4)) :: B 83 ([])) H Q
def law10_SoundTurned.l11 (k : Nat) (xx0 : Pl) (nx1 : Nat) (xx2 : Pl) (nx3 : Nat) (H : Hp) (Q : Post) : Prop := loopK (law10_SoundTurned.cx) Go.Proofs.Try.f4 11 k (.bad :: (.bx [(.sl xx0 nx1 5)]) :: .bad :: (.bx [(.sl xx2 nx3 5)]) :: B 84 ([])) H Q
def law10_SoundTurned.l14 (k : Nat) (xx0 : Pl) (nx1 : Nat) (xx2 : Pl) (nx3 : Nat) (xx4 : Pl) (nx5 : Nat) (bx6 : Bool) (ix7 : Int) (H : Hp) (Q : Post) : Prop := loopK (law10_SoundTurned.cx) Go.Proofs.Try.f4 14 k (.bad :: (.bx [(.sl xx0 nx1 5)]) :: .bad :: (.bx [(.sl xx2 nx3 5)]) :: .bad :: (.bx [(.sl xx4 nx5 5)]) :: (.g (.bool bx6)) :: (.g (.int .i64 ix7)) :: B 80 ([])) H Q
theorem law10_SoundTurned_eq (k : Nat) (z0 : Pl) (z0n : Nat) (H : Hp) (Q : Post) : callK (law10_SoundTurned.cx) Go.Proofs.Try.f4 (k + 1) [.agg [.sl z0 z0n 5]] H Q = (
 cl law10_awake [] H fun r0 H1 =>
 rG r0 fun v2 =>
 dB v2 fun b3 =>
 bite (!b3)
 (Q (.g (.bool false)) H1)
 (cl ref9_Sound [(.agg [(.sl z0 z0n 5)])] H1 fun r4 H5 =>
  rG r4 fun v6 =>
  dB v6 fun b7 =>
  bite (!b7)
  (cl sound_Sound [(.agg [(.sl z0 z0n 5)])] H5 fun r8 H9 =>
   rG r8 fun v10 =>
   dB v10 fun b11 =>
   Q (.g (.bool (!b11))) H9)
  (cl law0_CopyTree [(.agg [(.sl z0 z0n 5)])] H5 fun r12 H13 =>
   rA r12 fun c14 =>
   uC c14 fun v15 c16 =>
   dL 5 v15 fun x17 n18 =>
   uN c16 (law10_SoundTurned.l7 k z0 z0n x17 n18 47 H13 Q)))) := by kernel_rfl
theorem law10_SoundTurned.l7_eq (k : Nat) (xx0 : Pl) (nx1 : Nat) (xx2 : Pl) (nx3 : Nat) (ix4 : Int) (H : Hp) (Q : Post) : law10_SoundTurned.l7 (k + 1) xx0 nx1 xx2 nx3 ix4 H Q = (
 bite (ltI 0 ix4)
 (chk true (chk ((leI 0 ix4) && (ltI ix4 (nI nx3))) (pS xx2 fun n0 n1 =>
  rd H n0 ((n1 + ((tN ix4) * 5)) + 0) fun v2 =>
  dB v2 fun b3 =>
  bite (!b3)
  (chk true (chk ((leI 0 ix4) && (ltI ix4 (nI nx3))) (pS xx2 fun n4 n5 =>
   wr (pu (pu H (.row true 9 [(.str (mkS [97])), (.str (mkS [98]))])) (.row true 9 [(.str (mkS [])), (.str (mkS []))])) n4 (n5 + ((tN ix4) * 5)) (.bool true) fun H6 =>
   wr H6 n4 ((n5 + ((tN ix4) * 5)) + 1) (.bool true) fun H7 =>
   wr H7 n4 (((n5 + ((tN ix4) * 5)) + 1) + 1) (.sl (some ((ln H), 0)) 2 1) fun H8 =>
   wr H8 n4 ((((n5 + ((tN ix4) * 5)) + 1) + 1) + 1) (.sl (some ((ln (pu H (.row true 9 [(.str (mkS [97])), (.str (mkS [98]))]))), 0)) 2 1) fun H9 =>
   wr H9 n4 (((((n5 + ((tN ix4) * 5)) + 1) + 1) + 1) + 1) (.sl none 0 1) fun H10 =>
   law10_SoundTurned.l11 k xx0 nx1 xx2 nx3 H10 Q)))
  (law10_SoundTurned.l7 k xx0 nx1 xx2 nx3 (wrapI .i64 (ix4 - 1)) H Q))))
 (law10_SoundTurned.l11 k xx0 nx1 xx2 nx3 H Q)) := by kernel_rfl
theorem law10_SoundTurned.l11_eq (k : Nat) (xx0 : Pl) (nx1 : Nat) (xx2 : Pl) (nx3 : Nat) (H : Hp) (Q : Post) : law10_SoundTurned.l11 (k + 1) xx0 nx1 xx2 nx3 H Q = (
 cl law0_CopyTree [(.agg [(.sl xx0 nx1 5)])] H fun r0 H1 =>
 rA r0 fun c2 =>
 uC c2 fun v3 c4 =>
 dL 5 v3 fun x5 n6 =>
 uN c4 (law10_SoundTurned.l14 k xx0 nx1 xx2 nx3 x5 n6 false 1 H1 Q)) := by kernel_rfl
theorem law10_SoundTurned.l14_eq (k : Nat) (xx0 : Pl) (nx1 : Nat) (xx2 : Pl) (nx3 : Nat) (xx4 : Pl) (nx5 : Nat) (bx6 : Bool) (ix7 : Int) (H : Hp) (Q : Post) : law10_SoundTurned.l14 (k + 1) xx0 nx1 xx2 nx3 xx4 nx5 bx6 ix7 H Q = (
 bite (ltI ix7 48)
 (bite (!bx6)
  (chk true (chk ((leI 0 ix7) && (ltI ix7 (nI nx5))) (pS xx4 fun n0 n1 =>
   rd H n0 (n1 + ((tN ix7) * 5)) fun v2 =>
   dB v2 fun b3 =>
   rd H n0 ((n1 + ((tN ix7) * 5)) + 1) fun v4 =>
   dB v4 fun b5 =>
   rd H n0 (((n1 + ((tN ix7) * 5)) + 1) + 1) fun v6 =>
   dL 1 v6 fun x7 n8 =>
   rd H n0 ((((n1 + ((tN ix7) * 5)) + 1) + 1) + 1) fun v9 =>
   dL 1 v9 fun x10 n11 =>
   rd H n0 (((((n1 + ((tN ix7) * 5)) + 1) + 1) + 1) + 1) fun v12 =>
   dL 1 v12 fun x13 n14 =>
   bite b3
   (bite b5
    (chk true (chk ((leN 0 (tN 1)) && ((leN (tN 1) n8) || (room H x7 ((tN 1) * 1)))) (chk true (chk ((leI 0 ix7) && (ltI ix7 (nI nx5))) (pS xx4 fun n15 n16 =>
     wr H n15 ((n16 + ((tN ix7) * 5)) + 2) (.sl (shf x7 0) ((tN 1) - 0) 1) fun H17 =>
     chk true (chk ((leN 0 (tN 1)) && ((leN (tN 1) n11) || (room H17 x10 ((tN 1) * 1)))) (chk true (chk ((leI 0 ix7) && (ltI ix7 (nI nx5))) (pS xx4 fun n18 n19 =>
     wr H17 n18 ((n19 + ((tN ix7) * 5)) + 3) (.sl (shf x10 0) ((tN 1) - 0) 1) fun H20 =>
     law10_SoundTurned.l14 k xx0 nx1 xx2 nx3 xx4 nx5 true (wrapI .i64 (ix7 + 1)) H20 Q)))))))))
    (law10_SoundTurned.l14 k xx0 nx1 xx2 nx3 xx4 nx5 bx6 (wrapI .i64 (ix7 + 1)) H Q))
   (law10_SoundTurned.l14 k xx0 nx1 xx2 nx3 xx4 nx5 bx6 (wrapI .i64 (ix7 + 1)) H Q))))
  (cl sound_Sound [(.agg [(.sl xx2 nx3 5)])] H fun r21 H22 =>
   rG r21 fun v23 =>
   dB v23 fun b24 =>
   bite (!b24)
   (cl sound_Sound [(.agg [(.sl xx4 nx5 5)])] H22 fun r25 H26 =>
    rG r25 fun v27 =>
    dB v27 fun b28 =>
    bite (!(eqB b28 bx6))
    (cl sound_Height [(.agg [(.sl xx0 nx1 5)])] H26 fun r29 H30 =>
     rG r29 fun v31 =>
     dI .i64 v31 fun i32 =>
     Q (.g (.bool (leI 1 i32))) H30)
    (Q (.g (.bool false)) H26))
   (Q (.g (.bool false)) H22)))
 (cl sound_Sound [(.agg [(.sl xx2 nx3 5)])] H fun r33 H34 =>
  rG r33 fun v35 =>
  dB v35 fun b36 =>
  bite (!b36)
  (cl sound_Sound [(.agg [(.sl xx4 nx5 5)])] H34 fun r37 H38 =>
   rG r37 fun v39 =>
   dB v39 fun b40 =>
   bite (!(eqB b40 bx6))
   (cl sound_Height [(.agg [(.sl xx0 nx1 5)])] H38 fun r41 H42 =>
    rG r41 fun v43 =>
    dI .i64 v43 fun i44 =>
    Q (.g (.bool (leI 1 i44))) H42)
   (Q (.g (.bool false)) H38))
  (Q (.g (.bool false)) H34))) := by kernel_rfl
theorem law10_SoundTurned_ok : Sound Go.Proofs.Try.prog 4 (law10_SoundTurned) := prog_ok.sound (cx := law10_SoundTurned.cx) rfl (EnvOK.cons ((law10_awake_ok).c ⟨_, Go.Proofs.Try.func22, by kernel_rfl, by kernel_rfl⟩) (EnvOK.cons ((ref9_Sound_ok).c ⟨_, Go.Proofs.Try.func16, by kernel_rfl, by kernel_rfl⟩) (EnvOK.cons ((sound_Sound_ok).c ⟨_, Go.Proofs.Try.func15, by kernel_rfl, by kernel_rfl⟩) (EnvOK.cons ((law0_CopyTree_ok).c ⟨_, Go.Proofs.Try.func14, by kernel_rfl, by kernel_rfl⟩) (EnvOK.cons ((sound_Height_ok).c ⟨_, Go.Proofs.Try.func17, by kernel_rfl, by kernel_rfl⟩) (EnvOK.nil _)))))) (noDyn_ok _) Go.Proofs.Try.func4 rfl

/-! 23: cryostat/cryostatlaw10.letters -/
def law10_letters.cx : Cx := ⟨tys, [12], [], [], [], noDyn, [.tmp 2]⟩
def law10_letters : Sm := fun xs H Q => ∃ k, callK (law10_letters.cx) Go.Proofs.Try.f23 k xs H Q
theorem law10_letters_eq (k : Nat) (z0 : Int) (H : Hp) (Q : Post) : callK (law10_letters.cx) Go.Proofs.Try.f23 (k + 1) [.g (.int .i64 z0)] H Q = (
 rdN (pu H (.row true 5 [(.int .u8 (wrapI .u8 (wrapI .i64 (97 + (bitsI .and .i64 (shrI .i64 z0 4) 15))))), (.int .u8 (wrapI .u8 (wrapI .i64 (97 + (bitsI .and .i64 z0 15)))))])) (some ((ln H), 0)) 2 fun c0 =>
 txt c0 fun s1 =>
 Q (.g (.str s1)) (pu H (.row true 5 [(.int .u8 (wrapI .u8 (wrapI .i64 (97 + (bitsI .and .i64 (shrI .i64 z0 4) 15))))), (.int .u8 (wrapI .u8 (wrapI .i64 (97 + (bitsI .and .i64 z0 15)))))]))) := by kernel_rfl
theorem law10_letters_ok : Sound Go.Proofs.Try.prog 23 (law10_letters) := prog_ok.sound (cx := law10_letters.cx) rfl (EnvOK.nil _) (noDyn_ok _) Go.Proofs.Try.func23 rfl

/-! 5: cryostat/cryostatlaw10.SoundForms -/
def law10_SoundForms.cx : Cx := ⟨tys, [135, 143, 145], [(5, [0, 3, 4])], [(36, [5, 6])], [(22, law10_awake), (23, law10_letters), (24, ref9_Build), (14, law0_CopyTree), (15, sound_Sound), (17, sound_Height)], noDyn, [.tmp 2]⟩
def law10_SoundForms : Sm := fun xs H Q => ∃ k, callK (law10_SoundForms.cx) Go.Proofs.Try.f5 k xs H Q
def law10_SoundForms.l5 (k : Nat) (ix0 : Int) (ax1 : Pl) (nx2 : Nat) (ix3 : Int) (H : Hp) (Q : Post) : Prop := loopK (law10_SoundForms.cx) Go.Proofs.Try.f5 5 k ((.g (.int .i64 ix0)) :: .bad :: .bad :: (.g (.sl ax1 nx2 2)) :: (.g (.int .i64 ix3)) :: B 160 ([])) H Q
def law10_SoundForms.l36 (k : Nat) (xx0 : Pl) (nx1 : Nat) (xx2 : Pl) (nx3 : Nat) (H : Hp) (Q : Post) : Prop := loopK (law10_SoundForms.cx) Go.Proofs.Try.f5 36 k (B 5 ((.bx [(.sl xx0 nx1 5)]) :: (.bx [(.sl xx2 nx3 5)]) :: B 158 ([]))) H Q
theorem law10_SoundForms_eq (k : Nat) (z0 : Int) (H : Hp) (Q : Post) : callK (law10_SoundForms.cx) Go.Proofs.Try.f5 (k + 1) [.g (.int .i64 z0)] H Q = (
 cl law10_awake [] H fun r0 H1 =>
 rG r0 fun v2 =>
 dB v2 fun b3 =>
 bite (!b3)
 (Q (.g (.bool false)) H1)
 (law10_SoundForms.l5 k z0 none 0 0 H1 Q)) := by kernel_rfl
theorem law10_SoundForms.l5_eq (k : Nat) (ix0 : Int) (ax1 : Pl) (nx2 : Nat) (ix3 : Int) (H : Hp) (Q : Post) : law10_SoundForms.l5 (k + 1) ix0 ax1 nx2 ix3 H Q = (
 bite (ltI ix3 20)
 (cl law10_letters [(.g (.int .i64 (wrapI .i64 (2 * ix3))))] H fun r0 H1 =>
  rG r0 fun v2 =>
  dS v2 fun s3 =>
  chk true (ap H1 38 2 32 ax1 nx2 [(.str s3), (.str (mkS []))] 1 fun x4 n5 H6 =>
  law10_SoundForms.l5 k ix0 x4 n5 (wrapI .i64 (ix3 + 1)) H6 Q))
 (cl ref9_Build [(.g (.sl ax1 nx2 2))] H fun r7 H8 =>
  rA r7 fun c9 =>
  uC c9 fun v10 c11 =>
  dL 5 v10 fun x12 n13 =>
  uN c11 (cl law0_CopyTree [(.agg [(.sl x12 n13 5)])] H8 fun r14 H15 =>
  rA r14 fun c16 =>
  uC c16 fun v17 c18 =>
  dL 5 v17 fun x19 n20 =>
  uN c18 (chk true (chk ((leI 0 0) && (ltI 0 (nI n20))) (pS x19 fun n21 n22 =>
  rd H15 n21 ((n22 + ((tN 0) * 5)) + 4) fun v23 =>
  dL 1 v23 fun x24 n25 =>
  chk true (chk ((leI 0 0) && (ltI 0 (nI n25))) (pS x24 fun n26 n27 =>
  rd H15 n26 (n27 + ((tN 0) * 1)) fun v28 =>
  dI .i64 v28 fun i29 =>
  chk true (chk ((leI 0 0) && (ltI 0 (nI n20))) (pS x19 fun n30 n31 =>
  rd H15 n30 ((n31 + ((tN 0) * 5)) + 4) fun v32 =>
  dL 1 v32 fun x33 n34 =>
  chk true (chk ((leI 0 0) && (ltI 0 (nI n20))) (pS x19 fun n35 n36 =>
  rd H15 n35 ((n36 + ((tN 0) * 5)) + 4) fun v37 =>
  dL 1 v37 fun x38 n39 =>
  chk true (chk ((leI 0 (wrapI .i64 ((nI n39) - 1))) && (ltI (wrapI .i64 ((nI n39) - 1)) (nI n34))) (pS x33 fun n40 n41 =>
  rd H15 n40 (n41 + ((tN (wrapI .i64 ((nI n39) - 1))) * 1)) fun v42 =>
  dI .i64 v42 fun i43 =>
  bite (eqI (Int.tmod (wrapI .u64 ix0) 12) 0)
  (chk true (chk ((leN 0 (tN 47)) && ((leN (tN 47) n20) || (room H15 x19 ((tN 47) * 5)))) (law10_SoundForms.l36 k x12 n13 (shf x19 0) ((tN 47) - 0) H15 Q)))
  (bite (eqI (Int.tmod (wrapI .u64 ix0) 12) 1)
   (chk true (ap H15 34 5 80 x19 n20 [(.bool false), (.bool false), (.sl none 0 1), (.sl none 0 1), (.sl none 0 1)] 1 fun x44 n45 H46 =>
    law10_SoundForms.l36 k x12 n13 x44 n45 H46 Q))
   (bite (eqI (Int.tmod (wrapI .u64 ix0) 12) 2)
    (chk true (chk ((leI 0 i29) && (ltI i29 (nI n20))) (pS x19 fun n47 n48 =>
     wr H15 n47 ((n48 + ((tN i29) * 5)) + 0) (.bool false) fun H49 =>
     law10_SoundForms.l36 k x12 n13 x19 n20 H49 Q)))
    (bite (eqI (Int.tmod (wrapI .u64 ix0) 12) 3)
     (chk true (chk ((leI 0 0) && (ltI 0 (nI n20))) (pS x19 fun n50 n51 =>
      rd H15 n50 ((n51 + ((tN 0) * 5)) + 4) fun v52 =>
      dL 1 v52 fun x53 n54 =>
      chk true (chk ((leI 0 0) && (ltI 0 (nI n54))) (pS x53 fun n55 n56 =>
      wr H15 n55 (n56 + ((tN 0) * 1)) (.int .i64 i43) fun H57 =>
      law10_SoundForms.l36 k x12 n13 x19 n20 H57 Q)))))
     (bite (eqI (Int.tmod (wrapI .u64 ix0) 12) 4)
      (chk true (chk ((leI 0 i29) && (ltI i29 (nI n20))) (pS x19 fun n58 n59 =>
       rd H15 n58 ((n59 + ((tN i29) * 5)) + 2) fun v60 =>
       dL 1 v60 fun x61 n62 =>
       chk true (chk ((leI 0 0) && (ltI 0 (nI n62))) (pS x61 fun n63 n64 =>
       wr H15 n63 (n64 + ((tN 0) * 1)) (.str (mkS [122, 122])) fun H65 =>
       law10_SoundForms.l36 k x12 n13 x19 n20 H65 Q)))))
      (bite (eqI (Int.tmod (wrapI .u64 ix0) 12) 5)
       (chk true (chk ((leI 0 i43) && (ltI i43 (nI n20))) (pS x19 fun n66 n67 =>
        rd H15 n66 ((n67 + ((tN i43) * 5)) + 2) fun v68 =>
        dL 1 v68 fun x69 n70 =>
        chk true (chk ((leI 0 0) && (ltI 0 (nI n70))) (pS x69 fun n71 n72 =>
        wr H15 n71 (n72 + ((tN 0) * 1)) (.str (mkS [97])) fun H73 =>
        law10_SoundForms.l36 k x12 n13 x19 n20 H73 Q)))))
       (bite (eqI (Int.tmod (wrapI .u64 ix0) 12) 6)
        (chk true (chk ((leI 0 0) && (ltI 0 (nI n20))) (pS x19 fun n74 n75 =>
         wr H15 n74 (n75 + ((tN 0) * 5)) (.bool false) fun H76 =>
         wr H76 n74 ((n75 + ((tN 0) * 5)) + 1) (.bool false) fun H77 =>
         wr H77 n74 (((n75 + ((tN 0) * 5)) + 1) + 1) (.sl none 0 1) fun H78 =>
         wr H78 n74 ((((n75 + ((tN 0) * 5)) + 1) + 1) + 1) (.sl none 0 1) fun H79 =>
         wr H79 n74 (((((n75 + ((tN 0) * 5)) + 1) + 1) + 1) + 1) (.sl none 0 1) fun H80 =>
         law10_SoundForms.l36 k x12 n13 x19 n20 H80 Q)))
        (bite (eqI (Int.tmod (wrapI .u64 ix0) 12) 7)
         (chk true (chk ((leI 0 0) && (ltI 0 (nI n20))) (pS x19 fun n81 n82 =>
          rd H15 n81 ((n82 + ((tN 0) * 5)) + 4) fun v83 =>
          dL 1 v83 fun x84 n85 =>
          chk true (chk ((leI 0 0) && (ltI 0 (nI n85))) (pS x84 fun n86 n87 =>
          wr H15 n86 (n87 + ((tN 0) * 1)) (.int .i64 47) fun H88 =>
          law10_SoundForms.l36 k x12 n13 x19 n20 H88 Q)))))
         (bite (eqI (Int.tmod (wrapI .u64 ix0) 12) 8)
          (chk true (chk ((leI 0 47) && (ltI 47 (nI n20))) (pS x19 fun n89 n90 =>
           wr H15 n89 ((n90 + ((tN 47) * 5)) + 1) (.bool true) fun H91 =>
           law10_SoundForms.l36 k x12 n13 x19 n20 H91 Q)))
          (bite (eqI (Int.tmod (wrapI .u64 ix0) 12) 9)
           (chk true (chk ((leI 0 47) && (ltI 47 (nI n20))) (pS x19 fun n92 n93 =>
            wr (pu H15 (.row true 9 [(.str (mkS [97]))])) n92 ((n93 + ((tN 47) * 5)) + 2) (.sl (some ((ln H15), 0)) 1 1) fun H94 =>
            law10_SoundForms.l36 k x12 n13 x19 n20 H94 Q)))
           (bite (eqI (Int.tmod (wrapI .u64 ix0) 12) 10)
            (chk true (chk ((leI 0 i29) && (ltI i29 (nI n20))) (pS x19 fun n95 n96 =>
             wr (pu (pu H15 (.row true 9 [(.str (mkS [97, 98])), (.str (mkS [97, 99]))])) (.row true 3 [(.int .i64 i29), (.int .i64 40), (.int .i64 41)])) n95 (n96 + ((tN i29) * 5)) (.bool true) fun H97 =>
             wr H97 n95 ((n96 + ((tN i29) * 5)) + 1) (.bool false) fun H98 =>
             wr H98 n95 (((n96 + ((tN i29) * 5)) + 1) + 1) (.sl (some ((ln H15), 0)) 2 1) fun H99 =>
             wr H99 n95 ((((n96 + ((tN i29) * 5)) + 1) + 1) + 1) (.sl none 0 1) fun H100 =>
             wr H100 n95 (((((n96 + ((tN i29) * 5)) + 1) + 1) + 1) + 1) (.sl (some ((ln (pu H15 (.row true 9 [(.str (mkS [97, 98])), (.str (mkS [97, 99]))]))), 0)) 3 1) fun H101 =>
             law10_SoundForms.l36 k x12 n13 x19 n20 H101 Q)))
            (chk true (chk ((leI 0 0) && (ltI 0 (nI n20))) (pS x19 fun n102 n103 =>
             rd H15 n102 ((n103 + ((tN 0) * 5)) + 2) fun v104 =>
             dL 1 v104 fun x105 n106 =>
             chk true (chk ((leI 0 0) && (ltI 0 (nI n20))) (pS x19 fun n107 n108 =>
             rd H15 n107 ((n108 + ((tN 0) * 5)) + 2) fun v109 =>
             dL 1 v109 fun x110 n111 =>
             chk true (chk ((leI 0 1) && (ltI 1 (nI n111))) (pS x110 fun n112 n113 =>
             rd H15 n112 (n113 + ((tN 1) * 1)) fun v114 =>
             dS v114 fun s115 =>
             chk true (chk ((leI 0 0) && (ltI 0 (nI n106))) (pS x105 fun n116 n117 =>
             wr H15 n116 (n117 + ((tN 0) * 1)) (.str s115) fun H118 =>
             law10_SoundForms.l36 k x12 n13 x19 n20 H118 Q))))))))))))))))))))))))))))))))) := by kernel_rfl
theorem law10_SoundForms.l36_eq (k : Nat) (xx0 : Pl) (nx1 : Nat) (xx2 : Pl) (nx3 : Nat) (H : Hp) (Q : Post) : law10_SoundForms.l36 (k + 1) xx0 nx1 xx2 nx3 H Q = (
 cl sound_Sound [(.agg [(.sl xx0 nx1 5)])] H fun r0 H1 =>
 rG r0 fun v2 =>
 dB v2 fun b3 =>
 bite b3
 (cl sound_Height [(.agg [(.sl xx0 nx1 5)])] H1 fun r4 H5 =>
  rG r4 fun v6 =>
  dI .i64 v6 fun i7 =>
  bite (eqI i7 2)
  (cl sound_Sound [(.agg [(.sl xx2 nx3 5)])] H5 fun r8 H9 =>
   rG r8 fun v10 =>
   dB v10 fun b11 =>
   bite (!b11)
   (cl sound_Height [(.agg [(.sl xx2 nx3 5)])] H9 fun r12 H13 =>
    rG r12 fun v14 =>
    dI .i64 v14 fun i15 =>
    Q (.g (.bool (eqI i15 0))) H13)
   (Q (.g (.bool false)) H9))
  (Q (.g (.bool false)) H5))
 (Q (.g (.bool false)) H1)) := by kernel_rfl
theorem law10_SoundForms_ok : Sound Go.Proofs.Try.prog 5 (law10_SoundForms) := prog_ok.sound (cx := law10_SoundForms.cx) rfl (EnvOK.cons ((law10_awake_ok).c ⟨_, Go.Proofs.Try.func22, by kernel_rfl, by kernel_rfl⟩) (EnvOK.cons ((law10_letters_ok).c ⟨_, Go.Proofs.Try.func23, by kernel_rfl, by kernel_rfl⟩) (EnvOK.cons ((ref9_Build_ok).c ⟨_, Go.Proofs.Try.func24, by kernel_rfl, by kernel_rfl⟩) (EnvOK.cons ((law0_CopyTree_ok).c ⟨_, Go.Proofs.Try.func14, by kernel_rfl, by kernel_rfl⟩) (EnvOK.cons ((sound_Sound_ok).c ⟨_, Go.Proofs.Try.func15, by kernel_rfl, by kernel_rfl⟩) (EnvOK.cons ((sound_Height_ok).c ⟨_, Go.Proofs.Try.func17, by kernel_rfl, by kernel_rfl⟩) (EnvOK.nil _))))))) (noDyn_ok _) Go.Proofs.Try.func5 rfl

/-! 6: cryostat/cryostatlaw10.SoundFull -/
def law10_SoundFull.cx : Cx := ⟨tys, [], [(5, [0, 3, 4])], [], [(22, law10_awake), (23, law10_letters), (24, ref9_Build), (25, law0_Num), (15, sound_Sound), (17, sound_Height)], noDyn, [.tmp 2]⟩
def law10_SoundFull : Sm := fun xs H Q => ∃ k, callK (law10_SoundFull.cx) Go.Proofs.Try.f6 k xs H Q
def law10_SoundFull.l5 (k : Nat) (ix0 : Int) (ax1 : Pl) (nx2 : Nat) (ix3 : Int) (H : Hp) (Q : Post) : Prop := loopK (law10_SoundFull.cx) Go.Proofs.Try.f6 5 k ((.g (.int .i64 ix0)) :: .bad :: .bad :: (.g (.sl ax1 nx2 2)) :: (.g (.int .i64 ix3)) :: B 38 ([])) H Q
theorem law10_SoundFull_eq (k : Nat) (z0 : Int) (H : Hp) (Q : Post) : callK (law10_SoundFull.cx) Go.Proofs.Try.f6 (k + 1) [.g (.int .i64 z0)] H Q = (
 cl law10_awake [] H fun r0 H1 =>
 rG r0 fun v2 =>
 dB v2 fun b3 =>
 bite (!b3)
 (Q (.g (.bool false)) H1)
 (law10_SoundFull.l5 k z0 none 0 0 H1 Q)) := by kernel_rfl
theorem law10_SoundFull.l5_eq (k : Nat) (ix0 : Int) (ax1 : Pl) (nx2 : Nat) (ix3 : Int) (H : Hp) (Q : Post) : law10_SoundFull.l5 (k + 1) ix0 ax1 nx2 ix3 H Q = (
 bite (ltI ix3 (wrapI .i64 (56 + (bitsI .and .i64 ix0 7))))
 (cl law10_letters [(.g (.int .i64 ix3))] H fun r0 H1 =>
  rG r0 fun v2 =>
  dS v2 fun s3 =>
  chk true (ap H1 38 2 32 ax1 nx2 [(.str s3), (.str (mkS []))] 1 fun x4 n5 H6 =>
  law10_SoundFull.l5 k ix0 x4 n5 (wrapI .i64 (ix3 + 1)) H6 Q))
 (cl ref9_Build [(.g (.sl ax1 nx2 2))] H fun r7 H8 =>
  rA r7 fun c9 =>
  uC c9 fun v10 c11 =>
  dL 5 v10 fun x12 n13 =>
  uN c11 (cl law0_Num [(.g (.int .i64 0))] H8 fun r14 H15 =>
  rG r14 fun v16 =>
  dI .i64 v16 fun i17 =>
  bite (eqI i17 0)
  (cl sound_Sound [(.agg [(.sl x12 n13 5)])] H15 fun r18 H19 =>
   rG r18 fun v20 =>
   dB v20 fun b21 =>
   bite (eqB b21 (leI (nI nx2) 60))
   (bite (ltI 60 (nI nx2))
    (Q (.g (.bool true)) H19)
    (cl sound_Height [(.agg [(.sl x12 n13 5)])] H19 fun r22 H23 =>
     rG r22 fun v24 =>
     dI .i64 v24 fun i25 =>
     Q (.g (.bool (eqI i25 3))) H23))
   (Q (.g (.bool false)) H19))
  (Q (.g (.bool false)) H15)))) := by kernel_rfl
theorem law10_SoundFull_ok : Sound Go.Proofs.Try.prog 6 (law10_SoundFull) := prog_ok.sound (cx := law10_SoundFull.cx) rfl (EnvOK.cons ((law10_awake_ok).c ⟨_, Go.Proofs.Try.func22, by kernel_rfl, by kernel_rfl⟩) (EnvOK.cons ((law10_letters_ok).c ⟨_, Go.Proofs.Try.func23, by kernel_rfl, by kernel_rfl⟩) (EnvOK.cons ((ref9_Build_ok).c ⟨_, Go.Proofs.Try.func24, by kernel_rfl, by kernel_rfl⟩) (EnvOK.cons ((law0_Num_ok).c ⟨_, Go.Proofs.Try.func25, by kernel_rfl, by kernel_rfl⟩) (EnvOK.cons ((sound_Sound_ok).c ⟨_, Go.Proofs.Try.func15, by kernel_rfl, by kernel_rfl⟩) (EnvOK.cons ((sound_Height_ok).c ⟨_, Go.Proofs.Try.func17, by kernel_rfl, by kernel_rfl⟩) (EnvOK.nil _))))))) (noDyn_ok _) Go.Proofs.Try.func6 rfl

/-! 45: cryostat/cryostatref9.all -/
def ref9_all.cx (S : Sm) : Cx := ⟨tys, [], [(3, [2, 3, 7, 8]), (7, [2, 3, 7, 9])], [], [(45, S)], noDyn, [.tmp 6]⟩
def ref9_all.st (S : Sm) : Sm := fun xs H Q => ∃ k, callK (ref9_all.cx S) Go.Proofs.Try.f45 k xs H Q
def ref9_all.l3 (S : Sm) (k : Nat) (xx0 : Pl) (nx1 : Nat) (xx2 : Pl) (nx3 : Nat) (bx4 : Bool) (bx5 : Bool) (xx6 : Pl) (nx7 : Nat) (xx8 : Pl) (nx9 : Nat) (xx10 : Pl) (nx11 : Nat) (ix12 : Int) (H : Hp) (Q : Post) : Prop := loopK (ref9_all.cx S) Go.Proofs.Try.f45 3 k (.bad :: .bad :: (.g (.sl xx0 nx1 2)) :: (.bx [(.sl xx2 nx3 5)]) :: B 3 ((.bx [(.bool bx4), (.bool bx5), (.sl xx6 nx7 1), (.sl xx8 nx9 1), (.sl xx10 nx11 1)]) :: (.g (.int .i64 ix12)) :: B 43 ([]))) H Q
def ref9_all.l7 (S : Sm) (k : Nat) (xx0 : Pl) (nx1 : Nat) (xx2 : Pl) (nx3 : Nat) (bx4 : Bool) (bx5 : Bool) (xx6 : Pl) (nx7 : Nat) (xx8 : Pl) (nx9 : Nat) (xx10 : Pl) (nx11 : Nat) (ix12 : Int) (H : Hp) (Q : Post) : Prop := loopK (ref9_all.cx S) Go.Proofs.Try.f45 7 k (.bad :: .bad :: (.g (.sl xx0 nx1 2)) :: (.bx [(.sl xx2 nx3 5)]) :: B 3 ((.bx [(.bool bx4), (.bool bx5), (.sl xx6 nx7 1), (.sl xx8 nx9 1), (.sl xx10 nx11 1)]) :: .bad :: (.g (.int .i64 ix12)) :: B 42 ([]))) H Q
theorem ref9_all_eq (S : Sm) (k : Nat) (z0 : Pl) (z0n : Nat) (z1 : Int) (z2 : Pl) (z2n : Nat) (H : Hp) (Q : Post) : callK (ref9_all.cx S) Go.Proofs.Try.f45 (k + 1) [.agg [.sl z0 z0n 5], .g (.int .i64 z1), .g (.sl z2 z2n 2)] H Q = (
 chk true (chk ((leI 0 z1) && (ltI z1 (nI z0n))) (pS z0 fun n0 n1 =>
 rd H n0 (n1 + ((tN z1) * 5)) fun v2 =>
 dB v2 fun b3 =>
 rd H n0 ((n1 + ((tN z1) * 5)) + 1) fun v4 =>
 dB v4 fun b5 =>
 rd H n0 (((n1 + ((tN z1) * 5)) + 1) + 1) fun v6 =>
 dL 1 v6 fun x7 n8 =>
 rd H n0 ((((n1 + ((tN z1) * 5)) + 1) + 1) + 1) fun v9 =>
 dL 1 v9 fun x10 n11 =>
 rd H n0 (((((n1 + ((tN z1) * 5)) + 1) + 1) + 1) + 1) fun v12 =>
 dL 1 v12 fun x13 n14 =>
 ref9_all.l3 S k z2 z2n z0 z0n b3 b5 x7 n8 x10 n11 x13 n14 0 H Q))) := by kernel_rfl
theorem ref9_all.l3_eq (S : Sm) (k : Nat) (xx0 : Pl) (nx1 : Nat) (xx2 : Pl) (nx3 : Nat) (bx4 : Bool) (bx5 : Bool) (xx6 : Pl) (nx7 : Nat) (xx8 : Pl) (nx9 : Nat) (xx10 : Pl) (nx11 : Nat) (ix12 : Int) (H : Hp) (Q : Post) : ref9_all.l3 S (k + 1) xx0 nx1 xx2 nx3 bx4 bx5 xx6 nx7 xx8 nx9 xx10 nx11 ix12 H Q = (
 bite (ltI ix12 (nI nx9))
 (chk true (chk ((leI 0 ix12) && (ltI ix12 (nI nx7))) (pS xx6 fun n0 n1 =>
  rd H n0 (n1 + ((tN ix12) * 1)) fun v2 =>
  dS v2 fun s3 =>
  chk true (chk ((leI 0 ix12) && (ltI ix12 (nI nx9))) (pS xx8 fun n4 n5 =>
  rd H n4 (n5 + ((tN ix12) * 1)) fun v6 =>
  dS v6 fun s7 =>
  chk true (ap H 38 2 32 xx0 nx1 [(.str s3), (.str s7)] 1 fun x8 n9 H10 =>
  ref9_all.l3 S k x8 n9 xx2 nx3 bx4 bx5 xx6 nx7 xx8 nx9 xx10 nx11 (wrapI .i64 (ix12 + 1)) H10 Q))))))
 (ref9_all.l7 S k xx0 nx1 xx2 nx3 bx4 bx5 xx6 nx7 xx8 nx9 xx10 nx11 0 H Q)) := by kernel_rfl
theorem ref9_all.l7_eq (S : Sm) (k : Nat) (xx0 : Pl) (nx1 : Nat) (xx2 : Pl) (nx3 : Nat) (bx4 : Bool) (bx5 : Bool) (xx6 : Pl) (nx7 : Nat) (xx8 : Pl) (nx9 : Nat) (xx10 : Pl) (nx11 : Nat) (ix12 : Int) (H : Hp) (Q : Post) : ref9_all.l7 S (k + 1) xx0 nx1 xx2 nx3 bx4 bx5 xx6 nx7 xx8 nx9 xx10 nx11 ix12 H Q = (
 bite (ltI ix12 (nI nx11))
 (chk true (chk ((leI 0 ix12) && (ltI ix12 (nI nx11))) (pS xx10 fun n0 n1 =>
  rd H n0 (n1 + ((tN ix12) * 1)) fun v2 =>
  dI .i64 v2 fun i3 =>
  cl S [(.agg [(.sl xx2 nx3 5)]), (.g (.int .i64 i3)), (.g (.sl xx0 nx1 2))] H fun r4 H5 =>
  rG r4 fun v6 =>
  dL 2 v6 fun x7 n8 =>
  ref9_all.l7 S k x7 n8 xx2 nx3 bx4 bx5 xx6 nx7 xx8 nx9 xx10 nx11 (wrapI .i64 (ix12 + 1)) H5 Q)))
 (Q (.g (.sl xx0 nx1 2)) H)) := by kernel_rfl
theorem ref9_all.st_ok (S : Sm) (hS : SoundC Go.Proofs.Try.prog 45 S) : Sound Go.Proofs.Try.prog 45 (ref9_all.st S) := prog_ok.sound (cx := ref9_all.cx S) rfl (EnvOK.cons hS (EnvOK.nil _)) (noDyn_ok _) Go.Proofs.Try.func45 rfl
def ref9_all.at : Nat → Sm
  | 0 => fun _ _ _ => False
  | n + 1 => ref9_all.st (ref9_all.at n)
def ref9_all : Sm := fun xs H Q => ∃ n, ref9_all.at n xs H Q
theorem ref9_all.at_ok : ∀ n, Sound Go.Proofs.Try.prog 45 (ref9_all.at n)
  | 0 => fun _ _ _ h => h.elim
  | n + 1 => ref9_all.st_ok _ ((ref9_all.at_ok n).c ⟨_, Go.Proofs.Try.func45, by kernel_rfl, by kernel_rfl⟩)
theorem ref9_all_ok : Sound Go.Proofs.Try.prog 45 (ref9_all) := Sound.ex (ref9_all.at_ok)

/-! 26: cryostat/cryostatref9.All -/
def ref9_All.cx : Cx := ⟨tys, [], [], [], [(16, ref9_Sound), (45, ref9_all)], noDyn, [.tmp 2, .tmp 3]⟩
def ref9_All : Sm := fun xs H Q => ∃ k, callK (ref9_All.cx) Go.Proofs.Try.f26 k xs H Q
theorem ref9_All_eq (k : Nat) (z0 : Pl) (z0n : Nat) (H : Hp) (Q : Post) : callK (ref9_All.cx) Go.Proofs.Try.f26 (k + 1) [.agg [.sl z0 z0n 5]] H Q = (
 cl ref9_Sound [(.agg [(.sl z0 z0n 5)])] H fun r0 H1 =>
 rG r0 fun v2 =>
 dB v2 fun b3 =>
 bite (!b3)
 (Q (.tup [(.s (.sl none 0 2)), (.s (.int .i64 1400))]) H1)
 (cl ref9_all [(.agg [(.sl z0 z0n 5)]), (.g (.int .i64 0)), (.g (.sl none 0 0))] H1 fun r4 H5 =>
  rG r4 fun v6 =>
  dL 2 v6 fun x7 n8 =>
  Q (.tup [(.s (.sl x7 n8 2)), (.s (.int .i64 0))]) H5)) := by kernel_rfl
theorem ref9_All_ok : Sound Go.Proofs.Try.prog 26 (ref9_All) := prog_ok.sound (cx := ref9_All.cx) rfl (EnvOK.cons ((ref9_Sound_ok).c ⟨_, Go.Proofs.Try.func16, by kernel_rfl, by kernel_rfl⟩) (EnvOK.cons ((ref9_all_ok).c ⟨_, Go.Proofs.Try.func45, by kernel_rfl, by kernel_rfl⟩) (EnvOK.nil _))) (noDyn_ok _) Go.Proofs.Try.func26 rfl

/-! 7: cryostat/cryostatlaw10.SoundPages -/
def law10_SoundPages.cx : Cx := ⟨tys, [], [(8, [1, 3, 4, 5, 6, 7])], [], [(22, law10_awake), (15, sound_Sound), (17, sound_Height), (26, ref9_All), (27, ref1_PageMay)], noDyn, [.tmp 2]⟩
def law10_SoundPages : Sm := fun xs H Q => ∃ k, callK (law10_SoundPages.cx) Go.Proofs.Try.f7 k xs H Q
def law10_SoundPages.l8 (k : Nat) (xx0 : Pl) (nx1 : Nat) (xx2 : Pl) (nx3 : Nat) (ix4 : Int) (ix5 : Int) (ix6 : Int) (ix7 : Int) (H : Hp) (Q : Post) : Prop := loopK (law10_SoundPages.cx) Go.Proofs.Try.f7 8 k (.bad :: (.bx [(.sl xx0 nx1 5)]) :: .bad :: (.g (.sl xx2 nx3 2)) :: (.g (.int .i64 ix4)) :: (.g (.int .i64 ix5)) :: (.g (.int .i64 ix6)) :: (.g (.int .i64 ix7)) :: B 86 ([])) H Q
theorem law10_SoundPages_eq (k : Nat) (z0 : Pl) (z0n : Nat) (H : Hp) (Q : Post) : callK (law10_SoundPages.cx) Go.Proofs.Try.f7 (k + 1) [.agg [.sl z0 z0n 5]] H Q = (
 cl law10_awake [] H fun r0 H1 =>
 rG r0 fun v2 =>
 dB v2 fun b3 =>
 bite (!b3)
 (Q (.g (.bool false)) H1)
 (cl sound_Sound [(.agg [(.sl z0 z0n 5)])] H1 fun r4 H5 =>
  rG r4 fun v6 =>
  dB v6 fun b7 =>
  bite (!b7)
  (cl sound_Height [(.agg [(.sl z0 z0n 5)])] H5 fun r8 H9 =>
   rG r8 fun v10 =>
   dI .i64 v10 fun i11 =>
   Q (.g (.bool (eqI i11 0))) H9)
  (cl ref9_All [(.agg [(.sl z0 z0n 5)])] H5 fun r12 H13 =>
   rT r12 fun c14 =>
   uR c14 fun q15 c16 =>
   rS q15 fun v17 =>
   dL 2 v17 fun x18 n19 =>
   uR c16 fun q20 c21 =>
   rS q20 fun v22 =>
   dI .i64 v22 fun i23 =>
   uE c21 (law10_SoundPages.l8 k z0 z0n x18 n19 i23 0 0 0 H13 Q)))) := by kernel_rfl
theorem law10_SoundPages.l8_eq (k : Nat) (xx0 : Pl) (nx1 : Nat) (xx2 : Pl) (nx3 : Nat) (ix4 : Int) (ix5 : Int) (ix6 : Int) (ix7 : Int) (H : Hp) (Q : Post) : law10_SoundPages.l8 (k + 1) xx0 nx1 xx2 nx3 ix4 ix5 ix6 ix7 H Q = (
 bite (ltI ix7 (nI nx1))
 (chk true (chk ((leI 0 ix7) && (ltI ix7 (nI nx1))) (pS xx0 fun n0 n1 =>
  rd H n0 (n1 + ((tN ix7) * 5)) fun v2 =>
  dB v2 fun b3 =>
  rd H n0 ((n1 + ((tN ix7) * 5)) + 1) fun v4 =>
  dB v4 fun b5 =>
  rd H n0 (((n1 + ((tN ix7) * 5)) + 1) + 1) fun v6 =>
  dL 1 v6 fun x7 n8 =>
  rd H n0 ((((n1 + ((tN ix7) * 5)) + 1) + 1) + 1) fun v9 =>
  dL 1 v9 fun x10 n11 =>
  rd H n0 (((((n1 + ((tN ix7) * 5)) + 1) + 1) + 1) + 1) fun v12 =>
  dL 1 v12 fun x13 n14 =>
  bite b3
  (cl ref1_PageMay [(.agg [(.bool b3), (.bool b5), (.sl x7 n8 1), (.sl x10 n11 1), (.sl x13 n14 1)])] H fun r15 H16 =>
   rG r15 fun v17 =>
   dB v17 fun b18 =>
   bite (!b18)
   (Q (.g (.bool false)) H16)
   (bite (ltI 0 ix7)
    (bite (ltI (nI n8) 2)
     (Q (.g (.bool false)) H16)
     (bite b3
      (bite b5
       (law10_SoundPages.l8 k xx0 nx1 xx2 nx3 ix4 (wrapI .i64 (ix5 + (nI n8))) (wrapI .i64 (ix6 + 1)) (wrapI .i64 (ix7 + 1)) H16 Q)
       (law10_SoundPages.l8 k xx0 nx1 xx2 nx3 ix4 ix5 ix6 (wrapI .i64 (ix7 + 1)) H16 Q))
      (law10_SoundPages.l8 k xx0 nx1 xx2 nx3 ix4 ix5 ix6 (wrapI .i64 (ix7 + 1)) H16 Q)))
    (bite b3
     (bite b5
      (law10_SoundPages.l8 k xx0 nx1 xx2 nx3 ix4 (wrapI .i64 (ix5 + (nI n8))) (wrapI .i64 (ix6 + 1)) (wrapI .i64 (ix7 + 1)) H16 Q)
      (law10_SoundPages.l8 k xx0 nx1 xx2 nx3 ix4 ix5 ix6 (wrapI .i64 (ix7 + 1)) H16 Q))
     (law10_SoundPages.l8 k xx0 nx1 xx2 nx3 ix4 ix5 ix6 (wrapI .i64 (ix7 + 1)) H16 Q))))
  (bite b3
   (bite b5
    (law10_SoundPages.l8 k xx0 nx1 xx2 nx3 ix4 (wrapI .i64 (ix5 + (nI n8))) (wrapI .i64 (ix6 + 1)) (wrapI .i64 (ix7 + 1)) H Q)
    (law10_SoundPages.l8 k xx0 nx1 xx2 nx3 ix4 ix5 ix6 (wrapI .i64 (ix7 + 1)) H Q))
   (law10_SoundPages.l8 k xx0 nx1 xx2 nx3 ix4 ix5 ix6 (wrapI .i64 (ix7 + 1)) H Q)))))
 (cl sound_Height [(.agg [(.sl xx0 nx1 5)])] H fun r19 H20 =>
  rG r19 fun v21 =>
  dI .i64 v21 fun i22 =>
  bite (eqI ix4 0)
  (bite (eqI (nI nx3) ix5)
   (bite (leI ix5 60)
    (bite (leI 1 i22)
     (bite (eqB (eqI i22 1) (eqI ix6 1))
      (Q (.g (.bool (leI i22 5))) H20)
      (Q (.g (.bool false)) H20))
     (Q (.g (.bool false)) H20))
    (Q (.g (.bool false)) H20))
   (Q (.g (.bool false)) H20))
  (Q (.g (.bool false)) H20))) := by kernel_rfl
theorem law10_SoundPages_ok : Sound Go.Proofs.Try.prog 7 (law10_SoundPages) := prog_ok.sound (cx := law10_SoundPages.cx) rfl (EnvOK.cons ((law10_awake_ok).c ⟨_, Go.Proofs.Try.func22, by kernel_rfl, by kernel_rfl⟩) (EnvOK.cons ((sound_Sound_ok).c ⟨_, Go.Proofs.Try.func15, by kernel_rfl, by kernel_rfl⟩) (EnvOK.cons ((sound_Height_ok).c ⟨_, Go.Proofs.Try.func17, by kernel_rfl, by kernel_rfl⟩) (EnvOK.cons ((ref9_All_ok).c ⟨_, Go.Proofs.Try.func26, by kernel_rfl, by kernel_rfl⟩) (EnvOK.cons ((ref1_PageMay_ok).c ⟨_, Go.Proofs.Try.func27, by kernel_rfl, by kernel_rfl⟩) (EnvOK.nil _)))))) (noDyn_ok _) Go.Proofs.Try.func7 rfl


end Go.Am
