import Derived.Test.YtfgkfhjlcbccaaaS98
set_option linter.unusedVariables false
set_option linter.unusedSimpArgs false
namespace Go.Am
open Classical
set_option maxRecDepth 100000

theorem and1 (x : Int) : bitsI .and .i64 x 1 = 0 ∨ bitsI .and .i64 x 1 = 1 := by
  have h : ((BitVec.ofInt 64 x &&& BitVec.ofInt 64 1).toNat) ≤ 1 := by
    rw [BitVec.toNat_and]
    exact Nat.and_le_right
  show IntKind.i64.wrap (((BitVec.ofInt 64 x &&& BitVec.ofInt 64 1).toNat : Nat) : Int) = 0 ∨ IntKind.i64.wrap (((BitVec.ofInt 64 x &&& BitVec.ofInt 64 1).toNat : Nat) : Int) = 1
  have e : IntKind.i64.wrap (((BitVec.ofInt 64 x &&& BitVec.ofInt 64 1).toNat : Nat) : Int) = (((BitVec.ofInt 64 x &&& BitVec.ofInt 64 1).toNat : Nat) : Int) := wrap64 (by omega) (by omega)
  rw [e]; omega

section
variable {H0 : Hp} {Q : Post} {lf : Bool} {K : Int} {ua la : Bool} {xa : Pl} {na : Nat} {va : Pl} {nva : Nat} {ka : Pl} {nka : Nat} {ub lb : Bool} {xb : Pl} {nb : Nat} {vb : Pl} {nvb : Nat} {kb : Pl} {nkb : Nat}
  {w1 : Pl} {c1 : Nat} {w2 : Pl} {c2 : Nat} {w3 : Pl} {c3 : Nat} {ks vs : List ByteArray} {is : List Int}

theorem joins_l30 {H : Hp} {uw lw : Bool} {pa pb pw : Pg} (hA : PgAt H ua la xa na va nva ka nka pa) (hB : PgAt H ub lb xb nb vb nvb kb nkb pb) (hW : PgAt H uw lw w1 c1 w2 c2 w3 c3 pw)
    (h1 : canJoinB pa (mkS [109]) pb = true) (h2 : joinP pa (mkS [109]) pb = pw) (hQ : ∀ H', Q (.g (.bool true)) H') (f : Nat) :
    law9_NodeJoins.l30 (f + 1) ua la xa na va nva ka nka ub lb xb nb vb nvb kb nkb uw lw w1 c1 w2 c2 w3 c3 H Q := by
  rw [law9_NodeJoins.l30_eq]
  refine node_Join_spec hA hB fun u4 l4 f1 g1 f2 g2 f3 g3 H3 p3 o3 => ?_
  simp only [rT_tup, uR_cons, rC_a, uC_cons, dB_bool, dL_sl, uN_nil, rS_s, dS_str, dI_int, uE_nil]
  rw [(jo_yes h1).1, h2] at o3
  rw [(jo_yes h1).2]
  refine law0_Num_spec ?_
  simp only [rG_g, dI_int]
  rw [bite_t (by decide)]
  refine law0_SamePage_spec o3.at (hW.mono p3) fun b hb => ?_
  simp only [rG_g, dB_bool]
  rw [hb.2 rfl]
  exact hQ _

/-- kids are filled, or not; then the pages get theirs -/
theorem joins_l22f (hbig : c3 ≤ 100) (c : Nat)
    (hK : ∀ (f : Nat) (H : Hp) (w3 : Pl) (c3 : Nat), c ≤ f → H0 <+: H → PgOwn H H0.length true false w1 c1 w2 c2 w3 c3 ⟨true, false, ks, vs, is ++ [7, 8, 9, 10, 11]⟩ → law9_NodeJoins.l22 (f + 1) false K ua la xa na va nva ka nka ub lb xb nb vb nvb kb nkb true false w1 c1 w2 c2 w3 c3 5 H Q) :
    ∀ (f j : Nat) (H : Hp) (w3 : Pl) (c3 : Nat), 6 - j + c ≤ f → j ≤ 5 → c3 ≤ 100 + j → H0 <+: H → PgOwn H H0.length true false w1 c1 w2 c2 w3 c3 ⟨true, false, ks, vs, is ++ ([7, 8, 9, 10, 11] : List Int).take j⟩ → law9_NodeJoins.l22 f false K ua la xa na va nva ka nka ub lb xb nb vb nvb kb nkb true false w1 c1 w2 c2 w3 c3 (j : Int) H Q := by
  intro f
  induction f with
  | zero => intro j; omega
  | succ f ih =>
    intro j H w3 c3 hf hj hc h0 o
    by_cases h5 : j = 5
    · subst h5
      exact hK f H w3 c3 (by omega) h0 o
    · rw [law9_NodeJoins.l22_eq, bite_t (by simp; omega), bite_t (by decide), chk_true]
      have w7 : wrapI .i64 (7 + (j : Int)) = 7 + (j : Int) := wrap64 (by omega) (by omega)
      rw [w7, wrap_succ (by omega)]
      refine o.addKids h0 [7 + (j : Int)] (m := 1) rfl rfl (by omega) fun w3' H' h0' o' => ?_
      refine ih (j + 1) H' w3' (c3 + 1) (by omega) (by omega) (by omega) h0' ?_
      have e : (([7, 8, 9, 10, 11] : List Int).take j) ++ [7 + (j : Int)] = ([7, 8, 9, 10, 11] : List Int).take (j + 1) := by
        have : j = 0 ∨ j = 1 ∨ j = 2 ∨ j = 3 ∨ j = 4 := by omega
        rcases this with rfl | rfl | rfl | rfl | rfl <;> rfl
      rw [← e, ← List.append_assoc]
      exact o'
theorem joins_l18t (hbig : c2 ≤ 100) (c : Nat)
    (hK : ∀ (f : Nat) (H : Hp) (w2 : Pl) (c2 : Nat), c ≤ f → H0 <+: H → PgOwn H H0.length true true w1 c1 w2 c2 w3 c3 ⟨true, true, ks, vs ++ [mkS [48], mkS [49], mkS [50]], is⟩ → law9_NodeJoins.l22 f true K ua la xa na va nva ka nka ub lb xb nb vb nvb kb nkb true true w1 c1 w2 c2 w3 c3 0 H Q) :
    ∀ (f j : Nat) (H : Hp) (w2 : Pl) (c2 : Nat), 4 - j + c ≤ f → j ≤ 3 → c2 ≤ 100 + j → H0 <+: H → PgOwn H H0.length true true w1 c1 w2 c2 w3 c3 ⟨true, true, ks, vs ++ [mkS [48], mkS [49], mkS [50]].take j, is⟩ → law9_NodeJoins.l18 f true K ua la xa na va nva ka nka ub lb xb nb vb nvb kb nkb true true w1 c1 w2 c2 w3 c3 (j : Int) H Q := by
  intro f
  induction f with
  | zero => intro j; omega
  | succ f ih =>
    intro j H w2 c2 hf hj hc h0 o
    rw [law9_NodeJoins.l18_eq]
    by_cases h5 : j = 3
    · subst h5
      rw [bite_f (by decide)]
      exact hK f H w2 c2 (by omega) h0 o
    · rw [bite_t (by simp; omega), bite_true]
      have w8 : wrapI .i64 (48 + (j : Int)) = 48 + (j : Int) := wrap64 (by omega) (by omega)
      rw [w8, u8_eq (by omega) (by omega), wrap_succ (by omega)]
      rw [pu_def, ln_def, rdN_of (cs := u8s [bof (48 + (j : Int))]) (by simp [cells?, u8s]), txt_u8s, chk_true]
      refine (o.mono (pre_pu H _)).addVals (h0.trans (pre_pu H _)) [mkS [bof (48 + (j : Int))]] (m := 1) rfl rfl (by omega) fun w2' H' h0' o' => ?_
      refine ih (j + 1) H' w2' (c2 + 1) (by omega) (by omega) (by omega) h0' ?_
      have e : ([mkS [48], mkS [49], mkS [50]].take j) ++ [mkS [bof (48 + (j : Int))]] = [mkS [48], mkS [49], mkS [50]].take (j + 1) := by
        have : j = 0 ∨ j = 1 ∨ j = 2 := by omega
        rcases this with rfl | rfl | rfl <;> rfl
      rw [← e, ← List.append_assoc]
      exact o'
theorem joins_l14 {ys : List ByteArray} (hB : Ss H0 xb nb ys) (hn : nb ≤ 10) (hk : wrapI .i64 (2 - K) = (nb : Int)) (c : Nat)
    (hK : ∀ (f : Nat) (H : Hp) (w1 : Pl) (c1 : Nat), c ≤ f → c1 ≤ 200 → H0 <+: H → PgOwn H H0.length true lf w1 c1 w2 c2 w3 c3 ⟨true, lf, ks ++ ys, vs, is⟩ → law9_NodeJoins.l18 f lf K ua la xa na va nva ka nka ub lb xb nb vb nvb kb nkb true lf w1 c1 w2 c2 w3 c3 0 H Q) :
    ∀ (f j : Nat) (H : Hp) (w1 : Pl) (c1 : Nat), nb + 1 - j + c ≤ f → j ≤ nb → c1 ≤ 100 + j → H0 <+: H → PgOwn H H0.length true lf w1 c1 w2 c2 w3 c3 ⟨true, lf, ks ++ ys.take j, vs, is⟩ → law9_NodeJoins.l14 f lf K ua la xa na va nva ka nka ub lb xb nb vb nvb kb nkb true lf w1 c1 w2 c2 w3 c3 (j : Int) H Q := by
  intro f
  have hl := hB.len
  induction f with
  | zero => intro j; omega
  | succ f ih =>
    intro j H w1 c1 hf hj hc h0 o
    rw [law9_NodeJoins.l14_eq, hk]
    by_cases h5 : j < nb
    · rw [bite_t (by simp; omega), chk_true, (hB.mono h0).rd j rfl (by omega), chk_true, wrap_succ (by omega)]
      refine o.addKeys h0 [ys[j]] (m := 1) rfl rfl (by omega) fun w1' H' h0' o' => ?_
      refine ih (j + 1) H' w1' (c1 + 1) (by omega) (by omega) (by omega) h0' ?_
      rw [List.take_succ_eq_append_getElem (by omega), ← List.append_assoc]
      exact o'
    · rw [bite_f (by simp; omega)]
      rw [List.take_of_length_le (by omega)] at o
      exact hK f H w1 c1 (by omega) (by omega) h0 o
theorem joins_l8 {ys : List ByteArray} (hB : Ss H0 xa na ys) (hn : na ≤ 10) (hk : wrapI .i64 (1 + K) = (na : Int)) (c : Nat)
    (hK : ∀ (f : Nat) (H : Hp) (w1 : Pl) (c1 : Nat), c ≤ f → c1 ≤ 100 → H0 <+: H → PgOwn H H0.length true lf w1 c1 w2 c2 w3 c3 ⟨true, lf, ks ++ ys ++ (match lf with | true => [] | false => [mkS [109]]), vs, is⟩ → law9_NodeJoins.l13 f lf K ua la xa na va nva ka nka ub lb xb nb vb nvb kb nkb true lf w1 c1 w2 c2 w3 c3 H Q) :
    ∀ (f j : Nat) (H : Hp) (w1 : Pl) (c1 : Nat), na + 1 - j + c ≤ f → j ≤ na → c1 ≤ j → H0 <+: H → PgOwn H H0.length true lf w1 c1 w2 c2 w3 c3 ⟨true, lf, ks ++ ys.take j, vs, is⟩ → law9_NodeJoins.l8 f lf K ua la xa na va nva ka nka ub lb xb nb vb nvb kb nkb true lf w1 c1 w2 c2 w3 c3 (j : Int) H Q := by
  intro f
  have hl := hB.len
  induction f with
  | zero => intro j; omega
  | succ f ih =>
    intro j H w1 c1 hf hj hc h0 o
    rw [law9_NodeJoins.l8_eq, hk]
    by_cases h5 : j < na
    · rw [bite_t (by simp; omega), chk_true, (hB.mono h0).rd j rfl (by omega), chk_true, wrap_succ (by omega)]
      refine o.addKeys h0 [ys[j]] (m := 1) rfl rfl (by omega) fun w1' H' h0' o' => ?_
      refine ih (j + 1) H' w1' (c1 + 1) (by omega) (by omega) (by omega) h0' ?_
      rw [List.take_succ_eq_append_getElem (by omega), ← List.append_assoc]
      exact o'
    · rw [bite_f (by simp; omega)]
      rw [List.take_of_length_le (by omega)] at o
      cases lf with
      | true =>
        rw [bite_f (by decide)]
        refine hK f H w1 c1 (by omega) (by omega) h0 ?_
        rw [List.append_nil]; exact o
      | false =>
        rw [bite_t (by decide), chk_true]
        refine o.addKeys h0 [mkS [109]] (m := 1) rfl rfl (by omega) fun w1' H' h0' o' => ?_
        exact hK f H' w1' (c1 + 1) (by omega) (by omega) h0' o'
end
end Go.Am
