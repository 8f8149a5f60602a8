import Derived.Test.YtmjnenpllddhfaaEG
import Derived.Test.YtmjnenpllddhfaaFB0
set_option linter.unusedVariables false
set_option linter.unusedSimpArgs false
namespace Go.Am

theorem and_mask {k m : Nat} (hk : k < 2 ^ 63) (hm : m ≤ 30) {j : Int} (hj : j = ((2 ^ m - 1 : Nat) : Int)) : bitsI .and .i64 (k : Int) j = ((k % 2 ^ m : Nat) : Int) := by
  subst hj
  have h1 : (BitVec.ofInt 64 (k : Int)).toNat = k := by
    rw [BitVec.ofInt_natCast, BitVec.toNat_ofNat, Nat.mod_eq_of_lt (by omega)]
  have h30 : 2 ^ m ≤ 2 ^ 30 := Nat.pow_le_pow_right (by omega) hm
  have h2 : (BitVec.ofInt 64 ((2 ^ m - 1 : Nat) : Int)).toNat = 2 ^ m - 1 := by
    rw [BitVec.ofInt_natCast, BitVec.toNat_ofNat, Nat.mod_eq_of_lt (by omega)]
  have h3 : (BitVec.ofInt 64 (k : Int) &&& BitVec.ofInt 64 ((2 ^ m - 1 : Nat) : Int)).toNat = k % 2 ^ m := by
    rw [BitVec.toNat_and, h1, h2, Nat.and_two_pow_sub_one_eq_mod]
  have hlt : k % 2 ^ m < 2 ^ m := Nat.mod_lt _ (Nat.pos_of_ne_zero (by simp))
  show IntKind.i64.wrap (((BitVec.ofInt 64 (k : Int) &&& BitVec.ofInt 64 ((2 ^ m - 1 : Nat) : Int)).toNat : Nat) : Int) = _
  rw [h3]
  exact wrap64 (by omega) (by omega)
theorem and_le (x : Int) {m : Nat} (hm : m ≤ 1000000) {j : Int} (hj : j = (m : Int)) : ∃ r : Nat, r ≤ m ∧ bitsI .and .i64 x j = (r : Int) := by
  subst hj
  have h2 : (BitVec.ofInt 64 (m : Int)).toNat = m := by
    rw [BitVec.ofInt_natCast, BitVec.toNat_ofNat, Nat.mod_eq_of_lt (by omega)]
  have h : ((BitVec.ofInt 64 x &&& BitVec.ofInt 64 (m : Int)).toNat) ≤ m := by
    rw [BitVec.toNat_and, h2]
    exact Nat.and_le_right
  refine ⟨_, h, ?_⟩
  show IntKind.i64.wrap (((BitVec.ofInt 64 x &&& BitVec.ofInt 64 (m : Int)).toNat : Nat) : Int) = _
  exact wrap64 (by omega) (by omega)
theorem shr4 (k : Nat) : shrI .i64 (k : Int) 4 = ((k / 16 : Nat) : Int) := by
  show Int.fdiv (k : Int) (2 ^ (min 4 64)) = _
  rw [show ((2 : Int) ^ (min 4 64)) = ((16 : Nat) : Int) from rfl, Int.fdiv_eq_ediv_of_nonneg _ (by omega)]
  rfl
def lettersD (k : Nat) : ByteArray := mkS [bof ((97 + k / 16 % 16 : Nat) : Int), bof ((97 + k % 16 : Nat) : Int)]
section
variable {H : Hp} {Q : Post}
theorem letters_word {k : Nat} (hk : k ≤ 100000) : (wrapI .u8 (wrapI .i64 (97 + (bitsI .and .i64 (shrI .i64 (k : Int) 4) 15)))) = ((bof ((97 + k / 16 % 16 : Nat) : Int)).toNat : Int) ∧ (wrapI .u8 (wrapI .i64 (97 + (bitsI .and .i64 (k : Int) 15)))) = ((bof ((97 + k % 16 : Nat) : Int)).toNat : Int) := by
  have e1 := and_mask (k := k / 16) (m := 4) (j := 15) (by omega) (by omega) rfl
  have e2 := and_mask (k := k) (m := 4) (j := 15) (by omega) (by omega) rfl
  rw [shr4, e1, e2]
  have h : ∀ r : Nat, r < 16 → wrapI .u8 (wrapI .i64 (97 + (r : Int))) = ((bof ((97 + r : Nat) : Int)).toNat : Int) := by
    intro r hr
    rw [wrap64 (by omega) (by omega)]
    have := u8_eq (n := ((97 + r : Nat) : Int)) (by omega) (by omega)
    have e : (97 + (r : Int)) = ((97 + r : Nat) : Int) := by omega
    rw [e]
    injection this
  exact ⟨h _ (Nat.mod_lt _ (by omega)), h _ (Nat.mod_lt _ (by omega))⟩
theorem law10_letters_spec {k : Nat} (hk : k ≤ 100000) (hQ : ∀ H', H <+: H' → Q (.g (.str (lettersD k))) H') : law10_letters [.g (.int .i64 (k : Int))] H Q := by
  refine ⟨1, ?_⟩
  obtain ⟨e1, e2⟩ := letters_word hk
  rw [law10_letters_eq, e1, e2]
  simp only [pu_def, ln_def]
  rw [rdN_of (cs := u8s [bof ((97 + k / 16 % 16 : Nat) : Int), bof ((97 + k % 16 : Nat) : Int)]) (by simp [cells?, u8s]), txt_u8s]
  exact hQ _ (pre_pu _ _)
end
/-- pairs in a row of one's own -/
theorem ap_kv {H0 H : Hp} {t : TypeId} {a : Pl} {n : Nat} {ps : KV} {K : Pl → Nat → Hp → Prop} (h0 : H0 <+: H) (h : Own H H0.length t a (n * 2) (kvCells ps)) (x y : ByteArray) (hn : n ≤ 100000)
    (hK : ∀ a' H', Own H' H0.length t a' ((n + 1) * 2) (kvCells (ps ++ [(x, y)])) → H0 <+: H' → K a' (n + 1) H') : ap H t 2 32 a n [.str x, .str y] 1 K :=
  ap_z (by omega) h0 h rfl (by unfold Lim; omega) fun a' H' o e f => hK a' H' (by unfold kvCells at *; rw [List.flatMap_append]; simpa using o) e.pre
theorem Own.kv {H : Hp} {b : Nat} {t : TypeId} {a : Pl} {n : Nat} {ps : KV} (h : Own H b t a (n * 2) (kvCells ps)) (hl : ps.length = n) : Kv H a n ps := ⟨h.cells, hl⟩

/-! SoundFull -/
def kvL (n : Nat) : KV := (List.range n).map fun i => (lettersD i, mkS [])
theorem kvL_length (n : Nat) : (kvL n).length = n := by simp [kvL]
theorem kvL_succ (n : Nat) : kvL (n + 1) = kvL n ++ [(lettersD n, mkS [])] := by simp [kvL, List.range_succ]
theorem full_heights : ∀ j : Fin 8, heightD (buildD (kvL (56 + j.1))) = if 56 + j.1 ≤ 60 then 3 else 0 := by decide +kernel
section
variable {H : Hp} {Q : Post}
theorem law10_SoundFull_spec {w : Int} (hQ : ∀ H', Q (.g (.bool true)) H') : law10_SoundFull [.g (.int .i64 w)] H Q := by
  refine ⟨70, ?_⟩
  rw [law10_SoundFull_eq]
  refine law10_awake_spec fun H1 p1 => ?_
  simp only [rG_g, dB_bool]
  rw [bite_f (by decide)]
  obtain ⟨r, hr, er⟩ := and_le w (m := 7) (j := 7) (by omega) rfl
  have loop : ∀ (f i : Nat) (a : Pl) (H : Hp), 56 + r - i < f → i ≤ 56 + r → H1 <+: H → Own H H1.length 38 a (i * 2) (kvCells (kvL i)) → law10_SoundFull.l5 f w a i (i : Int) H Q := by
    intro f
    induction f with
    | zero => intro i _ _ h; omega
    | succ f ih =>
      intro i a H hf hi hp ho
      have w1 : wrapI .i64 (56 + (r : Int)) = ((56 + r : Nat) : Int) := by rw [wrap64 (by omega) (by omega)]; omega
      rw [law10_SoundFull.l5_eq, er, w1]
      by_cases hik : i < 56 + r
      · rw [bite_t (by simp; omega)]
        refine law10_letters_spec (by omega) fun H2 p2 => ?_
        simp only [rG_g, dS_str]
        rw [chk_true]
        refine ap_kv (hp.trans p2) (ho.mono p2) _ _ (by omega) fun a' H3 o3 p3 => ?_
        rw [wrap_succ (by omega)]
        exact ih (i + 1) a' H3 (by omega) (by omega) p3 (by rw [kvL_succ]; exact o3)
      · obtain rfl : i = 56 + r := by omega
        rw [bite_f (by simp)]
        refine ref9_Build_spec (ho.kv (kvL_length _)) (by omega) fun H2 tp cs p2 o2 => ?_
        simp only [rA_agg, uC_cons, dL_sl, uN_nil]
        refine law0_Num_spec ?_
        simp only [rG_g, dI_int]
        rw [bite_t (by decide)]
        have hh := full_heights ⟨r, by omega⟩
        dsimp only at hh
        refine sound_Sound_spec o2.tr fun H3 p3 => ?_
        simp only [rG_g, dB_bool]
        by_cases e60 : 56 + r ≤ 60
        · rw [if_pos e60] at hh
          rw [bite_t (by rw [hh]; simp; omega), bite_f (by simp; omega)]
          refine sound_Height_spec (o2.tr.mono p3) fun H4 p4 => ?_
          simp only [rG_g, dI_int]
          rw [hh]
          exact hQ _
        · rw [if_neg e60] at hh
          rw [bite_t (by rw [hh]; simp; omega), bite_t (by simp; omega)]
          exact hQ _
  exact loop 69 0 none H1 (by omega) (by omega) (List.prefix_refl _) (.inl ⟨rfl, rfl, rfl⟩)
end
end Go.Am
