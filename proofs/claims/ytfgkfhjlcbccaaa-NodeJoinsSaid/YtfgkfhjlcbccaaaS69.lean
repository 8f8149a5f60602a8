import Derived.Test.YtfgkfhjlcbccaaaS68
set_option linter.unusedVariables false
set_option linter.unusedSimpArgs false
namespace Go.Am

section
variable {H : Hp} {Q : Post} {u l : Bool} {a1 : Pl} {n1 : Nat} {a2 : Pl} {n2 : Nat} {a3 : Pl} {n3 : Nat} {p : Pg} {s : ByteArray}

theorem may_keys (hm : MayP p) : ∀ x ∈ p.keys, x.size ≤ 1000 := fun x hx => by have := (hm.2.keys x hx).2; omega
theorem may_vals (hm : MayP p) : ∀ x ∈ p.vals, x.size ≤ 1000 := fun x hx => by
  cases hL : p.leaf with
  | true => have := (hm.2.leaf hL).2.2 x hx; omega
  | false => rw [(hm.2.inner hL).2.1] at hx; cases hx

theorem law6_Pages_spec (h : PgAt H u l a1 n1 a2 n2 a3 n3 p) (hs : s.size ≤ 140737488351232) (hQ : ∀ H', Q (.g (.bool true)) H') : law6_Pages [.agg [.bool u, .bool l, .sl a1 n1 1, .sl a2 n2 1, .sl a3 n3 1], .g (.str s)] H Q := by
  refine ⟨1, ?_⟩
  rw [law6_Pages_eq]
  refine law0_CopyPage_spec h fun x1 x2 x3 H1 p1 hx _ => ?_
  simp only [rA_agg, uC_cons, dB_bool, dL_sl, uN_nil]
  -- both texts
  have put : ∀ (K : ByteArray → Int → Hp → Prop), (∀ t e H', H1 <+: H' → ((MayP p ∧ t = text p ∧ e = 0) ∨ (¬ MayP p ∧ t = mkS [] ∧ e = 600)) → K t e H') →
      cl page_Put [.agg [.bool u, .bool l, .sl x1 n1 1, .sl x2 n2 1, .sl x3 n3 1]] H1 fun r21 H22 => rT r21 fun c23 => uR c23 fun q24 c25 => rS q24 fun v26 => dS v26 fun s27 => uR c25 fun q28 c29 => rS q28 fun v30 => dI .i64 v30 fun i31 => uE c29 (K s27 i31 H22) := fun K hK => by
    refine page_Put_spec hx (fun hn H' q => ?_) (fun hm H' q => ?_)
    · simp only [rT_tup, uR_cons, rS_s, dS_str, dI_int, uE_nil]; exact hK _ _ _ q (.inr ⟨hn, rfl, rfl⟩)
    · simp only [rT_tup, uR_cons, rS_s, dS_str, dI_int, uE_nil]; exact hK _ _ _ q (.inl ⟨hm, rfl, rfl⟩)
  refine put _ fun t e H2 p2 ht => ?_
  have h2 := h.mono (p1.trans p2)
  have rput : ∀ (K : ByteArray → Int → Hp → Prop), (∀ t e H', H2 <+: H' → ((MayP p ∧ t = text p ∧ e = 0) ∨ (¬ MayP p ∧ t = mkS [] ∧ e = 600)) → K t e H') →
      cl ref1_PutPage [.agg [.bool u, .bool l, .sl a1 n1 1, .sl a2 n2 1, .sl a3 n3 1]] H2 fun r21 H22 => rT r21 fun c23 => uR c23 fun q24 c25 => rS q24 fun v26 => dS v26 fun s27 => uR c25 fun q28 c29 => rS q28 fun v30 => dI .i64 v30 fun i31 => uE c29 (K s27 i31 H22) := fun K hK => by
    refine ref1_PutPage_spec h2 (fun hn H' q => ?_) (fun hm H' q => ?_)
    · simp only [rT_tup, uR_cons, rS_s, dS_str, dI_int, uE_nil]; exact hK _ _ _ q (.inr ⟨hn, rfl, rfl⟩)
    · simp only [rT_tup, uR_cons, rS_s, dS_str, dI_int, uE_nil]; exact hK _ _ _ q (.inl ⟨hm, rfl, rfl⟩)
  refine rput _ fun t' e' H3 p3 ht' => ?_
  obtain ⟨rfl, rfl⟩ : t' = t ∧ e' = e := by
    rcases ht with ⟨m1, rfl, rfl⟩ | ⟨m1, rfl, rfl⟩ <;> rcases ht' with ⟨m2, rfl, rfl⟩ | ⟨m2, rfl, rfl⟩
    · exact ⟨rfl, rfl⟩
    · exact (m2 m1).elim
    · exact (m1 m2).elim
    · exact ⟨rfl, rfl⟩
  -- both pages
  refine page_Get_spec fun uc lc c1 k1 c2 k2 c3 k3 pc ec H4 p4 oc hc => ?_
  simp only [rT_tup, uR_cons, rC_a, uC_cons, dB_bool, dL_sl, uN_nil, rS_s, dI_int, uE_nil]
  refine ref1_GetPage_spec (by omega) fun ud ld d1 j1 d2 j2 d3 j3 pd ed H5 p5 od hd => ?_
  simp only [rT_tup, uR_cons, rC_a, uC_cons, dB_bool, dL_sl, uN_nil, rS_s, dI_int, uE_nil]
  obtain ⟨rfl, rfl⟩ : pd = pc ∧ ed = ec := by
    rcases hc with ⟨q1, q2, q3⟩ | ⟨q1, q2, q3⟩ <;> rcases hd with ⟨q1', q2', q3'⟩ | ⟨q1', q2', q3'⟩
    · exact ⟨text_inj q2' q2 (q3'.trans q3.symm), by rw [q1, q1']⟩
    · exact (q3' _ q2 q3).elim
    · exact (q3 _ q2' q3').elim
    · exact ⟨by rw [q2, q2'], by rw [q1, q1']⟩
  rw [bite_f (by simp)]
  refine law0_Num_spec ?_
  simp only [rG_g, dI_int]
  rw [bite_f (by simp)]
  have oc5 := oc.mono p5
  refine law0_SamePage_spec oc5.at od.at fun b hb => ?_
  simp only [rG_g, dB_bool]
  rw [bite_f (by rw [hb.2 rfl]; rfl)]
  refine law0_Num_spec ?_
  simp only [rG_g, dI_int]
  rw [bite_f (by simp)]
  have hx5 := hx.mono (p2.trans (p3.trans (p4.trans p5)))
  refine page_May_spec hx5 fun b1 H6 p6 hb1 => ?_
  simp only [rG_g, dB_bool]
  have h6 := h2.mono (p3.trans (p4.trans (p5.trans p6)))
  refine ref1_PageMay_spec h6 fun b2 hb2 => ?_
  simp only [rG_g, dB_bool]
  rw [bite_f (by rw [show b1 = b2 by rw [Bool.eq_iff_iff]; exact hb1.trans hb2.symm]; simp)]
  have hsz : (∀ x ∈ pd.keys, x.size ≤ 1000) ∧ ∀ x ∈ pd.vals, x.size ≤ 1000 := by
    rcases hc with ⟨_, q2, _⟩ | ⟨_, rfl, _⟩
    · exact ⟨may_keys q2, may_vals q2⟩
    · exact ⟨fun x hx => (by cases hx), fun x hx => (by cases hx)⟩
  refine law0_SpoilPage_spec (H0 := H3) (p4.trans (p5.trans p6)) (oc5.mono p6) hsz.1 hsz.2 fun r H7 p7 => ?_
  refine law0_SamePage_spec (hx.mono (p2.trans (p3.trans p7))) (h2.mono (p3.trans p7)) fun b3 hb3 => ?_
  simp only [rG_g, dB_bool]
  rw [bite_t (hb3.2 rfl)]
  refine law6_awake_spec fun H8 p8 => ?_
  simp only [rG_g, dB_bool]
  exact hQ _

theorem law6_PageBack_spec (h : PgAt H u l a1 n1 a2 n2 a3 n3 p) (hQ : ∀ H', Q (.g (.bool true)) H') : law6_PageBack [.agg [.bool u, .bool l, .sl a1 n1 1, .sl a2 n2 1, .sl a3 n3 1], .g (.str s)] H Q := by
  have l8 : ∀ H', law6_PageBack.l8 1 s H' Q := fun H' => by
    rw [law6_PageBack.l8_eq]
    refine page_Get_spec fun uc lc c1 k1 c2 k2 c3 k3 pc ec H1 p1 oc hc => ?_
    simp only [rT_tup, uR_cons, rC_a, uC_cons, dB_bool, dL_sl, uN_nil, rS_s, dI_int, uE_nil]
    refine law0_Num_spec ?_
    simp only [rG_g, dI_int]
    rcases hc with ⟨rfl, hm, ht⟩ | ⟨rfl, rfl, hn⟩
    · rw [bite_f (by decide)]
      refine page_Put_spec oc.at (fun hn => (hn hm).elim) fun _ H2 p2 => ?_
      simp only [rT_tup, uR_cons, rS_s, dS_str, dI_int, uE_nil]
      refine law0_Num_spec ?_
      simp only [rG_g, dI_int]
      rw [bite_t (by decide), strEq_def, ht, decide_eq_true rfl]
      exact hQ _
    · rw [bite_t (by decide)]
      refine law0_SamePage_spec oc.at (noPg_at H1) fun b hb => ?_
      simp only [rG_g, dB_bool]
      rw [hb.2 rfl]
      exact hQ _
  refine ⟨2, ?_⟩
  rw [law6_PageBack_eq]
  refine law6_awake_spec fun H1 p1 => ?_
  simp only [rG_g, dB_bool]
  rw [bite_f (by decide)]
  refine page_Put_spec (h.mono p1) (fun hn H2 p2 => ?_) (fun hm H2 p2 => ?_)
  · simp only [rT_tup, uR_cons, rS_s, dS_str, dI_int, uE_nil]
    refine law0_Num_spec ?_
    simp only [rG_g, dI_int]
    rw [bite_f (by decide)]
    exact l8 _
  · simp only [rT_tup, uR_cons, rS_s, dS_str, dI_int, uE_nil]
    refine law0_Num_spec ?_
    simp only [rG_g, dI_int]
    rw [bite_t (by decide)]
    refine page_Get_spec fun uc lc c1 k1 c2 k2 c3 k3 pc ec H3 p3 oc hc => ?_
    obtain ⟨rfl, rfl⟩ : ec = 0 ∧ pc = p := by
      rcases hc with ⟨h1, h2, h3⟩ | ⟨h1, h2, h3⟩
      · exact ⟨h1, text_inj h2 hm h3⟩
      · exact (h3 _ hm rfl).elim
    simp only [rT_tup, uR_cons, rC_a, uC_cons, dB_bool, dL_sl, uN_nil, rS_s, dI_int, uE_nil]
    refine law0_Num_spec ?_
    simp only [rG_g, dI_int]
    rw [bite_f (by decide)]
    refine law0_SamePage_spec (h.mono (p1.trans (p2.trans p3))) oc.at fun b hb => ?_
    simp only [rG_g, dB_bool]
    have hle := upK_le hm pc.kids.length
    rw [upK_all (Nat.le_refl _)] at hle
    have hle2 : (textL pc).length ≤ 96 := by
      have h1 := ents_le hm.2 pc.keys.length
      have h2 := kids_le hm
      have h3 := hm.1
      simp [textL, hdr]; omega
    have ht2 := text_two pc
    have hsz : (text pc).size = (textL pc).length := by simp [text]
    rw [bite_f (by rw [hb.2 rfl]; rfl), bite_f (by simp; omega), bite_f (by simp; omega)]
    exact l8 _

theorem wrapU {n : Int} (h1 : 0 ≤ n) (h2 : n ≤ 18446744073709551615) : wrapI .u64 n = n := by
  show (if (false && decide (n % (18446744073709551616 : Int) ≥ 9223372036854775808)) = true then n % (18446744073709551616 : Int) - 18446744073709551616 else n % (18446744073709551616 : Int)) = n
  rw [if_neg (by simp)]; omega
theorem wrapU_ge (n : Int) : 0 ≤ wrapI .u64 n := by
  show 0 ≤ (if (false && decide (n % (18446744073709551616 : Int) ≥ 9223372036854775808)) = true then n % (18446744073709551616 : Int) - 18446744073709551616 else n % (18446744073709551616 : Int))
  rw [if_neg (by simp)]; omega

theorem law6_PageCut_spec {x : Int} (h : PgAt H u l a1 n1 a2 n2 a3 n3 p) (hQ : ∀ H', Q (.g (.bool true)) H') : law6_PageCut [.agg [.bool u, .bool l, .sl a1 n1 1, .sl a2 n2 1, .sl a3 n3 1], .g (.int .i64 x)] H Q := by
  refine ⟨1, ?_⟩
  rw [law6_PageCut_eq]
  refine law6_awake_spec fun H1 p1 => ?_
  simp only [rG_g, dB_bool]
  rw [bite_f (by decide)]
  refine page_Put_spec (h.mono p1) (fun hn H2 p2 => ?_) (fun hm H2 p2 => ?_)
  · simp only [rT_tup, uR_cons, rS_s, dS_str, dI_int, uE_nil]
    refine law0_Num_spec ?_
    simp only [rG_g, dI_int]
    rw [bite_t (by decide), strEq_def, decide_eq_true rfl]
    exact hQ _
  · simp only [rT_tup, uR_cons, rS_s, dS_str, dI_int, uE_nil]
    refine law0_Num_spec ?_
    simp only [rG_g, dI_int]
    have h2 := text_two p
    have hle2 : (textL p).length ≤ 100 := by have := upK_le hm p.kids.length; rwa [upK_all (Nat.le_refl _)] at this
    have hsz : (text p).size = (textL p).length := by simp [text]
    rw [bite_f (by decide), bite_f (by simp; omega)]
    have e1 : wrapI .u64 (sz (text p)) = ((textL p).length : Int) := by rw [sz_def, hsz]; exact wrapU (by omega) (by omega)
    rw [e1]
    obtain ⟨k, hk, hkl⟩ : ∃ k : Nat, wrapI .i64 (Int.tmod (wrapI .u64 x) ((textL p).length : Int)) = (k : Int) ∧ k < (textL p).length := by
      have g1 := wrapU_ge x
      have g2 := Int.tmod_nonneg ((textL p).length : Int) g1
      have g3 := Int.tmod_lt_of_pos (wrapI .u64 x) (show (0 : Int) < ((textL p).length : Int) by omega)
      exact ⟨(Int.tmod (wrapI .u64 x) ((textL p).length : Int)).toNat, by rw [wrap64 (by omega) (by omega)]; omega, by omega⟩
    rw [hk]
    have hne : ¬ (((textL p).length : Int) = 0) := by omega
    refine chk_of (by rw [eqI_def, decide_eq_false hne]; rfl) (chk_of (by simp) (chk_of (by rw [szN_def, hsz, tN_def, Int.toNat_natCast]; simp; omega) ?_))
    refine page_Get_spec fun uc lc c1 k1 c2 k2 c3 k3 pc ec H3 p3 oc hc => ?_
    obtain rfl : ec = 600 := by
      rcases hc with ⟨q1, q2, q3⟩ | ⟨q1, q2, q3⟩
      · exfalso
        have e : textL pc = (textL p).take k := by
          have := congrArg bs q3
          rw [bs_sub] at this
          simpa [text] using this
        have := text_pre q2 hm (T := (textL p).drop k) (by rw [e, List.take_append_drop])
        have := congrArg List.length this
        simp at this
        omega
      · exact q1
    simp only [rT_tup, uR_cons, rC_a, uC_cons, dB_bool, dL_sl, uN_nil, rS_s, dI_int, uE_nil]
    refine ⟨by simp; omega, ?_⟩
    dsimp only
    refine page_Get_spec fun ud ld d1 j1 d2 j2 d3 j3 pd ed H4 p4 od hd => ?_
    obtain rfl : ed = 600 := by
      rcases hd with ⟨q1, q2, q3⟩ | ⟨q1, q2, q3⟩
      · exfalso
        have e : textL pd = textL p ++ [0] := by
          have := congrArg bs q3
          simpa [text, bs, mkS] using this
        have := text_pre hm q2 e
        cases this
      · exact q1
    simp only [rT_tup, uR_cons, rC_a, uC_cons, dB_bool, dL_sl, uN_nil, rS_s, dI_int, uE_nil]
    refine law0_Num_spec ?_
    simp only [rG_g, dI_int]
    rw [bite_t (by decide)]
    refine law0_Num_spec ?_
    simp only [rG_g, dI_int]
    exact hQ _
end

section
variable {H : Hp} {Q : Post} {u l : Bool} {a1 : Pl} {n1 : Nat} {a2 : Pl} {n2 : Nat} {a3 : Pl} {n3 : Nat} {p : Pg} {u' l' : Bool} {a1' : Pl} {n1' : Nat} {a2' : Pl} {n2' : Nat} {a3' : Pl} {n3' : Nat} {q : Pg}
theorem law6_PageUnlike_spec (h : PgAt H u l a1 n1 a2 n2 a3 n3 p) (h' : PgAt H u' l' a1' n1' a2' n2' a3' n3' q) (hQ : ∀ H', Q (.g (.bool true)) H') :
    law6_PageUnlike [.agg [.bool u, .bool l, .sl a1 n1 1, .sl a2 n2 1, .sl a3 n3 1], .agg [.bool u', .bool l', .sl a1' n1' 1, .sl a2' n2' 1, .sl a3' n3' 1]] H Q := by
  refine ⟨1, ?_⟩
  rw [law6_PageUnlike_eq]
  refine law6_awake_spec fun H1 p1 => ?_
  simp only [rG_g, dB_bool]
  rw [bite_f (by decide)]
  have put : ∀ {H1 : Hp} {u l : Bool} {a1 : Pl} {n1 : Nat} {a2 : Pl} {n2 : Nat} {a3 : Pl} {n3 : Nat} {p : Pg}, PgAt H1 u l a1 n1 a2 n2 a3 n3 p → ∀ (K : ByteArray → Int → Hp → Prop), (∀ t e H', H1 <+: H' → ((MayP p ∧ t = text p ∧ e = 0) ∨ (¬ MayP p ∧ t = mkS [] ∧ e = 600)) → K t e H') →
      cl page_Put [.agg [.bool u, .bool l, .sl a1 n1 1, .sl a2 n2 1, .sl a3 n3 1]] H1 fun r21 H22 => rT r21 fun c23 => uR c23 fun q24 c25 => rS q24 fun v26 => dS v26 fun s27 => uR c25 fun q28 c29 => rS q28 fun v30 => dI .i64 v30 fun i31 => uE c29 (K s27 i31 H22) := fun hx K hK => by
    refine page_Put_spec hx (fun hn H' q => ?_) (fun hm H' q => ?_)
    · simp only [rT_tup, uR_cons, rS_s, dS_str, dI_int, uE_nil]; exact hK _ _ _ q (.inr ⟨hn, rfl, rfl⟩)
    · simp only [rT_tup, uR_cons, rS_s, dS_str, dI_int, uE_nil]; exact hK _ _ _ q (.inl ⟨hm, rfl, rfl⟩)
  have hp := h.mono p1
  refine put hp _ fun s e H2 p2 hs => ?_
  have hq := h'.mono (p1.trans p2)
  refine put hq _ fun t f H3 p3 ht => ?_
  refine law0_Num_spec ?_
  simp only [rG_g, dI_int]
  rcases hs with ⟨m1, rfl, rfl⟩ | ⟨m1, rfl, rfl⟩
  · rw [bite_f (by decide)]
    refine law0_Num_spec ?_
    simp only [rG_g, dI_int]
    rcases ht with ⟨m2, rfl, rfl⟩ | ⟨m2, rfl, rfl⟩
    · rw [bite_f (by decide)]
      refine law0_SamePage_spec (hp.mono (p2.trans p3)) (hq.mono p3) fun b hb => ?_
      simp only [rG_g, dB_bool]
      have : eqB (strEq (text p) (text q)) b = true := by
        rw [eqB_def, strEq_def, beq_iff_eq, Bool.eq_iff_iff, hb, decide_eq_true_iff]
        exact ⟨fun e => text_inj m1 m2 e, fun e => by rw [e]⟩
      rw [this]
      exact hQ _
    · rw [bite_t (by decide)]
      refine law0_Num_spec ?_
      simp only [rG_g, dI_int]
      rw [bite_t (by decide)]
      refine law0_Num_spec ?_
      simp only [rG_g, dI_int]
      rw [bite_f (by decide), strEq_def, decide_eq_true rfl]
      exact hQ _
  · rw [bite_t (by decide)]
    refine law0_Num_spec ?_
    simp only [rG_g, dI_int]
    rw [bite_f (by decide), bite_t (by rw [strEq_def]; exact decide_eq_true rfl)]
    refine law0_Num_spec ?_
    simp only [rG_g, dI_int]
    rcases ht with ⟨m2, rfl, rfl⟩ | ⟨m2, rfl, rfl⟩
    · rw [bite_t (by decide)]
      exact hQ _
    · rw [bite_f (by decide), strEq_def, decide_eq_true rfl]
      exact hQ _
end
end Go.Am
