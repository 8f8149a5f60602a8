import Derived.Test.YtfgkfhjlcbccaaaS6A
set_option linter.unusedVariables false
set_option linter.unusedSimpArgs false
namespace Go.Am

section
variable {H0 H : Hp} {Q : Post}
theorem law6_PageForms_l26 {d : Int} (hd : 1 ≤ d ∧ d ≤ 64) {A1 : Pl} {N1 : Nat} {A2 : Pl} {N2 : Nat} {A3 : Pl} {N3 : Nat} {B1 : Pl} {M1 : Nat} {B2 : Pl} {M2 : Nat} {B3 : Pl} {M3 : Nat} {u l : Bool} {a1 : Pl} {n1 : Nat} {a2 : Pl} {n2 : Nat} {a3 : Pl} {n3 : Nat} {p : Pg}
    (hA : PgAt H true true A1 N1 A2 N2 A3 N3 pgC) (hB : PgAt H true false B1 M1 B2 M2 B3 M3 pgD) (hp : PgAt H u l a1 n1 a2 n2 a3 n3 p) (hn : ¬ MayP p) (hQ : ∀ H', Q (.g (.bool true)) H') (f : Nat) :
    law6_PageForms.l26 (f + 1) d true true A1 N1 A2 N2 A3 N3 true false B1 M1 B2 M2 B3 M3 u l a1 n1 a2 n2 a3 n3 H Q := by
  have sA : N1 = 2 ∧ N2 = 2 ∧ N3 = 0 := ⟨hA.keys.len, hA.vals.len, hA.kids.len⟩
  have sB : M1 = 2 ∧ M2 = 0 ∧ M3 = 3 := ⟨hB.keys.len, hB.vals.len, hB.kids.len⟩
  obtain ⟨rfl, rfl, rfl⟩ := sA
  obtain ⟨rfl, rfl, rfl⟩ := sB
  rw [law6_PageForms.l26_eq]
  -- a value too long
  refine law0_CopyPage_own hA (by omega) fun x1 x2 x3 H1 p1 o1 => ?_
  simp only [rA_agg, uC_cons, dB_bool, dL_sl, uN_nil]
  obtain ⟨k, hk⟩ : ∃ k : Nat, d = k := ⟨d.toNat, by omega⟩
  have w10 : wrapI .i64 (10 + d) = ((10 + k : Nat) : Int) := by rw [wrap64 (by omega) (by omega)]; omega
  rw [w10]
  refine zeros_of rfl (by omega) ?_
  rw [chk_true]
  have q1 := p1.trans (pre_pu H1 (.row true 5 (repN (tN ((10 + k : Nat) : Int)) [(.int .u8 0)])))
  refine (o1.mono (pre_pu H1 _)).setVal q1 0 rfl (by omega) _ fun H2 p2 o2 => ?_
  have nl : ¬ MayP { pgC with vals := pgC.vals.set 0 (mkS (List.replicate (10 + k) 0)) } := fun h => by
    have := (h.2.leaf rfl).2.2 (mkS (List.replicate (10 + k) 0)) (by simp [pgC])
    simp at this; omega
  -- kids that may not be
  refine law0_CopyPage_own (hB.mono p2) (by omega) fun y1 y2 y3 H3 p3 o3 => ?_
  simp only [rA_agg, uC_cons, dB_bool, dL_sl, uN_nil]
  rw [chk_true]
  refine o3.setKid p3 1 rfl (by omega) _ fun H4 p4 o4 => ?_
  have nr : ¬ MayP { pgD with kids := pgD.kids.set 1 0 } := fun h => by
    have := (h.2.inner rfl).2.2.2.1 0 (by simp [pgD])
    omega
  have q4 := p2.trans p4
  refine law0_CopyPage_own (hB.mono q4) (by omega) fun z1 z2 z3 H5 p5 o5 => ?_
  simp only [rA_agg, uC_cons, dB_bool, dL_sl, uN_nil]
  rw [chk_true]
  refine o5.setKid p5 2 rfl (by omega) _ fun H6 p6 o6 => ?_
  have nt : ¬ MayP { pgD with kids := pgD.kids.set 2 1 } := fun h => by
    have := (h.2.inner rfl).2.2.2.2
    simp [pgD] at this
  have q6 := q4.trans p6
  refine law0_CopyPage_own (hB.mono q6) (by omega) fun t1 t2 t3 H7 p7 o7 => ?_
  simp only [rA_agg, uC_cons, dB_bool, dL_sl, uN_nil]
  rw [chk_true]
  refine o7.setKid p7 0 rfl (by omega) _ fun H8 p8 o8 => ?_
  have w47 : wrapI .i64 (47 + d) = 47 + d := wrap64 (by omega) (by omega)
  have nf : ¬ MayP { pgD with kids := pgD.kids.set 0 (wrapI .i64 (47 + d)) } := fun h => by
    have := (h.2.inner rfl).2.2.2.1 (wrapI .i64 (47 + d)) (by simp [pgD])
    omega
  have q8 := q6.trans p8
  -- the answers
  refine page_Put_spec (hp.mono q8) (fun _ H9 p9 => ?_) (fun hm => (hn hm).elim)
  simp only [rT_tup, uR_cons, rS_s, dS_str, dI_int, uE_nil]
  have q9 := q8.trans p9
  refine page_May_spec (hp.mono q9) fun b1 G1 g1 hb1 => ?_
  simp only [rG_g, dB_bool]
  have f1 : b1 = false := by cases b1 with | false => rfl | true => exact (hn (hb1.1 rfl)).elim
  subst f1
  rw [bite_t (by decide), bite_t (by rw [strEq_def]; exact decide_eq_true rfl)]
  refine law0_Num_spec ?_
  simp only [rG_g, dI_int]
  rw [bite_t (by decide)]
  refine page_May_spec (hA.mono (q9.trans g1)) fun b2 G2 g2 hb2 => ?_
  simp only [rG_g, dB_bool]
  rw [bite_t (hb2.2 mayC)]
  refine page_May_spec (hB.mono (q9.trans (g1.trans g2))) fun b3 G3 g3 hb3 => ?_
  simp only [rG_g, dB_bool]
  rw [bite_t (hb3.2 mayD)]
  have r3 := p9.trans (g1.trans (g2.trans g3))
  refine page_May_spec (o2.at.mono (p4.trans (p6.trans (p8.trans r3)))) fun b4 G4 g4 hb4 => ?_
  simp only [rG_g, dB_bool]
  have f4 : b4 = false := by cases b4 with | false => rfl | true => exact (nl (hb4.1 rfl)).elim
  subst f4
  rw [bite_t (by decide)]
  refine page_May_spec (o4.at.mono (p6.trans (p8.trans (r3.trans g4)))) fun b5 G5 g5 hb5 => ?_
  simp only [rG_g, dB_bool]
  have f5 : b5 = false := by cases b5 with | false => rfl | true => exact (nr (hb5.1 rfl)).elim
  subst f5
  rw [bite_t (by decide)]
  refine page_May_spec (o6.at.mono (p8.trans (r3.trans (g4.trans g5)))) fun b6 G6 g6 hb6 => ?_
  simp only [rG_g, dB_bool]
  have f6 : b6 = false := by cases b6 with | false => rfl | true => exact (nt (hb6.1 rfl)).elim
  subst f6
  rw [bite_t (by decide)]
  refine page_May_spec (o8.at.mono (r3.trans (g4.trans (g5.trans g6)))) fun b7 G7 g7 hb7 => ?_
  simp only [rG_g, dB_bool]
  have f7 : b7 = false := by cases b7 with | false => rfl | true => exact (nf (hb7.1 rfl)).elim
  subst f7
  rw [bite_t (by decide)]
  refine page_May_spec (p := ⟨true, false, [], [], []⟩) ⟨rfl, rfl, Ss.nil _, Ss.nil _, Is.nil _⟩ fun b8 G8 g8 hb8 => ?_
  simp only [rG_g, dB_bool]
  have f8 : b8 = false := by
    cases b8 with
    | false => rfl
    | true => have := ((hb8.1 rfl).2.inner rfl).1; simp at this
  subst f8
  exact hQ _

theorem law6_PageForms_l9 {w d : Int} (hd : 1 ≤ d ∧ d ≤ 64) {A1 : Pl} {N1 : Nat} {A2 : Pl} {N2 : Nat} {A3 : Pl} {N3 : Nat} {B1 : Pl} {M1 : Nat} {B2 : Pl} {M2 : Nat} {B3 : Pl} {M3 : Nat} {u l : Bool} {a1 : Pl} {n1 : Nat} {a2 : Pl} {n2 : Nat} {a3 : Pl} {n3 : Nat} {p : Pg}
    (h0 : H0 <+: H) (hA : PgAt H0 true true A1 N1 A2 N2 A3 N3 pgC) (hB : PgAt H0 true false B1 M1 B2 M2 B3 M3 pgD) (ho : PgOwn H H0.length u l a1 n1 a2 n2 a3 n3 p) (hp : p = pgC ∨ p = pgD) (hQ : ∀ H', Q (.g (.bool true)) H') (f : Nat) :
    law6_PageForms.l9 (f + 2) w d true true A1 N1 A2 N2 A3 N3 true false B1 M1 B2 M2 B3 M3 u l a1 n1 a2 n2 a3 n3 H Q := by
  have go : ∀ {u l : Bool} {a1 : Pl} {n1 : Nat} {a2 : Pl} {n2 : Nat} {a3 : Pl} {n3 : Nat} {p : Pg} (H' : Hp), H0 <+: H' → PgOwn H' H0.length u l a1 n1 a2 n2 a3 n3 p → ¬ MayP p → law6_PageForms.l26 (f + 1) d true true A1 N1 A2 N2 A3 N3 true false B1 M1 B2 M2 B3 M3 u l a1 n1 a2 n2 a3 n3 H' Q :=
    fun H' q o hn => law6_PageForms_l26 hd (hA.mono q) (hB.mono q) o.at hn hQ f
  have hkeys : p.keys = [mkS [97], mkS [98]] := by rcases hp with rfl | rfl <;> rfl
  have n1e : n1 = 2 := by have := ho.keys.len; rw [hkeys] at this; simpa using this.symm
  subst n1e
  have sm := ho.small
  have h2 : n2 ≤ 2 ∧ n3 ≤ 3 := by
    have e2 := ho.vals.len
    have e3 := ho.kids.len
    rcases hp with rfl | rfl <;> simp [pgC, pgD] at e2 e3 <;> omega
  rw [show f + 2 = (f + 1) + 1 from rfl, law6_PageForms.l9_eq]
  refine bite_of (fun _ => ?_) (fun _ => ?_)
  · exact go (p := { p with used := false }) H h0 ⟨rfl, ho.leaf, ho.keys, ho.vals, ho.kids, ho.d12, ho.d13, ho.d23, ho.small⟩ (fun h => by have := h.2.used; cases this)
  refine bite_of (fun _ => ?_) (fun _ => ?_)
  · rw [chk_true]
    refine ho.setKey h0 1 rfl (by omega) _ fun H' q o => go H' q o fun h => ?_
    have := h.2.rising 0 (by simp [hkeys])
    simp only [hkeys, List.set_cons_succ, List.set_cons_zero, List.getElem_cons_zero, List.getElem_cons_succ] at this
    rw [strLt_bs] at this
    cases this
  refine bite_of (fun _ => ?_) (fun _ => ?_)
  · rw [chk_true]
    refine ho.setKey h0 0 rfl (by omega) _ fun H' q o => go H' q o fun h => ?_
    have := h.2.keys (mkS []) (by simp [hkeys])
    simp at this
  refine bite_of (fun _ => ?_) (fun _ => ?_)
  · obtain ⟨k, rfl⟩ : ∃ k : Nat, d = k := ⟨d.toNat, by omega⟩
    refine zeros_of rfl (by omega) ?_
    refine ⟨by simp; omega, ?_⟩
    dsimp only
    rw [chk_true]
    have q1 := h0.trans (pre_pu H (.row true 5 (repN (tN (k : Int)) [(.int .u8 0)])))
    refine (ho.mono (pre_pu H _)).setKey q1 1 rfl (by omega) _ fun H' q o => go H' q o fun h => ?_
    have := (h.2.keys (mkS [98, 98, 98, 98, 98, 98] ++ mkS (List.replicate k 0)) (by simp [hkeys])).2
    simp at this
    omega
  refine bite_of (fun _ => ?_) (fun _ => ?_)
  · rw [chk_true]
    refine ho.addVals h0 [mkS []] rfl rfl (by simp; omega) fun a' H' q o => go H' q o fun h => ?_
    rcases hp with rfl | rfl
    · have := (h.2.leaf rfl).1; simp [pgC] at this
    · have := (h.2.inner rfl).2.1; simp [pgD] at this
  refine bite_of (fun _ => ?_) (fun _ => ?_)
  · rw [chk_true]
    refine ho.addKids h0 [9] rfl rfl (by simp; omega) fun a' H' q o => go H' q o fun h => ?_
    rcases hp with rfl | rfl
    · have := (h.2.leaf rfl).2.1; simp [pgC] at this
    · have := (h.2.inner rfl).2.2.1; simp [pgD] at this
  rw [chk_true]
  refine ho.addKeys h0 [mkS [99], mkS [100], mkS [101]] rfl rfl (by simp) fun a' H' q o => ?_
  refine bite_of (fun _ => ?_) (fun _ => ?_)
  · rw [chk_true]
    refine o.addVals q [mkS [], mkS [], mkS []] rfl rfl (by simp; omega) fun a'' H'' q' o' => go H'' q' o' fun h => ?_
    have := h.1
    simp [hkeys] at this
  · rw [chk_true]
    refine o.addKids q [4, 5, 6] rfl rfl (by simp; omega) fun a'' H'' q' o' => go H'' q' o' fun h => ?_
    have := h.1
    simp [hkeys] at this

theorem and63 (x : Int) : 0 ≤ bitsI .and .i64 x 63 ∧ bitsI .and .i64 x 63 ≤ 63 := by
  have h : ((BitVec.ofInt 64 x &&& BitVec.ofInt 64 63).toNat) ≤ 63 := by
    rw [BitVec.toNat_and]
    exact Nat.and_le_right
  show 0 ≤ IntKind.i64.wrap (((BitVec.ofInt 64 x &&& BitVec.ofInt 64 63).toNat : Nat) : Int) ∧ IntKind.i64.wrap (((BitVec.ofInt 64 x &&& BitVec.ofInt 64 63).toNat : Nat) : Int) ≤ 63
  have e : IntKind.i64.wrap (((BitVec.ofInt 64 x &&& BitVec.ofInt 64 63).toNat : Nat) : Int) = (((BitVec.ofInt 64 x &&& BitVec.ofInt 64 63).toNat : Nat) : Int) := wrap64 (by omega) (by omega)
  rw [e]; omega

theorem pgCD_at (H : Hp) : PgAt (H ++ [.row true 9 [.str (mkS [97]), .str (mkS [98])], .row true 9 [.str (mkS []), .str (mkS [])], .row true 9 [.str (mkS [97]), .str (mkS [98])], .row true 3 [.int .i64 1, .int .i64 2, .int .i64 3]]) true true (some (H.length, 0)) 2 (some (H.length + 1, 0)) 2 none 0 pgC ∧
    PgAt (H ++ [.row true 9 [.str (mkS [97]), .str (mkS [98])], .row true 9 [.str (mkS []), .str (mkS [])], .row true 9 [.str (mkS [97]), .str (mkS [98])], .row true 3 [.int .i64 1, .int .i64 2, .int .i64 3]]) true false (some (H.length + 2, 0)) 2 none 0 (some (H.length + 3, 0)) 3 pgD := by
  refine ⟨⟨rfl, rfl, ⟨?_, rfl, by omega⟩, ⟨?_, rfl, by omega⟩, ⟨rfl, rfl, by omega⟩⟩, ⟨rfl, rfl, ⟨?_, rfl, by omega⟩, ⟨rfl, rfl, by omega⟩, ⟨?_, rfl, by omega⟩⟩⟩ <;> simp [cells?, pgC, pgD]

theorem law6_PageForms_spec {w x : Int} (hQ : ∀ H', Q (.g (.bool true)) H') : law6_PageForms [.g (.int .i64 w), .g (.int .i64 x)] H Q := by
  refine ⟨3, ?_⟩
  rw [law6_PageForms_eq]
  refine law6_awake_spec fun H1 p1 => ?_
  simp only [rG_g, dB_bool]
  rw [bite_f (by decide)]
  obtain ⟨hA, hB⟩ := pgCD_at H1
  have hd : 1 ≤ wrapI .i64 (1 + bitsI .and .i64 x 63) ∧ wrapI .i64 (1 + bitsI .and .i64 x 63) ≤ 64 := by
    have := and63 x
    rw [wrap64 (by omega) (by omega)]; omega
  simp only [pu_def, ln_def, List.append_assoc, List.cons_append, List.nil_append, List.length_append, List.length_cons, List.length_nil, Nat.zero_add, Nat.reduceAdd]
  refine law0_CopyPage_own hA (by omega) fun x1 x2 x3 H2 p2 o2 => ?_
  simp only [rA_agg, uC_cons, dB_bool, dL_sl, uN_nil]
  refine bite_of (fun _ => ?_) (fun _ => ?_)
  · refine law0_CopyPage_own (hB.mono p2) (by omega) fun y1 y2 y3 H3 p3 o3 => ?_
    simp only [rA_agg, uC_cons, dB_bool, dL_sl, uN_nil]
    exact law6_PageForms_l9 (H0 := H2) hd p3 (hA.mono p2) (hB.mono p2) o3 (.inr rfl) hQ 0
  · exact law6_PageForms_l9 hd p2 hA hB o2 (.inl rfl) hQ 0
end
end Go.Am
