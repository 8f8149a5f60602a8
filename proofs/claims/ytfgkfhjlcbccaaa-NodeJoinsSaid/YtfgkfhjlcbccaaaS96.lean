import Derived.Test.YtfgkfhjlcbccaaaS95
set_option linter.unusedVariables false
set_option linter.unusedSimpArgs false
namespace Go.Am
open Classical

theorem sp_sizes (p : Pg) : (∀ x ∈ (spA p).keys, x.size ≤ 1000) ∧ (∀ x ∈ (spA p).vals, x.size ≤ 1000) ∧ (∀ x ∈ (spB p).keys, x.size ≤ 1000) ∧ (∀ x ∈ (spB p).vals, x.size ≤ 1000) := by
  by_cases hs : CanSplit p
  · have hk := hs.2.keys
    have hv : ∀ v ∈ p.vals, v.size ≤ 10 := by
      intro v hv
      cases hl : p.leaf with
      | true => exact (hs.2.leaf hl).2.2 v hv
      | false => rw [(hs.2.inner hl).2.1] at hv; cases hv
    unfold spA spB
    rw [if_pos hs, if_pos hs]
    unfold cutA cutB
    cases p.leaf with
    | true =>
      refine ⟨fun x hx => ?_, fun x hx => ?_, fun x hx => ?_, fun x hx => ?_⟩
      · have := (hk x (List.mem_of_mem_take hx)).2; omega
      · have := hv x (List.mem_of_mem_take hx); omega
      · have := (hk x (List.mem_of_mem_drop hx)).2; omega
      · have := hv x (List.mem_of_mem_drop hx); omega
    | false =>
      refine ⟨fun x hx => ?_, fun x hx => ?_, fun x hx => ?_, fun x hx => ?_⟩
      · have := (hk x (List.mem_of_mem_take hx)).2; omega
      · cases hx
      · have := (hk x (List.mem_of_mem_drop hx)).2; omega
      · cases hx
  · unfold spA spB
    rw [if_neg hs, if_neg hs]
    exact ⟨fun x hx => (by cases hx), fun x hx => (by cases hx), fun x hx => (by cases hx), fun x hx => (by cases hx)⟩
theorem jo_sizes (p q : Pg) (k : ByteArray) : (∀ x ∈ (jo p k q).keys, x.size ≤ 1000) ∧ (∀ x ∈ (jo p k q).vals, x.size ≤ 1000) := by
  unfold jo
  by_cases hs : CanJoin p k q
  · rw [if_pos hs]
    exact ⟨may_keys hs.2.2.2, may_vals hs.2.2.2⟩
  · rw [if_neg hs]
    exact ⟨fun x hx => (by cases hx), fun x hx => (by cases hx)⟩

section
variable {H : Hp} {Q : Post} {u l : Bool} {a1 : Pl} {n1 : Nat} {a2 : Pl} {n2 : Nat} {a3 : Pl} {n3 : Nat} {p : Pg} {u' l' : Bool} {b1 : Pl} {m1 : Nat} {b2 : Pl} {m2 : Nat} {b3 : Pl} {m3 : Nat} {q : Pg}
  {u'' l'' : Bool} {c1 : Pl} {k1 : Nat} {c2 : Pl} {k2 : Nat} {c3 : Pl} {k3 : Nat} {r : Pg} {x : Pl} {n : Nat} {xs : List ByteArray} {key : ByteArray}
theorem law0_CopyPage_pre (h : PgAt H u l a1 n1 a2 n2 a3 n3 p) (hQ : ∀ a1 a2 a3 H', H <+: H' → PgAt H' u l a1 n1 a2 n2 a3 n3 p → Q (.agg [.bool u, .bool l, .sl a1 n1 1, .sl a2 n2 1, .sl a3 n3 1]) H') :
    law0_CopyPage [.agg [.bool u, .bool l, .sl a1 n1 1, .sl a2 n2 1, .sl a3 n3 1]] H Q := law0_CopyPage_spec h fun a1 a2 a3 H' hp ho _ => hQ a1 a2 a3 H' hp ho

set_option maxRecDepth 100000 in
theorem law9_Nodes_spec (hx : Ss H x n xs) (h : PgAt H u l a1 n1 a2 n2 a3 n3 p) (h' : PgAt H u' l' b1 m1 b2 m2 b3 m3 q) (h'' : PgAt H u'' l'' c1 k1 c2 k2 c3 k3 r) (hQ : ∀ H', Q (.g (.bool true)) H') :
    law9_Nodes [.g (.sl x n 1), .g (.str key), .agg [.bool u, .bool l, .sl a1 n1 1, .sl a2 n2 1, .sl a3 n3 1], .agg [.bool u', .bool l', .sl b1 m1 1, .sl b2 m2 1, .sl b3 m3 1], .agg [.bool u'', .bool l'', .sl c1 k1 1, .sl c2 k2 1, .sl c3 k3 1]] H Q := by
  refine ⟨1, ?_⟩
  rw [law9_Nodes_eq]
  refine law0_LendTexts_spec hx fun lr H1 q1 hlr hrow => ?_
  simp only [rG_g, dL_sl]
  refine law0_CopyPage_pre (h.mono q1) fun x1 x2 x3 H2 p2 oX => ?_
  simp only [rA_agg, uC_cons, dB_bool, dL_sl, uN_nil]
  have q2 := q1.trans p2
  refine law0_CopyPage_pre (h'.mono q2) fun y1 y2 y3 H3 p3 oY => ?_
  simp only [rA_agg, uC_cons, dB_bool, dL_sl, uN_nil]
  have q3 := q2.trans p3
  refine law0_CopyPage_pre (h''.mono q3) fun z1 z2 z3 H4 p4 oZ => ?_
  simp only [rA_agg, uC_cons, dB_bool, dL_sl, uN_nil]
  have q4 := q3.trans p4
  have p14 := p2.trans (p3.trans p4)
  have hrow4 : H4[lr]? = some (.row true 9 ((lent xs).map GV.str)) := by rw [pre_at p14 (List.getElem?_eq_some_iff.1 hrow).1]; exact hrow
  have hn := hx.len
  have hll : (lent xs).length = n + 2 := by simp [lent]; omega
  have hlent : Ss H4 (some (lr, 0)) n xs := ⟨by simp [cells?, hrow4, hll]; simp [lent, hn], hn, hx.lim⟩
  refine node_Slot_spec hlent ?_
  simp only [rT_tup, uR_cons, rS_s, dI_int, dB_bool, uE_nil]
  refine ref9_Slot_spec (hx.mono q4) ?_
  simp only [rT_tup, uR_cons, rS_s, dI_int, dB_bool, uE_nil]
  refine node_Split_spec (oX.mono (p3.trans p4)) fun ua la d1 g1 d2 g2 d3 g3 ub lb e1 i1 e2 i2 e3 i3 lo md hi H5 p5 hlo hmd hhi hhl hA hB => ?_
  simp only [rT_tup, uR_cons, rC_a, uC_cons, dB_bool, dL_sl, uN_nil, rS_s, dS_str, dI_int, uE_nil]
  refine ref9_Split_spec (h.mono (q4.trans p5)) fun ua' la' d1' g1' d2' g2' d3' g3' ub' lb' e1' i1' e2' i2' e3' i3' H6 p6 hA' hB' => ?_
  simp only [rT_tup, uR_cons, rC_a, uC_cons, dB_bool, dL_sl, uN_nil, rS_s, dS_str, dI_int, uE_nil]
  have p46 := p5.trans p6
  refine node_Join_spec (oY.mono (p4.trans p46)) (oZ.mono p46) fun uj lj f1 t1 f2 t2 f3 t3 H7 p7 oJ => ?_
  simp only [rT_tup, uR_cons, rC_a, uC_cons, dB_bool, dL_sl, uN_nil, rS_s, dS_str, dI_int, uE_nil]
  refine ref9_Join_spec (h'.mono (q4.trans (p46.trans p7))) (h''.mono (q4.trans (p46.trans p7))) fun uj' lj' f1' t1' f2' t2' f3' t3' H8 p8 oJ' => ?_
  simp only [rT_tup, uR_cons, rC_a, uC_cons, dB_bool, dL_sl, uN_nil, rS_s, dS_str, dI_int, uE_nil]
  have p58 := p6.trans (p7.trans p8)
  have p68 := p7.trans p8
  rw [bite_f (by simp), bite_f (by simp)]
  have A := hA.mono p58
  have B := hB.mono p58
  have J := (oJ.mine).mono p8
  refine law0_SamePage_spec A.at (hA'.mono p68) fun b hb => ?_
  simp only [rG_g, dB_bool]
  rw [bite_f (by rw [hb.2 rfl]; rfl), bite_f (by simp)]
  refine law0_SamePage_spec B.at (hB'.mono p68) fun b hb => ?_
  simp only [rG_g, dB_bool]
  rw [bite_f (by rw [hb.2 rfl]; rfl)]
  refine law0_Num_spec ?_
  simp only [rG_g, dI_int]
  rw [bite_f (by simp)]
  refine law0_SamePage_spec J.at oJ' fun b hb => ?_
  simp only [rG_g, dB_bool]
  rw [bite_f (by rw [hb.2 rfl]; rfl)]
  refine law0_Num_spec ?_
  simp only [rG_g, dI_int]
  rw [bite_f (by simp)]
  obtain ⟨sA1, sA2, sB1, sB2⟩ := sp_sizes p
  obtain ⟨sJ1, sJ2⟩ := jo_sizes q r key
  refine law0_SpoilPage_m A sA1 sA2 fun _ H9 r9 => ?_
  have B9 := B.away r9 (.inr (Nat.le_refl _))
  have l56 := p6.length_le
  have J9 := J.away r9 (.inr (by omega))
  refine law0_SpoilPage_m B9 sB1 sB2 fun _ H10 r10 => ?_
  have J10 := J9.away r10 (.inr (by omega))
  refine law0_SpoilPage_m J10 sJ1 sJ2 fun _ H11 r11 => ?_
  have p48 := p46.trans p68
  have l45 := p5.length_le
  have w11 : H4 <+: H11 := r11.pre (r10.pre (r9.pre p48 hlo) (by omega)) (by omega)
  have q11 := q4.trans w11
  have hrow11 : H11[lr]? = some (.row true 9 ((lent xs).map GV.str)) := by rw [pre_at w11 (List.getElem?_eq_some_iff.1 hrow4).1]; exact hrow4
  refine law0_KeptTexts_spec (hx.mono q11) hrow11 ?_
  simp only [rG_g, dB_bool]
  rw [bite_true]
  refine law0_SamePage_spec (oX.mono (p3.trans (p4.trans w11))) (h.mono q11) fun b hb => ?_
  simp only [rG_g, dB_bool]
  rw [bite_t (hb.2 rfl)]
  refine law0_SamePage_spec (oY.mono (p4.trans w11)) (h'.mono q11) fun b hb => ?_
  simp only [rG_g, dB_bool]
  rw [bite_t (hb.2 rfl)]
  refine law0_SamePage_spec (oZ.mono w11) (h''.mono q11) fun b hb => ?_
  simp only [rG_g, dB_bool]
  rw [bite_t (hb.2 rfl)]
  refine law9_awake_spec fun H12 p12 => ?_
  simp only [rG_g, dB_bool]
  exact hQ _
end
end Go.Am
