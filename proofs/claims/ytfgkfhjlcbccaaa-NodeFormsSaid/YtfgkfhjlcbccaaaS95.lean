import Derived.Test.YtfgkfhjlcbccaaaS94
set_option linter.unusedVariables false
set_option linter.unusedSimpArgs false
namespace Go.Am
open Classical

theorem slotN_bs (xs : List ByteArray) (key : ByteArray) : slotN xs key = (xs.filter fun k => Op.bytesLess (bs k) (bs key)).length := by
  unfold slotN; congr 1; congr 1; funext k; exact strLt_bs k key

def pg5 : Pg := ⟨true, true, [mkS [97], mkS [98], mkS [99], mkS [100], mkS [101]], [mkS [49], mkS [50], mkS [51], mkS [52], mkS [53]], []⟩
theorem can5 : canSplitB pg5 = true := by decide +kernel
theorem slot1 : slotN [mkS [97], mkS [99]] (mkS [98]) = 1 := by rw [slotN_bs]; decide +kernel
theorem slot2 : slotN [mkS [97], mkS [99]] (mkS [99]) = 1 := by rw [slotN_bs]; decide +kernel
theorem slotB1 : slotB [mkS [97], mkS [99]] (mkS [98]) = false := by unfold slotB; rw [slot1]; decide +kernel
theorem slotB2 : slotB [mkS [97], mkS [99]] (mkS [99]) = true := by unfold slotB; rw [slot2]; decide +kernel
def pgE : Pg := ⟨true, true, [], [], []⟩
theorem jo5 : canJoinB pgE (mkS []) (cutB pg5) = true := by decide +kernel
theorem jo5no : canJoinB (cutA pg5) (mkS []) (cutB pg5) = false := by decide +kernel
theorem sp5no : canSplitB (cutA pg5) = false := by decide +kernel
theorem jo5eq : joinP pgE (mkS []) (cutB pg5) = cutB pg5 := rfl

set_option maxRecDepth 100000 in
theorem law9_awake_spec {H : Hp} {Q : Post} (hQ : ∀ H', H <+: H' → Q (.g (.bool true)) H') : law9_awake [] H Q := by
  refine ⟨1, ?_⟩
  rw [law9_awake_eq]
  simp only [ln_def, pu_def]
  refine node_Slot_spec (xs := [mkS [97], mkS [99]]) ⟨by simp [cells?], rfl, by omega⟩ ?_
  simp only [rT_tup, uR_cons, rS_s, dI_int, dB_bool, uE_nil]
  have p1 := pre_pu H (.row false 0 [(.str (mkS [97])), (.str (mkS [99]))])
  generalize H ++ [.row false 0 [(.str (mkS [97])), (.str (mkS [99]))]] = H1 at p1 ⊢
  refine node_Slot_spec (xs := [mkS [97], mkS [99]]) ⟨by simp [cells?], rfl, by omega⟩ ?_
  simp only [rT_tup, uR_cons, rS_s, dI_int, dB_bool, uE_nil]
  rw [slot1, slot2, slotB1, slotB2]
  have p2 := p1.trans (pre_pu H1 (.row false 0 [(.str (mkS [97])), (.str (mkS [99]))]))
  generalize H1 ++ [.row false 0 [(.str (mkS [97])), (.str (mkS [99]))]] = H2 at p2 ⊢
  have p3 := p2.trans ((pre_pu H2 (.row true 9 [(.str (mkS [97])), (.str (mkS [98])), (.str (mkS [99])), (.str (mkS [100])), (.str (mkS [101]))])).trans (pre_pu _ (.row true 9 [(.str (mkS [49])), (.str (mkS [50])), (.str (mkS [51])), (.str (mkS [52])), (.str (mkS [53]))])))
  have h5 : PgAt ((H2 ++ [.row true 9 [(.str (mkS [97])), (.str (mkS [98])), (.str (mkS [99])), (.str (mkS [100])), (.str (mkS [101]))]]) ++ [.row true 9 [(.str (mkS [49])), (.str (mkS [50])), (.str (mkS [51])), (.str (mkS [52])), (.str (mkS [53]))]])
      true true (some (H2.length, 0)) 5 (some ((H2 ++ [Obj.row true 9 [(.str (mkS [97])), (.str (mkS [98])), (.str (mkS [99])), (.str (mkS [100])), (.str (mkS [101]))]]).length, 0)) 5 none 0 pg5 :=
    ⟨rfl, rfl, ⟨by simp [cells?, pg5], rfl, by omega⟩, ⟨by simp [cells?, pg5], rfl, by omega⟩, .nil _⟩
  generalize (H2 ++ [.row true 9 [(.str (mkS [97])), (.str (mkS [98])), (.str (mkS [99])), (.str (mkS [100])), (.str (mkS [101]))]]) ++ [.row true 9 [(.str (mkS [49])), (.str (mkS [50])), (.str (mkS [51])), (.str (mkS [52])), (.str (mkS [53]))]] = H3 at p3 h5 ⊢
  refine node_Split_spec h5 fun u l a1 n1 a2 n2 a3 n3 u' l' b1 m1 b2 m2 b3 m3 lo md hi H4 p4 _ _ _ _ hA hB => ?_
  simp only [rT_tup, uR_cons, rC_a, uC_cons, dB_bool, dL_sl, uN_nil, rS_s, dS_str, dI_int, uE_nil]
  obtain ⟨s1, s2, s3, s4⟩ := sp_yes can5
  rw [s1] at hA
  rw [s2] at hB
  rw [s3, s4]
  have A := hA.at
  have B := hB.at
  refine node_Join_spec (p := pgE) (H := H4) ⟨rfl, rfl, .nil _, .nil _, .nil _⟩ B fun ul ll c1 k1 c2 k2 c3 k3 H5 p5 oc => ?_
  simp only [rT_tup, uR_cons, rC_a, uC_cons, dB_bool, dL_sl, uN_nil, rS_s, dS_str, dI_int, uE_nil]
  obtain ⟨j1, j2⟩ := jo_yes jo5
  rw [j1, jo5eq] at oc
  rw [j2]
  refine node_Split_spec (A.mono p5) fun u2 l2 d1 j1 d2 j2 d3 j3 u3 l3 e1 i1 e2 i2 e3 i3 _ _ _ H6 p6 _ _ _ _ _ _ => ?_
  simp only [rT_tup, uR_cons, rC_a, uC_cons, dB_bool, dL_sl, uN_nil, rS_s, dS_str, dI_int, uE_nil]
  rw [(sp_no sp5no).2.2.2]
  refine node_Join_spec (A.mono (p5.trans p6)) (B.mono (p5.trans p6)) fun u4 l4 f1 g1 f2 g2 f3 g3 H7 p7 _ => ?_
  simp only [rT_tup, uR_cons, rC_a, uC_cons, dB_bool, dL_sl, uN_nil, rS_s, dS_str, dI_int, uE_nil]
  rw [(jo_no jo5no).2]
  have n1e : n1 = 3 := A.keys.len
  have m1e : m1 = 2 := B.keys.len
  rw [bite_t (by decide), bite_t (by decide), bite_t (by decide), bite_true, bite_t (by rw [n1e]; decide), bite_t (by rw [strEq_def]; decide +kernel), bite_t (by rw [m1e]; decide)]
  refine law0_Num_spec ?_
  simp only [rG_g, dI_int]
  rw [bite_t (by decide)]
  refine law0_SamePage_spec (oc.at.mono (p6.trans p7)) (B.mono (p5.trans (p6.trans p7))) fun b hb => ?_
  simp only [rG_g, dB_bool]
  rw [bite_t (hb.2 rfl)]
  refine law0_Num_spec ?_
  simp only [rG_g, dI_int]
  rw [bite_t (by decide)]
  refine law0_Num_spec ?_
  simp only [rG_g, dI_int]
  rw [bite_t (by decide)]
  refine law0_Num_spec ?_
  simp only [rG_g, dI_int]
  exact hQ _ (p3.trans (p4.trans (p5.trans (p6.trans p7))))
end Go.Am
