import Derived.Test.YtfgkfhjlcbccaaaS67
set_option linter.unusedVariables false
set_option linter.unusedSimpArgs false
namespace Go.Am

def pgA : Pg := ⟨true, true, [mkS [97], mkS [98, 99]], [mkS [], mkS [120]], []⟩
def pgB : Pg := ⟨true, false, [mkS [109]], [], [3, 1]⟩
theorem mayA : MayP pgA := by
  refine ⟨by simp [pgA], rfl, ?_, ?_, fun _ => ⟨rfl, rfl, ?_⟩, fun q => (by cases q)⟩
  · intro i hi
    simp only [pgA, List.length_cons, List.length_nil] at hi
    obtain rfl : i = 0 := by omega
    rw [strLt_bs]
    rfl
  · intro k hk
    simp only [pgA, List.mem_cons, List.not_mem_nil, or_false] at hk
    rcases hk with rfl | rfl <;> simp
  · intro k hk
    simp only [pgA, List.mem_cons, List.not_mem_nil, or_false] at hk
    rcases hk with rfl | rfl <;> simp
theorem mayB : MayP pgB := by
  refine ⟨by simp [pgB], rfl, ?_, ?_, fun q => (by cases q), fun _ => ⟨by simp [pgB], rfl, rfl, ?_, by simp [pgB]⟩⟩
  · intro i hi
    simp only [pgB, List.length_cons, List.length_nil] at hi
    omega
  · intro k hk
    simp only [pgB, List.mem_cons, List.not_mem_nil, or_false] at hk
    subst hk; simp
  · intro k hk
    simp only [pgB, List.mem_cons, List.not_mem_nil, or_false] at hk
    omega
theorem textA : text pgA = mkS [1, 2, 1, 97, 0, 2, 98, 99, 1, 120] := by
  have : textL pgA = [1, 2, 1, 97, 0, 2, 98, 99, 1, 120] := by rfl
  unfold text; rw [this]
theorem textB : text pgB = mkS [2, 1, 1, 109, 3, 1] := by
  have : textL pgB = [2, 1, 1, 109, 3, 1] := by rfl
  unfold text; rw [this]
theorem text_two (p : Pg) : 2 ≤ (text p).size := by simp [text, textL, hdr]
theorem not_may_no : ¬ MayP noPg := fun h => by have := h.2.used; cases this
theorem noPg_at (H : Hp) : PgAt H false false none 0 none 0 none 0 noPg := (noPg_own H 0).at

set_option maxRecDepth 100000 in
theorem pgA_at (H : Hp) : PgAt ((H ++ [.row true 9 [.str (mkS [97]), .str (mkS [98, 99])]]) ++ [.row true 9 [.str (mkS []), .str (mkS [120])]]) true true (some (H.length, 0)) 2 (some ((H ++ [Obj.row true 9 [.str (mkS [97]), .str (mkS [98, 99])]]).length, 0)) 2 none 0 pgA := by
  refine ⟨rfl, rfl, ⟨?_, rfl, by omega⟩, ⟨?_, rfl, by omega⟩, ⟨rfl, rfl, by omega⟩⟩
  · simp [cells?, pgA, List.append_assoc]
  · simp [cells?, pgA]
theorem pgB_at (H : Hp) : PgAt ((H ++ [.row true 9 [.str (mkS [109])]]) ++ [.row true 3 [.int .i64 3, .int .i64 1]]) true false (some (H.length, 0)) 1 none 0 (some ((H ++ [Obj.row true 9 [.str (mkS [109])]]).length, 0)) 2 pgB := by
  refine ⟨rfl, rfl, ⟨?_, rfl, by omega⟩, ⟨rfl, rfl, by omega⟩, ⟨?_, rfl, by omega⟩⟩
  · simp [cells?, pgB, List.append_assoc]
  · simp [cells?, pgB]

set_option maxRecDepth 1000000 in
theorem law6_awake_spec {H : Hp} {Q : Post} (hQ : ∀ H', H <+: H' → Q (.g (.bool true)) H') : law6_awake [] H Q := by
  refine ⟨1, ?_⟩
  rw [law6_awake_eq]
  simp only [ln_def, pu_def]
  have hA := pgA_at H
  refine page_Put_spec hA (fun hn => (hn mayA).elim) fun _ H1 p1 => ?_
  simp only [rT_tup, uR_cons, rS_s, dS_str, dI_int, uE_nil]
  refine page_Get_spec fun u l b1 m1 b2 m2 b3 m3 pa ea H2 p2 oa ha => ?_
  obtain ⟨rfl, rfl⟩ : ea = 0 ∧ pa = pgA := by
    rcases ha with ⟨h1, h2, h3⟩ | ⟨h1, h2, h3⟩
    · exact ⟨h1, text_inj h2 mayA h3⟩
    · exact (h3 _ mayA rfl).elim
  simp only [rT_tup, uR_cons, rC_a, uC_cons, dB_bool, dL_sl, uN_nil, rS_s, dI_int, uE_nil]
  have hB := pgB_at H2
  refine page_Put_spec hB (fun hn => (hn mayB).elim) fun _ H3 p3 => ?_
  simp only [rT_tup, uR_cons, rS_s, dS_str, dI_int, uE_nil]
  refine page_Get_spec fun u' l' c1 k1 c2 k2 c3 k3 pb eb H4 p4 ob hb => ?_
  obtain ⟨rfl, rfl⟩ : eb = 0 ∧ pb = pgB := by
    rcases hb with ⟨h1, h2, h3⟩ | ⟨h1, h2, h3⟩
    · exact ⟨h1, text_inj h2 mayB h3⟩
    · exact (h3 _ mayB rfl).elim
  simp only [rT_tup, uR_cons, rC_a, uC_cons, dB_bool, dL_sl, uN_nil, rS_s, dI_int, uE_nil]
  refine page_Put_spec (noPg_at H4) (fun _ H5 p5 => ?_) (fun hm => (not_may_no hm).elim)
  simp only [rT_tup, uR_cons, rS_s, dS_str, dI_int, uE_nil]
  refine page_Get_spec fun u'' l'' d1 j1 d2 j2 d3 j3 pc ec H6 p6 oc hc => ?_
  obtain ⟨rfl, rfl⟩ : ec = 600 ∧ pc = noPg := by
    rcases hc with ⟨h1, h2, h3⟩ | ⟨h1, h2, h3⟩
    · have := text_two pc; rw [h3] at this; simp at this
    · exact ⟨h1, h2⟩
  simp only [rT_tup, uR_cons, rC_a, uC_cons, dB_bool, dL_sl, uN_nil, rS_s, dI_int, uE_nil]
  -- the heaps, one behind the other
  have q0 : H <+: (H ++ [.row true 9 [.str (mkS [97]), .str (mkS [98, 99])]]) ++ [.row true 9 [.str (mkS []), .str (mkS [120])]] := (List.prefix_append _ _).trans (List.prefix_append _ _)
  have r3 : H2 <+: H3 := ((List.prefix_append _ _).trans (List.prefix_append _ _)).trans p3
  have r26 : H2 <+: H6 := r3.trans (p4.trans (p5.trans p6))
  have r46 : H4 <+: H6 := p5.trans p6
  have A6 := hA.mono (p1.trans (p2.trans r26))
  have B6 := hB.mono (p3.trans (p4.trans r46))
  have q6 : H <+: H6 := q0.trans (p1.trans (p2.trans r26))
  rw [bite_t (by rw [strEq_def, textA]; simp)]
  refine law0_Num_spec ?_
  simp only [rG_g, dI_int]
  rw [bite_t (by decide)]
  refine law0_SamePage_spec ((oa.mono r26).at) A6 fun b hb => ?_
  simp only [rG_g, dB_bool]
  rw [bite_t (hb.2 rfl)]
  refine law0_Num_spec ?_
  simp only [rG_g, dI_int]
  rw [bite_t (by decide), bite_t (by rw [strEq_def, textB]; simp)]
  refine law0_Num_spec ?_
  simp only [rG_g, dI_int]
  rw [bite_t (by decide)]
  refine law0_SamePage_spec ((ob.mono r46).at) B6 fun b hb => ?_
  simp only [rG_g, dB_bool]
  rw [bite_t (hb.2 rfl)]
  refine law0_Num_spec ?_
  simp only [rG_g, dI_int]
  rw [bite_t (by decide)]
  refine law0_Num_spec ?_
  simp only [rG_g, dI_int]
  rw [bite_t (by decide)]
  refine law0_Num_spec ?_
  simp only [rG_g, dI_int]
  rw [bite_t (by decide)]
  refine page_May_spec A6 fun b H7 p7 hb => ?_
  simp only [rG_g, dB_bool]
  rw [hb.2 mayA]
  exact hQ _ (q6.trans p7)
end Go.Am
