/- The law cryostatlaw9.Nodes returns true at every row of texts, every text and every three pages, and leaves its arguments as they were. No condition beyond the row's own. -/
import Derived.Test.YtfgkfhjlcbccaaaP1
import Derived.Test.YtfgkfhjlcbccaaaS96
import Derived.Test.YtfgkfhjlcbccaaaRows
set_option linter.unusedVariables false
set_option linter.unusedSimpArgs false
namespace Go.Proofs.Ytfgkfhjlcbccaaa.nodes
open Go.ChangeShapes Go.WideShapes Go.ChangeAt Go.RowKit Go.Am
open Go.ChangeMaps (open_string shut_string)
theorem own : ownKnob Try.prog.godebug = none := by kernel_rfl
theorem laidOut : laidOutB Try.prog = true := by kernel_rfl
set_option maxRecDepth 100000 in
theorem lifted (os : Os) (started : os.Started) (H : Type) (enc : TypeId × Value → H) :
    ReturnsInHanded {} Try.checked os 8 .any (Rows.nodesSpec.pre6 enc Try.prog Try.f8 Rows.nodesRow.domain false) (Rows.nodesSpec.post enc Try.prog Try.f8 false true false false) := by
  refine returnsInHanded_of_change_sized (C := Try.checked) own started (by kernel_rfl) Try.func8
    (ChangeSpec.witness6 (enc := enc) (C := Try.checked) false ⟨#[], #[.slice none 0 0, .string ByteArray.empty, .agg #[.bool false, .bool false, .slice none 0 0, .slice none 0 0, .slice none 0 0], .agg #[.bool false, .bool false, .slice none 0 0, .slice none 0 0, .slice none 0 0], .agg #[.bool false, .bool false, .slice none 0 0, .slice none 0 0, .slice none 0 0]], []⟩ 8 (by kernel_rfl) (by kernel_rfl) (by kernel_rfl) (by kernel_rfl)) ?_
  intro W base args ds gs before hval0 hW hcnd hsz0 _
  have hsz : (DataW.weightsEach Try.prog (Try.f8.params.toList ++ Rows.nodesSpec.plain.varTypes Try.prog) (ds ++ gs)).all (· ≤ reachBytes) = true := hsz0
  have hval : ∀ (j : Nat) t v, Try.f8.params[j]? = some t → args[j]? = some v → Value.okWide Try.prog W .any base t v := hval0
  have hW' := hW
  obtain ⟨p, q, hA0, hV, rfl, hfz, hnd⟩ := hW
  have hA : DataW.TrodAll enc Try.prog W 0 (fun _ => true) true Try.f8.params.toList args.toList ds p := hA0
  rw [Try.params8] at hA hval hsz
  obtain ⟨v0, vs0, d0, ds0, p0, q0, hargs, rfl, rfl, h0, r0⟩ := trodAll_cons hA
  obtain ⟨v1, vs1, d1, ds1, p1, q1, rfl, rfl, rfl, h1, r1⟩ := trodAll_cons r0
  obtain ⟨v2, vs2, d2, ds2, p2, q2, rfl, rfl, rfl, h2, r2⟩ := trodAll_cons r1
  obtain ⟨v3, vs3, d3, ds3, p3, q3, rfl, rfl, rfl, h3, r3⟩ := trodAll_cons r2
  obtain ⟨v4, vs4, d4, ds4, p4, q4, rfl, rfl, rfl, h4, r4⟩ := trodAll_cons r3
  obtain ⟨rfl, rfl, rfl⟩ := trodAll_nil r4
  obtain rfl : args = #[v0, v1, v2, v3, v4] := by cases args; simp_all
  obtain ⟨rfl, rfl⟩ := trodVars_none hV
  have R := rep_nil W
  have N := noOwn_nil
  have k0 := h0
  have lt0 : ∀ x ∈ p0, x.block < W.heap.size := by obtain ⟨m, hm⟩ := k0; exact DataW.trod_lt m _ _ _ hm
  obtain ⟨ad0, ln0, cp0, rfl⟩ := okWide_slice Try.underlying22 (hval 0 22 v0 rfl rfl)
  have hz0 : ∀ v ∈ [Value.slice ad0 ln0 cp0], Zc W v := fun v hv => by rw [List.mem_singleton] at hv; subst hv; exact zc_of_ok (by have z := (hval 0 22 _ rfl rfl); unfold Value.okWide at z; rw [Try.underlying22] at z; exact z)
  obtain ⟨fu0, hf0⟩ := h0
  obtain ⟨φ0, H0, a0, n0, xs0, w0, ew0, e0, g0, R0, N0, is0, at0⟩ := open_texts Try.underlying22 Try.underlying9 (by kernel_rfl) (by kernel_rfl) hf0 hz0 (all_each hsz (j := 0) rfl rfl) R N
  have ew0' : [Value.slice ad0 ln0 cp0] = [w0] := ew0
  rw [List.cons.injEq] at ew0'
  obtain ⟨rfl, _⟩ := ew0'
  obtain ⟨a1, rfl, rfl, rfl, y1⟩ := open_string Try.underlying9 (hval 1 9 v1 rfl rfl) h1
  have w1 : a1.size ≤ 140737488351232 := by
    have z := sized_string hsz (j := 1) (t := 9) rfl rfl
    rw [Array.length_toList] at z
    exact z
  have k2 := h2
  have lt2 : ∀ x ∈ p2, x.block < W.heap.size := by obtain ⟨m, hm⟩ := k2; exact DataW.trod_lt m _ _ _ hm
  obtain ⟨us2, rfl, hz2⟩ := zc_agg Try.underlying25 (hval 2 25 v2 rfl rfl)
  obtain ⟨fu2, hf2⟩ := h2
  obtain ⟨φ2, H2, u2, l2, a2, n2, b2, m2, c2, k2', pg2, e2, g2, R2, N2, is2, at2⟩ := open_pg hf2 hz2 (all_each hsz (j := 2) rfl rfl) R0 N0
  have k3 := h3
  have lt3 : ∀ x ∈ p3, x.block < W.heap.size := by obtain ⟨m, hm⟩ := k3; exact DataW.trod_lt m _ _ _ hm
  obtain ⟨us3, rfl, hz3⟩ := zc_agg Try.underlying25 (hval 3 25 v3 rfl rfl)
  obtain ⟨fu3, hf3⟩ := h3
  obtain ⟨φ3, H3, u3, l3, a3, n3, b3, m3, c3, k3', pg3, e3, g3, R3, N3, is3, at3⟩ := open_pg hf3 hz3 (all_each hsz (j := 3) rfl rfl) R2 N2
  have k4 := h4
  have lt4 : ∀ x ∈ p4, x.block < W.heap.size := by obtain ⟨m, hm⟩ := k4; exact DataW.trod_lt m _ _ _ hm
  obtain ⟨us4, rfl, hz4⟩ := zc_agg Try.underlying25 (hval 4 25 v4 rfl rfl)
  obtain ⟨fu4, hf4⟩ := h4
  obtain ⟨φ4, H4, u4, l4, a4, n4, b4, m4, c4, k4', pg4, e4, g4, R4, N4, is4, at4⟩ := open_pg hf4 hz4 (all_each hsz (j := 4) rfl rfl) R3 N3
  clear hA0 hval0 hsz0 hsz
  refine (law_calls law9_Nodes_ok R4 N4 (args := [.g (.sl a0 n0 1), .g (.str a1), .agg [.bool u2, .bool l2, .sl a2 n2 1, .sl b2 m2 1, .sl c2 k2' 1], .agg [.bool u3, .bool l3, .sl a3 n3 1, .sl b3 m3 1, .sl c3 k3' 1], .agg [.bool u4, .bool l4, .sl a4 n4 1, .sl b4 m4 1, .sl c4 k4' 1]]) (vs := [.slice ad0 ln0 cp0, .string a1, .agg us2, .agg us3, .agg us4]) (.cons (GV.is.mono (e2.trans (e3.trans e4)) is0) (.cons rfl (.cons ⟨us2, rfl, Is2.mono (e3.trans e4) is2⟩ (.cons ⟨us3, rfl, Is2.mono e4 is3⟩ (.cons ⟨us4, rfl, is4⟩ .nil))))) (law9_Nodes_spec (at0.mono (g2.trans (g3.trans g4))) (at2.mono (g3.trans g4)) (at3.mono g4) at4 fun _ => rfl)).mono fun e W' ⟨he, bel⟩ => ?_
  subst he
  exact ⟨_, rfl, _, _, _, [], _, [], hW', trodAll_mk1 (shut_bool Try.underlying4 _), (trodAll_cons_mk (Below.trod laidOut (by kernel_rfl) (of_decide_eq_true (by kernel_rfl)) k0 bel lt0) (trodAll_cons_mk (shut_string Try.underlying9 y1) (trodAll_cons_mk (Below.trod laidOut (by kernel_rfl) (of_decide_eq_true (by kernel_rfl)) k2 bel lt2) (trodAll_cons_mk (Below.trod laidOut (by kernel_rfl) (of_decide_eq_true (by kernel_rfl)) k3 bel lt3) (trodAll_cons_mk (Below.trod laidOut (by kernel_rfl) (of_decide_eq_true (by kernel_rfl)) k4 bel lt4) trodAll_mk0))))), rfl, bel.frame _, fun h => by cases h⟩
theorem over : Rows.nodesRow.holds Try.pinned (OpenSpec.ofChange Rows.nodesSpec) :=
  OpenClaim.holds_of_wide 8 Try.f8 rfl rfl rfl rfl rfl rfl rfl ⟨rfl, rfl, rfl, rfl, rfl⟩ rfl rfl rfl rfl rfl (by kernel_rfl) Try.func8 (by kernel_rfl)
    (of_decide_eq_true (by kernel_rfl)) (by unfold Func.isWrapper; first | (rw [if_pos (by decide +kernel)]; kernel_rfl) | (rw [if_neg (by decide +kernel)]; exact ⟨rfl, rfl⟩))
    (fun os started H enc _ => lifted os started H enc)
theorem proved : Rows.NodesSaid := over
end Go.Proofs.Ytfgkfhjlcbccaaa.nodes
namespace Go.Proofs.Ytfgkfhjlcbccaaa
/-- The row. -/
theorem nodes_holds : Rows.NodesSaid := nodes.proved
end Go.Proofs.Ytfgkfhjlcbccaaa
