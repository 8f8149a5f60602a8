/- The law NodeSlots of the given program holds: for all arguments it answers true, as the given statement says; no condition. -/
import Derived.Test.YtiemhjehieipdaaM4
import Derived.Test.YtiemhjehieipdaaRows
set_option linter.unusedVariables false
set_option linter.unusedSimpArgs false
namespace Go.Proofs.Ytiemhjehieipdaa.nodeSlots
open Go.ChangeShapes Go.WideShapes Go.ChangeAt Go.RowKit Go.Am
open Go.ChangeMaps (open_string shut_string)
theorem own : ownKnob Try.prog.godebug = none := by kernel_rfl
theorem laidOut : laidOutB Try.prog = true := by kernel_rfl
set_option maxRecDepth 100000 in
theorem lifted (os : Os) (started : os.Started) (H : Type) (enc : TypeId × Value → H) :
    ReturnsInHanded {} Try.checked os 3 .any (Rows.nodeSlotsSpec.pre6 enc Try.prog Try.f3 Rows.nodeSlotsRow.domain false) (Rows.nodeSlotsSpec.post enc Try.prog Try.f3 false true false false) := by
  refine returnsInHanded_of_change_sized (C := Try.checked) own started (by kernel_rfl) Try.func3
    (ChangeSpec.witness6 (enc := enc) (C := Try.checked) false ⟨#[], #[.slice none 0 0, .int .i64 0], []⟩ 8 (by kernel_rfl) (by kernel_rfl) (by kernel_rfl) (by kernel_rfl)) ?_
  intro W base args ds gs before hval0 hW hcnd hsz0 _
  have hsz : (DataW.weightsEach Try.prog (Try.f3.params.toList ++ Rows.nodeSlotsSpec.plain.varTypes Try.prog) (ds ++ gs)).all (· ≤ reachBytes) = true := hsz0
  have hval : ∀ (j : Nat) t v, Try.f3.params[j]? = some t → args[j]? = some v → Value.okWide Try.prog W .any base t v := hval0
  have hW' := hW
  obtain ⟨p, q, hA0, hV, rfl, hfz, hnd⟩ := hW
  have hA : DataW.TrodAll enc Try.prog W 0 (fun _ => true) true Try.f3.params.toList args.toList ds p := hA0
  rw [Try.params3] at hA hval hsz
  obtain ⟨v0, vs0, d0, ds0, p0, q0, hargs, rfl, rfl, h0, r0⟩ := trodAll_cons hA
  obtain ⟨v1, vs1, d1, ds1, p1, q1, rfl, rfl, rfl, h1, r1⟩ := trodAll_cons r0
  obtain ⟨rfl, rfl, rfl⟩ := trodAll_nil r1
  obtain rfl : args = #[v0, v1] := by cases args; simp_all
  obtain ⟨rfl, rfl⟩ := trodVars_none hV
  have R := rep_nil W
  have N := noOwn_nil
  have k0 := h0
  have lt0 : ∀ x ∈ p0, x.block < W.heap.size := by obtain ⟨m, hm⟩ := k0; exact DataW.trod_lt m _ _ _ hm
  obtain ⟨ad0, ln0, cp0, rfl⟩ := okWide_slice Try.underlying22 (hval 0 22 v0 rfl rfl)
  have hz0 : ∀ v ∈ [Value.slice ad0 ln0 cp0], Zc W v := fun v hv => by rw [List.mem_singleton] at hv; subst hv; exact zc_of_ok (by have z := (hval 0 22 _ rfl rfl); unfold Value.okWide at z; rw [Try.underlying22] at z; exact z)
  obtain ⟨fu0, hf0⟩ := h0
  obtain ⟨φ0, H0, a0, n0, xs0, w0, ew0, e0, g0, R0, N0, is0, at0⟩ := open_nums Try.underlying22 Try.underlying3 (by kernel_rfl) (by kernel_rfl) hf0 hz0 (all_each hsz (j := 0) rfl rfl) R N
  have ew0' : [Value.slice ad0 ln0 cp0] = [w0] := ew0
  rw [List.cons.injEq] at ew0'
  obtain ⟨rfl, _⟩ := ew0'
  obtain ⟨a1, rfl, rfl, rfl, w1⟩ := open_int Try.underlying3 (hval 1 3 v1 rfl rfl) h1
  clear hA0 hval0 hsz0 hsz
  refine (law_calls law9_NodeSlots_ok R0 N0 (args := [.g (.sl a0 n0 1), .g (.int .i64 a1)]) (vs := [.slice ad0 ln0 cp0, .int .i64 a1]) (.cons is0 (.cons rfl .nil)) (law9_NodeSlots_spec at0 fun _ => rfl)).mono fun e W' ⟨he, bel⟩ => ?_
  subst he
  exact ⟨_, rfl, _, _, _, [], _, [], hW', trodAll_mk1 (shut_bool Try.underlying4 _), (trodAll_cons_mk (Below.trod laidOut (by kernel_rfl) (of_decide_eq_true (by kernel_rfl)) k0 bel lt0) (trodAll_cons_mk (shut_int Try.underlying3 w1) trodAll_mk0)), rfl, bel.frame _, fun h => by cases h⟩
theorem over : Rows.nodeSlotsRow.holds Try.pinned (OpenSpec.ofChange Rows.nodeSlotsSpec) :=
  OpenClaim.holds_of_wide 3 Try.f3 rfl rfl rfl rfl rfl rfl rfl ⟨rfl, rfl, rfl, rfl, rfl⟩ rfl rfl rfl rfl rfl (by kernel_rfl) Try.func3 (by kernel_rfl)
    (of_decide_eq_true (by kernel_rfl)) (by unfold Func.isWrapper; first | (rw [if_pos (by decide +kernel)]; kernel_rfl) | (rw [if_neg (by decide +kernel)]; exact ⟨rfl, rfl⟩))
    (fun os started H enc _ => lifted os started H enc)
theorem proved : Rows.NodeSlotsSaid := over
end Go.Proofs.Ytiemhjehieipdaa.nodeSlots
namespace Go.Proofs.Ytiemhjehieipdaa
/-- The row. -/
theorem nodeSlots_holds : Rows.NodeSlotsSaid := nodeSlots.proved
end Go.Proofs.Ytiemhjehieipdaa
