import Derived.Test.YtfgkfhjlcbccaaaAmN
import Derived.Test.YtfgkfhjlcbccaaaS69
import Derived.OpenShut
import Derived.ShutString
import Derived.ChangeOld
import Derived.ProofKit
import Derived.WalkKit
set_option linter.unusedVariables false
set_option linter.unusedSimpArgs false
namespace Go.Am
open Go.RowKit Go.ChangeShapes Go.WideShapes Go.Proofs

theorem zc_agg {P : Program} {W : World} {r : Reach} {b : Nat} {t : TypeId} {fs : Array Field} {v : Value} (ht : P.underlying t = some (.struct fs)) (h : Value.okWide P W r b t v) : ∃ us : Array Value, v = .agg us ∧ ∀ x ∈ us.toList, Zc W x := by
  unfold Value.okWide at h
  rw [ht] at h
  obtain ⟨us, rfl, _, ts, _, _, hc⟩ := h
  refine ⟨us, rfl, fun x hx => ?_⟩
  obtain ⟨i, hi, rfl⟩ := List.getElem_of_mem hx
  obtain ⟨u, _, hu⟩ := hc i us[i] (by simp)
  simp only [Array.getElem_toList]
  exact zc_of_ok hu

section
variable {Hh : Type} {enc : TypeId × Value → Hh} {W : World} {held : Bool}
set_option maxRecDepth 100000 in
theorem open_pg {fuel : Nat} {cs : List Value} {x : DataW Hh × List MemPlace} (h : DataW.trod enc Try.prog W 0 (fun _ => true) held fuel 25 cs = some x) (hz : ∀ v ∈ cs, Zc W v) (hw : (DataW.weights Try.prog 25 x.1).all (· ≤ reachBytes) = true)
    {φ : List LI} {H : Hp} (hr : RepH φ H W) (hn : NoOwn H) :
    ∃ φ' H' u l a1 n1 a2 n2 a3 n3 p, φ <+: φ' ∧ H <+: H' ∧ RepH φ' H' W ∧ NoOwn H' ∧ Is2 φ' [.bool u, .bool l, .sl a1 n1 1, .sl a2 n2 1, .sl a3 n3 1] cs ∧ PgAt H' u l a1 n1 a2 n2 a3 n3 p := by
  obtain ⟨xs, n, rfl, rfl, hlen, hxs, hf⟩ := DataW.trod_struct Try.underlying25 h
  have h5 : Try.prog.cellsOf 25 = 5 := by kernel_rfl
  have c4 : Try.prog.cellsOf 4 = 1 := by kernel_rfl
  have c22 : Try.prog.cellsOf 22 = 1 := by kernel_rfl
  have c23 : Try.prog.cellsOf 23 = 1 := by kernel_rfl
  rw [h5] at hlen
  match cs, hlen with
  | [v0, v1, v2, v3, v4], _ =>
    have f0 : DataW.trod enc Try.prog W 0 (fun _ => true) held n 4 (([v0, v1, v2, v3, v4].drop 0).take (Try.prog.cellsOf 4)) = xs[0]? := hf 0 _ rfl
    have f1 : DataW.trod enc Try.prog W 0 (fun _ => true) held n 4 (([v0, v1, v2, v3, v4].drop 1).take (Try.prog.cellsOf 4)) = xs[1]? := hf 1 _ rfl
    have f2 : DataW.trod enc Try.prog W 0 (fun _ => true) held n 22 (([v0, v1, v2, v3, v4].drop 2).take (Try.prog.cellsOf 22)) = xs[2]? := hf 2 _ rfl
    have f3 : DataW.trod enc Try.prog W 0 (fun _ => true) held n 22 (([v0, v1, v2, v3, v4].drop 3).take (Try.prog.cellsOf 22)) = xs[3]? := hf 3 _ rfl
    have f4 : DataW.trod enc Try.prog W 0 (fun _ => true) held n 23 (([v0, v1, v2, v3, v4].drop 4).take (Try.prog.cellsOf 23)) = xs[4]? := hf 4 _ rfl
    simp only [c4, c22, c23, List.drop_zero, List.drop_succ_cons, List.take_succ_cons, List.take_zero] at f0 f1 f2 f3 f4
    match xs, hxs with
    | [x0, x1, x2, x3, x4], _ =>
      simp only [List.getElem?_cons_zero, List.getElem?_cons_succ] at f0 f1 f2 f3 f4
      simp only [List.map_cons, List.map_nil, DataW.weights, Try.underlying25] at hw
      obtain ⟨u, e0, _⟩ := DataW.trod_bool Try.underlying4 f0
      obtain ⟨l, e1, _⟩ := DataW.trod_bool Try.underlying4 f1
      simp only [List.cons.injEq, and_true] at e0 e1
      subst e0; subst e1
      obtain ⟨φ1, H1, a1, n1, ks, w2, e2, p1, q1, r1, o1, i1, s1⟩ := open_texts Try.underlying22 Try.underlying9 (by kernel_rfl) (by kernel_rfl) f2 (fun v hv => hz v (by simp at hv; simp [hv])) (all_each hw (j := 2) rfl rfl) hr hn
      obtain ⟨φ2, H2, a2, n2, vs, w3, e3, p2, q2, r2, o2, i2, s2⟩ := open_texts Try.underlying22 Try.underlying9 (by kernel_rfl) (by kernel_rfl) f3 (fun v hv => hz v (by simp at hv; simp [hv])) (all_each hw (j := 3) rfl rfl) r1 o1
      obtain ⟨φ3, H3, a3, n3, is, w4, e4, p3, q3, r3, o3, i3, s3⟩ := open_nums Try.underlying23 Try.underlying3 (by kernel_rfl) (by kernel_rfl) f4 (fun v hv => hz v (by simp at hv; simp [hv])) (all_each hw (j := 4) rfl rfl) r2 o2
      simp only [List.cons.injEq, and_true] at e2 e3 e4
      subst e2; subst e3; subst e4
      exact ⟨φ3, H3, u, l, a1, n1, a2, n2, a3, n3, ⟨u, l, ks, vs, is⟩, p1.trans (p2.trans p3), q1.trans (q2.trans q3), r3, o3,
        .cons rfl (.cons rfl (.cons (GV.is.mono (p2.trans p3) i1) (.cons (GV.is.mono p3 i2) (.cons i3 .nil)))), ⟨rfl, rfl, s1.mono (q2.trans q3), s2.mono q3, s3⟩⟩
end
end Go.Am
