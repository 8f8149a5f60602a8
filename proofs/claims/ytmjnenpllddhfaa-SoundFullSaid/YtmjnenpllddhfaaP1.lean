import Derived.Test.YtmjnenpllddhfaaAmN
import Derived.Test.YtmjnenpllddhfaaE1
import Derived.Test.YtmjnenpllddhfaaST
import Derived.OpenShut
import Derived.ShutString
import Derived.ChangeOld
import Derived.ProofKit
import Derived.WalkKit
set_option linter.unusedVariables false
set_option linter.unusedSimpArgs false
namespace Go.Am
open Go.RowKit Go.ChangeShapes Go.WideShapes Go.Proofs

theorem zc_agg {P : Program} {W : World} {r : Reach} {b : Nat} {t : TypeId} {fs : Array Field} {v : Value} (ht : P.underlying t = some (.struct fs)) (h : Value.okWide P W r b t v) : ∃ us : Array Value, v = .agg us ∧ ∀ x ∈ us.toList, Zc W x := by
  unfold Value.okWide at h
  rw [ht] at h
  obtain ⟨us, rfl, _, ts, _, _, hc⟩ := h
  refine ⟨us, rfl, fun x hx => ?_⟩
  obtain ⟨i, hi, rfl⟩ := List.getElem_of_mem hx
  obtain ⟨u, _, hu⟩ := hc i us[i] (by simp)
  simp only [Array.getElem_toList]
  exact zc_of_ok hu

section
variable {Hh : Type} {enc : TypeId × Value → Hh} {W : World} {held : Bool}
set_option maxRecDepth 100000 in
theorem open_pg {fuel : Nat} {cs : List Value} {x : DataW Hh × List MemPlace} (h : DataW.trod enc Try.prog W 0 (fun _ => true) held fuel 34 cs = some x) (hz : ∀ v ∈ cs, Zc W v) (hw : (DataW.weights Try.prog 34 x.1).all (· ≤ reachBytes) = true)
    {φ : List LI} {H : Hp} (hr : RepH φ H W) (hn : NoOwn H) :
    ∃ φ' H' u l a1 n1 a2 n2 a3 n3 p, φ <+: φ' ∧ H <+: H' ∧ RepH φ' H' W ∧ NoOwn H' ∧ Is2 φ' [.bool u, .bool l, .sl a1 n1 1, .sl a2 n2 1, .sl a3 n3 1] cs ∧ PgAt H' u l a1 n1 a2 n2 a3 n3 p := by
  obtain ⟨xs, n, rfl, rfl, hlen, hxs, hf⟩ := DataW.trod_struct Try.underlying34 h
  have h5 : Try.prog.cellsOf 34 = 5 := by kernel_rfl
  have cB : Try.prog.cellsOf 4 = 1 := by kernel_rfl
  have c22 : Try.prog.cellsOf 31 = 1 := by kernel_rfl
  have c23 : Try.prog.cellsOf 32 = 1 := by kernel_rfl
  rw [h5] at hlen
  match cs, hlen with
  | [v0, v1, v2, v3, v4], _ =>
    have f0 : DataW.trod enc Try.prog W 0 (fun _ => true) held n 4 (([v0, v1, v2, v3, v4].drop 0).take (Try.prog.cellsOf 4)) = xs[0]? := hf 0 _ rfl
    have f1 : DataW.trod enc Try.prog W 0 (fun _ => true) held n 4 (([v0, v1, v2, v3, v4].drop 1).take (Try.prog.cellsOf 4)) = xs[1]? := hf 1 _ rfl
    have f2 : DataW.trod enc Try.prog W 0 (fun _ => true) held n 31 (([v0, v1, v2, v3, v4].drop 2).take (Try.prog.cellsOf 31)) = xs[2]? := hf 2 _ rfl
    have f3 : DataW.trod enc Try.prog W 0 (fun _ => true) held n 31 (([v0, v1, v2, v3, v4].drop 3).take (Try.prog.cellsOf 31)) = xs[3]? := hf 3 _ rfl
    have f4 : DataW.trod enc Try.prog W 0 (fun _ => true) held n 32 (([v0, v1, v2, v3, v4].drop 4).take (Try.prog.cellsOf 32)) = xs[4]? := hf 4 _ rfl
    simp only [cB, c22, c23, List.drop_zero, List.drop_succ_cons, List.take_succ_cons, List.take_zero] at f0 f1 f2 f3 f4
    match xs, hxs with
    | [x0, x1, x2, x3, x4], _ =>
      simp only [List.getElem?_cons_zero, List.getElem?_cons_succ] at f0 f1 f2 f3 f4
      simp only [List.map_cons, List.map_nil, DataW.weights, Try.underlying34] at hw
      obtain ⟨u, e0, _⟩ := DataW.trod_bool Try.underlying4 f0
      obtain ⟨l, e1, _⟩ := DataW.trod_bool Try.underlying4 f1
      simp only [List.cons.injEq, and_true] at e0 e1
      subst e0; subst e1
      obtain ⟨φ1, H1, a1, n1, ks, w2, e2, p1, q1, r1, o1, i1, s1⟩ := open_texts Try.underlying31 Try.underlying9 (by kernel_rfl) (by kernel_rfl) f2 (fun v hv => hz v (by simp at hv; simp [hv])) (all_each hw (j := 2) rfl rfl) hr hn
      obtain ⟨φ2, H2, a2, n2, vs, w3, e3, p2, q2, r2, o2, i2, s2⟩ := open_texts Try.underlying31 Try.underlying9 (by kernel_rfl) (by kernel_rfl) f3 (fun v hv => hz v (by simp at hv; simp [hv])) (all_each hw (j := 3) rfl rfl) r1 o1
      obtain ⟨φ3, H3, a3, n3, is, w4, e4, p3, q3, r3, o3, i3, s3⟩ := open_nums Try.underlying32 Try.underlying3 (by kernel_rfl) (by kernel_rfl) f4 (fun v hv => hz v (by simp at hv; simp [hv])) (all_each hw (j := 4) rfl rfl) r2 o2
      simp only [List.cons.injEq, and_true] at e2 e3 e4
      subst e2; subst e3; subst e4
      exact ⟨φ3, H3, u, l, a1, n1, a2, n2, a3, n3, ⟨u, l, ks, vs, is⟩, p1.trans (p2.trans p3), q1.trans (q2.trans q3), r3, o3,
        .cons rfl (.cons rfl (.cons (GV.is.mono (p2.trans p3) i1) (.cons (GV.is.mono p3 i2) (.cons i3 .nil)))), ⟨rfl, rfl, s1.mono (q2.trans q3), s2.mono q3, s3⟩⟩

theorem weights_all {P : Program} {e : TypeId} : ∀ {ds : List (DataW Hh)}, (DataW.weightsAll P e ds).all (· ≤ reachBytes) = true → ∀ {i : Nat} {d : DataW Hh}, ds[i]? = some d → (DataW.weights P e d).all (· ≤ reachBytes) = true
  | [], _, i, d, h => by simp at h
  | d0 :: r, hw, 0, d, h => by
    simp only [DataW.weightsAll, List.all_append, Bool.and_eq_true] at hw
    simp at h; subst h; exact hw.1
  | d0 :: r, hw, i + 1, d, h => by
    simp only [DataW.weightsAll, List.all_append, Bool.and_eq_true] at hw
    simp at h; exact weights_all hw.2 h
theorem Is2.get {φ : List LI} {cs : List GV} {vs : List Value} (h : Is2 φ cs vs) {j : Nat} {v : GV} (hj : cs[j]? = some v) : ∃ x, vs[j]? = some x ∧ v.is φ x := All2.get h hj
set_option maxRecDepth 100000 in
/-- a slice of pages -/
theorem open_pages {fuel : Nat} {cs : List Value} {x : DataW Hh × List MemPlace} (h : DataW.trod enc Try.prog W 0 (fun _ => true) held fuel 22 cs = some x) (hz : ∀ v ∈ cs, Zc W v) (hw : (DataW.weights Try.prog 22 x.1).all (· ≤ reachBytes) = true)
    {φ : List LI} {H : Hp} (hr : RepH φ H W) (hn : NoOwn H) :
    ∃ φ' H' a n ps T v, cs = [v] ∧ φ <+: φ' ∧ H <+: H' ∧ RepH φ' H' W ∧ NoOwn H' ∧ GV.is φ' (.sl a n 5) v ∧ Tr H' a n ps T ∧ n * 80 ≤ 140737488351232 := by
  have h5 : Try.prog.cellsOf 34 = 5 := by kernel_rfl
  rcases DataW.trod_slice Try.underlying22 h with ⟨rfl, rfl⟩ | ⟨a, len, cap, elems, rest, n, rfl, rfl, rfl, _, hl, hcap, hel, hi, hrest, _⟩
  · exact ⟨φ, H, none, 0, [], [], _, rfl, List.prefix_refl _, List.prefix_refl _, hr, hn, ⟨rfl, rfl⟩, ⟨rfl, rfl, rfl, fun i h1 => (by simp at h1)⟩, by omega⟩
  rw [h5] at hi hrest
  obtain ⟨hrl, hrj⟩ := hrest rfl
  simp only [DataW.weights, Try.underlying22] at hw
  rw [List.all_cons, List.all_append, Bool.and_eq_true, Bool.and_eq_true] at hw
  obtain ⟨hw0, hw1, _⟩ := hw
  have hpos : 0 < W.heap.size := hz (.slice (some a) len cap) (List.mem_singleton.2 rfl) _ _ _ rfl
  -- the first cell
  have hsp : 0 < cap → a.spot = none ∧ a.block < W.heap.size := by
    intro h0
    have hb : ∃ cs0, W.cells? 0 (a.add 0) 5 = some cs0 := by
      rcases Nat.eq_zero_or_pos len with e | e
      · have := hrj 0 (by omega)
        rw [e] at this
        simp only [Nat.zero_add, Nat.zero_mul] at this
        rw [List.getElem?_eq_getElem (by omega)] at this
        cases hc : W.cells? 0 (a.add 0) 5 with
        | none => rw [hc] at this; cases this
        | some c => exact ⟨c, rfl⟩
      · have := hi 0 e
        simp only [Nat.zero_mul] at this
        rw [List.getElem?_eq_getElem (by omega)] at this
        cases hc : W.cells? 0 (a.add 0) 5 with
        | none => rw [hc] at this; cases this
        | some c => exact ⟨c, rfl⟩
    obtain ⟨c0, hc0⟩ := hb
    obtain ⟨_, hlen, hget⟩ := World.cells?_some hc0
    have := hget 0 (by omega)
    rw [List.getElem?_eq_getElem (by omega)] at this
    have := cell_lt this
    simpa [Addr.add] using this
  -- one page behind the other
  have key : ∀ k, k ≤ len → ∃ (φ' : List LI) (H' : Hp) (ps : List PC) (T : List Pg), φ <+: φ' ∧ H <+: H' ∧ RepH φ' H' W ∧ NoOwn H' ∧ ps.length = k ∧ T.length = k ∧ (∀ i (h : i < ps.length) (h' : i < T.length), (ps[i]).at H' T[i]) ∧
      ∀ j v, (pcells ps)[j]? = some v → ∃ x, W.cell? (a.add j) = some x ∧ v.is φ' x := by
    intro k
    induction k with
    | zero => intro _; exact ⟨φ, H, [], [], List.prefix_refl _, List.prefix_refl _, hr, hn, rfl, rfl, fun i h1 => (by simp at h1), fun j v hj => (by simp [pcells] at hj)⟩
    | succ k ih =>
      intro hk
      obtain ⟨φ1, H1, ps, T, e1, g1, r1, n1, l1, l2, at1, c1⟩ := ih (by omega)
      have hik := hi k (by omega)
      have hel' : k < elems.length := by omega
      rw [List.getElem?_eq_getElem hel'] at hik
      cases hc : W.cells? 0 (a.add (k * 5)) 5 with
      | none => rw [hc] at hik; cases hik
      | some ck =>
        rw [hc] at hik
        obtain ⟨_, hlen, hget⟩ := World.cells?_some hc
        obtain ⟨φ2, H2, u, l, a1, n1', a2, n2, a3, n3, p, e2, g2, r2, n2', is2, at2⟩ := open_pg (x := elems[k]) hik (fun v hv => by intro _ _ _ _; exact hpos) (weights_all hw1 (i := k) (by rw [List.getElem?_map, List.getElem?_eq_getElem hel']; rfl)) r1 n1
        obtain ⟨hs, hb⟩ := hsp (by omega)
        refine ⟨φ2, H2, ps ++ [⟨u, l, a1, n1', a2, n2, a3, n3⟩], T ++ [p], e1.trans e2, g1.trans g2, r2, n2', by simp [l1], by simp [l2], ?_, ?_⟩
        · intro i h1 h2
          rw [List.getElem_append, List.getElem_append]
          by_cases e : i < k
          · rw [dif_pos (by omega), dif_pos (by omega)]
            exact (at1 i (by omega) (by omega)).mono g2
          · rw [dif_neg (by omega), dif_neg (by omega)]
            simpa [PC.at] using at2
        · intro j v hj
          rw [pcells_append] at hj
          rcases Nat.lt_or_ge j (k * 5) with q | q
          · rw [List.getElem?_append_left (by rw [pcells_length]; omega)] at hj
            obtain ⟨x, x1, x2⟩ := c1 j v hj
            exact ⟨x, x1, GV.is.mono e2 x2⟩
          · rw [List.getElem?_append_right (by rw [pcells_length]; omega), pcells_length, l1] at hj
            have hj5 : j - k * 5 < 5 := by have := (List.getElem?_eq_some_iff.1 hj).1; simpa [pcells] using this
            obtain ⟨x, hx, hvx⟩ := Is2.get is2 (j := j - k * 5) (v := v) (by simpa [pcells, PC.cells] using hj)
            refine ⟨x, ?_, hvx⟩
            have := hget (j - k * 5) hj5
            rw [hx] at this
            rw [← this, add_none hs, add_none hs]
            rw [add_none rfl]
            congr 2
            show a.off + j = a.off + k * 5 + (j - k * 5)
            omega
  obtain ⟨φ1, H1, ps, T, e1, g1, r1, n1, l1, l2, at1, c1⟩ := key len (Nat.le_refl _)
  obtain ⟨φ2, H2, p, e2, g2, r2, n2, i2, s2⟩ := open_row (z := 5) r1 n1 hl hpos hsp (pcells ps) (by rw [pcells_length, l1]) c1
  refine ⟨φ2, H2, p, len, ps, T, _, rfl, e1.trans e2, g1.trans g2, r2, n2, i2, ⟨s2, l1, l2, fun i h1 h2 => (at1 i h1 h2).mono g2⟩, ?_⟩
  have hb : Try.prog.bytesOf 34 = 80 := by kernel_rfl
  simp only [decide_eq_true_eq, List.length_map, hb, hel] at hw0
  unfold reachBytes at hw0
  omega
set_option maxRecDepth 100000 in
/-- a tree -/
theorem open_tree {fuel : Nat} {cs : List Value} {x : DataW Hh × List MemPlace} (h : DataW.trod enc Try.prog W 0 (fun _ => true) held fuel 24 cs = some x) (hz : ∀ v ∈ cs, Zc W v) (hw : (DataW.weights Try.prog 24 x.1).all (· ≤ reachBytes) = true)
    {φ : List LI} {H : Hp} (hr : RepH φ H W) (hn : NoOwn H) :
    ∃ φ' H' a n ps T, φ <+: φ' ∧ H <+: H' ∧ RepH φ' H' W ∧ NoOwn H' ∧ Is2 φ' [.sl a n 5] cs ∧ Tr H' a n ps T ∧ n * 80 ≤ 140737488351232 := by
  obtain ⟨xs, n, rfl, rfl, hlen, hxs, hf⟩ := DataW.trod_struct Try.underlying24 h
  have h1 : Try.prog.cellsOf 24 = 1 := by kernel_rfl
  have c1 : Try.prog.cellsOf 22 = 1 := by kernel_rfl
  rw [h1] at hlen
  match cs, hlen with
  | [v0], _ =>
    have f0 : DataW.trod enc Try.prog W 0 (fun _ => true) held n 22 (([v0].drop 0).take (Try.prog.cellsOf 22)) = xs[0]? := hf 0 _ rfl
    simp only [c1, List.drop_zero, List.take_succ_cons, List.take_zero] at f0
    match xs, hxs with
    | [x0], _ =>
      simp only [List.getElem?_cons_zero] at f0
      simp only [List.map_cons, List.map_nil, DataW.weights, Try.underlying24] at hw
      obtain ⟨φ1, H1, a, m, ps, T, v, e, p1, q1, r1, o1, i1, s1, b1⟩ := open_pages f0 (fun v hv => hz v hv) (all_each hw (j := 0) rfl rfl) hr hn
      simp only [List.cons.injEq, and_true] at e
      subst e
      exact ⟨φ1, H1, a, m, ps, T, p1, q1, r1, o1, .cons i1 .nil, s1, b1⟩
end
end Go.Am
