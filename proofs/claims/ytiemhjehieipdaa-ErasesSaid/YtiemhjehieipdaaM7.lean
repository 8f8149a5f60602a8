import Derived.Test.YtiemhjehieipdaaM6
set_option linter.unusedVariables false
set_option linter.unusedSimpArgs false
namespace Go.Am

section
variable {B H H' : Hp} {le tp : Nat} {ds : List PC} {T : List Pg} {X : Nat → Prop} {a j x y : Nat} {p px py : Pg} {Q : Post}
theorem CM.cells (g : CM B H le tp ds T X) {i : Nat} (hi : i < ds.length) : gt H tp (0 + i * 5) = some (.bool ds[i].u) ∧ gt H tp (0 + i * 5 + 1) = some (.bool ds[i].l) ∧ gt H tp (0 + i * 5 + 2) = some (.sl ds[i].a1 ds[i].n1 1) ∧ gt H tp (0 + i * 5 + 3) = some (.sl ds[i].a2 ds[i].n2 1) ∧ gt H tp (0 + i * 5 + 4) = some (.sl ds[i].a3 ds[i].n3 1) := by
  rw [Nat.zero_add]
  exact ⟨g.ot.gt hi (j := 0) (by omega), g.ot.gt hi (j := 1) (by omega), g.ot.gt hi (j := 2) (by omega), g.ot.gt hi (j := 3) (by omega), g.ot.gt hi (j := 4) (by omega)⟩
theorem small_join {s : ByteArray} (h1 : small px) (h2 : small py) (hs : s.size ≤ 1000) (hk : px.keys.length + py.keys.length + 1 ≤ 1000) (hv : px.vals.length + py.vals.length ≤ 1000) (hi : px.kids.length + py.kids.length ≤ 1000) : small (joinP px s py) := by
  refine ⟨fun k hk' => ?_, fun v hv' => ?_, ?_, by show (px.vals ++ py.vals).length ≤ 1000; simp; omega, by show (px.kids ++ py.kids).length ≤ 1000; simp; omega⟩
  · unfold joinP at hk'
    cases e : px.leaf with
    | true =>
      rw [e] at hk'
      rcases List.mem_append.1 hk' with q | q
      · exact h1.1 k q
      · exact h2.1 k q
    | false =>
      rw [e] at hk'
      simp only [List.mem_append, List.mem_singleton] at hk'
      rcases hk' with (q | q) | q
      · exact h1.1 k q
      · rw [q]; exact hs
      · exact h2.1 k q
  · rcases List.mem_append.1 hv' with q | q
    · exact h1.2.1 v q
    · exact h2.2.1 v q
  · unfold joinP
    cases px.leaf <;> simp <;> omega
set_option maxRecDepth 100000 in
theorem mend_spec (g : CM B H le tp ds T X) (ha : a < 48) (hp : T[a]? = some p) (hXa : X a) (hl : p.kids.length = p.keys.length + 1) (hj : j < p.keys.length) (hr : ∀ k ∈ p.kids, 1 ≤ k ∧ k < 48) (hsm : small p)
    (ex : x = (p.kids[j]'(by omega)).toNat) (ey : y = (p.kids[j + 1]'(by omega)).toNat) (hxa : x ≠ a) (hya : y ≠ a) (hxy : x ≠ y) (hpx : T[x]? = some px) (hpy : T[y]? = some py) (mx : MayP px) (my : MayP py)
    (hb : ¬ CanJoin px p.keys[j] py → FitsP (joinP px p.keys[j] py) ∧ 2 ≤ (joinP px p.keys[j] py).keys.length)
    (hQ1 : CanJoin px p.keys[j] py → ∀ H' ds', CM B H' le tp ds' (((T.set x (joinP px p.keys[j] py)).set y noPg).set a ⟨p.used, p.leaf, p.keys.eraseIdx j, p.vals, p.kids.eraseIdx (j + 1)⟩) (fun i => i ≠ a ∧ i ≠ y ∧ i ≠ x ∧ X i) → Q (.tup []) H')
    (hQ2 : ¬ CanJoin px p.keys[j] py → ∀ (hk : (joinP px p.keys[j] py).keys.length / 2 < (joinP px p.keys[j] py).keys.length) H' ds', CM B H' le tp ds' (((T.set x (cutL (joinP px p.keys[j] py) ((joinP px p.keys[j] py).keys.length / 2))).set a ⟨p.used, p.leaf, p.keys.set j (joinP px p.keys[j] py).keys[(joinP px p.keys[j] py).keys.length / 2], p.vals, p.kids⟩).set y (cutR (joinP px p.keys[j] py) ((joinP px p.keys[j] py).keys.length / 2))) (fun i => i ≠ y ∧ i ≠ a ∧ i ≠ x ∧ X i) → Q (.tup []) H') :
    erase_eraser_mend [.g (.ptr (some (le, 0))), .g (.ptr (some (tp, 0 + a * 5))), .g (.int .i64 (j : Int))] H Q := by
  have q1 := g.ot.len
  have q2 := g.ot.lenT
  have hx48 : x < 48 := by have := (List.getElem?_eq_some_iff.1 hpx).1; omega
  have hy48 : y < 48 := by have := (List.getElem?_eq_some_iff.1 hpy).1; omega
  have eTa : T[a]'(by omega) = p := (List.getElem?_eq_some_iff.1 hp).2
  have eTx : T[x]'(by omega) = px := (List.getElem?_eq_some_iff.1 hpx).2
  have eTy : T[y]'(by omega) = py := (List.getElem?_eq_some_iff.1 hpy).2
  obtain ⟨a0, a1, a2, a3, a4⟩ := g.cells (i := a) (by omega)
  obtain ⟨x0, x1, x2, x3, x4⟩ := g.cells (i := x) (by omega)
  obtain ⟨y0, y1, y2, y3, y4⟩ := g.cells (i := y) (by omega)
  have at_a := g.ot.all a (by omega) (by omega)
  have at_x := g.ot.all x (by omega) (by omega)
  have at_y := g.ot.all y (by omega) (by omega)
  rw [eTa] at at_a
  rw [eTx] at at_x
  rw [eTy] at at_y
  have smx := small_may mx
  have smy := small_may my
  have s3 := hsm.2.2.1
  have etx : tN (p.kids[j]'(by omega)) = x := ex.symm
  have ety : tN (p.kids[j + 1]'(by omega)) = y := ey.symm
  have rx := hr _ (List.getElem_mem (show j < p.kids.length by omega))
  have ry := hr _ (List.getElem_mem (show j + 1 < p.kids.length by omega))
  refine ⟨1, ?_⟩
  rw [erase_eraser_mend_eq, pS_some, rd_of a4, dL_sl, chk_true, at_a.kids.rd j rfl (by omega), pS_some, rd_of a4, dL_sl, chk_true, at_a.kids.rd (j + 1) (wrap_succ (by omega)) (by omega)]
  rw [pS_some, Nat.add_zero, rd_of g.gtE, dL_sl, chk_true]
  refine chk_of (by simp; omega) ?_
  rw [pS_some, etx, rdPage_of x0 x1 x2 x3 x4, pS_some, rd_of a2, dL_sl, chk_true, at_a.keys.rd j rfl hj, pS_some, Nat.add_zero, rd_of g.gtE, dL_sl, chk_true]
  refine chk_of (by simp; omega) ?_
  rw [pS_some, ety, rdPage_of y0 y1 y2 y3 y4]
  refine node_Join_spec at_x at_y (fun hn H1 p1 => ?_) (fun hc ju jl ja1 jn1 ja2 jn2 ja3 jn3 H1 p1 oj => ?_)
  rotate_left
  · simp only [rT_tup, uR_cons, rC_a, uC_cons, dB_bool, dL_sl, uN_nil, rS_s, dI_int, uE_nil]
    rw [bite_t (by decide)]
    have g1 := g.mono p1
    simp only [pS_some, Nat.add_zero]
    rw [rd_of g1.gtE, dL_sl, rd_of g1.gtE, dL_sl, chk_true]
    refine chk_of (by simp; omega) ?_
    have fresh : ∀ m, (⟨ju, jl, ja1, jn1, ja2, jn2, ja3, jn3⟩ : PC).on m → H.length ≤ m := oj.fresh
    have hlt := (List.getElem?_eq_some_iff.1 g.er).1
    have htp := (List.getElem?_eq_some_iff.1 g.ot.at_row.2).1
    refine g1.lay (i := x) (c := ⟨ju, jl, ja1, jn1, ja2, jn2, ja3, jn3⟩) (p := joinP px p.keys[j] py) (by omega) oj.at ((oj.pc.wo oj.at (small_may hc.2.2.2)).base g.pre.length_le) (fun l hl => ?_) fun H2 g2 l2 k2 => ?_
    · have := fresh l hl
      have := g.pre.length_le
      exact ⟨by omega, by omega, by omega, fun i hi _ hl' => by have := g.ot.onlt (List.getElem_mem hi) hl'; omega⟩
    rw [chk_true]
    refine chk_of (by simp; omega) ?_
    refine g2.lay (i := y) (c := ⟨false, false, none, 0, none, 0, none, 0⟩) (p := noPg) (by simp; omega) (no_at _) (no_wo _ _ _) (fun l hl => (no_on hl).elim) fun H3 g3 l3 k3 => ?_
    have hTa : (((T.set x (joinP px p.keys[j] py)).set y noPg)[a]'(by simp; omega)) = p := by rw [List.getElem_set_ne hya, List.getElem_set_ne hxa]; exact eTa
    refine g3.delInner (i := a) (s := j) (by simp; omega) (by simp; omega) ⟨Ne.symm hya, Ne.symm hxa, hXa⟩ (by rw [hTa]; exact hj) (by rw [hTa]; exact hl) (by rw [hTa]; exact hsm) fun H4 ds4 g4 => ?_
    rw [hTa] at g4
    exact hQ1 hc H4 ds4 g4
  · simp only [rT_tup, uR_cons, rC_a, uC_cons, dB_bool, dL_sl, uN_nil, rS_s, dI_int, uE_nil]
    rw [bite_f (by decide)]
    have g1 := g.mono p1
    obtain ⟨a0, a1, a2, a3, a4⟩ := g1.cells (i := a) (by omega)
    obtain ⟨x0, x1, x2, x3, x4⟩ := g1.cells (i := x) (by omega)
    obtain ⟨y0, y1, y2, y3, y4⟩ := g1.cells (i := y) (by omega)
    rw [pS_some, Nat.add_zero, rd_of g1.gtE, dL_sl, chk_true]
    refine chk_of (by simp; omega) ?_
    rw [pS_some, rdPage_of x0 x1 x2 x3 x4, pS_some, rd_of a2, dL_sl, chk_true, (at_a.mono p1).keys.rd j rfl hj, pS_some, Nat.add_zero, rd_of g1.gtE, dL_sl, chk_true]
    refine chk_of (by simp; omega) ?_
    rw [pS_some, rdPage_of y0 y1 y2 y3 y4]
    refine node_Both_spec (at_x.mono p1) (at_y.mono p1) (may_small at_x mx) (may_small at_y my) fun bu bl ba1 bn1 ba2 bn2 ba3 bn3 H2 p2 ob => ?_
    simp only [rA_agg, uC_cons, dB_bool, dL_sl, uN_nil]
    have g2 := g1.mono p2
    obtain ⟨a0, a1, a2, a3, a4⟩ := g2.cells (i := a) (by omega)
    rw [pS_some, Nat.add_zero, rd_of g2.gtE, dL_sl, pS_some, rd_of a2, dL_sl, pS_some, Nat.add_zero, rd_of g2.gtE, dL_sl]
    obtain ⟨hf, hk2⟩ := hb hn
    have eb1 := ob.at.keys.len
    obtain ⟨mk4, mkf⟩ := mx
    obtain ⟨nk4, nkf⟩ := my
    have kx := kids_le ⟨mk4, mkf⟩
    have ky := kids_le ⟨nk4, nkf⟩
    have vx : px.vals.length ≤ 4 := by
      cases e : px.leaf with
      | true => have := (mkf.leaf e).1; omega
      | false => rw [(mkf.inner e).2.1]; simp
    have vy : py.vals.length ≤ 4 := by
      cases e : py.leaf with
      | true => have := (nkf.leaf e).1; omega
      | false => rw [(nkf.inner e).2.1]; simp
    have smj : small (joinP px p.keys[j] py) := small_join smx smy (hsm.1 _ (List.getElem_mem hj)) (by omega) (by omega) (by omega)
    have hk : (joinP px p.keys[j] py).keys.length / 2 < (joinP px p.keys[j] py).keys.length := by omega
    have ediv : wrapI .i64 (Int.tdiv (nI bn1) 2) = (((joinP px p.keys[j] py).keys.length / 2 : Nat) : Int) := by
      have : Int.tdiv (nI bn1) 2 = (((joinP px p.keys[j] py).keys.length / 2 : Nat) : Int) := by rw [eb1]; rfl
      rw [this]
      have := smj.2.2.1
      exact wrap64 (by omega) (by omega)
    rw [ediv]
    refine node_Cut_at ob.at smj hk (fun e => (hf.leaf e).1) (fun e => (hf.inner e).2.2.1) fun c d H3 p3 hc hd wc wd oc od => ?_
    simp only [rT_tup, uR_cons, rC_a, uC_cons, dB_bool, dL_sl, uN_nil, rS_s, dS_str, uE_nil]
    have g3 := g2.mono p3
    obtain ⟨a0, a1, a2, a3, a4⟩ := g3.cells (i := a) (by omega)
    rw [Nat.add_zero, rd_of g3.gtE, dL_sl]
    refine ⟨rfl, ?_⟩
    rw [rd_of a2, dL_sl]
    refine ⟨rfl, ?_⟩
    rw [rd_of g3.gtE, dL_sl]
    refine ⟨rfl, ?_⟩
    rw [chk_true]
    refine chk_of (by simp; omega) ?_
    have l2 := (p1.trans p2).length_le
    have hlt := (List.getElem?_eq_some_iff.1 g2.er).1
    have htp := (List.getElem?_eq_some_iff.1 g2.ot.at_row.2).1
    have hbl := g2.pre.length_le
    rw [pS_some]
    refine g3.lay (i := x) (c := c) (p := cutL (joinP px p.keys[j] py) ((joinP px p.keys[j] py).keys.length / 2)) (by omega) hc (wc.base hbl) (fun l hl => ?_) fun H4 g4 l4 k4 => ?_
    · have := (oc l hl).1
      exact ⟨by omega, by omega, by omega, fun i hi _ hl' => by have := g2.ot.onlt (List.getElem_mem hi) hl'; omega⟩
    rw [chk_true]
    refine chk_of (by simp; have := at_a.keys.len; omega) ?_
    have hTa : ((T.set x (cutL (joinP px p.keys[j] py) ((joinP px p.keys[j] py).keys.length / 2)))[a]'(by simp; omega)) = p := by rw [List.getElem_set_ne hxa]; exact eTa
    have hDa : ((ds.set x c)[a]'(by simp; omega)) = ds[a]'(by omega) := by rw [List.getElem_set_ne hxa]
    obtain ⟨lk, e1, hw⟩ := g4.setKey (i := a) (s := j) (k := (joinP px p.keys[j] py).keys[(joinP px p.keys[j] py).keys.length / 2]) (by simp; omega) (by simp; omega) ⟨Ne.symm hxa, hXa⟩ (by rw [hTa]; exact hj) (by rw [hTa]; exact hsm) (smj.1 _ (List.getElem_mem hk)) (K := fun H5 => chk true
      (chk (leI 0 (p.kids[j + 1]'(by omega)) && ltI (p.kids[j + 1]'(by omega)) (nI 48))
        (pS (some (tp, 0)) fun n301 n302 =>
          wr H5 n301 (n302 + ((y) * 5)) (.bool d.u) fun H303 =>
          wr H303 n301 ((n302 + ((y) * 5)) + 1) (.bool d.l) fun H304 =>
          wr H304 n301 (((n302 + ((y) * 5)) + 1) + 1) (.sl d.a1 d.n1 1) fun H305 =>
          wr H305 n301 ((((n302 + ((y) * 5)) + 1) + 1) + 1) (.sl d.a2 d.n2 1) fun H306 =>
          wr H306 n301 (((((n302 + ((y) * 5)) + 1) + 1) + 1) + 1) (.sl d.a3 d.n3 1) fun H307 =>
          Q (.tup []) H307))) (fun H5 g5 l5 k5 => by
        rw [hTa] at g5
        rw [chk_true]
        refine chk_of (by simp; omega) ?_
        rw [pS_some]
        have hl3 := p3.length_le
        rw [hDa] at k5
        have old : ∀ l o, (ds[a]'(by omega)).a1 = some (l, o) → l < H2.length := fun l o e => g2.ot.onlt (List.getElem_mem (by omega : a < ds.length)) ⟨o, .inl e⟩
        have same : ∀ l, d.on l → H5[l]? = H3[l]? := fun l hl => by
          have := od l hl
          rw [k5 l (fun o e => by have := old l o e; omega), k4 l (by omega)]
        refine g5.lay (i := y) (c := d) (p := cutR (joinP px p.keys[j] py) ((joinP px p.keys[j] py).keys.length / 2)) (by simp; omega) (hd.keep same) ((wd.base hbl).keepOn same) (fun l hl => ?_) fun H6 g6 l6 k6 => hQ2 hn hk H6 _ g6
        have hl' := od l hl
        refine ⟨by omega, by omega, by omega, fun i hi hne hon => ?_⟩
        rw [List.getElem_set] at hon
        by_cases e : x = i
        · rw [if_pos e] at hon; exact (oc l hon).2 hl
        · rw [if_neg e] at hon
          have := g2.ot.onlt (List.getElem_mem (by simpa using hi)) hon
          omega)
    rw [hDa] at e1
    rw [e1, pS_some]
    have ez : 0 + tN (j : Int) * 1 = j := by rw [Nat.zero_add, Nat.mul_one]; rfl
    rw [ez]
    exact hw
end
end Go.Am
namespace Go.Am

section
variable {B : Hp} {le tp : Nat} {key : ByteArray}
theorem mnI_min {a b : Nat} : mnI (a : Int) (b : Int) = ((min a b : Nat) : Int) := by simp [mnI]; split <;> omega
set_option maxRecDepth 100000 in
theorem drop_spec : ∀ (d : Nat) {H : Hp} {ds : List PC} {T : List Pg} {X : Nat → Prop} {a : Nat} {P : List Nat} {ps : KV} {Q : Post}, CM B H le tp ds T X → Sub T d a P ps → P.Nodup → (∀ i ∈ P, X i) → (∃ e ∈ ps, e.1 = key) → a < 48 →
    (hXQ : ∀ H' ds' T' X' P', CM B H' le tp ds' T' X' → Dr2 T T' d a P P' (delK ps key) → (∀ i, i ∉ P → X i → X' i) → Q (.tup []) H') →
    erase_eraser_drop.at d [.g (.ptr (some (le, 0))), .g (.int .i64 (a : Int)), .g (.str key)] H Q
  | 0, H, ds, T, X, a, P, ps, Q, g, hS, _, _, _, _, _ => hS.elim
  | n + 1, H, ds, T, X, a, P, ps, Q, g, hS, hnd, hX, hkey, ha, hQ => by
    have q1 := g.ot.len
    have q2 := g.ot.lenT
    obtain ⟨p, hp⟩ := hS.get
    have hm := hS.may hp
    have eTa : T[a]'(by omega) = p := (List.getElem?_eq_some_iff.1 hp).2
    have at_a := g.ot.all a (by omega) (by omega)
    rw [eTa] at at_a
    obtain ⟨a0, a1, a2, a3, a4⟩ := g.cells (i := a) (by omega)
    have ea : tN (a : Int) = a := rfl
    have hsm := small_may hm
    refine ⟨1, ?_⟩
    rw [erase_eraser_drop_eq, pS_some, Nat.add_zero, rd_of g.gtE, dL_sl, chk_true]
    refine chk_of (by simp; omega) ?_
    rw [pS_some, ea, rd_of a1, dB_bool]
    have hlf := at_a.leaf
    cases hl : p.leaf with
    | true =>
      rw [bite_t (by rw [← hlf, hl])]
      obtain ⟨hb, hdr⟩ := drop_leaf hS hp hl hkey
      obtain ⟨hs, hk⟩ := slot_at hb
      obtain ⟨f1, f2, f3⟩ := hm.2.leaf hl
      rw [rd_of a2, dL_sl]
      refine node_Slot_spec at_a.keys ?_
      simp only [rT_tup, uR_cons, rS_s, dI_int, dB_bool, uE_nil]
      refine g.delLeaf (i := a) (s := slotN p.keys key) (by omega) (by omega) (hX a hS.head) (by rw [eTa]; exact hs) (by rw [eTa]; exact f1) (by rw [eTa]; exact hsm) fun H' ds' g' => ?_
      rw [eTa] at g'
      exact hQ H' ds' _ _ P g' hdr fun i hi hx => ⟨fun e => hi (by rw [e]; exact hS.head), hx⟩
    | false =>
      rw [bite_f (by rw [← hlf, hl])]
      obtain ⟨d, PA, psA, Pi, psi, PC, psC, ed, kd⟩ := kid_split (key := key) hS hp hl
      obtain rfl : n = d + 1 := by omega
      obtain ⟨f1, f2, f3, f4, f5⟩ := hm.2.inner hl
      obtain ⟨hin, hdel⟩ := kd.mem hkey
      have hnd' := hnd
      rw [kd.eP] at hnd'
      have n0 := List.nodup_cons.1 hnd'
      have n1 := List.nodup_append.1 n0.2
      have n2 := List.nodup_append.1 n1.2.1
      have hi := kd.hi
      have hm4 := hm.1
      have kr := f4 _ (List.getElem_mem hi)
      have ek : p.kids[kidN p.keys key] = (((p.kids[kidN p.keys key]).toNat : Nat) : Int) := by omega
      have inP : ∀ i ∈ Pi, i ∈ P := fun i h => by rw [kd.eP]; simp [h]
      have aPi : a ∉ Pi := fun h => n0.1 (by simp [h])
      refine find_Kid_spec (o := 0 + a * 5) a2 at_a.keys ?_
      simp only [rG_g, dI_int]
      rw [rd_of a4, dL_sl, chk_true, at_a.kids.rd _ rfl hi, ek]
      refine drop_spec (d + 1) g kd.kid.1 n2.1 (fun i h => hX i (inP i h)) hin (by omega) ?_
      intro H1 ds1 T1 X1 Pi' g1 dr hX1
      have r1 := g1.ot.len
      have r2 := g1.ot.lenT
      have hp1 : T1[a]? = some p := by rw [dr.out a aPi]; exact hp
      have eTa1 : T1[a]'(by omega) = p := (List.getElem?_eq_some_iff.1 hp1).2
      have at_a1 := g1.ot.all a (by omega) (by omega)
      rw [eTa1] at at_a1
      obtain ⟨b0, b1, b2, b3, b4⟩ := g1.cells (i := a) (by omega)
      -- the kid
      obtain ⟨c0, c1, hc0, hc1, hcl, hck, hcs⟩ := dr.pages
      obtain ⟨c0', hc0', hc2⟩ := kd.kid.2
      rw [hc0] at hc0'; cases hc0'
      have hk1 : 1 ≤ c1.keys.length := by omega
      have hsub : Sub T1 (d + 1) (p.kids[kidN p.keys key]).toNat Pi' (delK psi key) := by
        rcases hcs with h | ⟨_, h, _⟩
        · exact h
        · rw [h] at hk1; simp at hk1
      have hkk : (p.kids[kidN p.keys key]).toNat < 48 := by omega
      have eTk1 : T1[(p.kids[kidN p.keys key]).toNat]'(by omega) = c1 := (List.getElem?_eq_some_iff.1 hc1).2
      have at_k1 := g1.ot.all (p.kids[kidN p.keys key]).toNat (by omega) (by omega)
      rw [eTk1] at at_k1
      obtain ⟨k0, k1, k2, k3, k4⟩ := g1.cells (i := (p.kids[kidN p.keys key]).toNat) (by omega)
      have kk := kd.glue hnd dr.out hsub dr.sub (fun e he => delK_mem he) hc1 hk1
      have Qnd : (PA ++ (Pi' ++ PC)).Nodup := List.nodup_append.2 ⟨n1.1, List.nodup_append.2 ⟨dr.nd, n2.2.1, fun u hu v hv => n2.2.2 u (dr.sub u hu) v hv⟩, fun u hu v hv => n1.2.2 u hu v (by rcases List.mem_append.1 hv with z | z; simp [dr.sub v z]; simp [z])⟩
      have QP : ∀ i ∈ PA ++ (Pi' ++ PC), i ∈ PA ++ (Pi ++ PC) := fun i h => by
        simp only [List.mem_append] at h ⊢
        rcases h with z | z | z
        · exact .inl z
        · exact .inr (.inl (dr.sub i z))
        · exact .inr (.inr z)
      have aQ : a ∉ PA ++ (Pi' ++ PC) := fun h => n0.1 (QP a h)
      have goneQ : ∀ i ∈ P, i ≠ a → i ∉ PA ++ (Pi' ++ PC) → T1[i]? = some noPg ∧ True := fun i h hne hn => by
        rw [kd.eP] at h
        simp only [List.mem_append, not_or] at hn
        rcases List.mem_cons.1 h with z | z
        · exact (hne z).elim
        · simp only [List.mem_append] at z
          rcases z with z | z | z
          · exact (hn.1 z).elim
          · exact ⟨dr.gone i z hn.2.1, trivial⟩
          · exact (hn.2.2 z).elim
      have outP : ∀ i, i ∉ P → T1[i]? = T[i]? := fun i h => dr.out i fun z => h (inP i z)
      have X1a : X1 a := hX1 a aPi (hX a hS.head)
      have X1o : ∀ i, i ∉ P → X i → X1 i := fun i h hx => hX1 i (fun z => h (inP i z)) hx
      rw [pS_some, Nat.add_zero, rd_of g1.gtE, dL_sl, rd_of b4, dL_sl, chk_true, at_a1.kids.rd _ rfl hi, chk_true]
      refine chk_of (by simp; omega) ?_
      have etk : tN (p.kids[kidN p.keys key]) = (p.kids[kidN p.keys key]).toNat := rfl
      rw [pS_some, etk, rd_of k2, dL_sl]
      have ekl := at_k1.keys.len
      by_cases hshort : c1.keys.length < 2
      · rw [bite_t (by simp; omega), rd_of b2, dL_sl]
        have eal := at_a1.keys.len
        -- where it is mended
        have e1 : wrapI .i64 ((nI (ds1[a]'(by omega)).n1) - 1) = ((p.keys.length - 1 : Nat) : Int) := by
          have : (nI (ds1[a]'(by omega)).n1) - 1 = ((p.keys.length - 1 : Nat) : Int) := by rw [eal, nI_def]; omega
          rw [this]; exact wrap64 (by omega) (by omega)
        rw [e1, mnI_min]
        obtain ⟨j, hj, ej, hjs⟩ : ∃ j, ∃ hj : j < p.keys.length, min (kidN p.keys key) (p.keys.length - 1) = j ∧ ((p.kids[kidN p.keys key]).toNat = (p.kids[j]'(by omega)).toNat ∨ (p.kids[kidN p.keys key]).toNat = (p.kids[j + 1]'(by omega)).toNat) := by
          by_cases h : kidN p.keys key < p.keys.length
          · exact ⟨kidN p.keys key, h, by omega, .inl rfl⟩
          · have e : kidN p.keys key = p.keys.length - 1 + 1 := by omega
            refine ⟨p.keys.length - 1, by omega, by omega, .inr ?_⟩
            congr 1
            congr 1
        have hx48 : (p.kids[j]'(by omega)).toNat < 48 := by have := f4 _ (List.getElem_mem (show j < p.kids.length by omega)); omega
        have hy48 : (p.kids[j + 1]'(by omega)).toNat < 48 := by have := f4 _ (List.getElem_mem (show j + 1 < p.kids.length by omega)); omega
        have hpx : T1[(p.kids[j]'(by omega)).toNat]? = some (T1[(p.kids[j]'(by omega)).toNat]'(by omega)) := List.getElem?_eq_getElem _
        have hpy : T1[(p.kids[j + 1]'(by omega)).toNat]? = some (T1[(p.kids[j + 1]'(by omega)).toNat]'(by omega)) := List.getElem?_eq_getElem _
        generalize hgx : T1[(p.kids[j]'(by omega)).toNat]'(by omega) = px at hpx
        generalize hgy : T1[(p.kids[j + 1]'(by omega)).toNat]'(by omega) = py at hpy
        obtain ⟨_, _, PX, psX, PY, psY, _, _, pr⟩ := pair_split kk f3 hj Qnd hjs
        have mx := pr.kx.1.may hpx
        have my := pr.ky.1.may hpy
        have h11 : px.keys.length = 1 ∨ py.keys.length = 1 := by
          rcases hjs with z | z
          · rw [z, hpx] at hc1; cases hc1; exact .inl (by omega)
          · rw [z, hpy] at hc1; cases hc1; exact .inr (by omega)
        have MJ := fun T2 => mend_join (T2 := T2) kk hm hl Qnd hj (by omega) hjs hpx hpy
        obtain ⟨-, hf, hcan, hxy, hxQ, hyQ, -, -⟩ := MJ T1
        have hxa : (p.kids[j]'(by omega)).toNat ≠ a := fun e => aQ (by rw [← e]; exact hxQ)
        have hya : (p.kids[j + 1]'(by omega)).toNat ≠ a := fun e => aQ (by rw [← e]; exact hyQ)
        have hxP : (p.kids[j]'(by omega)).toNat ∈ P := by rw [kd.eP]; exact List.mem_cons_of_mem _ (QP _ hxQ)
        have hyP : (p.kids[j + 1]'(by omega)).toNat ∈ P := by rw [kd.eP]; exact List.mem_cons_of_mem _ (QP _ hyQ)
        have haP : a ∈ P := hS.head
        rw [ej]
        refine mend_spec g1 ha hp1 X1a f3 hj f4 hsm rfl rfl hxa hya hxy hpx hpy mx my (fun hn => ⟨hf, by have := mt hcan.2 hn; omega⟩) (fun hc H2 ds2 g2 => ?_) (fun hn hk H2 ds2 g2 => ?_)
        · obtain ⟨-, -, -, -, -, -, mj, -⟩ := MJ (((T1.set (p.kids[j]'(by omega)).toNat (joinP px p.keys[j] py)).set (p.kids[j + 1]'(by omega)).toNat noPg).set a ⟨p.used, p.leaf, p.keys.eraseIdx j, p.vals, p.kids.eraseIdx (j + 1)⟩)
          have l1 : (p.kids[j]'(by omega)).toNat < T1.length := by omega
          have l2 : (p.kids[j + 1]'(by omega)).toNat < T1.length := by omega
          have t2x : (((T1.set (p.kids[j]'(by omega)).toNat (joinP px p.keys[j] py)).set (p.kids[j + 1]'(by omega)).toNat noPg).set a ⟨p.used, p.leaf, p.keys.eraseIdx j, p.vals, p.kids.eraseIdx (j + 1)⟩)[(p.kids[j]'(by omega)).toNat]? = some (joinP px p.keys[j] py) := by
            rw [List.getElem?_set_ne (Ne.symm hxa), List.getElem?_set_ne (Ne.symm hxy), List.getElem?_set_self l1]
          have t2y : (((T1.set (p.kids[j]'(by omega)).toNat (joinP px p.keys[j] py)).set (p.kids[j + 1]'(by omega)).toNat noPg).set a ⟨p.used, p.leaf, p.keys.eraseIdx j, p.vals, p.kids.eraseIdx (j + 1)⟩)[(p.kids[j + 1]'(by omega)).toNat]? = some noPg := by
            rw [List.getElem?_set_ne (Ne.symm hya), List.getElem?_set_self (by simpa using l2)]
          have t2a : (((T1.set (p.kids[j]'(by omega)).toNat (joinP px p.keys[j] py)).set (p.kids[j + 1]'(by omega)).toNat noPg).set a ⟨p.used, p.leaf, p.keys.eraseIdx j, p.vals, p.kids.eraseIdx (j + 1)⟩)[a]? = some ⟨p.used, p.leaf, p.keys.eraseIdx j, p.vals, p.kids.eraseIdx (j + 1)⟩ := List.getElem?_set_self (by simp; omega)
          have t2o : ∀ i, i ≠ (p.kids[j]'(by omega)).toNat → i ≠ (p.kids[j + 1]'(by omega)).toNat → i ≠ a → (((T1.set (p.kids[j]'(by omega)).toNat (joinP px p.keys[j] py)).set (p.kids[j + 1]'(by omega)).toNat noPg).set a ⟨p.used, p.leaf, p.keys.eraseIdx j, p.vals, p.kids.eraseIdx (j + 1)⟩)[i]? = T1[i]? := fun i h1 h2 h3 => by
            rw [List.getElem?_set_ne (Ne.symm h3), List.getElem?_set_ne (Ne.symm h2), List.getElem?_set_ne (Ne.symm h1)]
          obtain ⟨Q', m1, m2, m3, m4⟩ := mj (hcan.1 hc) t2x fun i h h1 h2 => t2o i h1 h2 fun e => aQ (by rw [← e]; exact h)
          refine hQ H2 ds2 _ _ (a :: Q') g2 ⟨by simp [dr.len], fun i h => ?_, List.nodup_cons.2 ⟨fun h => aQ (m2 a h), m1⟩, fun i h => ?_, fun i h h' => ?_, p, _, hp, t2a, rfl, ?_, ?_⟩ fun i h hx => ⟨fun e => h (by rw [e]; exact haP), fun e => h (by rw [e]; exact hyP), fun e => h (by rw [e]; exact hxP), X1o i h hx⟩
          · rw [t2o i (fun e => h (by rw [e]; exact hxP)) (fun e => h (by rw [e]; exact hyP)) (fun e => h (by rw [e]; exact haP))]
            exact outP i h
          · rcases List.mem_cons.1 h with z | z
            · rw [z]; exact haP
            · rw [kd.eP]; exact List.mem_cons_of_mem _ (QP i (m2 i z))
          · simp only [List.mem_cons, not_or] at h'
            by_cases hq : i ∈ PA ++ (Pi' ++ PC)
            · rw [m3 i hq h'.2]; exact t2y
            · rw [t2o i (fun e => hq (by rw [e]; exact hxQ)) (fun e => hq (by rw [e]; exact hyQ)) h'.1]
              exact (goneQ i h h'.1 hq).1
          · show p.keys.length ≤ (p.keys.eraseIdx j).length + 1
            rw [List.length_eraseIdx, if_pos hj]; omega
          · rw [hdel]
            by_cases h2 : 2 ≤ p.keys.length
            · exact .inl ⟨_, t2a, inner_erase hm hl hj h2, .inr ⟨hl, Q', rfl, m4⟩⟩
            · have e0 : p.keys.eraseIdx j = [] := List.eq_nil_of_length_eq_zero (by rw [List.length_eraseIdx, if_pos hj]; omega)
              have e1 : (p.kids.eraseIdx (j + 1)).length = 1 := by rw [List.length_eraseIdx, if_pos (by omega)]; omega
              obtain ⟨k, hk⟩ := List.length_eq_one_iff.1 e1
              have one : ∀ {R : Nat → List Nat → KV → Prop} {ks : List Int} {ss : List ByteArray} {qs : KV}, ks = [k] → ss = [] → KidsR R ks ss Q' qs → R k.toNat Q' qs := fun h1 h2 h => by subst h1; subst h2; exact h.2
              have hkm := f4 k (mem_erase (by rw [hk]; simp))
              exact .inr ⟨hl, e0, k, Q', hkm.1, hkm.2, hk, rfl, one hk e0 m4⟩
        · obtain ⟨-, -, -, -, -, -, -, mc⟩ := MJ (((T1.set (p.kids[j]'(by omega)).toNat (cutL (joinP px p.keys[j] py) ((joinP px p.keys[j] py).keys.length / 2))).set a ⟨p.used, p.leaf, p.keys.set j (joinP px p.keys[j] py).keys[(joinP px p.keys[j] py).keys.length / 2], p.vals, p.kids⟩).set (p.kids[j + 1]'(by omega)).toNat (cutR (joinP px p.keys[j] py) ((joinP px p.keys[j] py).keys.length / 2)))
          have l1 : (p.kids[j]'(by omega)).toNat < T1.length := by omega
          have l2 : (p.kids[j + 1]'(by omega)).toNat < T1.length := by omega
          have h5 : 5 ≤ (joinP px p.keys[j] py).keys.length := by have := mt hcan.2 hn; omega
          obtain ⟨hk', -, -, hsz, mc⟩ := mc h5 h11
          have t2x := List.getElem?_set_ne (l := (T1.set (p.kids[j]'(by omega)).toNat (cutL (joinP px p.keys[j] py) ((joinP px p.keys[j] py).keys.length / 2))).set a ⟨p.used, p.leaf, p.keys.set j (joinP px p.keys[j] py).keys[(joinP px p.keys[j] py).keys.length / 2], p.vals, p.kids⟩) (a := cutR (joinP px p.keys[j] py) ((joinP px p.keys[j] py).keys.length / 2)) (Ne.symm hxy)
          rw [List.getElem?_set_ne (Ne.symm hxa), List.getElem?_set_self l1] at t2x
          have t2y := List.getElem?_set_self (l := (T1.set (p.kids[j]'(by omega)).toNat (cutL (joinP px p.keys[j] py) ((joinP px p.keys[j] py).keys.length / 2))).set a ⟨p.used, p.leaf, p.keys.set j (joinP px p.keys[j] py).keys[(joinP px p.keys[j] py).keys.length / 2], p.vals, p.kids⟩) (i := (p.kids[j + 1]'(by omega)).toNat) (a := cutR (joinP px p.keys[j] py) ((joinP px p.keys[j] py).keys.length / 2)) (by simpa using l2)
          have t2a := List.getElem?_set_ne (l := (T1.set (p.kids[j]'(by omega)).toNat (cutL (joinP px p.keys[j] py) ((joinP px p.keys[j] py).keys.length / 2))).set a ⟨p.used, p.leaf, p.keys.set j (joinP px p.keys[j] py).keys[(joinP px p.keys[j] py).keys.length / 2], p.vals, p.kids⟩) (a := cutR (joinP px p.keys[j] py) ((joinP px p.keys[j] py).keys.length / 2)) hya
          rw [List.getElem?_set_self (by simp; omega)] at t2a
          have t2o : ∀ i, i ≠ (p.kids[j]'(by omega)).toNat → i ≠ (p.kids[j + 1]'(by omega)).toNat → i ≠ a → (((T1.set (p.kids[j]'(by omega)).toNat (cutL (joinP px p.keys[j] py) ((joinP px p.keys[j] py).keys.length / 2))).set a ⟨p.used, p.leaf, p.keys.set j (joinP px p.keys[j] py).keys[(joinP px p.keys[j] py).keys.length / 2], p.vals, p.kids⟩).set (p.kids[j + 1]'(by omega)).toNat (cutR (joinP px p.keys[j] py) ((joinP px p.keys[j] py).keys.length / 2)))[i]? = T1[i]? := fun i h1 h2 h3 => by
            rw [List.getElem?_set_ne (Ne.symm h2), List.getElem?_set_ne (Ne.symm h3), List.getElem?_set_ne (Ne.symm h1)]
          obtain ⟨Q', m1, m2, m3, m4⟩ := mc t2x t2y fun i h h1 h2 => t2o i h1 h2 fun e => aQ (by rw [← e]; exact h)
          refine hQ H2 ds2 _ _ (a :: Q') g2 ⟨by simp [dr.len], fun i h => ?_, List.nodup_cons.2 ⟨fun h => aQ ((m2 a).1 h), m1⟩, fun i h => ?_, fun i h h' => ?_, p, _, hp, t2a, rfl, ?_, .inl ?_⟩ fun i h hx => ⟨fun e => h (by rw [e]; exact hyP), fun e => h (by rw [e]; exact haP), fun e => h (by rw [e]; exact hxP), X1o i h hx⟩
          · rw [t2o i (fun e => h (by rw [e]; exact hxP)) (fun e => h (by rw [e]; exact hyP)) (fun e => h (by rw [e]; exact haP))]
            exact outP i h
          · rcases List.mem_cons.1 h with z | z
            · rw [z]; exact haP
            · rw [kd.eP]; exact List.mem_cons_of_mem _ (QP i ((m2 i).1 z))
          · simp only [List.mem_cons, not_or] at h'
            have hq : i ∉ PA ++ (Pi' ++ PC) := fun z => h'.2 ((m2 i).2 z)
            rw [t2o i (fun e => hq (by rw [e]; exact hxQ)) (fun e => hq (by rw [e]; exact hyQ)) h'.1]
            exact (goneQ i h h'.1 hq).1
          · show p.keys.length ≤ (p.keys.set j _).length + 1
            simp
          · rw [hdel]
            exact ⟨_, t2a, inner_set hm hl hsz m4, .inr ⟨hl, Q', rfl, m3⟩⟩
      · rw [bite_f (by simp; omega)]
        refine hQ H1 ds1 T1 X1 (a :: (PA ++ (Pi' ++ PC))) g1 ⟨dr.len, outP, List.nodup_cons.2 ⟨aQ, Qnd⟩, fun i h => ?_, fun i h h' => ?_, p, p, hp, hp1, rfl, by omega, .inl ?_⟩ X1o
        · rcases List.mem_cons.1 h with z | z
          · rw [z]; exact hS.head
          · rw [kd.eP]; exact List.mem_cons_of_mem _ (QP i z)
        · simp only [List.mem_cons, not_or] at h'
          exact (goneQ i h h'.1 h'.2).1
        · rw [hdel]
          exact ⟨p, hp1, hm, .inr ⟨hl, _, rfl, kk.noShort ⟨c1, hc1, by omega⟩⟩⟩
end
end Go.Am
namespace Go.Am

section
variable {H : Hp} {Q : Post} {a : Pl} {n : Nat} {T : List Pg} {cs : List Am.PC}
set_option maxRecDepth 100000 in
theorem sound_Copy_spec (hT : Tr H a n cs T) (hn : n * 80 ≤ 140737488351232) (hs : ∀ p ∈ T, small p) (hQ : ∀ a' ds H', CT H H' tPg a' n ds T → Q (.agg [.sl a' n 5]) H') : sound_Copy [.agg [.sl a n 5]] H Q := by
  have hlT := hT.lenT
  have loop : ∀ (f k : Nat) (a' : Pl) (ds : List Am.PC) (H' : Hp), n - k < f → k ≤ n → CT H H' tPg a' k ds (T.take k) → sound_Copy.l3 f none 0 a' k a n (nI n) (k : Int) H' Q := by
    intro f
    induction f with
    | zero => intro k _ _ _ h; omega
    | succ f ih =>
      intro k a' ds H' hf hk g
      have hp := g.pre
      rw [sound_Copy.l3_eq]
      by_cases hkn : k < n
      · obtain ⟨l, o, c, p, rfl, hc, hpp, hpc, g0, g1, g2, g3, g4⟩ := (hT.mono hp).get hkn
        have etN : tN (k : Int) = k := rfl
        rw [bite_t (by simp; omega), chk_true]
        refine chk_of (by simp; omega) ?_
        rw [pS_some, etN, rdPage_of g0 g1 g2 g3 g4]
        have hsp := hs p (List.mem_of_getElem? hpp)
        obtain ⟨s1, s2, s3, s4, s5⟩ := hsp
        have e1 := hpc.keys.len
        have e2 := hpc.vals.len
        have e3 := hpc.kids.len
        refine page_Copy_spec hpc (by omega) fun b1 b2 b3 H2 p2 o2 => ?_
        simp only [rA_agg, uC_cons, dB_bool, dL_sl, uN_nil]
        rw [chk_true]
        have hTk : T.take k ++ [p] = T.take (k + 1) := by rw [List.take_add_one, hpp]; rfl
        refine g.add (d := ⟨c.u, c.l, b1, c.n1, b2, c.n2, b3, c.n3⟩) p2 o2.at o2.pc o2.fresh (by unfold Lim; have := Nat.mul_le_mul_right 80 (show k + 1 ≤ n by omega); omega) fun a'' H3 g3 => ?_
        rw [hTk] at g3
        rw [wrap_succ (by omega)]
        exact ih (k + 1) a'' _ H3 (by omega) (by omega) g3
      · obtain rfl : k = n := by omega
        rw [bite_f (by simp)]
        rw [List.take_of_length_le (by omega)] at g
        exact hQ a' ds H' g
  refine ⟨n + 2, ?_⟩
  rw [sound_Copy_eq]
  exact loop (n + 1) 0 none [] H (by omega) (Nat.zero_le _) (CT.nil H tPg)

theorem CT.cm {B H : Hp} {a : Pl} {ds : List Am.PC} {T : List Pg} (g : CT B H tPg a 48 ds T) (hs : ∀ p ∈ T, small p) : ∃ tp, a = some (tp, 0) ∧ CM B (H ++ [.row true tEraser [.sl a 48 5]]) H.length tp ds T (fun _ => True) := by
  have q1 := g.ot.len
  have q2 := g.ot.lenT
  obtain ⟨tp, e, hb, hr, _⟩ := own_row g.ot.own (by omega)
  subst e
  have p1 : H <+: H ++ [.row true tEraser [.sl (some (tp, 0)) 48 5]] := List.prefix_append _ _
  have g1 := g.mono p1
  have lt : ∀ i (h : i < ds.length) l, (ds[i]).on l → l < H.length := fun i h l hl => g.ot.onlt (List.getElem_mem h) hl
  refine ⟨tp, rfl, g1.pre, g1.ot, fun i h => (g1.own i h (by omega)).wo (g1.ot.all i h (by omega)) (hs _ (List.getElem_mem _)), fun i h l hl => ?_, fun i h h' _ => g1.own i h h', g1.ap, by simp, g.pre.length_le, fun i h hl => by have := lt i h _ hl; omega⟩
  have ho := g.own i h (by omega)
  obtain ⟨o, e | e | e⟩ := hl
  · exact ho.keys.ge e
  · exact ho.vals.ge e
  · exact ho.kids.ge e
end

/-! the root -/
theorem sub_move {T T' : List Pg} {d k : Nat} {P : List Nat} {ps : KV} {p : Pg} (h : Sub T d k P ps) (hp : T[k]? = some p) (h0 : T'[0]? = some p) (hk : P.Nodup) (hT : ∀ i ∈ P, i ≠ k → T'[i]? = T[i]?) : Sub T' d 0 (0 :: P.tail) ps := by
  have hm := h.may hp
  cases hl : p.leaf with
  | true =>
    obtain ⟨e, eP, es⟩ := h.leafD hp hl
    subst e; subst eP
    exact ⟨p, h0, hm, .inl ⟨rfl, hl, rfl, es⟩⟩
  | false =>
    obtain ⟨d', P', e, eP, kk⟩ := h.innD hp hl
    subst e; subst eP
    have hn := List.nodup_cons.1 hk
    exact ⟨p, h0, hm, .inr ⟨hl, P', rfl, kk.imp fun j Q qs hb hin => hb.keep fun i hi => hT i (by simp [hin i hi]) fun e => hn.1 (by rw [← e]; exact hin i hi)⟩⟩
section
variable {B H : Hp} {le tp : Nat} {ds : List Am.PC} {T T' : List Pg} {X : Nat → Prop} {d : Nat} {P P' : List Nat} {ps qs : KV} {Q : Post}
set_option maxRecDepth 100000 in
theorem root_spec (g : CM B H le tp ds T' X) (w : Whole T d P ps) (dr : Dr2 T T' d 0 P P' qs) (hc : qs.length ≤ 60)
    (hQ : ∀ H' ds' T2 X', CM B H' le tp ds' T2 X' → (∃ d P, Whole T2 d P qs) → Q (.tup []) H') : erase_eraser_root [.g (.ptr (some (le, 0)))] H Q := by
  have q1 := g.ot.len
  have q2 := g.ot.lenT
  obtain ⟨p, p', hp, hp', hl, hk, hcase⟩ := dr.pages
  have e0 : T'[0]'(by omega) = p' := (List.getElem?_eq_some_iff.1 hp').2
  have at0 := g.ot.all 0 (by omega) (by omega)
  rw [e0] at at0
  obtain ⟨a0, a1, a2, a3, a4⟩ := g.cells (i := 0) (by omega)
  have rest : ∀ (i : Nat) r, T'[i]? = some r → i ∉ P' → nothingB r = true := fun i r hr hi => by
    by_cases h : i ∈ P
    · rw [dr.gone i h hi] at hr
      cases hr; rfl
    · rw [dr.out i h] at hr
      exact w.rest i r hr h
  refine ⟨1, ?_⟩
  have et0 : tN 0 = 0 := rfl
  rw [erase_eraser_root_eq, pS_some, Nat.add_zero, rd_of g.gtE, dL_sl, chk_true]
  refine chk_of (by decide) ?_
  rw [pS_some, et0, rdPage_of a0 a1 a2 a3 a4]
  have lf := at0.leaf
  have l1 := at0.keys.len
  rcases hcase with hS | ⟨hpl, hpk, k, P'', k1, k2, hkids, eP, hB⟩
  · have hm := hS.may hp'
    have fin : Q (.tup []) H := hQ H ds T' X g ⟨d, P', by omega, hS, dr.nd, rest, hc⟩
    cases e : p'.leaf with
    | true => rw [bite_f (by rw [← lf, e]; rfl)]; exact fin
    | false =>
      have := (hm.2.inner e).1
      rw [bite_t (by rw [← lf, e]; rfl), bite_f (by simp; omega)]
      exact fin
  · rw [bite_t (by rw [← lf, hpl]; rfl), bite_t (by rw [l1, hpk]; rfl)]
    have hk48 : k.toNat < 48 := by omega
    obtain ⟨c0, c1, c2, c3, c4⟩ := g.cells (i := k.toNat) (by omega)
    have hkid : p'.kids[0]'(by rw [hkids]; simp) = k := by simp [hkids]
    have l3 := at0.kids.len
    have rdk : ∀ K : Int → Prop, (chk (leI 0 0 && ltI 0 (nI (ds[0]'(by omega)).n3)) (pS (ds[0]'(by omega)).a3 fun n0 n1 => rd H n0 (n1 + 0 * 1) fun v => dI .i64 v K)) = K (p'.kids[0]'(by rw [hkids]; simp)) := fun K => at0.kids.rd 0 rfl (by rw [hkids]; simp) K
    rw [pS_some, Nat.add_zero, rd_of g.gtE, dL_sl, pS_some, rd_of g.gtE, dL_sl, chk_true, rdk, pS_some, Nat.add_zero, rd_of g.gtE, dL_sl, chk_true, rdk, chk_true, hkid]
    refine chk_of (by simp; omega) ?_
    have etk : tN k = k.toNat := rfl
    rw [pS_some, etk, rdPage_of c0 c1 c2 c3 c4, chk_true]
    refine chk_of (by decide) ?_
    obtain ⟨hb, hr⟩ := g.ot.at_row
    have htp := (List.getElem?_eq_some_iff.1 hr).1
    rw [pS_some, Nat.zero_mul, Nat.add_zero]
    have z0 : (0 : Nat) = 0 * 5 := rfl
    refine wr5 (i := 0) (c := ds[k.toNat]'(by omega)) hr (by omega) ?_
    rw [chk_true]
    refine chk_of (by simp; omega) ?_
    rw [pS_some, Nat.zero_add]
    refine wr5 (c := ⟨false, false, none, 0, none, 0, none, 0⟩) (List.getElem?_set_self htp) (by simp; omega) ?_
    rw [List.set_set]
    have hne : k.toNat ≠ 0 := by omega
    -- the same in the other row
    have h1 := g.turn (i := k.toNat) (H' := H.set tp (.row true tPg (pcells (ds.set k.toNat ⟨false, false, none, 0, none, 0, none, 0⟩)))) (c := ⟨false, false, none, 0, none, 0, none, 0⟩) (p := noPg) (X' := fun _ => False) (by omega) (by simp) (fun l _ _ hl => by rw [List.getElem?_set_ne (Ne.symm hl)]) (List.getElem?_set_self htp) (no_at _) (no_wo _ _ _) (fun l hl => (no_on hl).elim) (fun j hj => hj.elim)
    have hsame : ∀ l, l ≠ tp → (H.set tp (.row true tPg (pcells ((ds.set k.toNat ⟨false, false, none, 0, none, 0, none, 0⟩).set 0 (ds[k.toNat]'(by omega))))))[l]? = H[l]? := fun l hl => by rw [List.getElem?_set_ne (Ne.symm hl)]
    have hofftp : ∀ l, (ds[k.toNat]'(by omega)).on l → l ≠ tp := fun l hl e => by subst e; exact g.ot.off _ (List.getElem_mem (by omega)) _ hl rfl
    have h2 := h1.turn (i := 0) (H' := H.set tp (.row true tPg (pcells ((ds.set k.toNat ⟨false, false, none, 0, none, 0, none, 0⟩).set 0 (ds[k.toNat]'(by omega)))))) (c := ds[k.toNat]'(by omega)) (p := T'[k.toNat]'(by omega)) (X' := fun _ => False) (by simp; omega) (by simp) (fun l _ _ hl => by rw [hsame l hl, List.getElem?_set_ne (Ne.symm hl)]) (List.getElem?_set_self htp)
      ((g.ot.all k.toNat (by omega) (by omega)).keep fun l hl => hsame l (hofftp l hl)) ((g.wo k.toNat (by omega)).keepOn fun l hl => hsame l (hofftp l hl))
      (fun l hl => ⟨hofftp l hl, fun e => by subst e; exact g.offE _ (by omega) hl, g.base _ (by omega) l hl, fun j hj hj0 hon => by
        rw [List.getElem_set] at hon
        by_cases e : k.toNat = j
        · rw [if_pos e] at hon; exact no_on hon
        · rw [if_neg e] at hon
          simp at hj
          exact g.ap k.toNat j (by omega) hj e l hl hon⟩) (fun j hj => hj.elim)
    rw [List.set_comm _ _ hne] at h2
    refine hQ _ _ _ _ h2 ?_
    obtain ⟨r, hr1, hr2⟩ := hB.2
    have er : T'[k.toNat]'(by omega) = r := (List.getElem?_eq_some_iff.1 hr1).2
    have t0 : ((T'.set k.toNat noPg).set 0 (T'[k.toNat]'(by omega)))[0]? = some r := by rw [List.getElem?_set_self (by simp; omega), er]
    have tk : ((T'.set k.toNat noPg).set 0 (T'[k.toNat]'(by omega)))[k.toNat]? = some noPg := by rw [List.getElem?_set_ne (Ne.symm hne), List.getElem?_set_self (by omega)]
    have to : ∀ i, i ≠ 0 → i ≠ k.toNat → ((T'.set k.toNat noPg).set 0 (T'[k.toNat]'(by omega)))[i]? = T'[i]? := fun i h h' => by rw [List.getElem?_set_ne (Ne.symm h), List.getElem?_set_ne (Ne.symm h')]
    have hnd := dr.nd
    rw [eP] at hnd
    have hn := List.nodup_cons.1 hnd
    have hS := sub_move (T' := (T'.set k.toNat noPg).set 0 (T'[k.toNat]'(by omega))) hB.1 hr1 t0 hn.2 fun i hi hik => to i (fun e => hn.1 (by rw [← e]; exact hi)) hik
    have htail : ∀ i, i ∈ P'' → i ≠ k.toNat → i ∈ P''.tail := fun i hi hik => by
      cases hr' : r.leaf with
      | true => obtain ⟨_, e, _⟩ := hB.1.leafD hr1 hr'; rw [e] at hi; exact (hik (List.mem_singleton.1 hi)).elim
      | false =>
        obtain ⟨_, P3, _, e, _⟩ := hB.1.innD hr1 hr'
        rw [e] at hi ⊢
        rcases List.mem_cons.1 hi with z | z
        · exact (hik z).elim
        · exact z
    refine ⟨_, _, by simp; omega, hS, List.nodup_cons.2 ⟨fun h => hn.1 (List.mem_of_mem_tail h), hn.2.sublist (List.tail_sublist _)⟩, fun i q hq hi => ?_, hc⟩
    simp only [List.mem_cons, not_or] at hi
    by_cases e : i = k.toNat
    · rw [e, tk] at hq; cases hq; rfl
    · rw [to i hi.1 e] at hq
      refine rest i q hq ?_
      rw [eP]
      intro h
      rcases List.mem_cons.1 h with z | z
      · exact hi.1 z
      · exact hi.2 (htail i z e)
end
end Go.Am
namespace Go.Am

section
variable {ps : KV} {k k' : ByteArray}
theorem delK_cons (x : ByteArray × ByteArray) (ps : KV) (k : ByteArray) : delK (x :: ps) k = match decide (x.1 = k) with | true => ps | false => x :: delK ps k := rfl
theorem delK_sub : (delK ps k).Sublist ps := by
  induction ps with
  | nil => exact List.Sublist.refl _
  | cons x ps ih =>
    rw [delK_cons]
    cases decide (x.1 = k) with
    | true => exact List.sublist_cons_self _ _
    | false => exact ih.cons_cons _
theorem delK_asc (h : Asc ps) : Asc (delK ps k) := h.sublist delK_sub
theorem delK_ok (h : KVok ps) : KVok (delK ps k) := fun x hx => h x (delK_sub.mem hx)
theorem delK_le : (delK ps k).length ≤ ps.length := delK_sub.length_le
theorem delK_len (h : (findK ps k).isSome = true) : (delK ps k).length + 1 = ps.length := by
  induction ps with
  | nil => cases h
  | cons x ps ih =>
    rw [findK_cons] at h
    rw [delK_cons]
    by_cases e : x.1 = k
    · rw [decide_eq_true e]; rfl
    · rw [decide_eq_false e] at h ⊢
      show (delK ps k).length + 1 + 1 = _
      rw [ih h]; rfl
end

/-! a tree that may be written over, or none -/
def WT (H : Hp) (b hi : Nat) (a : Pl) (m : Nat) : Prop := m = 0 ∨ ∃ tp cs, a = some (tp, 0) ∧ (b ≤ tp ∧ tp < hi) ∧ H[tp]? = some (Obj.row true tPg (pcells cs)) ∧ cs.length = m ∧ m ≤ 1000 ∧ ∀ c ∈ cs, WoS H b hi 1000 c
theorem TxS.keep {H H' : Hp} {b hi M : Nat} {a : Pl} {n : Nat} (h : TxS H b hi M a n) (hk : ∀ l, b ≤ l → l < hi → H'[l]? = H[l]?) : TxS H' b hi M a n := by
  rcases h with h | ⟨l, o, xs, e, hb, hr, hl, hm⟩
  · exact .inl h
  · exact .inr ⟨l, o, xs, e, hb, by unfold SRow; rw [hk l hb.1 hb.2]; exact hr, hl, hm⟩
theorem NuS.keep {H H' : Hp} {b hi : Nat} {a : Pl} {n : Nat} (h : NuS H b hi a n) (hk : ∀ l, b ≤ l → l < hi → H'[l]? = H[l]?) : NuS H' b hi a n := by
  rcases h with h | ⟨l, o, xs, e, hb, hr, hl⟩
  · exact .inl h
  · exact .inr ⟨l, o, xs, e, hb, by unfold IRow; rw [hk l hb.1 hb.2]; exact hr, hl⟩
theorem WT.keep {H H' : Hp} {b hi : Nat} {a : Pl} {m : Nat} (h : WT H b hi a m) (hk : ∀ l, b ≤ l → l < hi → H'[l]? = H[l]?) : WT H' b hi a m := by
  rcases h with h | ⟨tp, cs, e, hb, hr, hl, hm, hc⟩
  · exact .inl h
  · exact .inr ⟨tp, cs, e, hb, by rw [hk tp hb.1 hb.2]; exact hr, hl, hm, fun c q => ⟨(hc c q).t1.keep hk, (hc c q).t2.keep hk, (hc c q).t3.keep hk, (hc c q).s1, (hc c q).s2, (hc c q).s3⟩⟩
theorem TxR.s {H : Hp} {b M : Nat} {a : Pl} {n : Nat} (h : TxR H b M a n) : TxS H b H.length M a n := by
  rcases h with h | ⟨l, o, xs, e, hb, hr, hl, hm⟩
  · exact .inl h
  · exact .inr ⟨l, o, xs, e, ⟨hb, (List.getElem?_eq_some_iff.1 hr).1⟩, hr, hl, hm⟩
theorem NuR.s {H : Hp} {b : Nat} {a : Pl} {n : Nat} (h : NuR H b a n) : NuS H b H.length a n := by
  rcases h with h | ⟨l, o, xs, e, hb, hr, hl⟩
  · exact .inl h
  · exact .inr ⟨l, o, xs, e, ⟨hb, (List.getElem?_eq_some_iff.1 hr).1⟩, hr, hl⟩
theorem WoP.s {H : Hp} {b M : Nat} {c : Am.PC} (h : WoP H b M c) : WoS H b H.length M c := ⟨h.t1.s, h.t2.s, h.t3.s, h.s1, h.s2, h.s3⟩
theorem spoil_any {H : Hp} {Q : Post} {b hi : Nat} {a : Pl} {m : Nat} (h : WT H b hi a m) (hQ : ∀ H', H'.length = H.length → (∀ l, ¬ (b ≤ l ∧ l < hi) → H'[l]? = H[l]?) → Q (.tup []) H') : law0_SpoilTree [.agg [.sl a m 5]] H Q := by
  rcases h with rfl | ⟨tp, cs, rfl, hb, hr, hl, hm, hc⟩
  · refine ⟨2, ?_⟩
    rw [law0_SpoilTree_eq, law0_SpoilTree.l2_eq, bite_f (by decide)]
    exact hQ H rfl fun _ _ => rfl
  · exact law0_SpoilTree_spec hr hb hc hl hm (by omega) hQ
theorem CM.wt {B H : Hp} {le tp : Nat} {ds : List Am.PC} {T : List Pg} {X : Nat → Prop} (g : CM B H le tp ds T X) {b : Nat} (hb' : b ≤ B.length) : WT H b H.length (some (tp, 0)) 48 := by
  obtain ⟨hb, hr⟩ := g.ot.at_row
  refine .inr ⟨tp, ds, rfl, ⟨by omega, (List.getElem?_eq_some_iff.1 hr).1⟩, hr, g.ot.len, by omega, fun c hc => ?_⟩
  obtain ⟨i, hi, rfl⟩ := List.getElem_of_mem hc
  exact ((g.wo i hi).base hb').s
theorem pre_of {B H H' : Hp} (p : B <+: H) (hl : H'.length = H.length) (h : ∀ l, l < B.length → H'[l]? = H[l]?) : B <+: H' := by
  rw [List.prefix_iff_eq_take]
  apply List.ext_getElem?
  intro i
  rw [List.getElem?_take]
  split
  · rename_i hi
    rw [h i hi, pre_at p hi]
  · rename_i hi
    exact List.getElem?_eq_none (by omega)

/-! erase -/
/-- what is behind an erased key -/
structure ErR (T : List Pg) (key : ByteArray) (T' : List Pg) : Prop where
  bad : heightD T = 0 → T' = []
  no : 0 < heightD T → findK (entD T) key = none → T' = T
  yes : 0 < heightD T → (findK (entD T) key).isSome = true → 0 < heightD T' ∧ entD T' = delK (entD T) key
section
variable {H : Hp} {Q : Post} {x : Pl} {n : Nat} {T : List Pg} {cs : List Am.PC} {key : ByteArray}
theorem findE_of (h : 0 < heightD T) : findE T key = findK (entD T) key := by unfold findE allE; rw [decide_eq_true h]
theorem findE_bad (h : heightD T = 0) : findE T key = none := by unfold findE allE; rw [decide_eq_false (by omega)]; rfl
set_option maxRecDepth 100000 in
theorem erase_Erase_spec (hT : Tr H x n cs T) (hn : n * 80 ≤ 140737488351232)
    (hQ : ∀ a m ds T' H', H <+: H' → Tr H' a m ds T' → ErR T key T' → ((findE T key).isSome = true → WT H' H.length H'.length a m) → m ≤ 48 → Q (.tup [.a [.sl a m 5], .s (.bool (findE T key).isSome), .s (.int .i64 (errE 1300 T))]) H') :
    erase_Erase [.agg [.sl x n 5], .g (.str key)] H Q := by
  refine ⟨2, ?_⟩
  rw [erase_Erase_eq]
  refine find_Find_spec hT fun H1 p1 => ?_
  simp only [rT_tup, uR_cons, rS_s, dS_str, dB_bool, dI_int, uE_nil]
  by_cases h0 : 0 < heightD T
  rotate_left
  · have e1 : errE 1100 T = 1100 := by unfold errE; rw [decide_eq_false h0]
    have e2 : errE 1300 T = 1300 := by unfold errE; rw [decide_eq_false h0]
    have e3 : findE T key = none := findE_bad (by omega)
    rw [e1, bite_t (by decide)]
    have := hQ none 0 [] [] H1 p1 (tr_nil H1) ⟨fun _ => rfl, fun h => (h0 h).elim, fun h => (h0 h).elim⟩ (fun h => by rw [e3] at h; cases h) (by omega)
    rw [e2, e3] at this
    exact this
  have e1 : errE 1100 T = 0 := by unfold errE; rw [decide_eq_true h0]
  have e2 : errE 1300 T = 0 := by unfold errE; rw [decide_eq_true h0]
  rw [e2, findE_of h0] at hQ
  rw [e1, bite_f (by decide), findE_of h0]
  obtain ⟨P, w⟩ := whole_of h0
  have hn48 : n = 48 := by have := hT.lenT; have := w.len; omega
  subst hn48
  have hs := small_sound h0
  refine sound_Copy_spec (hT.mono p1) (by omega) hs fun a' ds H2 g => ?_
  simp only [rA_agg, uC_cons, dL_sl, uN_nil]
  simp only [pu_def, ln_def]
  obtain ⟨tp, ea, gm⟩ := g.cm hs
  subst ea
  cases hf : (findK (entD T) key).isSome with
  | false =>
    rw [bite_f rfl]
    rw [erase_Erase.l8_eq, Nat.add_zero, rd_of gm.gtE, dL_sl]
    rw [hf] at hQ
    refine hQ _ _ ds T _ (p1.trans gm.pre) gm.ot.tr ⟨fun h => by omega, fun _ _ => rfl, fun _ h => by rw [hf] at h; cases h⟩ (fun h => by cases h) (by omega)
  | true =>
    rw [bite_t rfl]
    rw [hf] at hQ
    obtain ⟨v, hv⟩ := Option.isSome_iff_exists.1 hf
    have hmem := findK_some hv
    refine ⟨heightD T, drop_spec (heightD T) (a := 0) gm w.sub w.nodup (fun _ _ => trivial) ⟨_, hmem, rfl⟩ (by omega) fun H3 ds3 T3 X3 P3 g3 dr _ => ?_⟩
    refine root_spec g3 w dr (by have := delK_le (ps := entD T) (k := key); have := w.count; omega) fun H4 ds4 T4 X4 g4 hw => ?_
    obtain ⟨d4, P4, w4⟩ := hw
    rw [erase_Erase.l8_eq, Nat.add_zero, rd_of g4.gtE, dL_sl]
    exact hQ _ _ ds4 T4 _ (p1.trans g4.pre) g4.ot.tr ⟨fun h => by omega, fun _ h => (by rw [h] at hf; cases hf), fun _ _ => ⟨w4.pos', w4.sound.2⟩⟩ (fun _ => g4.wt p1.length_le) (by omega)

set_option maxRecDepth 100000 in
theorem ref9_Erase_spec (hT : Tr H x n cs T) (hn : n * 80 ≤ 140737488351232)
    (hQ : ∀ a m ds T' H', H <+: H' → Tr H' a m ds T' → ErR T key T' → m ≤ 48 → Q (.tup [.a [.sl a m 5], .s (.bool (findE T key).isSome), .s (.int .i64 (errE 1300 T))]) H') :
    ref9_Erase [.agg [.sl x n 5], .g (.str key)] H Q := by
  refine ⟨80, ?_⟩
  rw [ref9_Erase_eq]
  refine ref9_Sound_spec hT fun H1 p1 => ?_
  simp only [rG_g, dB_bool]
  by_cases h0 : 0 < heightD T
  rotate_left
  · have e2 : errE 1300 T = 1300 := by unfold errE; rw [decide_eq_false h0]
    have e3 : findE T key = none := findE_bad (by omega)
    rw [decide_eq_false h0, bite_t (by decide)]
    have := hQ none 0 [] [] H1 p1 (tr_nil H1) ⟨fun _ => rfl, fun h => (h0 h).elim, fun h => (h0 h).elim⟩ (by omega)
    rw [e2, e3] at this
    exact this
  have e2 : errE 1300 T = 0 := by unfold errE; rw [decide_eq_true h0]
  rw [e2, findE_of h0] at hQ
  rw [decide_eq_true h0, bite_f (by decide)]
  obtain ⟨st, s⟩ := SF.of h0
  obtain ⟨P, w⟩ := whole_of h0
  have hn48 : n = 48 := by have := hT.lenT; have := w.len; omega
  subst hn48
  refine ⟨49, ?_⟩
  refine ref9_all_main (hT.mono p1) 49 0 H1 _ none 0 [] s.good (by omega) (List.prefix_refl _) (.inl ⟨rfl, rfl, rfl⟩) rfl (by have := s.ents.2.2.2; unfold entD at this; omega) fun a m H2 p2 hO hl => ?_
  simp only [rG_g, dL_sl]
  rw [List.nil_append] at hO hl
  have kv : Kv H2 a m (entD T) := hO.kv hl
  have hlen : (entD T).length = m := hl
  have hm60 : m ≤ 60 := by have := w.count; omega
  have hasc : Asc (entD T) := w.sub.asc.1
  have hok : KVok (entD T) := w.sub.asc.2
  have loop : ∀ (F i : Nat), m - i < F → i ≤ m → (∀ y ∈ (entD T).take i, y.1 ≠ key) → ref9_Erase.l5 F key x 48 none 0 a m (i : Int) H2 Q := by
    intro F
    induction F with
    | zero => intro i h; omega
    | succ F ih =>
      intro i hF hi hbef
      rw [ref9_Erase.l5_eq]
      have etN : tN (i : Int) = i := rfl
      by_cases him : i < m
      · obtain ⟨l, o, ea, x1, x2⟩ := kv.get (i := i) (by omega)
        subst ea
        rw [bite_t (by simp; omega), chk_true]
        refine chk_of (by simp; omega) ?_
        rw [pS_some, etN, Nat.add_zero, rd_of x1, dS_str]
        by_cases e : ((entD T)[i]'(by omega)).1 = key
        · rw [bite_t (by simpa using e), chk_true]
          refine chk_of (by simp) (chk_of (by simp; omega) ?_)
          have kvA := kv.part 0 i (by omega)
          have kvB := kv.part (i + 1) (m - (i + 1)) (by omega)
          rw [List.drop_zero] at kvA
          rw [List.take_of_length_le (l := (entD T).drop (i + 1)) (by rw [List.length_drop]; omega)] at kvB
          have sh0 : shf (some (l, o)) 0 = shf (some (l, o)) (0 * 2) := rfl
          rw [chk_true, Nat.sub_zero, sh0, rdN_of kvA.cells, chk_true]
          refine ap_z (H0 := H2) (by omega) (List.prefix_refl _) (.inl ⟨rfl, by omega, rfl⟩) (by rw [kvCells_length, kvA.len]) (by unfold Lim; omega) fun a3 H3 o3 x3 f3 => ?_
          rw [List.nil_append, Nat.zero_add] at o3
          rw [Nat.zero_add, chk_true, wrap_succ (by omega)]
          have etN1 : tN ((i + 1 : Nat) : Int) = i + 1 := rfl
          refine chk_of (by simp; omega) (chk_of (by simp; omega) ?_)
          have e3 : H2 <+: H3 := x3.pre
          rw [chk_true, etN1, rdN_of (kvB.mono e3).cells, chk_true]
          refine ap_z (H0 := H2) (by omega) e3 o3 (by rw [kvCells_length, kvB.len]) (by unfold Lim; omega) fun a4 H4 o4 x4 f4 => ?_
          have hsplit : entD T = (entD T).take i ++ (key, ((entD T)[i]'(by omega)).2) :: (entD T).drop (i + 1) := by
            have : (key, ((entD T)[i]'(by omega)).2) = (entD T)[i]'(by omega) := by rw [← e]
            rw [this, List.getElem_cons_drop, List.take_append_drop]
          have hdel : delK (entD T) key = (entD T).take i ++ (entD T).drop (i + 1) := by
            conv => lhs; rw [hsplit]
            exact delK_split hbef
          have hcell : kvCells ((entD T).take i) ++ kvCells ((entD T).drop (i + 1)) = kvCells (delK (entD T) key) := by rw [hdel]; simp [kvCells]
          rw [hcell] at o4
          have hsome : (findK (entD T) key).isSome = true := by
            rw [findK_is, List.any_eq_true]
            exact ⟨_, List.getElem_mem (by omega : i < (entD T).length), by simpa using e⟩
          have hdl : (delK (entD T) key).length = i + (m - (i + 1)) := by have := delK_len hsome; omega
          have hdk := delK_le (ps := entD T) (k := key)
          refine ref9_Build_spec (o4.kv hdl) (by omega) fun H5 tp cs' p5 oT => ?_
          simp only [rA_agg, uC_cons, dL_sl, uN_nil]
          obtain ⟨b1, b2⟩ := build_sound (delK_asc (k := key) hasc) (delK_ok hok) (by omega)
          rw [hsome] at hQ
          exact hQ _ _ _ _ _ (p1.trans (p2.trans (x4.pre.trans p5))) oT.tr ⟨fun h => by omega, fun _ h => (by rw [h] at hsome; cases hsome), fun _ _ => ⟨b1, b2⟩⟩ (by omega)
        · rw [bite_f (by simpa using e), wrap_succ (by omega)]
          refine ih (i + 1) (by omega) (by omega) fun y hy => ?_
          rw [List.take_succ_eq_append_getElem (by omega)] at hy
          rcases List.mem_append.1 hy with q | q
          · exact hbef y q
          · rw [List.mem_singleton.1 q]; exact e
      · obtain rfl : i = m := by omega
        rw [bite_f (by simp)]
        rw [List.take_of_length_le (by omega)] at hbef
        have hnone : findK (entD T) key = none := findK_none hbef
        rw [hnone] at hQ
        refine ref9_CopyTree_ct (hT.mono (p1.trans p2)) (by omega) fun a' ds H3 g => ?_
        simp only [rA_agg, uC_cons, dL_sl, uN_nil]
        exact hQ _ _ ds T _ (p1.trans (p2.trans g.pre)) g.ot.tr ⟨fun h => by omega, fun _ _ => rfl, fun _ h => by rw [hnone] at h; cases h⟩ (by omega)
  exact loop 79 0 (by omega) (by omega) (fun y hy => by simp at hy)
end
end Go.Am
namespace Go.Am

/-! numbers -/
theorem wrapU (z : Int) : wrapI .u64 z = z % 18446744073709551616 := by
  show (if (false && decide (z % (18446744073709551616 : Int) ≥ 9223372036854775808)) = true then z % (18446744073709551616 : Int) - 18446744073709551616 else z % (18446744073709551616 : Int)) = _
  rw [Bool.false_and]
  rfl
theorem wrapU_nat {m : Nat} (h : m ≤ 1000000) : wrapI .u64 (m : Int) = m := by rw [wrapU]; omega
theorem pick (z : Int) {m : Nat} (h1 : 1 ≤ m) (h2 : m ≤ 1000) : ∃ i : Nat, i < m ∧ wrapI .i64 (Int.tmod (wrapI .u64 z) (wrapI .u64 (m : Int))) = (i : Int) := by
  have e1 : wrapI .u64 (m : Int) = m := wrapU_nat (by omega)
  have h0 : 0 ≤ wrapI .u64 z := by rw [wrapU]; omega
  rw [e1, Int.tmod_eq_emod_of_nonneg h0]
  have l1 := Int.emod_nonneg (wrapI .u64 z) (show (m : Int) ≠ 0 by omega)
  have l2 := Int.emod_lt_of_pos (wrapI .u64 z) (show 0 < (m : Int) by omega)
  refine ⟨(wrapI .u64 z % (m : Int)).toNat, by omega, ?_⟩
  rw [wrap64 (by omega) (by omega)]; omega
theorem other (z : Int) {m i : Nat} (h1 : 2 ≤ m) (h2 : m ≤ 1000) (hi : i < m) : ∃ j : Nat, j < m ∧ j ≠ i ∧ Int.tmod (wrapI .i64 (wrapI .i64 ((i : Int) + 1) + wrapI .i64 (Int.tmod (wrapI .u64 z) (wrapI .u64 (wrapI .i64 ((m : Int) - 1)))))) (m : Int) = (j : Int) := by
  have e0 : wrapI .i64 ((m : Int) - 1) = ((m - 1 : Nat) : Int) := by rw [wrap64 (by omega) (by omega)]; omega
  obtain ⟨b, hb, eb⟩ := pick z (m := m - 1) (by omega) (by omega)
  rw [e0, eb, wrap64 (n := (i : Int) + 1) (by omega) (by omega), wrap64 (by omega) (by omega)]
  have e1 : (i : Int) + 1 + (b : Int) = ((i + 1 + b : Nat) : Int) := by omega
  refine ⟨(i + 1 + b) % m, Nat.mod_lt _ (by omega), fun e => ?_, ?_⟩
  · by_cases h : i + 1 + b < m
    · rw [Nat.mod_eq_of_lt h] at e; omega
    · rw [Nat.mod_eq_sub_mod (by omega), Nat.mod_eq_of_lt (by omega)] at e; omega
  · rw [e1]; rfl

section
variable {H : Hp} {Q : Post} {key : ByteArray}
theorem entA : entD (buildD kvA) = kvA := by
  have := allA
  unfold allE at this
  rw [decide_eq_true hA] at this
  exact this
theorem findA1 : (findE (buildD kvA) (mkS [99])).isSome = true := by rw [findE_of hA, entA]; decide +kernel
theorem findA2 : findE (buildD kvA) (mkS [120]) = none := by rw [findE_of hA, entA]; decide +kernel
theorem delA : delK kvA (mkS [99]) = [(mkS [97], mkS [49]), (mkS [98], mkS []), (mkS [100], mkS []), (mkS [101], mkS [53])] := by decide +kernel
theorem all_er {T T' : List Pg} (h : 0 < heightD T) (r : ErR T key T') (hs : (findE T key).isSome = true) : 0 < heightD T' ∧ allE T' = delK (entD T) key ∧ errE 1400 T' = 0 := by
  rw [findE_of h] at hs
  obtain ⟨h1, h2⟩ := r.yes h hs
  refine ⟨h1, ?_, ?_⟩
  · unfold allE; rw [decide_eq_true h1]; exact h2
  · unfold errE; rw [decide_eq_true h1]
theorem err_ok {T : List Pg} (h : 0 < heightD T) (e : Int) : errE e T = 0 := by unfold errE; rw [decide_eq_true h]
theorem er_none {T T' : List Pg} (r : ErR T key T') (hs : findE T key = none) : T' = T ∨ (heightD T = 0 ∧ T' = []) := by
  by_cases h : 0 < heightD T
  · rw [findE_of h] at hs; exact .inl (r.no h hs)
  · exact .inr ⟨by omega, r.bad (by omega)⟩
set_option maxRecDepth 100000 in
theorem law13_awake_spec (hQ : ∀ H', H <+: H' → Q (.g (.bool true)) H') : law13_awake [] H Q := by
  refine ⟨1, ?_⟩
  rw [law13_awake_eq]
  simp only [pu_def, ln_def]
  have pA := pre_pu H (.row false 0 [(.str (mkS [97])), (.str (mkS [49])), (.str (mkS [98])), (.str (mkS [])), (.str (mkS [99])), (.str (mkS [51])), (.str (mkS [100])), (.str (mkS [])), (.str (mkS [101])), (.str (mkS [53]))])
  refine ref9_Build_spec (kvA_at H) (by omega) fun H1 tp cs p1 oT => ?_
  simp only [rA_agg, uC_cons, dL_sl, uN_nil]
  have n0 : errE 1300 (buildD kvA) = 0 := err_ok hA _
  refine erase_Erase_spec oT.tr (by omega) fun a m ds T1 H2 p2 t1 r1 w1 b1 => ?_
  simp only [rT_tup, uR_cons, rC_a, uC_cons, dL_sl, uN_nil, rS_s, dB_bool, dI_int, uE_nil]
  refine erase_Erase_spec (oT.tr.mono p2) (by omega) fun a' m' ds' T2 H3 p3 t2 r2 w2 b2 => ?_
  simp only [rT_tup, uR_cons, rC_a, uC_cons, dL_sl, uN_nil, rS_s, dB_bool, dI_int, uE_nil]
  refine erase_Erase_spec (tr_nil H3) (by omega) fun a'' m'' ds'' T3 H4 p4 t3 r3 w3 b3 => ?_
  simp only [rT_tup, uR_cons, rC_a, uC_cons, dL_sl, uN_nil, rS_s, dB_bool, dI_int, uE_nil]
  obtain ⟨h1, h2, h3⟩ := all_er hA r1 findA1
  refine ref9_All_spec (t1.mono (p3.trans p4)) fun c k H5 p5 o5 l5 => ?_
  simp only [rT_tup, uR_cons, rS_s, dL_sl, dI_int, uE_nil]
  have hE : errE 1300 [] = 1300 := by decide +kernel
  have e2 : T2 = buildD kvA := (er_none r2 findA2).resolve_right fun h => by have := hA; omega
  rw [h3, n0, findA1, findA2, hE, bite_t rfl]
  refine law0_Num_spec ?_
  simp only [rG_g, dI_int]
  rw [bite_t (by decide), bite_t (by decide)]
  refine law0_Num_spec ?_
  simp only [rG_g, dI_int]
  rw [bite_t (by decide)]
  refine law0_SameTree_spec (t2.mono (p4.trans p5)) (oT.tr.mono (p2.trans (p3.trans (p4.trans p5)))) (by omega) fun b hb => ?_
  simp only [rG_g, dB_bool]
  rw [bite_t (hb.2 e2)]
  refine law0_Num_spec ?_
  simp only [rG_g, dI_int]
  rw [bite_t (by decide), bite_t (by decide)]
  rw [h2, entA, delA] at o5 l5
  have hk : k = 4 := l5.symm
  subst hk
  rw [bite_t (by decide), chk_true]
  refine chk_of (by decide) ?_
  obtain ⟨l, o, ea, q1, q2⟩ := (o5.kv rfl).get (i := 2) (by simp)
  subst ea
  have et : tN 2 = 2 := rfl
  rw [pS_some, et, Nat.add_zero, rd_of q1, dS_str]
  have : strEq (mkS [100]) (mkS [100]) = true := by simp
  show Q (.g (.bool (strEq (mkS [100]) (mkS [100])))) H5
  rw [this]
  exact hQ _ (pA.trans (p1.trans (p2.trans (p3.trans (p4.trans p5)))))

set_option maxRecDepth 100000 in
theorem law13_Erases_spec {z : Pl} {n : Nat} {cs : List Am.PC} {T : List Pg} (hT : Tr H z n cs T) (hn : n * 80 ≤ 140737488351232) (hQ : ∀ H', Q (.g (.bool true)) H') : law13_Erases [.agg [.sl z n 5], .g (.str key)] H Q := by
  refine ⟨1, ?_⟩
  rw [law13_Erases_eq]
  refine law0_CopyTree_spec hT hn fun ax cx H1 p1 ox _ _ => ?_
  simp only [rA_agg, uC_cons, dL_sl, uN_nil]
  refine erase_Erase_spec ox.tr hn fun a m ds T1 H2 p2 t1 r1 w1 b1 => ?_
  simp only [rT_tup, uR_cons, rC_a, uC_cons, dL_sl, uN_nil, rS_s, dB_bool, dI_int, uE_nil]
  refine ref9_Erase_spec (hT.mono (p1.trans p2)) hn fun a' m' ds' T2 H3 p3 t2 r2 b2 => ?_
  simp only [rT_tup, uR_cons, rC_a, uC_cons, dL_sl, uN_nil, rS_s, dB_bool, dI_int, uE_nil]
  refine law0_Num_spec ?_
  simp only [rG_g, dI_int]
  rw [bite_f (by simp), bite_f (by simp)]
  refine law0_SameTree_spec (ox.tr.mono (p2.trans p3)) (hT.mono (p1.trans (p2.trans p3))) (by omega) fun b hb => ?_
  simp only [rG_g, dB_bool]
  rw [hb.2 rfl, bite_f (by decide)]
  cases hs : (findE T key).isSome with
  | false =>
    have hs' : findE T key = none := by cases h : findE T key with | none => rfl | some v => rw [h] at hs; cases hs
    rw [bite_t (by decide)]
    have e12 : T1 = T2 := by
      rcases er_none r1 hs' with h | ⟨h, h'⟩
      · rcases er_none r2 hs' with q | ⟨q, q'⟩
        · rw [h, q]
        · have e1 := r1.bad q
          rw [e1, q']
      · rw [h', r2.bad h]
    refine law0_SameTree_spec (t1.mono p3) t2 (by omega) fun b hb => ?_
    simp only [rG_g, dB_bool]
    rw [bite_t (hb.2 e12)]
    refine law13_awake_spec fun H4 p4 => ?_
    simp only [rG_g, dB_bool]
    exact hQ _
  | true =>
    have h0 : 0 < heightD T := by
      by_cases h : 0 < heightD T
      · exact h
      · rw [findE_bad (by omega)] at hs; cases hs
    rw [bite_f (by decide)]
    obtain ⟨u1, u2, u3⟩ := all_er h0 r1 hs
    obtain ⟨v1, v2, v3⟩ := all_er h0 r2 hs
    refine ref9_All_spec (t1.mono p3) fun c k H4 p4 o4 l4 => ?_
    simp only [rT_tup, uR_cons, rS_s, dL_sl, dI_int, uE_nil]
    refine ref9_All_spec (t2.mono p4) fun c' k' H5 p5 o5 l5 => ?_
    simp only [rT_tup, uR_cons, rS_s, dL_sl, dI_int, uE_nil]
    have wt := (w1 hs).keep (H' := H5) fun l _ hl => pre_at (p3.trans (p4.trans p5)) hl
    refine spoil_any wt fun H6 k6 s6 => ?_
    rw [u3, bite_t (by decide)]
    have e1 := p1.length_le
    have e2 := p2.length_le
    have e3 := p3.length_le
    have e4 := p4.length_le
    have e5 := p5.length_le
    have o5' : Own H5 H3.length tKV c (k * 2) (kvCells (allE T1)) := o4.mono p5
    have kA : Kv H6 c k (allE T1) := (o5'.keep (H' := H6) fun l e => s6 l fun h => by have := o5'.ge e; omega).kv l4
    have kB : Kv H6 c' k' (allE T2) := (o5.keep (H' := H6) fun l e => s6 l fun h => by have := o5.ge e; omega).kv l5
    have lA := allE_len T1
    refine law0_SamePairs_spec kA kB (by omega) fun b hb => ?_
    simp only [rG_g, dB_bool]
    rw [bite_t (hb.2 (by rw [u2, v2]))]
    have p16 : H1 <+: H6 := pre_of (p2.trans (p3.trans (p4.trans p5))) k6 fun l hl => s6 l (by omega)
    refine law0_SameTree_spec (ox.tr.mono p16) (hT.mono (p1.trans p16)) (by omega) fun b hb => ?_
    simp only [rG_g, dB_bool]
    rw [bite_t (hb.2 rfl)]
    refine law13_awake_spec fun H7 p7 => ?_
    simp only [rG_g, dB_bool]
    exact hQ _

end
end Go.Am
