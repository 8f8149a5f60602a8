import Derived.Test.YtiemhjehieipdaaGreatM6
set_option linter.unusedVariables false
set_option linter.unusedSimpArgs false
namespace Go.Am

section
variable {H : Hp} {Q : Post} {b n i : Nat} {a : Pl}
/-- what slices.Insert leaves of the rows -/
structure InsH (H : Hp) (a : Pl) (H' : Hp) : Prop where
  len : H'.length = H.length + 2
  row : ∀ l, l < H.length → a ≠ some (l, 0) → H'[l]? = H[l]?
theorem ins_any {t : TypeId} {by_ : Nat} {v : GV} {cs : List GV} (h : Own H b t a n cs) (hb : b ≤ H.length) (hi : i ≤ n) (hlim : (n + 1) * by_ ≤ Lim)
    (hQ : ∀ H', InsH H a H' → Own H' b t (some (H.length + 1, 0)) (n + 1) (cs.take i ++ v :: cs.drop i) → Q (.g (.sl (some (H.length + 1, 0)) (n + 1) 1)) H') :
    insSm t by_ [.g (.sl a n 1), .g (.int .i64 (i : Int)), .g (.sl (some (ln H, 0)) 1 1)] (pu H (.row false lentT [v])) Q := by
  have hl : (pu H (.row false lentT [v])).length = H.length + 1 := by simp [pu]
  refine ⟨a, n, i, ln H, v, rfl, hi, hlim, by simp [pu, ln], ?_⟩
  rcases h with ⟨rfl, rfl, rfl⟩ | ⟨l, rfl, hb', hr, hlen⟩
  · refine .inl ⟨rfl, rfl, ?_⟩
    have e : ln (pu H (.row false lentT [v])) = H.length + 1 := hl
    rw [e]
    have hi0 : i = 0 := by omega
    subst hi0
    refine hQ _ ⟨by simp [pu], fun l hl _ => by simp [pu, List.getElem?_append_left, hl]⟩ (.inr ⟨_, rfl, by omega, ?_, rfl⟩)
    have : (pu H (.row false lentT [v])).length = H.length + 1 := hl
    show (pu H (.row false lentT [v]) ++ [_])[H.length + 1]? = _
    rw [← this]; exact List.getElem?_concat_length
  · have hlt := (List.getElem?_eq_some_iff.1 hr).1
    refine .inr ⟨l, cs, rfl, by show (H ++ [_])[l]? = _; rw [List.getElem?_append_left hlt]; exact hr, hlen, ?_⟩
    have e : ln (pu H (.row false lentT [v])) = H.length + 1 := hl
    rw [e]
    refine hQ _ ⟨by simp [pu], fun l' hl' hne => ?_⟩ (.inr ⟨_, rfl, by omega, ?_, by simp; omega⟩)
    · show ((pu H (.row false lentT [v])).set l .dead ++ [_])[l']? = _
      rw [List.getElem?_append_left (by simp [pu]; omega), List.getElem?_set_ne fun q => hne (by rw [q])]
      simp [pu, List.getElem?_append_left, hl']
    · show ((pu H (.row false lentT [v])).set l .dead ++ [_])[H.length + 1]? = _
      have e2 : ((pu H (.row false lentT [v])).set l .dead).length = H.length + 1 := by simp [pu]
      rw [← e2]; exact List.getElem?_concat_length
theorem map_ins {α β : Type} (g : α → β) (xs : List α) (i : Nat) (x : α) : (xs.map g).take i ++ g x :: (xs.map g).drop i = (xs.take i ++ x :: xs.drop i).map g := by simp [List.map_take, List.map_drop]
theorem insS_spec {s : ByteArray} {xs : List ByteArray} (h : Own H b tS a n (xs.map GV.str)) (hb : b ≤ H.length) (hi : i ≤ n) (hn : n ≤ 1000)
    (hQ : ∀ H', InsH H a H' → Own H' b tS (some (H.length + 1, 0)) (n + 1) ((xs.take i ++ s :: xs.drop i).map GV.str) → Q (.g (.sl (some (H.length + 1, 0)) (n + 1) 1)) H') :
    slices_Insert__string_string [.g (.sl a n 1), .g (.int .i64 (i : Int)), .g (.sl (some (ln H, 0)) 1 1)] (pu H (.row false lentT [.str s])) Q := by
  refine ins_any h hb hi (by unfold Lim; omega) fun H' q o => hQ H' q ?_
  rw [← map_ins]; exact o
theorem insI_spec {s : Int} {xs : List Int} (h : Own H b tI a n (xs.map (GV.int .i64))) (hb : b ≤ H.length) (hi : i ≤ n) (hn : n ≤ 1000)
    (hQ : ∀ H', InsH H a H' → Own H' b tI (some (H.length + 1, 0)) (n + 1) ((xs.take i ++ s :: xs.drop i).map (GV.int .i64)) → Q (.g (.sl (some (H.length + 1, 0)) (n + 1) 1)) H') :
    slices_Insert__int_int [.g (.sl a n 1), .g (.int .i64 (i : Int)), .g (.sl (some (ln H, 0)) 1 1)] (pu H (.row false lentT [.int .i64 s])) Q := by
  refine ins_any h hb hi (by unfold Lim; omega) fun H' q o => hQ H' q ?_
  rw [← map_ins]; exact o
end
section
variable {H : Hp} {Q : Post} {u l : Bool} {a1 : Pl} {n1 : Nat} {a2 : Pl} {n2 : Nat} {a3 : Pl} {n3 : Nat} {p : Pg}
theorem fits_small (hf : FitsP p) (h : p.keys.length ≤ 5) : small p := by
  refine ⟨fun s hs => by have := (hf.keys s hs).2; omega, fun s hs => ?_, by omega, ?_, ?_⟩
  · cases hl : p.leaf with
    | true => have := (hf.leaf hl).2.2 s hs; omega
    | false => rw [(hf.inner hl).2.1] at hs; cases hs
  · cases hl : p.leaf with
    | true => have := (hf.leaf hl).1; omega
    | false => rw [(hf.inner hl).2.1]; simp
  · cases hl : p.leaf with
    | true => rw [(hf.leaf hl).2.1]; simp
    | false => have := (hf.inner hl).2.2.1; omega
set_option maxRecDepth 10000 in
theorem node_Split_spec (h : PgAt H u l a1 n1 a2 n2 a3 n3 p) (hf : FitsP p)
    (hQ1 : p.keys.length ≠ 5 → Q (.tup [.a [.bool false, .bool false, .sl none 0 1, .sl none 0 1, .sl none 0 1], .s (.str (mkS [])), .a [.bool false, .bool false, .sl none 0 1, .sl none 0 1, .sl none 0 1], .s (.int .i64 900)]) H)
    (hQ2 : p.keys.length = 5 → ∀ (hk : cutAt p < p.keys.length) (c d : PC) H', H <+: H' → c.at H' (cutL p (cutAt p)) → d.at H' (cutR p (cutAt p)) → WoP H' H.length 1000 c → WoP H' H.length 1000 d → (∀ m, c.on m → H.length ≤ m ∧ ¬ d.on m) → (∀ m, d.on m → H.length ≤ m) →
      Q (.tup [.a [.bool c.u, .bool c.l, .sl c.a1 c.n1 1, .sl c.a2 c.n2 1, .sl c.a3 c.n3 1], .s (.str p.keys[cutAt p]), .a [.bool d.u, .bool d.l, .sl d.a1 d.n1 1, .sl d.a2 d.n2 1, .sl d.a3 d.n3 1], .s (.int .i64 0)]) H') :
    node_Split [.agg [.bool u, .bool l, .sl a1 n1 1, .sl a2 n2 1, .sl a3 n3 1]] H Q := by
  have e1 := h.keys.len
  have hl := h.leaf
  refine ⟨2, ?_⟩
  rw [node_Split_eq]
  by_cases h5 : p.keys.length = 5
  rotate_left
  · rw [bite_t (by simp; omega)]
    exact hQ1 h5
  rw [bite_f (by simp; omega)]
  refine page_Fits_spec h fun bb H1 p1 hb => ?_
  simp only [rG_g, dB_bool]
  rw [hb.2 hf, bite_f (by decide)]
  have hs := fits_small hf (by omega)
  have hk : cutAt p < p.keys.length := by unfold cutAt; cases p.leaf <;> simp <;> omega
  have key : node_Split.l6 1 u l a1 n1 a2 n2 a3 n3 false false none 0 none 0 none 0 false false none 0 none 0 none 0 (cutAt p : Int) H1 Q := by
    rw [node_Split.l6_eq]
    refine node_Cut_at (h.mono p1) hs hk (fun e => (hf.leaf e).1) (fun e => (hf.inner e).2.2.1) fun c d H2 p2 hc hd wc wd oc od => ?_
    simp only [rT_tup, uR_cons, rC_a, uC_cons, dB_bool, dL_sl, uN_nil, rS_s, dS_str, uE_nil]
    have hl1 := p1.length_le
    exact hQ2 h5 hk c d H2 (p1.trans p2) hc hd (wc.base hl1) (wd.base hl1) (fun m hm => ⟨Nat.le_trans hl1 (oc m hm).1, (oc m hm).2⟩) (fun m hm => Nat.le_trans hl1 (od m hm))
  cases e : l with
  | true =>
    subst e
    rw [bite_t rfl]
    have : (cutAt p : Int) = 3 := by unfold cutAt; rw [hl]; rfl
    rw [this] at key
    exact key
  | false =>
    subst e
    rw [bite_f rfl]
    have : (cutAt p : Int) = 2 := by unfold cutAt; rw [hl]; rfl
    rw [this] at key
    exact key
end
end Go.Am
namespace Go.Am

section
variable {B H : Hp} {le tp : Nat} {ds : List PC} {T : List Pg} {X : Nat → Prop} {fa : Pl} {ws : List Int} {i : Nat} {p : Pg} {Q : Post} {key v : ByteArray}
set_option maxRecDepth 10000 in
theorem settle_spec (m : WM B H le tp ds T X fa ws) (hp : T[i]? = some p) (hf : FitsP p) (hws : ∀ x ∈ ws, 1 ≤ x ∧ x < 48) (hx : ∀ x ∈ ws, x.toNat ≠ i) (hne : p.keys.length = 5 → ws ≠ [])
    (hQ1 : p.keys.length ≠ 5 → Q (.g (.ptr none)) H)
    (hQ2 : p.keys.length = 5 → ∀ (hk : cutAt p < p.keys.length) (x : Int) (init : List Int) H' ds' lq, (init ++ [x]).Perm ws → WM B H' le tp ds' ((T.set i (cutL p (cutAt p))).set x.toNat (cutR p (cutAt p))) (fun j => j ≠ x.toNat ∧ j ≠ i ∧ X j) fa init →
      H'[lq]? = some (.row true tHalf [.str p.keys[cutAt p], .int .i64 x]) → H.length ≤ lq → Q (.g (.ptr (some (lq, 0)))) H') :
    insert_writer_settle [.g (.ptr (some (le, 0))), .g (.int .i64 (i : Int))] H Q := by
  have q1 := m.g.ot.len
  have q2 := m.g.ot.lenT
  have hiT := (List.getElem?_eq_some_iff.1 hp).1
  have eT : T[i]'hiT = p := (List.getElem?_eq_some_iff.1 hp).2
  have hi : i < ds.length := by omega
  obtain ⟨a0, a1, a2, a3, a4⟩ := m.g.cells hi
  have hat := m.g.ot.all i hi hiT
  rw [eT] at hat
  have ei : tN (i : Int) = i := rfl
  refine ⟨1, ?_⟩
  rw [insert_writer_settle_eq, pS_some, Nat.add_zero, rd_of m.gtE, dL_sl, chk_true]
  refine chk_of (by simp; omega) ?_
  rw [pS_some, ei, rdPage_of a0 a1 a2 a3 a4]
  refine node_Split_spec hat hf (fun h5 => ?_) (fun h5 hk c d H1 p1 hc hd wc wd oc od => ?_)
  · simp only [rT_tup, uR_cons, rC_a, uC_cons, dB_bool, dL_sl, uN_nil, rS_s, dS_str, dI_int, uE_nil]
    rw [bite_t (by decide)]
    exact hQ1 h5
  · simp only [rT_tup, uR_cons, rC_a, uC_cons, dB_bool, dL_sl, uN_nil, rS_s, dS_str, dI_int, uE_nil]
    rw [bite_f (by decide)]
    have m1 := m.mono p1
    have hBH := m.g.pre.length_le
    have l1 := p1.length_le
    have htp := (List.getElem?_eq_some_iff.1 m.g.ot.at_row.2).1
    rw [pS_some, Nat.add_zero, rd_of m1.gtE, dL_sl, chk_true]
    refine chk_of (by simp; omega) ?_
    rw [pS_some]
    refine m1.lay (i := i) (c := c) (p := cutL p (cutAt p)) hi hc (wc.base hBH) (fun l hl => ?_) fun H2 m2 l2 k2 => ?_
    · have := (oc l hl).1
      exact ⟨by omega, fun q => by have := m.off_lt q; omega, by omega, fun j hj _ hl' => by have := m.g.onlt j hj hl'; omega⟩
    have kd : ∀ l, d.on l → H2[l]? = H1[l]? := fun l hl => k2 l (by have := od l hl; omega)
    refine take_spec m2 (hne h5) (fun x hx => ⟨by have := (hws x hx).1; omega, (hws x hx).2⟩) (c := d) (p := cutR p (cutAt p)) (hd.keep kd) ((wd.base hBH).keepOn kd) (fun l hl => ?_) fun x init H3 hperm m3 l3 k3 => ?_
    · have hl' := od l hl
      refine ⟨by omega, fun q => by have := m.off_lt q; omega, by omega, fun j hj hon => ?_⟩
      rw [List.getElem_set] at hon
      by_cases e : i = j
      · rw [if_pos e] at hon; exact (oc l hon).2 hl
      · rw [if_neg e] at hon
        have := m.g.onlt j (by simpa using hj) hon
        omega
    simp only [rG_g, dI_int]
    have hxi : x.toNat ≠ i := hx x (hperm.mem_iff.1 (by simp))
    have pr := pre_pu H3 (.row true tHalf [.str p.keys[cutAt p], .int .i64 x])
    refine hQ2 h5 hk x init _ _ H3.length hperm ((m3.mono pr).weak fun j hj => hj) ?_ (by omega)
    simp [pu]

/-- a key and its value put into a leaf's rows -/
theorem WM.insLeaf (m : WM B H le tp ds T X fa ws) (hp : T[i]? = some p) (hX : X i) {s : Nat} (hs : s ≤ p.keys.length) (hv : p.vals.length = p.keys.length) (hsm : small p) (h4 : p.keys.length ≤ 900) (hk : key.size ≤ 1000) (hvs : v.size ≤ 1000) {K : Hp → Prop}
    (hK : ∀ H' ds', WM B H' le tp ds' (T.set i (insP p s key v)) X fa ws → K H') :
    rd H tp (0 + i * 5 + 2) fun v27 => dL 1 v27 fun x28 n29 => rd H tp (0 + i * 5 + 3) fun v30 => dL 1 v30 fun x31 n32 =>
    cl slices_Insert__string_string [(.g (.sl x28 n29 1)), (.g (.int .i64 (s : Int))), (.g (.sl (some ((ln H), 0)) 1 1))] (pu H (.row false 1000003 [(.str key)])) fun r33 H34 =>
    rG r33 fun v35 => dL 1 v35 fun x36 n37 => rd H34 tp (0 + i * 5 + 3) fun v38 => dL 1 v38 fun x39 n40 =>
    eqv (.g (.sl x31 n32 1)) (.g (.sl x39 n40 1)) (cl slices_Insert__string_string [(.g (.sl x31 n32 1)), (.g (.int .i64 (s : Int))), (.g (.sl (some ((ln H34), 0)) 1 1))] (pu H34 (.row false 1000003 [(.str v)])) fun r41 H42 =>
    rG r41 fun v43 => dL 1 v43 fun x44 n45 => wr H42 tp (0 + i * 5 + 2) (.sl x36 n37 1) fun H46 => wr H46 tp (0 + i * 5 + 3) (.sl x44 n45 1) K) := by
  have q1 := m.g.ot.len
  have q2 := m.g.ot.lenT
  have hiT := (List.getElem?_eq_some_iff.1 hp).1
  have eT : T[i]'hiT = p := (List.getElem?_eq_some_iff.1 hp).2
  have hi : i < ds.length := by omega
  obtain ⟨a0, a1, a2, a3, a4⟩ := m.g.cells hi
  have hat := m.g.ot.all i hi hiT
  have ho := m.g.own i hi hiT hX
  rw [eT] at hat ho
  have e1 := hat.keys.len
  have e2 := hat.vals.len
  have hBH := m.g.pre.length_le
  obtain ⟨hb, hr⟩ := m.g.ot.at_row
  have htp := (List.getElem?_eq_some_iff.1 hr).1
  have off := m.g.ot.off _ (List.getElem_mem hi)
  rw [rd_of a2, dL_sl, rd_of a3, dL_sl]
  refine insS_spec ho.keys hBH (by omega) (by omega) fun H1 w1 o1 => ?_
  simp only [rG_g, dL_sl]
  have r1 : H1[tp]? = H[tp]? := w1.row tp htp fun e => off tp ⟨0, .inl e⟩ rfl
  have g3 : gt H1 tp (0 + i * 5 + 3) = some (.sl ds[i].a2 ds[i].n2 1) := by rw [← a3]; unfold gt; rw [r1]
  rw [rd_of g3, dL_sl]
  refine ⟨rfl, ?_⟩
  have ov : Own H1 B.length tS ds[i].a2 ds[i].n2 (p.vals.map GV.str) := ho.vals.keep fun l e => w1.row l (ho.vals.lt' e) fun q => ho.d12 l 0 0 q e
  have ok : Own H1 B.length tI ds[i].a3 ds[i].n3 (p.kids.map (GV.int .i64)) := ho.kids.keep fun l e => w1.row l (ho.kids.lt' e) fun q => ho.d13 l 0 0 q e
  refine insS_spec ov (by have := w1.len; omega) (by omega) (by omega) fun H2 w2 o2 => ?_
  simp only [rG_g, dL_sl]
  have hl1 := w1.len
  have hl2 := w2.len
  have r2 : H2[tp]? = H[tp]? := by rw [w2.row tp (by omega) fun e => off tp ⟨0, .inr (.inl e)⟩ rfl, r1]
  have hr2 : H2[tp]? = some (.row true tPg (pcells ds)) := by rw [r2]; exact hr
  have htp2 := (List.getElem?_eq_some_iff.1 hr2).1
  refine wr_23 hr2 hi ?_
  have kp : ∀ l, l ≠ tp → (H2.set tp (.row true tPg (pcells (ds.set i ⟨ds[i].u, ds[i].l, some (H.length + 1, 0), ds[i].n1 + 1, some (H1.length + 1, 0), ds[i].n2 + 1, ds[i].a3, ds[i].n3⟩))))[l]? = H2[l]? := fun l hl => by rw [List.getElem?_set_ne (Ne.symm hl)]
  have ow : (⟨ds[i].u, ds[i].l, some (H.length + 1, 0), ds[i].n1 + 1, some (H1.length + 1, 0), ds[i].n2 + 1, ds[i].a3, ds[i].n3⟩ : PC).own (H2.set tp (.row true tPg (pcells (ds.set i ⟨ds[i].u, ds[i].l, some (H.length + 1, 0), ds[i].n1 + 1, some (H1.length + 1, 0), ds[i].n2 + 1, ds[i].a3, ds[i].n3⟩)))) B.length (insP p s key v) := by
    refine ⟨ho.used, ho.leaf, o1.keep fun l e => ?_, o2.keep fun l e => ?_, ok.keep fun l e => ?_, fun l o o' q1 q2 => ?_, fun l o o' q1 q2 => ?_, fun l o o' q1 q2 => ?_⟩
    · have : l = H.length + 1 := by cases e; rfl
      rw [kp l (by omega), w2.row l (by omega) fun q => by have := ho.vals.lt' q; omega]
    · have : l = H1.length + 1 := by cases e; rfl
      rw [kp l (by omega)]
    · have hlt := ho.kids.lt' e
      rw [kp l fun q => off l ⟨0, .inr (.inr e)⟩ (by rw [q]), w2.row l (by omega) fun q => ho.d23 l 0 0 q e]
    · simp at q1 q2; omega
    · simp at q1
      have := ho.kids.lt' (show ds[i].a3 = some (l, 0) by
        rcases ho.kids with ⟨e, _, _⟩ | ⟨l', e, _⟩
        · have q2' : ds[i].a3 = some (l, o') := q2
          rw [e] at q2'; cases q2'
        · have q2' : ds[i].a3 = some (l, o') := q2
          rw [e] at q2'; cases q2'; exact e)
      omega
    · simp at q1
      have := ho.kids.lt' (show ds[i].a3 = some (l, 0) by
        rcases ho.kids with ⟨e, _, _⟩ | ⟨l', e, _⟩
        · have q2' : ds[i].a3 = some (l, o') := q2
          rw [e] at q2'; cases q2'
        · have q2' : ds[i].a3 = some (l, o') := q2
          rw [e] at q2'; cases q2'; exact e)
      omega
  have at' : (⟨ds[i].u, ds[i].l, some (H.length + 1, 0), ds[i].n1 + 1, some (H1.length + 1, 0), ds[i].n2 + 1, ds[i].a3, ds[i].n3⟩ : PC).at (H2.set tp (.row true tPg (pcells (ds.set i ⟨ds[i].u, ds[i].l, some (H.length + 1, 0), ds[i].n1 + 1, some (H1.length + 1, 0), ds[i].n2 + 1, ds[i].a3, ds[i].n3⟩)))) (insP p s key v) := by
    refine ⟨hat.used, hat.leaf, ⟨ow.keys.cells, ?_, ?_⟩, ⟨ow.vals.cells, ?_, ?_⟩, ⟨ow.kids.cells, hat.kids.len, hat.kids.lim⟩⟩
    · show ds[i].n1 + 1 = (p.keys.take s ++ key :: p.keys.drop s).length
      simp; omega
    · show (ds[i].n1 + 1) * 16 ≤ _; omega
    · show ds[i].n2 + 1 = (p.vals.take s ++ v :: p.vals.drop s).length
      simp; omega
    · show (ds[i].n2 + 1) * 16 ≤ _; omega
  obtain ⟨s1, s2, s3, s4, s5⟩ := hsm
  have sm : small (insP p s key v) := by
    refine ⟨fun k hk' => ?_, fun k hk' => ?_, ?_, ?_, s5⟩
    · rcases mem_ins hk' with z | z
      · rw [z]; omega
      · exact s1 k z
    · rcases mem_ins hk' with z | z
      · rw [z]; omega
      · exact s2 k z
    · show (p.keys.take s ++ key :: p.keys.drop s).length ≤ 1000
      simp; omega
    · show (p.vals.take s ++ v :: p.vals.drop s).length ≤ 1000
      simp; omega
  refine hK _ _ (m.turn (c := ⟨ds[i].u, ds[i].l, some (H.length + 1, 0), ds[i].n1 + 1, some (H1.length + 1, 0), ds[i].n2 + 1, ds[i].a3, ds[i].n3⟩) hi (by simp; omega) (fun l h1 h2 h3 => ?_) (List.getElem?_set_self htp2) at' (ow.wo at' sm) (fun l hl => ?_) fun j hj => ?_)
  · rw [kp l h3, w2.row l (by omega) fun q => h2 ⟨0, .inr (.inl q)⟩, w1.row l h1 fun q => h2 ⟨0, .inl q⟩]
  · obtain ⟨o, e | e | e⟩ := hl
    · have : l = H.length + 1 := by cases e; rfl
      exact ⟨by omega, fun q => by have := m.off_lt q; omega, by omega, fun j hj _ hl' => by have := m.g.onlt j hj hl'; omega⟩
    · have : l = H1.length + 1 := by cases e; rfl
      exact ⟨by omega, fun q => by have := m.off_lt q; omega, by omega, fun j hj _ hl' => by have := m.g.onlt j hj hl'; omega⟩
    · have hon : (ds[i]).on l := ⟨o, .inr (.inr e)⟩
      exact ⟨fun q => off l hon (by rw [q]), fun q => (m.g.off l q).2.2 i hi hon, m.g.base i hi l hon, fun j hj hne => m.g.ap i j hi hj (Ne.symm hne) l hon⟩
  · by_cases e : j = i
    · exact .inl ⟨e, ow⟩
    · exact .inr ⟨e, hj⟩
end
end Go.Am
namespace Go.Am

section
variable {B H : Hp} {le tp : Nat} {ds : List PC} {T : List Pg} {X : Nat → Prop} {fa : Pl} {ws : List Int} {i : Nat} {p : Pg} {Q : Post} {key v : ByteArray}
theorem half_ne {t : TypeId} {lq l : Nat} {cs cs' : List GV} (hq : H[lq]? = some (.row true tHalf cs)) (hl : H[l]? = some (.row true t cs')) (ht : tHalf ≠ t) : lq ≠ l := fun e => by
  rw [e, hl] at hq; simp at hq; exact ht hq.1.symm
/-- a key and a kid put into an inner page's rows -/
theorem WM.insInner (m : WM B H le tp ds T X fa ws) (hp : T[i]? = some p) (hX : X i) {s : Nat} (hs : s ≤ p.keys.length) (hv : p.kids.length = p.keys.length + 1) (hsm : small p) (h4 : p.keys.length ≤ 900) {lq : Nat} {x : Int} (hq : H[lq]? = some (.row true tHalf [.str key, .int .i64 x])) (hk : key.size ≤ 1000) {K : Hp → Prop}
    (hK : ∀ H' ds', WM B H' le tp ds' (T.set i (insI p s key x)) X fa ws → K H') :
    rd H tp (0 + i * 5 + 2) fun v28 => dL 1 v28 fun x29 n30 => pS (some (lq, 0)) fun n31 n32 => rd H n31 (n32 + 0) fun v33 => dS v33 fun s34 =>
    rd H tp (0 + i * 5 + 4) fun v35 => dL 1 v35 fun x36 n37 => pS (some (lq, 0)) fun n38 n39 => rd H n38 (n39 + 1) fun v40 => dI .i64 v40 fun i41 =>
    cl slices_Insert__string_string [(.g (.sl x29 n30 1)), (.g (.int .i64 (s : Int))), (.g (.sl (some ((ln H), 0)) 1 1))] (pu H (.row false 1000003 [(.str s34)])) fun r42 H43 =>
    rG r42 fun v44 => dL 1 v44 fun x45 n46 => rd H43 n38 (n39 + 1) fun v47 => dI .i64 v47 fun i48 => eqv (.g (.int .i64 i41)) (.g (.int .i64 i48)) (rd H43 tp (0 + i * 5 + 4) fun v49 => dL 1 v49 fun x50 n51 =>
    eqv (.g (.sl x36 n37 1)) (.g (.sl x50 n51 1)) (cl slices_Insert__int_int [(.g (.sl x36 n37 1)), (.g (.int .i64 (wrapI .i64 ((s : Int) + 1)))), (.g (.sl (some ((ln H43), 0)) 1 1))] (pu H43 (.row false 1000003 [(.int .i64 i41)])) fun r52 H53 =>
    rG r52 fun v54 => dL 1 v54 fun x55 n56 => wr H53 tp (0 + i * 5 + 2) (.sl x45 n46 1) fun H57 => wr H57 tp (0 + i * 5 + 4) (.sl x55 n56 1) K)) := by
  have q1 := m.g.ot.len
  have q2 := m.g.ot.lenT
  have hiT := (List.getElem?_eq_some_iff.1 hp).1
  have eT : T[i]'hiT = p := (List.getElem?_eq_some_iff.1 hp).2
  have hi : i < ds.length := by omega
  obtain ⟨a0, a1, a2, a3, a4⟩ := m.g.cells hi
  have hat := m.g.ot.all i hi hiT
  have ho := m.g.own i hi hiT hX
  rw [eT] at hat ho
  have e1 := hat.keys.len
  have e3 := hat.kids.len
  have hBH := m.g.pre.length_le
  obtain ⟨hb, hr⟩ := m.g.ot.at_row
  have htp := (List.getElem?_eq_some_iff.1 hr).1
  have off := m.g.ot.off _ (List.getElem_mem hi)
  have gq0 : gt H lq (0 + 0) = some (.str key) := by rw [gt_some hq]; rfl
  have gq1 : gt H lq (0 + 1) = some (.int .i64 x) := by rw [gt_some hq]; rfl
  have hlq := (List.getElem?_eq_some_iff.1 hq).1
  rw [rd_of a2, dL_sl, pS_some, rd_of gq0, dS_str, rd_of a4, dL_sl, pS_some, rd_of gq1, dI_int]
  refine insS_spec ho.keys hBH (by omega) (by omega) fun H1 w1 o1 => ?_
  simp only [rG_g, dL_sl]
  have r1 : H1[tp]? = H[tp]? := w1.row tp htp fun e => off tp ⟨0, .inl e⟩ rfl
  have rq : H1[lq]? = H[lq]? := w1.row lq hlq fun e => by
    rcases ho.keys with ⟨q, _, _⟩ | ⟨l, q, _, hl, _⟩
    · rw [q] at e; cases e
    · rw [q] at e; cases e; exact half_ne hq hl (by decide) rfl
  have gq1' : gt H1 lq (0 + 1) = some (.int .i64 x) := by rw [← gq1]; unfold gt; rw [rq]
  rw [rd_of gq1', dI_int]
  refine ⟨rfl, ?_⟩
  have g4 : gt H1 tp (0 + i * 5 + 4) = some (.sl ds[i].a3 ds[i].n3 1) := by rw [← a4]; unfold gt; rw [r1]
  rw [rd_of g4, dL_sl]
  refine ⟨rfl, ?_⟩
  have ov : Own H1 B.length tS ds[i].a2 ds[i].n2 (p.vals.map GV.str) := ho.vals.keep fun l e => w1.row l (ho.vals.lt' e) fun q => ho.d12 l 0 0 q e
  have ok : Own H1 B.length tI ds[i].a3 ds[i].n3 (p.kids.map (GV.int .i64)) := ho.kids.keep fun l e => w1.row l (ho.kids.lt' e) fun q => ho.d13 l 0 0 q e
  rw [wrap_succ (by omega)]
  refine insI_spec ok (by have := w1.len; omega) (by omega) (by omega) fun H2 w2 o2 => ?_
  simp only [rG_g, dL_sl]
  have hl1 := w1.len
  have hl2 := w2.len
  have r2 : H2[tp]? = H[tp]? := by rw [w2.row tp (by omega) fun e => off tp ⟨0, .inr (.inr e)⟩ rfl, r1]
  have hr2 : H2[tp]? = some (.row true tPg (pcells ds)) := by rw [r2]; exact hr
  have htp2 := (List.getElem?_eq_some_iff.1 hr2).1
  refine wr_24 hr2 hi ?_
  have kp : ∀ l, l ≠ tp → (H2.set tp (.row true tPg (pcells (ds.set i ⟨ds[i].u, ds[i].l, some (H.length + 1, 0), ds[i].n1 + 1, ds[i].a2, ds[i].n2, some (H1.length + 1, 0), ds[i].n3 + 1⟩))))[l]? = H2[l]? := fun l hl => by rw [List.getElem?_set_ne (Ne.symm hl)]
  have a2at : ∀ {l o}, ds[i].a2 = some (l, o) → ds[i].a2 = some (l, 0) := fun {l o} q2 => by
    rcases ho.vals with ⟨e, _, _⟩ | ⟨l', e, _⟩
    · rw [e] at q2; cases q2
    · rw [e] at q2; cases q2; exact e
  have ow : (⟨ds[i].u, ds[i].l, some (H.length + 1, 0), ds[i].n1 + 1, ds[i].a2, ds[i].n2, some (H1.length + 1, 0), ds[i].n3 + 1⟩ : PC).own (H2.set tp (.row true tPg (pcells (ds.set i ⟨ds[i].u, ds[i].l, some (H.length + 1, 0), ds[i].n1 + 1, ds[i].a2, ds[i].n2, some (H1.length + 1, 0), ds[i].n3 + 1⟩)))) B.length (insI p s key x) := by
    refine ⟨ho.used, ho.leaf, o1.keep fun l e => ?_, ov.keep fun l e => ?_, o2.keep fun l e => ?_, fun l o o' q1 q2 => ?_, fun l o o' q1 q2 => ?_, fun l o o' q1 q2 => ?_⟩
    · have : l = H.length + 1 := by cases e; rfl
      rw [kp l (by omega), w2.row l (by omega) fun q => by have := ho.kids.lt' q; omega]
    · have hlt := ho.vals.lt' e
      rw [kp l fun q => off l ⟨0, .inr (.inl e)⟩ (by rw [q]), w2.row l (by omega) fun q => ho.d23 l 0 0 e q]
    · have : l = H1.length + 1 := by cases e; rfl
      rw [kp l (by omega)]
    · have hlt := ho.vals.lt' (a2at q2)
      simp at q1; omega
    · simp at q1 q2; omega
    · have hlt := ho.vals.lt' (a2at q1)
      simp at q2; omega
  have at' : (⟨ds[i].u, ds[i].l, some (H.length + 1, 0), ds[i].n1 + 1, ds[i].a2, ds[i].n2, some (H1.length + 1, 0), ds[i].n3 + 1⟩ : PC).at (H2.set tp (.row true tPg (pcells (ds.set i ⟨ds[i].u, ds[i].l, some (H.length + 1, 0), ds[i].n1 + 1, ds[i].a2, ds[i].n2, some (H1.length + 1, 0), ds[i].n3 + 1⟩)))) (insI p s key x) := by
    refine ⟨hat.used, hat.leaf, ⟨ow.keys.cells, ?_, ?_⟩, ⟨ow.vals.cells, hat.vals.len, hat.vals.lim⟩, ⟨ow.kids.cells, ?_, ?_⟩⟩
    · show ds[i].n1 + 1 = (p.keys.take s ++ key :: p.keys.drop s).length
      simp; omega
    · show (ds[i].n1 + 1) * 16 ≤ _; omega
    · show ds[i].n3 + 1 = (p.kids.take (s + 1) ++ x :: p.kids.drop (s + 1)).length
      simp; omega
    · show (ds[i].n3 + 1) * 8 ≤ _; omega
  obtain ⟨s1, s2, s3, s4, s5⟩ := hsm
  have sm : small (insI p s key x) := by
    refine ⟨fun k hk' => ?_, s2, ?_, s4, ?_⟩
    · rcases mem_ins hk' with z | z
      · rw [z]; omega
      · exact s1 k z
    · show (p.keys.take s ++ key :: p.keys.drop s).length ≤ 1000
      simp; omega
    · show (p.kids.take (s + 1) ++ x :: p.kids.drop (s + 1)).length ≤ 1000
      simp; omega
  refine hK _ _ (m.turn (c := ⟨ds[i].u, ds[i].l, some (H.length + 1, 0), ds[i].n1 + 1, ds[i].a2, ds[i].n2, some (H1.length + 1, 0), ds[i].n3 + 1⟩) hi (by simp; omega) (fun l h1 h2 h3 => ?_) (List.getElem?_set_self htp2) at' (ow.wo at' sm) (fun l hl => ?_) fun j hj => ?_)
  · rw [kp l h3, w2.row l (by omega) fun q => h2 ⟨0, .inr (.inr q)⟩, w1.row l h1 fun q => h2 ⟨0, .inl q⟩]
  · obtain ⟨o, e | e | e⟩ := hl
    · have : l = H.length + 1 := by cases e; rfl
      exact ⟨by omega, fun q => by have := m.off_lt q; omega, by omega, fun j hj _ hl' => by have := m.g.onlt j hj hl'; omega⟩
    · have hon : (ds[i]).on l := ⟨o, .inr (.inl e)⟩
      exact ⟨fun q => off l hon (by rw [q]), fun q => (m.g.off l q).2.2 i hi hon, m.g.base i hi l hon, fun j hj hne => m.g.ap i j hi hj (Ne.symm hne) l hon⟩
    · have : l = H1.length + 1 := by cases e; rfl
      exact ⟨by omega, fun q => by have := m.off_lt q; omega, by omega, fun j hj _ hl' => by have := m.g.onlt j hj hl'; omega⟩
  · by_cases e : j = i
    · exact .inl ⟨e, ow⟩
    · exact .inr ⟨e, hj⟩
/-- a leaf's value turned -/
theorem WM.setVal (m : WM B H le tp ds T X fa ws) (hp : T[i]? = some p) (hX : X i) {s : Nat} (hs : s < p.vals.length) (hsm : small p) (hvs : v.size ≤ 1000) {K : Hp → Prop}
    (hK : ∀ H' ds', WM B H' le tp ds' (T.set i ⟨p.used, p.leaf, p.keys, p.vals.set s v, p.kids⟩) X fa ws → K H') :
    rd H tp (0 + i * 5 + 3) fun v21 => dL 1 v21 fun x22 n23 => chk true (chk ((leI 0 (s : Int)) && (ltI (s : Int) (nI n23))) (pS x22 fun n24 n25 => wr H n24 (n25 + ((tN (s : Int)) * 1)) (.str v) K)) := by
  have q1 := m.g.ot.len
  have q2 := m.g.ot.lenT
  have hiT := (List.getElem?_eq_some_iff.1 hp).1
  have eT : T[i]'hiT = p := (List.getElem?_eq_some_iff.1 hp).2
  have hi : i < ds.length := by omega
  obtain ⟨a0, a1, a2, a3, a4⟩ := m.g.cells hi
  have hat := m.g.ot.all i hi hiT
  have ho := m.g.own i hi hiT hX
  rw [eT] at hat ho
  have e2 := hat.vals.len
  obtain ⟨lv, v1, v2, v3, v4⟩ := own_row ho.vals (by omega)
  have onv : (ds[i]).on lv := ⟨0, .inr (.inl v1)⟩
  obtain ⟨hb, hr⟩ := m.g.ot.at_row
  have htp := (List.getElem?_eq_some_iff.1 hr).1
  have nvt : lv ≠ tp := fun e => by subst e; exact m.g.ot.off _ (List.getElem_mem hi) _ onv rfl
  have es : tN (s : Int) = s := rfl
  rw [rd_of a3, dL_sl, chk_true]
  refine chk_of (by simp; omega) ?_
  rw [v1, pS_some, es, Nat.zero_add, Nat.mul_one]
  refine wr_row v3 (by simp; omega) ?_
  have em : (p.vals.map GV.str).set s (.str v) = (p.vals.set s v).map GV.str := by rw [← List.map_set]
  rw [em]
  have hlv := (List.getElem?_eq_some_iff.1 v3).1
  have kp : ∀ l, l ≠ lv → (H.set lv (.row true tS ((p.vals.set s v).map GV.str)))[l]? = H[l]? := fun l hl => by rw [List.getElem?_set_ne (Ne.symm hl)]
  have ow : (ds[i]).own (H.set lv (.row true tS ((p.vals.set s v).map GV.str))) B.length ⟨p.used, p.leaf, p.keys, p.vals.set s v, p.kids⟩ := by
    refine ⟨ho.used, ho.leaf, ho.keys.keep fun l e => kp l fun q => ho.d12 l 0 0 e (by rw [v1, q]), .inr ⟨lv, v1, v2, List.getElem?_set_self hlv, by simp; omega⟩, ho.kids.keep fun l e => kp l fun q => ho.d23 lv 0 0 v1 (by rw [e, q]), ho.d12, ho.d13, ho.d23⟩
  have at' : (ds[i]).at (H.set lv (.row true tS ((p.vals.set s v).map GV.str))) ⟨p.used, p.leaf, p.keys, p.vals.set s v, p.kids⟩ := ⟨hat.used, hat.leaf, ⟨ow.keys.cells, hat.keys.len, hat.keys.lim⟩, ⟨ow.vals.cells, by simp; omega, hat.vals.lim⟩, ⟨ow.kids.cells, hat.kids.len, hat.kids.lim⟩⟩
  obtain ⟨s1, s2, s3, s4, s5⟩ := hsm
  have sm : small ⟨p.used, p.leaf, p.keys, p.vals.set s v, p.kids⟩ := by
    refine ⟨s1, fun k hk' => ?_, s3, by simpa using s4, s5⟩
    rcases List.mem_or_eq_of_mem_set hk' with z | z
    · exact s2 k z
    · rw [z]; omega
  refine hK _ _ (m.turn (c := ds[i]) hi (by simp) (fun l h1 h2 h3 => kp l fun q => h2 (by rw [q]; exact onv)) (by rw [kp tp (Ne.symm nvt), List.set_getElem_self]; exact hr) at' (ow.wo at' sm) (fun l hon => ?_) fun j hj => ?_)
  · exact ⟨fun q => m.g.ot.off _ (List.getElem_mem hi) l hon (by rw [q]), fun q => (m.g.off l q).2.2 i hi hon, m.g.base i hi l hon, fun j hj hne => m.g.ap i j hi hj (Ne.symm hne) l hon⟩
  · by_cases e : j = i
    · exact .inl ⟨e, ow⟩
    · exact .inr ⟨e, hj⟩
end
end Go.Am
namespace Go.Am

/-- pages that are free -/
structure Frees (P : List Nat) (ws : List Int) : Prop where
  rng : ∀ x ∈ ws, 1 ≤ x ∧ x < 48
  nd : ws.Nodup
  out : ∀ x ∈ ws, x.toNat ∉ P
theorem Frees.pop {P : List Nat} {ws init : List Int} {x : Int} (h : Frees P ws) (hp : (init ++ [x]).Perm ws) : Frees P init ∧ (1 ≤ x ∧ x < 48) ∧ x.toNat ∉ P ∧ (∀ y ∈ init, y.toNat ≠ x.toNat) ∧ x ∈ ws ∧ (∀ y ∈ init, y ∈ ws) ∧ init.length + 1 = ws.length := by
  have hx : x ∈ ws := hp.mem_iff.1 (by simp)
  have hi : ∀ y ∈ init, y ∈ ws := fun y hy => hp.mem_iff.1 (by simp [hy])
  have hnd := hp.nodup_iff.2 h.nd
  obtain ⟨n1, n2, n3⟩ := List.nodup_append.1 hnd
  refine ⟨⟨fun y hy => h.rng y (hi y hy), n1, fun y hy => h.out y (hi y hy)⟩, h.rng x hx, h.out x hx, fun y hy e => ?_, hx, hi, by rw [← hp.length_eq]; simp⟩
  have a := h.rng y (hi y hy)
  have b := h.rng x hx
  exact n3 y hy x (by simp) (by omega)
/-- what a pointer to a half tells -/
def Rp (H : Hp) (r : Option (ByteArray × Int)) (rp : Pl) : Prop := match r with
  | none => rp = none
  | some (s, x) => ∃ lq, rp = some (lq, 0) ∧ H[lq]? = some (.row true tHalf [.str s, .int .i64 x])
/-- a subtree in two halves, or whole -/
def Res2 (T' : List Pg) (d a : Nat) (P' : List Nat) (qs : KV) (r : Option (ByteArray × Int)) : Prop := match r with
  | none => Sub T' d a P' qs
  | some (s, x) => ∃ PX psX PY psY, SubB T' d a PX psX ∧ SubB T' d x.toNat PY psY ∧ P' = PX ++ PY ∧ psX ++ psY = qs ∧ (∀ e ∈ psX, blt e.1 s = true) ∧ (∀ e ∈ psY, blt e.1 s = false) ∧ (1 ≤ s.size ∧ s.size ≤ 6) ∧ 1 ≤ x ∧ x < 48 ∧ x.toNat ∉ PX
structure Fin2 (T T' : List Pg) (d a : Nat) (P P' : List Nat) (ws ws' : List Int) (qs : KV) (r : Option (ByteArray × Int)) : Prop where
  len : T'.length = T.length
  nd : P'.Nodup
  sub : ∀ j ∈ P, j ∈ P'
  new : ∀ j ∈ P', j ∈ P ∨ ∃ x ∈ ws, x.toNat = j
  out : ∀ j, j ∉ P' → T'[j]? = T[j]?
  wsub : ∀ x ∈ ws', x ∈ ws
  fr : Frees P' ws'
  count : ws'.length + P'.length = ws.length + P.length
  res : Res2 T' d a P' qs r
  half : ∀ s x, r = some (s, x) → x ∈ ws
section
variable {B H : Hp} {le tp d a : Nat} {ds : List PC} {T T' T1 : List Pg} {X : Nat → Prop} {fa : Pl} {ws : List Int} {p p1 : Pg} {P P1 : List Nat} {ps qs : KV} {Q : Post} {key v : ByteArray}
theorem fin_spec (m : WM B H le tp ds T X fa ws) (hS : SubF T d a P qs) (hp : T[a]? = some p) (h5 : p.keys.length ≤ 5) (hnd : P.Nodup) (hfr : Frees P ws) (hcnt : p.keys.length = 5 → ws ≠ [])
    (hQ : ∀ H' ds' T' P' ws' X' r rp, WM B H' le tp ds' T' X' fa ws' → Fin2 T T' d a P P' ws ws' qs r → (r = none → T' = T) → (∀ j, j ∉ P' → X j → X' j) → Rp H' r rp → Q (.g (.ptr rp)) H') :
    insert_writer_settle [.g (.ptr (some (le, 0))), .g (.int .i64 (a : Int))] H Q := by
  have hS' := hS
  obtain ⟨p', hp', hf, hc⟩ := hS
  rw [hp] at hp'
  obtain rfl := Option.some.inj hp'
  have haP : a ∈ P := by rcases hc with ⟨_, _, e, _⟩ | ⟨_, _, _, _, e, _⟩ <;> simp [e]
  have hlt := (List.getElem?_eq_some_iff.1 hp).1
  have q2 := m.g.ot.lenT
  refine settle_spec m hp hf hfr.rng (fun x hx e => hfr.out x hx (by rw [e]; exact haP)) hcnt (fun h => ?_) (fun h hk x init H' ds' lq hperm m' hq _ => ?_)
  · exact hQ H ds T P ws X none none m ⟨rfl, hnd, fun j h => h, fun j h => .inl h, fun j _ => rfl, fun x h => h, hfr, rfl, hS'.sub hp (by omega), fun s x e => by cases e⟩ (fun _ => rfl) (fun j _ h => h) rfl
  · obtain ⟨f1, f2, f3, f4, f5, f6, f7⟩ := hfr.pop hperm
    have hxa : x.toNat ≠ a := fun e => f3 (by rw [e]; exact haP)
    have hxl : x.toNat < T.length := by omega
    have ta : ((T.set a (cutL p (cutAt p))).set x.toNat (cutR p (cutAt p)))[a]? = some (cutL p (cutAt p)) := by rw [List.getElem?_set_ne hxa, List.getElem?_set_self hlt]
    have tx : ((T.set a (cutL p (cutAt p))).set x.toNat (cutR p (cutAt p)))[x.toNat]? = some (cutR p (cutAt p)) := by rw [List.getElem?_set_self (by simpa using hxl)]
    have to : ∀ j, j ≠ a → j ≠ x.toNat → ((T.set a (cutL p (cutAt p))).set x.toNat (cutR p (cutAt p)))[j]? = T[j]? := fun j h1 h2 => by rw [List.getElem?_set_ne (Ne.symm h2), List.getElem?_set_ne (Ne.symm h1)]
    obtain ⟨PX, psX, PY, psY, s1, s2, s3, s4, s5, s6, s7, s8⟩ := split_sub hS' hp h hnd f3 (fun j hj hja => to j hja fun e => f3 (by rw [← e]; exact hj)) ta tx hk
    refine hQ H' ds' _ (PX ++ PY) init _ (some (p.keys[cutAt p], x)) (some (lq, 0)) m' ⟨by simp, s4, fun j hj => (s5 j).2 (.inl hj), fun j hj => ?_, fun j hj => ?_, f6, ⟨f1.rng, f1.nd, fun y hy hy' => ?_⟩, by omega, ?_, fun s x' e => by cases e; exact f5⟩ (fun e => by cases e) (fun j hj hx => ⟨fun e => hj ((s5 j).2 (.inr e)), fun e => hj ((s5 j).2 (.inl (by rw [e]; exact haP))), hx⟩) ⟨lq, rfl, hq⟩
    · rcases (s5 j).1 hj with q | q
      · exact .inl q
      · exact .inr ⟨x, f5, q.symm⟩
    · exact to j (fun e => hj ((s5 j).2 (.inl (by rw [e]; exact haP)))) fun e => hj ((s5 j).2 (.inr e))
    · rcases (s5 _).1 hy' with q | q
      · exact f1.out y hy q
      · exact f4 y hy q
    · refine ⟨PX, psX, PY, psY, s1, s2, rfl, s3, s7, s8, hf.keys _ (List.getElem_mem hk), f2.1, f2.2, fun q => ?_⟩
      exact (List.nodup_append.1 s4).2.2 _ q _ s2.1.head rfl

/-- a key put in below a page -/
structure PutR (T T' : List Pg) (d a : Nat) (key v : ByteArray) (P P' : List Nat) (ws ws' : List Int) (ps : KV) (r : Option (ByteArray × Int)) : Prop where
  fin : Fin2 T T' d a P P' ws ws' (insK ps key v) r
  keys : r = none → ∃ p q, T[a]? = some p ∧ T'[a]? = some q ∧ p.keys.length ≤ q.keys.length
  was : (findK ps key).isSome = true → r = none ∧ P' = P ∧ ws' = ws ∧ ∃ i p, i ∈ P ∧ T[i]? = some p ∧ p.leaf = true ∧ slotB p.keys key = true ∧ T' = T.set i (setP p key v)
theorem find_leaf (hS : Sub T d a P ps) (hp : T[a]? = some p) (hl : p.leaf = true) : (findK ps key).isSome = slotB p.keys key := by
  have hm := hS.may hp
  obtain ⟨e1, e2, e3⟩ := hS.leafD hp hl
  obtain ⟨f1, f2, f3⟩ := hm.2.leaf hl
  rw [e3, findK_zip (rising_pw hm.2.rising) f1]
  cases hb : slotB p.keys key with
  | false => rfl
  | true =>
    obtain ⟨hs, _⟩ := slot_at hb
    show (p.vals[slotN p.keys key]?).isSome = true
    rw [List.getElem?_eq_getElem (by omega)]; rfl
set_option maxRecDepth 10000 in
theorem leaf_put (m : WM B H le tp ds T X fa ws) (hS : Sub T d a P ps) (hp : T[a]? = some p) (hl : p.leaf = true) (hX : X a) (hfr : Frees P ws) (hcnt : 3 * ps.length + 3 ≤ 4 * (ws.length + P.length)) (h1 : 1 ≤ key.size) (h2 : key.size ≤ 6) (h3 : v.size ≤ 10)
    (hQ : ∀ H' ds' T' P' ws' X' r rp, WM B H' le tp ds' T' X' fa ws' → PutR T T' d a key v P P' ws ws' ps r → (∀ j, j ∉ P' → X j → X' j) → Rp H' r rp → Q (.g (.ptr rp)) H') :
    insert_writer_leaf [.g (.ptr (some (le, 0))), .g (.int .i64 (a : Int)), .g (.str key), .g (.str v)] H Q := by
  have q1 := m.g.ot.len
  have q2 := m.g.ot.lenT
  have hlt := (List.getElem?_eq_some_iff.1 hp).1
  have eT : T[a]'hlt = p := (List.getElem?_eq_some_iff.1 hp).2
  have hm := hS.may hp
  have h4 := hm.1
  obtain ⟨e1, e2, e3⟩ := hS.leafD hp hl
  obtain ⟨f1, f2, f3⟩ := hm.2.leaf hl
  have hat := m.g.ot.all a (by omega) hlt
  rw [eT] at hat
  obtain ⟨a0, a1, a2, a3, a4⟩ := m.g.cells (i := a) (by omega)
  have ei : tN (a : Int) = a := rfl
  have hsl : slotN p.keys key ≤ p.keys.length := slotN_le
  refine ⟨1, ?_⟩
  rw [insert_writer_leaf_eq, pS_some, Nat.add_zero, rd_of m.gtE, dL_sl, chk_true]
  refine chk_of (by simp; omega) ?_
  rw [pS_some, ei, rd_of a2, dL_sl]
  refine node_Slot_spec hat.keys ?_
  simp only [rT_tup, uR_cons, rS_s, dI_int, dB_bool, uE_nil]
  cases hb : slotB p.keys key with
  | true =>
    rw [bite_t rfl]
    obtain ⟨hs, hk⟩ := slot_at hb
    have hasc := hS.asc.1
    obtain ⟨L, v0, R, es, hS2⟩ := Sub.setVal (v := v) hp hl hb h3 hS (by rw [e2]; simp) (by rw [e2]; simp)
    have hL : ∀ x ∈ L, blt x.1 key = true := fun x hx => by
      rw [es] at hasc
      exact (List.pairwise_append.1 hasc).2.2 x hx _ List.mem_cons_self
    have eins : insK ps key v = L ++ (key, v) :: R := by rw [es]; exact insK_mid hL
    refine m.setVal hp hX (s := slotN p.keys key) (v := v) (by omega) (small_may hm) (by omega) fun H' ds' m' => ?_
    refine hQ H' ds' _ P ws X none none m' ⟨⟨by simp, by rw [e2]; simp, fun j h => h, fun j h => .inl h, fun j hj => ?_, fun x h => h, hfr, rfl, by rw [eins]; exact hS2, fun s x e => by cases e⟩, fun _ => ⟨p, _, hp, List.getElem?_set_self hlt, Nat.le_refl _⟩, fun _ => ⟨rfl, rfl, rfl, a, p, by rw [e2]; simp, hp, hl, hb, rfl⟩⟩ (fun j _ h => h) rfl
    rw [List.getElem?_set_ne]; intro e; subst e; exact hj (by rw [e2]; simp)
  | false =>
    rw [bite_f rfl]
    obtain ⟨g1, g2, hF⟩ := ins_leaf (v := v) hS hp hl hb h1 h2 h3
    refine m.insLeaf hp hX hsl f1 (small_may hm) (by omega) (by omega) (by omega) fun H1 ds1 m1 => ?_
    have hp1 : (T.set a (insP p (slotN p.keys key) key v))[a]? = some (insP p (slotN p.keys key) key v) := List.getElem?_set_self hlt
    have hk1 : (insP p (slotN p.keys key) key v).keys.length = p.keys.length + 1 := by
      show (p.keys.take _ ++ key :: p.keys.drop _).length = _
      simp; omega
    have hps : ps.length = p.keys.length := by rw [e3, List.length_zip]; omega
    refine fin_spec m1 hF hp1 (by omega) (by rw [e2]; simp) hfr (fun h => ?_) fun H' ds' T' P' ws' X' r rp m' fin hnone hX' hrp => ?_
    · rw [e2] at hcnt
      intro e
      rw [e] at hcnt
      simp at hcnt; omega
    simp only [rG_g, dP_ptr]
    refine hQ H' ds' T' P' ws' X' r rp m' ⟨⟨by rw [fin.len]; simp, fin.nd, fin.sub, fin.new, fun j hj => ?_, fin.wsub, fin.fr, fin.count, fin.res, fin.half⟩, fun hr => ⟨p, _, hp, by rw [hnone hr]; exact hp1, by omega⟩, fun hf => ?_⟩ hX' hrp
    · rw [fin.out j hj, List.getElem?_set_ne]
      intro e; subst e; exact hj (fin.sub _ (by rw [e2]; simp))
    · rw [find_leaf hS hp hl, hb] at hf; cases hf
end
end Go.Am
namespace Go.Am

section
variable {T : List Pg} {d a : Nat} {p : Pg} {P : List Nat} {ps : KV} {key : ByteArray}
theorem PreR.pages {R : Nat → List Nat → KV → Prop} (hR : ∀ k P ps, R k P ps → 4 * P.length + 2 ≤ 3 * ps.length) : ∀ {ks : List Int} {ss : List ByteArray} {P : List Nat} {ps : KV}, PreR R ks ss P ps → 4 * P.length + 2 * ks.length ≤ 3 * ps.length
  | [], [], P, ps, h => by rw [h.1]; simp
  | k :: ks, s :: ss, P, ps, ⟨P1, ps1, P2, ps2, h1, h2, e1, e2, _, _⟩ => by
    have x := hR _ _ _ h1
    have y := PreR.pages hR h2
    subst e1; subst e2
    simp only [List.length_append, List.length_cons]
    omega
theorem SufR.pages {R : Nat → List Nat → KV → Prop} (hR : ∀ k P ps, R k P ps → 4 * P.length + 2 ≤ 3 * ps.length) {kc : List Int} {sc : List ByteArray} (h : SufR R kc sc P ps) : 4 * P.length + 2 * kc.length ≤ 3 * ps.length := by
  cases sc with
  | nil => rw [h.1, h.2.1]; simp
  | cons s sc => exact KidsR.pages hR h.1
theorem SubF.pages (h : SubF T d a P ps) (hp : T[a]? = some p) (h5 : p.keys.length = 5) : 4 * P.length + 8 ≤ 3 * ps.length := by
  obtain ⟨q, hq, hf, hc⟩ := h
  rw [hp] at hq
  obtain rfl := Option.some.inj hq
  rcases hc with ⟨e, h1, h2, h3⟩ | ⟨h1, d', P', e, h2, h3⟩
  · have := (hf.leaf h1).1
    subst h2; subst h3
    simp [List.length_zip]; omega
  · have x := KidsR.pages (fun _ _ _ h => SubB.pages h) h3
    have y := (hf.inner h1).2.2.1
    subst h2
    simp only [List.length_cons]; omega
theorem isN0 : isNone (none : Pl) = true := rfl
theorem isN1 (q : Nat × Nat) : isNone (some q : Pl) = false := rfl
theorem findK_ex : (findK ps key).isSome = true ↔ ∃ e ∈ ps, e.1 = key := by
  rw [findK_is, List.any_eq_true]
  simp
end
section
variable {B : Hp} {le tp : Nat} {fa : Pl} {key v : ByteArray}
set_option maxRecDepth 100000 in
theorem put_spec (h1 : 1 ≤ key.size) (h2 : key.size ≤ 6) (h3 : v.size ≤ 10) : ∀ (d : Nat) {H : Hp} {ds : List PC} {T : List Pg} {X : Nat → Prop} {ws : List Int} {a : Nat} {P : List Nat} {ps : KV} {p : Pg} {Q : Post}, WM B H le tp ds T X fa ws → Sub T d a P ps → P.Nodup → (∀ i ∈ P, X i) → Frees P ws → T[a]? = some p →
    (3 * ps.length + 5 ≤ 4 * (ws.length + P.length) ∨ (2 ≤ p.keys.length ∧ 3 * ps.length + 3 ≤ 4 * (ws.length + P.length))) →
    (hQ : ∀ H' ds' T' P' ws' X' r rp, WM B H' le tp ds' T' X' fa ws' → PutR T T' d a key v P P' ws ws' ps r → (∀ j, j ∉ P' → X j → X' j) → Rp H' r rp → Q (.g (.ptr rp)) H') →
    insert_writer_put.at d [.g (.ptr (some (le, 0))), .g (.int .i64 (a : Int)), .g (.str key), .g (.str v)] H Q
  | 0, H, ds, T, X, ws, a, P, ps, p, Q, m, hS, _, _, _, _, _, _ => hS.elim
  | n + 1, H, ds, T, X, ws, a, P, ps, p, Q, m, hS, hnd, hX, hfr, hp, hcnt, hQ => by
    have q1 := m.g.ot.len
    have q2 := m.g.ot.lenT
    have hm := hS.may hp
    have hlt := (List.getElem?_eq_some_iff.1 hp).1
    have eTa : T[a]'hlt = p := (List.getElem?_eq_some_iff.1 hp).2
    have at_a := m.g.ot.all a (by omega) hlt
    rw [eTa] at at_a
    obtain ⟨a0, a1, a2, a3, a4⟩ := m.g.cells (i := a) (by omega)
    have ea : tN (a : Int) = a := rfl
    have hsm := small_may hm
    have hlf := at_a.leaf
    refine ⟨1, ?_⟩
    rw [insert_writer_put_eq, pS_some, Nat.add_zero, rd_of m.gtE, dL_sl, chk_true]
    refine chk_of (by simp; omega) ?_
    rw [pS_some, ea, rd_of a1, dB_bool]
    cases hl : p.leaf with
    | true =>
      rw [bite_t (by rw [← hlf, hl])]
      refine leaf_put m hS hp hl (hX a hS.head) hfr (by omega) h1 h2 h3 fun H' ds' T' P' ws' X' r rp m' pr hx hr => ?_
      simp only [rG_g, dP_ptr]
      exact hQ H' ds' T' P' ws' X' r rp m' pr hx hr
    | false =>
      rw [bite_f (by rw [← hlf, hl])]
      obtain ⟨d, PA, psA, Pi, psi, PC, psC, ed, kd⟩ := kid_split (key := key) hS hp hl
      obtain rfl : n = d + 1 := by omega
      obtain ⟨f1, f2, f3, f4, f5⟩ := hm.2.inner hl
      have hnd' := hnd
      rw [kd.eP] at hnd'
      have n0 := List.nodup_cons.1 hnd'
      have n1 := List.nodup_append.1 n0.2
      have n2 := List.nodup_append.1 n1.2.1
      have hi := kd.hi
      have hm4 := hm.1
      have kr := f4 _ (List.getElem_mem hi)
      have ek : p.kids[kidN p.keys key] = (((p.kids[kidN p.keys key]).toNat : Nat) : Int) := by omega
      have inP : ∀ i ∈ Pi, i ∈ P := fun i h => by rw [kd.eP]; simp [h]
      have aPi : a ∉ Pi := fun h => n0.1 (by simp [h])
      have kle := (kidN_split (key := key) (rising_pw hm.2.rising)).2.2
      -- pages
      have c1 := PreR.pages (fun _ _ _ h => SubB.pages h) kd.pre
      have c2 := SufR.pages (fun _ _ _ h => SubB.pages h) kd.suf
      have c3 : P.length = 1 + (PA.length + (Pi.length + PC.length)) := by rw [kd.eP]; simp; omega
      have c4 : ps.length = psA.length + (psi.length + psC.length) := by rw [kd.eps]; simp
      have c5 : (p.kids.take (kidN p.keys key)).length = kidN p.keys key := by simp; omega
      have c6 : (p.kids.drop (kidN p.keys key + 1)).length = p.kids.length - (kidN p.keys key + 1) := by simp
      rw [c5] at c1
      rw [c6] at c2
      obtain ⟨kq, hkq, hkq2⟩ := kd.kid.2
      refine find_Kid_spec (o := 0 + a * 5) a2 at_a.keys ?_
      simp only [rG_g, dI_int]
      rw [rd_of a4, dL_sl, chk_true, at_a.kids.rd _ rfl hi, ek]
      refine put_spec h1 h2 h3 (d + 1) m kd.kid.1 n2.1 (fun i h => hX i (inP i h)) ⟨hfr.rng, hfr.nd, fun x hx hxi => hfr.out x hx (inP _ hxi)⟩ hkq (.inr ⟨hkq2, by omega⟩) ?_
      intro H1 ds1 T1 Pi' ws1 X1 r rp m1 pr hX1 hrp
      have r1 := m1.g.ot.len
      have r2 := m1.g.ot.lenT
      have fi := pr.fin
      have frOut : ∀ x ∈ ws, x.toNat ∉ P := hfr.out
      have memPi : ∀ j ∈ Pi', j ∈ P → j ∈ Pi := fun j hj hjP => by
        rcases fi.new j hj with q | ⟨x, hx, e⟩
        · exact q
        · exact (frOut x hx (by rw [e]; exact hjP)).elim
      have aPi' : a ∉ Pi' := fun h => aPi (memPi a h hS.head)
      have hp1 : T1[a]? = some p := by rw [fi.out a aPi']; exact hp
      have eTa1 : T1[a]'(by omega) = p := (List.getElem?_eq_some_iff.1 hp1).2
      have disjA : ∀ j ∈ PA ++ PC, j ∉ Pi' := fun j hj h => by
        have hjP : j ∈ P := by rw [kd.eP]; simp only [List.mem_append] at hj; rcases hj with z | z <;> simp [z]
        have := memPi j h hjP
        rcases List.mem_append.1 hj with z | z
        · exact n1.2.2 j z j (by simp [this]) rfl
        · exact n2.2.2 j this j z rfl
      have hA : ∀ j ∈ PA ++ PC, T1[j]? = T[j]? := fun j hj => fi.out j (disjA j hj)
      have hx1a : X1 a := hX1 a aPi' (hX a hS.head)
      have hfind : (findK ps key).isSome = true → (findK psi key).isSome = true := fun h => findK_ex.2 (kd.mem (findK_ex.1 h)).1
      simp only [rG_g, dP_ptr]
      have key1 : ∀ {P1 : List Nat}, (∀ j, j ∈ P1 ↔ j ∈ Pi') → (a :: (PA ++ (P1 ++ PC))).length = 1 + (PA.length + (Pi'.length + PC.length)) → P1.Nodup →
          (a :: (PA ++ (P1 ++ PC))).Nodup ∧ (∀ j ∈ P, j ∈ a :: (PA ++ (P1 ++ PC))) ∧ (∀ j ∈ a :: (PA ++ (P1 ++ PC)), j ∈ P ∨ ∃ x ∈ ws, x.toNat = j) ∧ (∀ x ∈ ws1, x.toNat ∉ a :: (PA ++ (P1 ++ PC))) := fun {P1} hm1 hl1 hn1 => by
        refine ⟨List.nodup_cons.2 ⟨fun h => ?_, List.nodup_append.2 ⟨n1.1, List.nodup_append.2 ⟨hn1, n2.2.1, fun u hu w hw e => ?_⟩, fun u hu w hw e => ?_⟩⟩, fun j hj => ?_, fun j hj => ?_, fun x hx h => ?_⟩
        · simp only [List.mem_append] at h
          rcases h with z | z | z
          · exact n0.1 (by simp [z])
          · exact aPi' ((hm1 a).1 z)
          · exact n0.1 (by simp [z])
        · subst e; exact disjA u (by simp [hw]) ((hm1 u).1 hu)
        · subst e
          rcases List.mem_append.1 hw with z | z
          · exact disjA u (by simp [hu]) ((hm1 u).1 z)
          · exact n1.2.2 u hu u (by simp [z]) rfl
        · rw [kd.eP] at hj
          simp only [List.mem_cons, List.mem_append] at hj ⊢
          rcases hj with z | z | z | z
          · exact .inl z
          · exact .inr (.inl z)
          · exact .inr (.inr (.inl ((hm1 j).2 (fi.sub j z))))
          · exact .inr (.inr (.inr z))
        · simp only [List.mem_cons, List.mem_append] at hj
          rw [kd.eP]
          rcases hj with z | z | z | z
          · exact .inl (by simp [z])
          · exact .inl (by simp [z])
          · rcases fi.new j ((hm1 j).1 z) with q | q
            · exact .inl (by simp [q])
            · exact .inr q
          · exact .inl (by simp [z])
        · have hxw := fi.wsub x hx
          have nP := frOut x hxw
          rw [kd.eP] at nP
          simp only [List.mem_cons, List.mem_append] at h nP
          rcases h with z | z | z | z
          · exact nP (.inl z)
          · exact nP (.inr (.inl z))
          · exact fi.fr.out x hx ((hm1 _).1 z)
          · exact nP (.inr (.inr (.inr z)))
      have cnt1 := fi.count
      cases r with
      | none =>
        have hrp' : rp = none := hrp
        subst hrp'
        rw [isN0, bite_t rfl]
        obtain ⟨p0, p1', hp0, hp1', hkk⟩ := pr.keys rfl
        rw [hkq] at hp0
        obtain rfl := Option.some.inj hp0
        have hsub : SubB T1 (d + 1) (p.kids[kidN p.keys key]).toNat Pi' (insK psi key v) := ⟨fi.res, p1', hp1', by omega⟩
        have hfin := kd.put1 hp hm hl rfl hA hp1 hsub
        obtain ⟨k1, k2, k3, k4⟩ := key1 (P1 := Pi') (fun j => Iff.rfl) (by simp; omega) fi.nd
        refine hQ H1 ds1 T1 _ ws1 X1 none none m1 ⟨⟨fi.len, k1, k2, k3, fun j hj => fi.out j fun h => hj (by simp [h]), fi.wsub, ⟨fi.fr.rng, fi.fr.nd, k4⟩, by simp only [List.length_cons, List.length_append]; omega, hfin, fun s x e => by cases e⟩, fun _ => ⟨p, p, hp, hp1, Nat.le_refl _⟩, fun hf => ?_⟩ (fun j hj hx => hX1 j (fun h => hj (by simp [h])) hx) rfl
        obtain ⟨w1, w2, w3, i, pi, w4, w5⟩ := pr.was (hfind hf)
        exact ⟨rfl, by rw [w2, kd.eP], w3, i, pi, inP i w4, w5⟩
      | some sx =>
        obtain ⟨s, x⟩ := sx
        obtain ⟨lq, e, hq⟩ := hrp
        subst e
        rw [isN1, bite_f rfl]
        obtain ⟨PX, psX, PY, psY, s1, s2, s3, s4, s5, s6, s7, s8, s9, s10⟩ := fi.res
        have ex : (x.toNat : Int) = x := by omega
        have hxw := fi.half s x rfl
        have hxP : x.toNat ∉ P := frOut x hxw
        have hmm : ∀ j, j ∈ PX ++ PY ↔ j ∈ Pi' := fun j => by rw [s3]
        refine m1.insInner hp1 hx1a kle f3 hsm (by omega) hq (by omega) fun H2 ds2 m2 => ?_
        have hlt1 := (List.getElem?_eq_some_iff.1 hp1).1
        have hp2 : (T1.set a (insI p (kidN p.keys key) s x))[a]? = some (insI p (kidN p.keys key) s x) := List.getElem?_set_self hlt1
        have out2 : ∀ j, j ≠ a → (T1.set a (insI p (kidN p.keys key) s x))[j]? = T1[j]? := fun j hj => List.getElem?_set_ne (Ne.symm hj)
        have nX : ∀ j ∈ PX ++ PY, j ≠ a := fun j hj e => aPi' ((hmm a).1 (by rw [← e]; exact hj))
        have nA : ∀ j ∈ PA ++ PC, j ≠ a := fun j hj e => by
          subst e
          rcases List.mem_append.1 hj with z | z
          · exact n0.1 (by simp [z])
          · exact n0.1 (by simp [z])
        have hSF := kd.put2 (T1 := T1.set a (insI p (kidN p.keys key) s x)) (f := x.toNat) (v := v) hp hm hl rfl hxP (by omega) (by omega) s7 (fun j hj => by rw [out2 j (nA j hj)]; exact hA j hj)
          (s1.keep fun j hj => out2 j (nX j (by simp [hj]))) (s2.keep fun j hj => out2 j (nX j (by simp [hj]))) s4 s5 s6 (by rw [ex]; exact hp2)
        have hk5 : (insI p (kidN p.keys key) s x).keys.length = p.keys.length + 1 := by
          show (p.keys.take _ ++ s :: p.keys.drop _).length = _
          simp; omega
        have eas : PX ++ (PY ++ PC) = (PX ++ PY) ++ PC := by simp
        rw [eas] at hSF
        have hl3 : (PX ++ PY).length = Pi'.length := by rw [s3]
        obtain ⟨k1, k2, k3, k4⟩ := key1 (P1 := PX ++ PY) hmm (by simp only [List.length_cons, List.length_append] at hl3 ⊢; omega) (by rw [← s3]; exact fi.nd)
        have hfr1 : Frees (a :: (PA ++ ((PX ++ PY) ++ PC))) ws1 := ⟨fi.fr.rng, fi.fr.nd, k4⟩
        have hlen1 : (a :: (PA ++ ((PX ++ PY) ++ PC))).length = 1 + (PA.length + (Pi'.length + PC.length)) := by simp only [List.length_cons, List.length_append] at hl3 ⊢; omega
        have hins := insK_le (k := key) (v := v) hS.asc.1
        refine fin_spec m2 hSF hp2 (by omega) k1 hfr1 (fun h5 e => ?_) fun H3 ds3 T3 P3 ws3 X3 r3 rp3 m3 fin3 hn3 hX3 hrp3 => ?_
        · have := hSF.pages hp2 h5
          rw [hlen1] at this
          rw [e] at cnt1
          simp only [List.length_nil] at cnt1
          omega
        simp only [rG_g, dP_ptr]
        have cnt3 := fin3.count
        rw [hlen1] at cnt3
        have inP3 : ∀ j ∈ a :: (PA ++ ((PX ++ PY) ++ PC)), j ∈ P3 := fin3.sub
        have inP4 : ∀ j ∈ Pi', j ∈ P3 := fun j h => inP3 j (List.mem_cons_of_mem _ (List.mem_append.2 (.inr (List.mem_append.2 (.inl ((hmm j).2 h))))))
        refine hQ H3 ds3 T3 P3 ws3 X3 r3 rp3 m3 ⟨⟨by rw [fin3.len]; simp [fi.len], fin3.nd, fun j hj => inP3 j (k2 j hj), fun j hj => ?_, fun j hj => ?_, fun y hy => fi.wsub y (fin3.wsub y hy), fin3.fr, by omega, fin3.res, fun s' x' e => fi.wsub x' (fin3.half s' x' e)⟩, fun hr => ⟨p, _, hp, by rw [hn3 hr]; exact hp2, by omega⟩, fun hf => ?_⟩ (fun j hj hx => hX3 j hj (hX1 j (fun h => hj (inP4 j h)) hx)) hrp3
        · rcases fin3.new j hj with q | ⟨y, hy, e⟩
          · exact k3 j q
          · exact .inr ⟨y, fi.wsub y hy, e⟩
        · rw [fin3.out j hj, out2 j (fun e => hj (inP3 j (by simp [e])))]
          exact fi.out j fun h => hj (inP4 j h)
        · have := (pr.was (hfind hf)).1
          cases this
end
end Go.Am
namespace Go.Am

/-! a tree's pages, used and free -/
theorem KidsR.pagesMay {R : Nat → List Nat → KV → Prop} {G : Nat → Prop} (hR : ∀ k P ps, R k P ps → ∀ i ∈ P, G i) : ∀ {ks : List Int} {ss : List ByteArray} {P : List Nat} {ps : KV}, KidsR R ks ss P ps → ∀ i ∈ P, G i
  | [], _, _, _, h, _, _ => h.elim
  | k :: ks, [], P, ps, h, i, hi => hR _ _ _ h.2 i hi
  | k :: ks, s :: ss, P, ps, ⟨P1, ps1, P2, ps2, h1, h2, e1, e2, _, _⟩, i, hi => by
    subst e1
    rcases List.mem_append.1 hi with q | q
    · exact hR _ _ _ h1 i q
    · exact KidsR.pagesMay hR h2 i q
theorem Sub.pagesMay {T : List Pg} : ∀ {d a : Nat} {P : List Nat} {ps : KV}, Sub T d a P ps → ∀ i ∈ P, ∃ p, T[i]? = some p ∧ MayP p
  | 0, _, _, _, h, _, _ => h.elim
  | d + 1, a, P, ps, h, i, hi => by
    obtain ⟨p, hp, hm, ⟨_, _, e, _⟩ | ⟨_, P', e, hk⟩⟩ := h
    · subst e; rw [List.mem_singleton.1 hi]; exact ⟨p, hp, hm⟩
    · subst e
      rcases List.mem_cons.1 hi with q | q
      · rw [q]; exact ⟨p, hp, hm⟩
      · exact KidsR.pagesMay (G := fun i => ∃ p, T[i]? = some p ∧ MayP p) (fun k P ps h i hi => Sub.pagesMay h.1 i hi) hk i q
def usedAt (T : List Pg) (i : Nat) : Bool := match T[i]? with | some p => p.used | none => false
section
variable {T T' : List Pg} {d : Nat} {P : List Nat} {ps : KV}
theorem Whole.used (w : Whole T d P ps) {i : Nat} (hi : i < 48) : i ∈ P ↔ usedAt T i = true := by
  have hl := w.len
  have hp : T[i]? = some (T[i]'(by omega)) := List.getElem?_eq_getElem (by omega)
  constructor
  · intro h
    obtain ⟨p, hp', hm⟩ := w.sub.pagesMay i h
    unfold usedAt; rw [hp']; exact hm.2.used
  · intro h
    refine Decidable.byContradiction fun q => ?_
    have := w.rest i _ hp q
    unfold usedAt at h
    rw [hp] at h
    have h' : (T[i]'(by omega)).used = true := h
    unfold nothingB at this
    rw [h'] at this; cases this
/-- pages that are free, as numbers, below k -/
def freeN (T : List Pg) (k : Nat) : List Int := List.map (fun i : Nat => (i : Int)) ((List.range k).filter fun i => !usedAt T i)
theorem freeN_succ (T : List Pg) (k : Nat) : freeN T (k + 1) = freeN T k ++ (match usedAt T k with | true => [] | false => [(k : Int)]) := by
  unfold freeN
  rw [List.range_succ, List.filter_append, List.map_append]
  congr 1
  cases h : usedAt T k <;> simp [h]
theorem freeN_mem {k : Nat} {x : Int} : x ∈ freeN T k ↔ ∃ i : Nat, x = i ∧ i < k ∧ usedAt T i = false := by
  unfold freeN
  simp only [List.mem_map, List.mem_filter, List.mem_range, Bool.not_eq_true']
  constructor
  · rintro ⟨i, ⟨h1, h2⟩, e⟩; exact ⟨i, e.symm, h1, h2⟩
  · rintro ⟨i, e, h1, h2⟩; exact ⟨i, ⟨h1, h2⟩, e.symm⟩
theorem freeN_nodup (T : List Pg) (k : Nat) : (freeN T k).Nodup := by
  unfold freeN
  rw [List.Nodup, List.pairwise_map]
  exact ((List.nodup_range (n := k)).sublist List.filter_sublist).imp fun h e => h (by omega)
theorem filter_add (q : Nat → Bool) : ∀ l : List Nat, (l.filter q).length + (l.filter fun i => !q i).length = l.length
  | [] => rfl
  | x :: l => by
    have := filter_add q l
    cases h : q x <;> simp [h] <;> omega
theorem Whole.frees (w : Whole T d P ps) {ws : List Int} (hp : ws.Perm (freeN T 48)) : Frees P ws ∧ ws.length + P.length = 48 := by
  have h0 : 0 ∈ P := w.sub.head
  refine ⟨⟨fun x hx => ?_, hp.nodup_iff.2 (freeN_nodup T 48), fun x hx hxP => ?_⟩, ?_⟩
  · obtain ⟨i, e, hi, hu⟩ := freeN_mem.1 (hp.mem_iff.1 hx)
    have : i ≠ 0 := fun q => by
      subst q
      rw [(w.used (by omega)).1 h0] at hu; cases hu
    omega
  · obtain ⟨i, e, hi, hu⟩ := freeN_mem.1 (hp.mem_iff.1 hx)
    subst e
    have : (i : Int).toNat = i := rfl
    rw [this, w.used hi, hu] at hxP
    cases hxP
  · have hperm : P.Perm ((List.range 48).filter fun i => usedAt T i) := by
      refine (List.perm_ext_iff_of_nodup w.nodup ((List.nodup_range (n := 48)).sublist List.filter_sublist)).2 fun i => ?_
      rw [List.mem_filter, List.mem_range]
      constructor
      · intro h
        have := w.sub.inT i h
        rw [w.len] at this
        exact ⟨this, (w.used this).1 h⟩
      · rintro ⟨h1, h2⟩; exact (w.used h1).2 h2
    rw [hperm.length_eq, hp.length_eq]
    unfold freeN
    rw [List.length_map]
    have := filter_add (fun i => usedAt T i) (List.range 48)
    rw [List.length_range] at this
    omega

/-- how many keys leaves have -/
def leafSum (T : List Pg) : Nat := (T.map gK).sum
theorem leafSum_used (h : 0 < heightD T) : leafSum T = (entD T).length := by
  obtain ⟨st, s⟩ := SF.of h
  have e1 := s.sums.1
  rw [← e1]
  have hp := sound_pages h
  have : ∀ l : List Pg, (∀ p ∈ l, p ∈ T) → (l.map gK).sum = usedSum gK l := by
    intro l
    induction l with
    | nil => intro _; rfl
    | cons p l ih =>
      intro hl
      have i1 := ih fun q hq => hl q (List.mem_cons_of_mem _ hq)
      unfold usedSum at i1 ⊢
      rw [List.map_cons, List.sum_cons, List.map_cons, List.sum_cons, i1]
      congr 1
      rcases hp p (hl p (by simp)) with q | q
      · rw [((mayB_iff p).1 q).2.used]
      · rw [q]; rfl
  exact this T fun p hp => hp

/-- a root that was split -/
theorem sub_move' {k t : Nat} {p : Pg} (h : Sub T d k P ps) (hp : T[k]? = some p) (h0 : T'[t]? = some p) (hk : P.Nodup) (hT : ∀ i ∈ P, i ≠ k → T'[i]? = T[i]?) : Sub T' d t (t :: P.tail) ps := by
  have hm := h.may hp
  cases hl : p.leaf with
  | true =>
    obtain ⟨e, eP, es⟩ := h.leafD hp hl
    subst e; subst eP
    exact ⟨p, h0, hm, .inl ⟨rfl, hl, rfl, es⟩⟩
  | false =>
    obtain ⟨d', P', e, eP, kk⟩ := h.innD hp hl
    subst e; subst eP
    have hn := List.nodup_cons.1 hk
    exact ⟨p, h0, hm, .inr ⟨hl, P', rfl, kk.imp fun j Q qs hb hin => hb.keep fun i hi => hT i (by simp [hin i hi]) fun e => hn.1 (by rw [← e]; exact hin i hi)⟩⟩
theorem Sub.eHead {a : Nat} (h : Sub T d a P ps) : P = a :: P.tail := by
  cases d with
  | zero => exact h.elim
  | succ d => obtain ⟨p, _, _, ⟨_, _, e, _⟩ | ⟨_, P', e, _⟩⟩ := h <;> simp [e]
theorem root_up {PX PY : List Nat} {psX psY qs : KV} {s : ByteArray} {x y : Int} {r : Pg} (hX : SubB T d 0 PX psX) (hY : SubB T d x.toNat PY psY) (hq : psX ++ psY = qs) (lt : ∀ e ∈ psX, blt e.1 s = true) (ge : ∀ e ∈ psY, blt e.1 s = false) (hs : 1 ≤ s.size ∧ s.size ≤ 6)
    (hx : 1 ≤ x ∧ x < 48) (hy : 1 ≤ y ∧ y < 48) (hnd : (PX ++ PY).Nodup) (hyP : y.toNat ∉ PX ++ PY) (hr : T[0]? = some r) (hlen : T.length = 48) (hrest : ∀ i p, T[i]? = some p → i ∉ PX ++ PY → nothingB p = true) (hc : qs.length ≤ 60) :
    ∃ P, Whole ((T.set 0 ⟨true, false, [s], [], [y, x]⟩).set y.toNat r) (d + 1) P qs := by
  have eX := hX.1.eHead
  have n1 := List.nodup_append.1 hnd
  have n0 := n1.1
  rw [eX] at n0
  have n0' := List.nodup_cons.1 n0
  have h0X : 0 ∈ PX := hX.1.head
  have xY : x.toNat ∈ PY := hY.1.head
  have y0 : y.toNat ≠ 0 := by omega
  have x0 : x.toNat ≠ 0 := by omega
  have xy : y.toNat ≠ x.toNat := fun e => hyP (by rw [e]; simp [xY])
  have t0 : ((T.set 0 (⟨true, false, [s], [], [y, x]⟩ : Pg)).set y.toNat r)[0]? = some ⟨true, false, [s], [], [y, x]⟩ := by rw [List.getElem?_set_ne y0, List.getElem?_set_self (by omega)]
  have ty : ((T.set 0 (⟨true, false, [s], [], [y, x]⟩ : Pg)).set y.toNat r)[y.toNat]? = some r := by rw [List.getElem?_set_self (by simp; omega)]
  have to : ∀ i, i ≠ 0 → i ≠ y.toNat → ((T.set 0 (⟨true, false, [s], [], [y, x]⟩ : Pg)).set y.toNat r)[i]? = T[i]? := fun i h1 h2 => by rw [List.getElem?_set_ne (Ne.symm h2), List.getElem?_set_ne (Ne.symm h1)]
  have inY0 : ∀ i ∈ PY, i ≠ 0 := fun i hi e => n1.2.2 0 h0X i hi e.symm
  have iny : ∀ i ∈ PX ++ PY, i ≠ y.toNat := fun i hi e => hyP (by rw [← e]; exact hi)
  have sX := sub_move' (T' := (T.set 0 (⟨true, false, [s], [], [y, x]⟩ : Pg)).set y.toNat r) hX.1 hr ty n1.1 fun i hi hi0 => to i hi0 (iny i (by simp [hi]))
  have sY := hY.keep (T' := (T.set 0 (⟨true, false, [s], [], [y, x]⟩ : Pg)).set y.toNat r) fun i hi => to i (inY0 i hi) (iny i (by simp [hi]))
  obtain ⟨q, hq1, hq2⟩ := hX.2
  rw [hr] at hq1
  obtain rfl := Option.some.inj hq1
  have tlX : ∀ i ∈ PX.tail, i ∈ PX := fun i hi => List.mem_of_mem_tail hi
  refine ⟨0 :: ((y.toNat :: PX.tail) ++ PY), by simp [hlen], ⟨_, t0, ⟨by simp, ⟨rfl, ?_, fun k hk => ?_, fun e => (by cases e), fun _ => ⟨by simp, rfl, rfl, fun k hk => ?_, ?_⟩⟩⟩, .inr ⟨rfl, _, rfl, ?_⟩⟩, ?_, fun i p hp hi => ?_, hc⟩
  · exact pw_rising (by simp [Pw])
  · have hk' : k ∈ [s] := hk
    rw [List.mem_singleton.1 hk']; exact hs
  · simp only [List.mem_cons, List.not_mem_nil, or_false] at hk
    rcases hk with e | e
    · rw [e]; exact hy
    · rw [e]; exact hx
  · have : y ≠ x := fun e => xy (by rw [e])
    simp [this]
  · show KidsR _ [y, x] [s] _ _
    refine ⟨y.toNat :: PX.tail, psX, PY, psY, ⟨sX, _, ty, hq2⟩, ⟨rfl, sY⟩, rfl, hq.symm, lt, ge⟩
  · refine List.nodup_cons.2 ⟨fun h => ?_, List.nodup_append.2 ⟨List.nodup_cons.2 ⟨fun h => iny _ (by simp [tlX _ h]) rfl, n0'.2⟩, n1.2.1, fun u hu w hw e => ?_⟩⟩
    · simp only [List.mem_append, List.mem_cons] at h
      rcases h with (z | z) | z
      · exact y0 z.symm
      · exact n0'.1 z
      · exact inY0 0 z rfl
    · subst e
      rcases List.mem_cons.1 hu with z | z
      · exact iny u (by simp [hw]) z
      · exact n1.2.2 u (tlX u z) u hw rfl
  · simp only [List.mem_cons, List.mem_append, not_or] at hi
    rw [to i hi.1 hi.2.1.1] at hp
    refine hrest i p hp fun h => ?_
    rcases List.mem_append.1 h with z | z
    · rw [eX] at z
      rcases List.mem_cons.1 z with z | z
      · exact hi.1 z
      · exact hi.2.1.2 z
    · exact hi.2.2 z
end
section
variable {H : Hp} {Q : Post} {x : Pl} {n : Nat} {T : List Pg} {cs : List Am.PC}
theorem gK_le {p : Pg} (h : p.keys.length ≤ 1000) : gK p ≤ 1000 := by unfold gK; cases p.leaf <;> simp <;> omega
theorem entries_spec {l0 : Nat} (hT : Tr H x n cs T) (hg : gt H l0 0 = some (.sl x n 5)) (hn : n ≤ 48) (hs : ∀ p ∈ T, small p) (hQ : Q (.g (.int .i64 (leafSum T : Int))) H) : insert_entries [.g (.ptr (some (l0, 0)))] H Q := by
  have hlT := hT.lenT
  have sumle : ∀ k, k ≤ n → ((T.take k).map gK).sum ≤ 1000 * k := by
    intro k
    induction k with
    | zero => intro _; simp
    | succ k ih =>
      intro hk
      have hk' : k < T.length := by omega
      rw [List.take_succ_eq_append_getElem hk', List.map_append, List.sum_append]
      have := gK_le (hs _ (List.getElem_mem hk')).2.2.1
      simp only [List.map_cons, List.map_nil, List.sum_cons, List.sum_nil]
      have := ih (by omega)
      omega
  have loop : ∀ (f k : Nat), n - k < f → k ≤ n → insert_entries.l3 f ((((T.take k).map gK).sum : Nat) : Int) x n (nI n) (k : Int) H Q := by
    intro f
    induction f with
    | zero => intro k h; omega
    | succ f ih =>
      intro k hf hk
      rw [insert_entries.l3_eq]
      by_cases hkn : k < n
      · obtain ⟨l, o, c, p, rfl, hc, hpp, hpc, g0, g1, g2, g3, g4⟩ := hT.get hkn
        have etN : tN (k : Int) = k := rfl
        rw [bite_t (by simp; omega), chk_true]
        refine chk_of (by simp; omega) ?_
        rw [pS_some, etN, rdPage_of g0 g1 g2 g3 g4, wrap_succ (by omega)]
        have e1 := hpc.keys.len
        have hk' : k < T.length := by omega
        have eT : T[k] = p := (List.getElem?_eq_some_iff.1 hpp).2
        have es : ((T.take (k + 1)).map gK).sum = ((T.take k).map gK).sum + gK p := by
          rw [List.take_succ_eq_append_getElem hk', eT]; simp
        have b1 := sumle k (by omega)
        have b2 := gK_le (hs p (by rw [← eT]; exact List.getElem_mem hk')).2.2.1
        have b3 := (hs p (by rw [← eT]; exact List.getElem_mem hk')).2.2.1
        have next := ih (k + 1) (by omega) (by omega)
        rw [es] at next
        have hl := hpc.leaf
        unfold gK at next b2
        cases hpl : p.leaf with
        | true =>
          rw [hpl] at next
          rw [bite_t (by rw [← hl, hpl]), nI_def, e1, wrap64 (by omega) (by omega)]
          have e2 : (((T.take k).map gK).sum : Int) + (p.keys.length : Int) = ((((T.take k).map gK).sum + p.keys.length : Nat) : Int) := by omega
          rw [e2]
          exact next
        | false =>
          rw [hpl] at next
          rw [bite_f (by rw [← hl, hpl])]
          exact next
      · obtain rfl : k = n := by omega
        rw [bite_f (by simp), List.take_of_length_le (by omega)]
        exact hQ
  refine ⟨n + 2, ?_⟩
  rw [insert_entries_eq, pS_some, Nat.add_zero, rd_of hg, dL_sl]
  exact loop (n + 1) 0 (by omega) (Nat.zero_le _)
end
end Go.Am
namespace Go.Am

section
variable {B H : Hp} {le tp : Nat} {ds : List Am.PC} {T : List Pg} {X off : Nat → Prop} {fa : Pl} {ws : List Int} {Q : Post}
theorem GT.wt (g : GT B H tp ds T X off) {b : Nat} (hb' : b ≤ B.length) : WT H b H.length (some (tp, 0)) 48 := by
  obtain ⟨hb, hr⟩ := g.ot.at_row
  refine .inr ⟨tp, ds, rfl, ⟨by omega, (List.getElem?_eq_some_iff.1 hr).1⟩, hr, g.ot.len, by omega, fun c hc => ?_⟩
  obtain ⟨i, hi, rfl⟩ := List.getElem_of_mem hc
  exact ((g.wo i hi).base hb').s
theorem CT.gt (g : CT B H tPg (some (tp, 0)) 48 ds T) (hs : ∀ p ∈ T, small p) : GT B H tp ds T (fun _ => True) (fun _ => False) := by
  have q1 := g.ot.len
  have q2 := g.ot.lenT
  refine ⟨g.pre, g.ot, fun i h => (g.own i h (by omega)).wo (g.ot.all i h (by omega)) (hs _ (List.getElem_mem _)), fun i h l hl => ?_, fun i h h' _ => g.own i h h', g.ap, fun l h => h.elim⟩
  have ho := g.own i h (by omega)
  obtain ⟨o, e | e | e⟩ := hl
  · exact ho.keys.ge e
  · exact ho.vals.ge e
  · exact ho.kids.ge e

/-- what is behind a key put in -/
structure InsQ (T A : List Pg) (key v : ByteArray) : Prop where
  pos : 0 < heightD A
  ent : entD A = insK (entD T) key v
  len : A.length = 48
  was : (findK (entD T) key).isSome = true → ∃ i p, T[i]? = some p ∧ p.leaf = true ∧ slotB p.keys key = true ∧ A = T.set i (setP p key v)

set_option maxRecDepth 100000 in
/-- the key put in, the root split if it must be -/
theorem insert_end {key v : ByteArray} {P : List Nat} {d : Nat} (f : Nat) (m : WM B H le tp ds T (fun _ => True) fa ws) (w : Whole T d P (entD T)) (hp : ws.Perm (freeN T 48)) (hc : (insK (entD T) key v).length ≤ 60) (h1 : 1 ≤ key.size) (h2 : key.size ≤ 6) (h3 : v.size ≤ 10) {x8 : Pl} {n9 : Nat} {a2 : Pl} {n3 : Nat}
    (hQ : ∀ H' ds' T' X' off', GT B H' tp ds' T' X' off' → InsQ T T' key v → Q (.tup [.a [.sl (some (tp, 0)) 48 5], .s (.int .i64 0)]) H') :
    insert_Insert.l8 (f + 1) key v a2 n3 le 0 le 0 x8 n9 48 48 H Q := by
  obtain ⟨fr, cnt⟩ := w.frees hp
  have q1 := m.g.ot.len
  have q2 := m.g.ot.lenT
  obtain ⟨p0, hp0⟩ := w.sub.get
  rw [insert_Insert.l8_eq, bite_f (by decide)]
  refine ⟨d, put_spec h1 h2 h3 d (a := 0) m w.sub w.nodup (fun _ _ => trivial) fr hp0 (.inl (by have := w.count; omega)) fun H1 ds1 T1 P1 ws1 X1 r rp m1 pr hX1 hrp => ?_⟩
  have fi := pr.fin
  have q3 := m1.g.ot.len
  have q4 := m1.g.ot.lenT
  have rest1 : ∀ (i : Nat) p, T1[i]? = some p → i ∉ P1 → nothingB p = true := fun i p hp hi => by
    rw [fi.out i hi] at hp
    exact w.rest i p hp fun h => hi (fi.sub i h)
  have cnt1 := fi.count
  simp only [rG_g, dP_ptr]
  cases r with
  | none =>
    have hrp' : rp = none := hrp
    subst hrp'
    rw [isN0, bite_f (by decide), Nat.add_zero, rd_of m1.gtE, dL_sl]
    have w1 : Whole T1 d P1 (insK (entD T) key v) := ⟨by omega, fi.res, fi.nd, rest1, hc⟩
    refine hQ H1 ds1 T1 X1 _ m1.g ⟨w1.pos', w1.sound.2, by omega, fun hf => ?_⟩
    obtain ⟨_, _, _, i, p, _, r1, r2, r3, r4⟩ := pr.was hf
    exact ⟨i, p, r1, r2, r3, r4⟩
  | some sx =>
    obtain ⟨s, x⟩ := sx
    obtain ⟨lq, e, hq⟩ := hrp
    subst e
    obtain ⟨PX, psX, PY, psY, s1, s2, s3, s4, s5, s6, s7, s8, s9, s10⟩ := fi.res
    have hnf : ¬ (findK (entD T) key).isSome = true := fun h => by have := (pr.was h).1; cases this
    rw [isN1, bite_t (by decide), Nat.add_zero, rd_of m1.gtE, dL_sl, chk_true]
    refine chk_of (by decide) ?_
    obtain ⟨b0, b1, b2, b3, b4⟩ := m1.g.cells (i := 0) (by omega)
    have et0 : tN 0 = 0 := rfl
    rw [pS_some, et0, rdPage_of b0 b1 b2 b3 b4]
    have hpg := SubB.pages s1
    have hpg2 := SubB.pages s2
    have hPl : P1.length = PX.length + PY.length := by rw [s3]; simp
    have hql : psX.length + psY.length ≤ 60 := by rw [← s4] at hc; simpa using hc
    have hne : ws1 ≠ [] := fun e => by rw [e] at cnt1; simp at cnt1; omega
    refine take_raw m1 hne (fun y hy => ⟨by have := (fi.fr.rng y hy).1; omega, (fi.fr.rng y hy).2⟩) (c := ds1[0]'(by omega)) fun y init H2 hperm m2 l2 k2 => ?_
    obtain ⟨f1, f2, f3, f4, f5, f6, f7⟩ := fi.fr.pop hperm
    simp only [rG_g, dI_int]
    have hr2 := m2.g.ot.at_row.2
    have htp := (List.getElem?_eq_some_iff.1 hr2).1
    have hyl : y.toNat < ds1.length := by omega
    have y0 : y.toNat ≠ 0 := by omega
    have hle := m2.le_lt
    have hlet : le ≠ tp := (m2.g.off le (.inl rfl)).2.1
    have hlq2 : H2[lq]? = H1[lq]? := k2 lq fun h => by
      rcases h with rfl | ⟨o, e⟩
      · rcases m1.fre with ⟨_, e, _⟩ | ⟨lf, rest, e, hf⟩
        · exact hne e
        · exact half_ne hq hf.wr (by decide) rfl
      · rcases m1.fre with ⟨e', _, _⟩ | ⟨lf, rest, e', hf⟩
        · rw [e'] at e; cases e
        · rw [e'] at e; cases e
          exact half_ne hq hf.row (by decide) rfl
    have hq2 : H2[lq]? = some (.row true tHalf [.str s, .int .i64 x]) := by rw [hlq2]; exact hq
    have hlqt : lq ≠ tp := fun e => by rw [e, hr2] at hq2; simp at hq2; exact absurd hq2.1 (by decide)
    have hlq := (List.getElem?_eq_some_iff.1 hq2).1
    -- reading beside the rows that come
    have g0 : ∀ Z : List Obj, gt (H2.set tp (.row true tPg (pcells (ds1.set y.toNat (ds1[0]'(by omega))))) ++ Z) le 0 = some (.sl (some (tp, 0)) 48 5) := fun Z => by
      rw [← m2.gtE]; unfold gt
      rw [List.getElem?_append_left (by simpa using hle), List.getElem?_set_ne (Ne.symm hlet)]
    have gq0 : ∀ Z : List Obj, gt (H2.set tp (.row true tPg (pcells (ds1.set y.toNat (ds1[0]'(by omega))))) ++ Z) lq 0 = some (.str s) := fun Z => by
      have : gt H2 lq 0 = some (.str s) := by rw [gt_some hq2]; rfl
      rw [← this]; unfold gt
      rw [List.getElem?_append_left (by simpa using hlq), List.getElem?_set_ne (Ne.symm hlqt)]
    have gq1 : ∀ Z : List Obj, gt (H2.set tp (.row true tPg (pcells (ds1.set y.toNat (ds1[0]'(by omega))))) ++ Z) lq 1 = some (.int .i64 x) := fun Z => by
      have : gt H2 lq 1 = some (.int .i64 x) := by rw [gt_some hq2]; rfl
      rw [← this]; unfold gt
      rw [List.getElem?_append_left (by simpa using hlq), List.getElem?_set_ne (Ne.symm hlqt)]
    have z0 := g0 []
    have zq0 := gq0 []
    have zq1 := gq1 []
    rw [List.append_nil] at z0 zq0 zq1
    rw [rd_of z0, dL_sl, pS_some, Nat.add_zero, rd_of zq0, dS_str, pS_some, Nat.zero_add, rd_of zq1, dI_int]
    -- the last steps, for either order of the new rows
    have fin : ∀ (Z : List Obj) (lk ln' : Nat), Z.length = 2 → (H2 ++ Z)[lk]? = some (.row true tS [.str s]) → (H2 ++ Z)[ln']? = some (.row true tI [.int .i64 y, .int .i64 x]) → H2.length ≤ lk → H2.length ≤ ln' → lk ≠ ln' →
        wr (H2.set tp (.row true tPg (pcells (ds1.set y.toNat (ds1[0]'(by omega))))) ++ Z) tp (0 * 5) (.bool true) fun H66 => wr H66 tp (0 * 5 + 1) (.bool false) fun H67 => wr H67 tp (0 * 5 + 1 + 1) (.sl (some (lk, 0)) 1 1) fun H68 => wr H68 tp (0 * 5 + 1 + 1 + 1) (.sl none 0 1) fun H69 => wr H69 tp (0 * 5 + 1 + 1 + 1 + 1) (.sl (some (ln', 0)) 2 1) fun H70 =>
          rd H70 le 0 fun v71 => dL 5 v71 fun x72 n73 => Q (.tup [(.a [(.sl x72 n73 5)]), (.s (.int .i64 0))]) H70 := fun Z lk ln' hZ hk hn hlk hln hne' => by
      have ra : (H2.set tp (.row true tPg (pcells (ds1.set y.toNat (ds1[0]'(by omega))))) ++ Z)[tp]? = some (.row true tPg (pcells (ds1.set y.toNat (ds1[0]'(by omega))))) := by
        rw [List.getElem?_append_left (by simpa using htp)]; exact List.getElem?_set_self htp
      refine wr5 (i := 0) (c := ⟨true, false, some (lk, 0), 1, none, 0, some (ln', 0), 2⟩) ra (by simp; omega) ?_
      have eset : (H2.set tp (.row true tPg (pcells (ds1.set y.toNat (ds1[0]'(by omega))))) ++ Z) = (H2 ++ Z).set tp (.row true tPg (pcells (ds1.set y.toNat (ds1[0]'(by omega))))) := (List.set_append_left _ _ htp).symm
      rw [eset, List.set_set]
      have mZ := m2.mono (List.prefix_append H2 Z)
      have hBl := m2.g.pre.length_le
      have htpZ : tp < (H2 ++ Z).length := by rw [List.length_append]; omega
      have kp : ∀ (cs : List GV) l, l ≠ tp → ((H2 ++ Z).set tp (.row true tPg cs))[l]? = (H2 ++ Z)[l]? := fun cs l hl => by rw [List.getElem?_set_ne (Ne.symm hl)]
      have g1 : gt ((H2 ++ Z).set tp (.row true tPg (pcells ((ds1.set y.toNat (ds1[0]'(by omega))).set 0 ⟨true, false, some (lk, 0), 1, none, 0, some (ln', 0), 2⟩)))) le 0 = some (.sl (some (tp, 0)) 48 5) := by
        rw [← mZ.gtE]; unfold gt; rw [kp _ le hlet]
      rw [rd_of g1, dL_sl]
      -- the root, then the page that the root was
      have onr : ∀ l, (⟨true, false, some (lk, 0), 1, none, 0, some (ln', 0), 2⟩ : Am.PC).on l → l = lk ∨ l = ln' := fun l hl => by
        obtain ⟨o, e | e | e⟩ := hl
        · cases e; exact .inl rfl
        · cases e
        · cases e; exact .inr rfl
      have at0 : ∀ cs, (⟨true, false, some (lk, 0), 1, none, 0, some (ln', 0), 2⟩ : Am.PC).at ((H2 ++ Z).set tp (.row true tPg cs)) ⟨true, false, [s], [], [y, x]⟩ := fun cs => by
        have k1 : ((H2 ++ Z).set tp (.row true tPg cs))[lk]? = some (.row true tS [.str s]) := by rw [kp _ lk (by omega)]; exact hk
        have k2 : ((H2 ++ Z).set tp (.row true tPg cs))[ln']? = some (.row true tI [.int .i64 y, .int .i64 x]) := by rw [kp _ ln' (by omega)]; exact hn
        exact ⟨rfl, rfl, ⟨by simp [cells?, k1], rfl, by show 1 * 16 ≤ _; omega⟩, ⟨rfl, rfl, by show 0 * 16 ≤ _; omega⟩, ⟨by simp [cells?, k2], rfl, by show 2 * 8 ≤ _; omega⟩⟩
      have wo0 : ∀ cs, WoP ((H2 ++ Z).set tp (.row true tPg cs)) B.length 1000 ⟨true, false, some (lk, 0), 1, none, 0, some (ln', 0), 2⟩ := fun cs => by
        have k1 : ((H2 ++ Z).set tp (.row true tPg cs))[lk]? = some (.row true tS [.str s]) := by rw [kp _ lk (by omega)]; exact hk
        have k2 : ((H2 ++ Z).set tp (.row true tPg cs))[ln']? = some (.row true tI [.int .i64 y, .int .i64 x]) := by rw [kp _ ln' (by omega)]; exact hn
        refine ⟨.inr ⟨lk, 0, [s], rfl, by omega, k1, by simp, fun z hz => ?_⟩, .inl rfl, .inr ⟨ln', 0, [y, x], rfl, by omega, k2, by simp⟩, by show 1 ≤ 1000; omega, by show 0 ≤ 1000; omega, by show 2 ≤ 1000; omega⟩
        rw [List.mem_singleton.1 hz]; omega
      have t1 := mZ.g.turn (i := 0) (H' := (H2 ++ Z).set tp (.row true tPg (pcells (ds1.set 0 ⟨true, false, some (lk, 0), 1, none, 0, some (ln', 0), 2⟩)))) (c := ⟨true, false, some (lk, 0), 1, none, 0, some (ln', 0), 2⟩) (p := ⟨true, false, [s], [], [y, x]⟩) (X' := fun _ => False) (by omega) (by simp) (fun l _ _ hl _ => kp _ l hl) (List.getElem?_set_self htpZ) (at0 _) (wo0 _)
        (fun l hl => by
          have hl' : H2.length ≤ l := by rcases onr l hl with e | e <;> omega
          exact ⟨by omega, fun q => by have := m2.off_lt q; omega, by omega, fun j hj _ hon => by have := m2.g.onlt j hj hon; omega⟩) (fun j hj => hj.elim)
      have t2 := t1.turn (i := y.toNat) (H' := (H2 ++ Z).set tp (.row true tPg (pcells ((ds1.set 0 ⟨true, false, some (lk, 0), 1, none, 0, some (ln', 0), 2⟩).set y.toNat (ds1[0]'(by omega)))))) (c := ds1[0]'(by omega)) (p := T1[0]'(by omega)) (X' := fun _ => False) (by simp; omega) (by simp) (fun l _ _ hl _ => by rw [kp _ l hl, kp _ l hl]) (List.getElem?_set_self htpZ)
        ((mZ.g.ot.all 0 (by omega) (by omega)).keep fun l hl => kp _ l fun e => mZ.g.ot.off _ (List.getElem_mem (by omega)) l hl (by rw [e])) ((mZ.g.wo 0 (by omega)).keepOn fun l hl => kp _ l fun e => mZ.g.ot.off _ (List.getElem_mem (by omega)) l hl (by rw [e]))
        (fun l hl => by
          refine ⟨fun e => mZ.g.ot.off _ (List.getElem_mem (by omega)) l hl (by rw [e]), fun q => (mZ.g.off l q).2.2 0 (by omega) hl, mZ.g.base 0 (by omega) l hl, fun j hj hne2 hon => ?_⟩
          rw [List.getElem_set] at hon
          by_cases e : 0 = j
          · rw [if_pos e] at hon
            have := m2.g.onlt 0 (by omega) hl
            rcases onr l hon with z | z <;> omega
          · rw [if_neg e] at hon
            exact mZ.g.ap 0 j (by omega) (by simpa using hj) e l hl hon) (fun j hj => hj.elim)
      rw [List.set_comm _ _ (Ne.symm y0)] at t2
      have e0 : T1[0]? = some (T1[0]'(by omega)) := List.getElem?_eq_getElem (by omega)
      obtain ⟨P2, w2⟩ := root_up (y := y) s1 s2 s4 s5 s6 s7 ⟨s8, s9⟩ f2 (by rw [← s3]; exact fi.nd) (by rw [← s3]; exact f3) e0 (by omega) (fun i p hp hi => rest1 i p hp (by rw [s3]; exact hi)) hc
      exact hQ _ _ _ _ _ t2 ⟨w2.pos', w2.sound.2, by simp; omega, fun h => (hnf h).elim⟩
    have eln : ln (H2.set tp (.row true tPg (pcells (ds1.set y.toNat (ds1[0]'(by omega)))))) = H2.length := by simp [ln]
    have elp : ∀ o, ln (pu (H2.set tp (.row true tPg (pcells (ds1.set y.toNat (ds1[0]'(by omega)))))) o) = H2.length + 1 := fun o => by simp [ln, pu]
    refine ⟨?_, ?_⟩
    · simp only [pu_def]
      have A := gq1 [.row true 9 [.str s]]
      have A0 := g0 [.row true 9 [.str s]]
      rw [rd_of A, dI_int]
      refine ⟨rfl, ?_⟩
      rw [rd_of A0, dL_sl]
      refine ⟨rfl, ?_⟩
      rw [List.append_assoc]
      have B0 := gq0 ([Obj.row true 9 [.str s]] ++ [.row true 3 [.int .i64 y, .int .i64 x]])
      have B1 := g0 ([Obj.row true 9 [.str s]] ++ [.row true 3 [.int .i64 y, .int .i64 x]])
      rw [rd_of B0, dS_str]
      refine ⟨rfl, ?_⟩
      rw [rd_of B1, dL_sl]
      refine ⟨rfl, ?_⟩
      rw [chk_true]
      refine chk_of (by decide) ?_
      rw [pS_some]
      have F := fin ([Obj.row true 9 [.str s]] ++ [.row true 3 [.int .i64 y, .int .i64 x]]) H2.length (H2.length + 1) rfl (by simp) (by rw [← List.append_assoc, List.getElem?_append_right (by simp)]; simp) (Nat.le_refl _) (by omega) (by omega)
      simp only [ln_def, List.length_append, List.length_set, List.length_cons, List.length_nil, Nat.zero_add, Nat.add_zero] at F ⊢
      exact F
    · simp only [pu_def]
      have A := gq0 [.row true 3 [.int .i64 y, .int .i64 x]]
      have A0 := g0 [.row true 3 [.int .i64 y, .int .i64 x]]
      rw [rd_of A, dS_str]
      refine ⟨rfl, ?_⟩
      rw [rd_of A0, dL_sl]
      refine ⟨rfl, ?_⟩
      rw [List.append_assoc]
      have B0 := gq1 ([Obj.row true 3 [.int .i64 y, .int .i64 x]] ++ [.row true 9 [.str s]])
      have B1 := g0 ([Obj.row true 3 [.int .i64 y, .int .i64 x]] ++ [.row true 9 [.str s]])
      rw [rd_of B0, dI_int]
      refine ⟨rfl, ?_⟩
      rw [rd_of B1, dL_sl]
      refine ⟨rfl, ?_⟩
      rw [chk_true]
      refine chk_of (by decide) ?_
      rw [pS_some]
      have F := fin ([Obj.row true 3 [.int .i64 y, .int .i64 x]] ++ [.row true 9 [.str s]]) (H2.length + 1) H2.length rfl (by rw [← List.append_assoc, List.getElem?_append_right (by simp)]; simp) (by simp) (by omega) (Nat.le_refl _) (by omega)
      simp only [ln_def, List.length_append, List.length_set, List.length_cons, List.length_nil, Nat.zero_add, Nat.add_zero] at F ⊢
      exact F
end
end Go.Am
namespace Go.Am

section
variable {B H : Hp} {le tp : Nat} {ds : List Am.PC} {T : List Pg} {Q : Post} {key v : ByteArray} {P : List Nat} {d : Nat}
set_option maxRecDepth 100000 in
theorem insert_loop (w : Whole T d P (entD T)) (hc : (insK (entD T) key v).length ≤ 60) (h1 : 1 ≤ key.size) (h2 : key.size ≤ 6) (h3 : v.size ≤ 10) {a2 : Pl} {n3 : Nat}
    (hQ : ∀ H' ds' T' X' off', GT B H' tp ds' T' X' off' → InsQ T T' key v → Q (.tup [.a [.sl (some (tp, 0)) 48 5], .s (.int .i64 0)]) H') :
    ∀ (f k : Nat) (fa : Pl) (ws : List Int) (H : Hp), 48 - k < f → k ≤ 48 → GT B H tp ds T (fun _ => True) (offW le fa) → FA H B.length le (.sl (some (tp, 0)) 48 5) fa ws → ws.Perm (freeN T k) → insert_Insert.l8 f key v a2 n3 le 0 le 0 (some (tp, 0)) 48 48 (k : Int) H Q := by
  intro f
  induction f with
  | zero => intro k _ _ _ h; omega
  | succ f ih =>
    intro k fa ws H hf hk g hfa hp
    have q1 := g.ot.len
    have q2 := g.ot.lenT
    by_cases hk48 : k = 48
    · subst hk48
      refine insert_end f ⟨g, ?_⟩ w hp hc h1 h2 h3 hQ
      rcases hfa with h | ⟨lf, e, hb, h⟩
      · exact .inl h
      · exact .inr ⟨lf, [], e, h⟩
    · obtain ⟨c0, c1, c2, c3, c4⟩ := g.cells (i := k) (by omega)
      have etN : tN (k : Int) = k := rfl
      rw [insert_Insert.l8_eq, bite_t (by simp; omega), chk_true]
      refine chk_of (by simp; omega) ?_
      rw [pS_some, etN, rdPage_of c0 c1 c2 c3 c4, wrap_succ (by omega)]
      have hat := g.ot.all k (by omega) (by omega)
      have hu : usedAt T k = ds[k].u := by
        unfold usedAt
        rw [List.getElem?_eq_getElem (by omega)]
        exact hat.used
      refine bite_of (fun e => ?_) (fun e => ?_)
      · have e : usedAt T k = false := by rw [hu]; cases h : ds[k].u <;> simp_all
        have hlw : ws.length < 1000 := by
          have := hp.length_eq
          have h2 : (freeN T k).length ≤ k := by
            unfold freeN
            rw [List.length_map]
            have := List.length_filter_le (fun i => !usedAt T i) (List.range k)
            rwa [List.length_range] at this
          omega
        rw [Nat.zero_add]
        refine heap_Push_spec hfa g.pre.length_le hlw fun lf ws' H' hperm hfa' hlf hlf' hkeep => ?_
        have htp := (List.getElem?_eq_some_iff.1 g.ot.at_row.2).1
        refine ih (k + 1) (some (lf, 0)) ws' H' (by omega) (by omega) ((g.keep (fun l hl hno => hkeep l hl (fun q => hno (.inl q)) (fun o q => hno (.inr ⟨o, q⟩))) (by omega)).reoff fun l hl => ?_) hfa' ?_
        · rcases hl with rfl | ⟨o, e⟩
          · exact g.off _ (.inl rfl)
          · have e : lf = l := by cases e; rfl
            subst e
            exact ⟨by have := g.pre.length_le; omega, by omega, fun i hi hon => by have := g.onlt i hi hon; omega⟩
        · rw [freeN_succ, e]
          exact hperm.trans (hp.append_right _)
      · have e : usedAt T k = true := by rw [hu]; cases h : ds[k].u <;> simp_all
        exact ih (k + 1) fa ws H (by omega) (by omega) g hfa (by rw [freeN_succ, e, List.append_nil]; exact hp)

variable {x : Pl} {n : Nat} {cs : List Am.PC}
set_option maxRecDepth 100000 in
theorem insert_Insert_spec (hT : Tr H x n cs T) (hn : n * 80 ≤ 140737488351232) (hQ1 : ∀ H', insE T key v ≠ 0 → H <+: H' → Q (.tup [.a [.sl none 0 5], .s (.int .i64 (insE T key v))]) H')
    (hQ2 : insE T key v = 0 → 0 < heightD T → ∀ a ds A H', H <+: H' → Tr H' a 48 ds A → InsQ T A key v → WT H' H.length H'.length a 48 → Q (.tup [.a [.sl a 48 5], .s (.int .i64 0)]) H') :
    insert_Insert [.agg [.sl x n 5], .g (.str key), .g (.str v)] H Q := by
  have pA := pre_pu H (.row true 24 [(.sl x n 5)])
  have g0 : gt (pu H (.row true 24 [(.sl x n 5)])) (ln H) 0 = some (.sl x n 5) := by simp [gt, pu, ln]
  refine ⟨60, ?_⟩
  rw [insert_Insert_eq, rd_of g0, dL_sl]
  have hTA := hT.mono pA
  refine sound_Sound_spec hTA fun H1 p1 => ?_
  simp only [rG_g, dB_bool]
  have bad : ∀ H', H <+: H' → formE T key v = false → Q (.tup [.a [.sl none 0 5], .s (.int .i64 1200)]) H' := fun H' p e => by
    have e2 : insE T key v = 1200 := by unfold insE; rw [e]
    rw [e2] at hQ1
    exact hQ1 H' (by decide) p
  have pH1 : H <+: H1 := pA.trans p1
  by_cases e0 : 0 < heightD T
  rotate_left
  · rw [decide_eq_false e0, bite_t (by decide)]
    exact bad _ pH1 (by unfold formE; rw [decide_eq_false e0]; rfl)
  rw [decide_eq_true e0, bite_f (by decide)]
  refine page_Key_spec ?_
  simp only [rG_g, dB_bool]
  by_cases k12 : 1 ≤ key.size ∧ key.size ≤ 6
  rotate_left
  · have e : (decide (1 ≤ key.size) && decide (key.size ≤ 6)) = false := by
      rw [Bool.and_eq_false_iff]
      by_cases q : 1 ≤ key.size
      · exact .inr (decide_eq_false fun z => k12 ⟨q, z⟩)
      · exact .inl (decide_eq_false q)
    rw [e, bite_t (by decide)]
    exact bad _ pH1 (by unfold formE; rw [← Bool.and_assoc (decide (1 ≤ key.size)), e]; simp)
  obtain ⟨k1, k2⟩ := k12
  rw [decide_eq_true k1, decide_eq_true k2, bite_f (by decide)]
  refine page_Value_spec ?_
  simp only [rG_g, dB_bool]
  by_cases k3 : v.size ≤ 10
  rotate_left
  · rw [decide_eq_false k3, bite_t (by decide)]
    exact bad _ pH1 (by unfold formE; rw [decide_eq_false k3]; simp)
  rw [decide_eq_true k3, bite_f (by decide)]
  have hform : formE T key v = true := by unfold formE; simp; omega
  have hins : insE T key v = match (findK (entD T) key).isNone && decide (60 ≤ (entD T).length) with | true => 1201 | false => 0 := by unfold insE; rw [hform]; rfl
  obtain ⟨P, w⟩ := whole_of e0
  have hn48 : n = 48 := by have := hT.lenT; have := w.len; omega
  subst hn48
  have hs := small_sound e0
  have hc60 := w.count
  have g1 : gt H1 (ln H) 0 = some (.sl x 48 5) := gt_pre p1 g0
  rw [rd_of g1, dL_sl]
  refine find_Find_spec (hTA.mono p1) fun H2 p2 => ?_
  simp only [rT_tup, uR_cons, rS_s, dS_str, dB_bool, dI_int, uE_nil]
  have g2 : gt H2 (ln H) 0 = some (.sl x 48 5) := gt_pre p2 g1
  have pH2 : H <+: H2 := pH1.trans p2
  rw [findE_of e0]
  -- the work
  have work : insE T key v = 0 → (insK (entD T) key v).length ≤ 60 → ∀ H3, H2 <+: H3 → (rd H3 (ln H) 0 fun v37 => dL 5 v37 fun x38 n39 => cl sound_Copy [(.agg [(.sl x38 n39 5)])] H3 fun r40 H41 => rA r40 fun c42 => uC c42 fun v43 c44 => dL 5 v43 fun x45 n46 => uN c44 (rd (pu H41 (.row true 100 [(.sl x45 n46 5), (.sl none 0 1)])) (ln H41) 0 fun v47 => dL 5 v47 fun x48 n49 =>
      insert_Insert.l8 59 key v none 0 (ln H41) 0 (ln H41) 0 x48 n49 (nI n49) 0 (pu H41 (.row true 100 [(.sl x45 n46 5), (.sl none 0 1)])) Q)) := fun hz hc H3 p3 => by
    have g3 : gt H3 (ln H) 0 = some (.sl x 48 5) := gt_pre p3 g2
    rw [rd_of g3, dL_sl]
    refine sound_Copy_spec (hTA.mono (p1.trans (p2.trans p3))) (by omega) hs fun a' ds H4 g => ?_
    simp only [rA_agg, uC_cons, dL_sl, uN_nil]
    have q1 := g.ot.len
    obtain ⟨tp, ea, hb, hr, _⟩ := own_row g.ot.own (by omega)
    subst ea
    have p4 := g.pre
    have pr := pre_pu H4 (.row true 100 [(.sl (some (tp, 0)) 48 5), (.sl none 0 1)])
    have g4 : gt (pu H4 (.row true 100 [(.sl (some (tp, 0)) 48 5), (.sl none 0 1)])) (ln H4) 0 = some (.sl (some (tp, 0)) 48 5) := by simp [gt, pu, ln]
    rw [rd_of g4, dL_sl]
    have gg := (g.gt hs).mono pr
    have htp := (List.getElem?_eq_some_iff.1 hr).1
    have G : GT H3 (pu H4 (.row true 100 [(.sl (some (tp, 0)) 48 5), (.sl none 0 1)])) tp ds T (fun _ => True) (offW (ln H4) none) := gg.reoff fun l hl => by
      rcases hl with rfl | ⟨o, e⟩
      · refine ⟨g.pre.length_le, by unfold ln; omega, fun i hi hon => ?_⟩
        have := (g.gt hs).onlt i hi hon
        unfold ln at this; omega
      · cases e
    refine insert_loop w hc k1 k2 k3 (fun H' ds' T' X' off' gt' q => ?_) 59 0 none [] _ (by omega) (by omega) G (.inl ⟨rfl, rfl, by simp [pu, ln]⟩) (List.Perm.refl _)
    have hpre : H <+: H' := (pH2.trans p3).trans gt'.pre
    exact hQ2 hz e0 _ _ _ _ hpre gt'.ot.tr q (gt'.wt (pH2.trans p3).length_le)
  cases hf : (findK (entD T) key).isSome with
  | false =>
    have hfn : (findK (entD T) key).isNone = true := by cases h : findK (entD T) key with | none => rfl | some _ => rw [h] at hf; cases hf
    rw [bite_t (by decide)]
    refine entries_spec (hTA.mono (p1.trans p2)) g2 (by omega) hs ?_
    simp only [rG_g, dI_int]
    rw [leafSum_used e0]
    by_cases h60 : 60 ≤ (entD T).length
    · rw [bite_t (by simp; omega)]
      have e2 : insE T key v = 1201 := by rw [hins, hfn, decide_eq_true h60]; rfl
      rw [e2] at hQ1
      exact hQ1 _ (by decide) pH2
    · rw [bite_f (by simp; omega)]
      exact work (by rw [hins, hfn, decide_eq_false h60]; rfl) (by have := insK_le (k := key) (v := v) w.sub.asc.1; omega) H2 (List.prefix_refl _)
  | true =>
    have hfn : (findK (entD T) key).isNone = false := by cases h : findK (entD T) key with | none => rw [h] at hf; cases hf | some _ => rfl
    rw [bite_f (by decide)]
    exact work (by rw [hins, hfn]; rfl) (by rw [insK_len w.sub.asc.1, hfn]; omega) H2 (List.prefix_refl _)
end
end Go.Am
namespace Go.Am
/-! 25: cryostat/cryostatlaw12.awake -/
def law12_awake.cx : Cx := ⟨tys, [], [], [], [(28, ref9_New), (23, insert_Insert), (26, ref9_All), (17, law0_Num), (27, law0_SamePairs)], noDyn, [.tmp 0]⟩
def law12_awake : Sm := fun xs H Q => ∃ k, callK (law12_awake.cx) Go.Proofs.Tryz.f25 k xs H Q
theorem law12_awake_eq (k : Nat)  (H : Hp) (Q : Post) : callK (law12_awake.cx) Go.Proofs.Tryz.f25 (k + 1) [] H Q = (
 cl ref9_New [] H fun r0 H1 =>
 rA r0 fun c2 =>
 uC c2 fun v3 c4 =>
 dL 5 v3 fun x5 n6 =>
 uN c4 (cl insert_Insert [(.agg [(.sl x5 n6 5)]), (.g (.str (mkS [98]))), (.g (.str (mkS [49])))] H1 fun r7 H8 =>
 rT r7 fun c9 =>
 uR c9 fun q10 c11 =>
 rC q10 fun c12 =>
 uC c12 fun v13 c14 =>
 dL 5 v13 fun x15 n16 =>
 uN c14 (uR c11 fun q17 c18 =>
 rS q17 fun v19 =>
 dI .i64 v19 fun i20 =>
 uE c18 (cl insert_Insert [(.agg [(.sl x15 n16 5)]), (.g (.str (mkS [97]))), (.g (.str (mkS [50])))] H8 fun r21 H22 =>
 rT r21 fun c23 =>
 uR c23 fun q24 c25 =>
 rC q24 fun c26 =>
 uC c26 fun v27 c28 =>
 dL 5 v27 fun x29 n30 =>
 uN c28 (uR c25 fun q31 c32 =>
 rS q31 fun v33 =>
 dI .i64 v33 fun i34 =>
 uE c32 (cl insert_Insert [(.agg [(.sl x29 n30 5)]), (.g (.str (mkS [98]))), (.g (.str (mkS [51])))] H22 fun r35 H36 =>
 rT r35 fun c37 =>
 uR c37 fun q38 c39 =>
 rC q38 fun c40 =>
 uC c40 fun v41 c42 =>
 dL 5 v41 fun x43 n44 =>
 uN c42 (uR c39 fun q45 c46 =>
 rS q45 fun v47 =>
 dI .i64 v47 fun i48 =>
 uE c46 (cl insert_Insert [(.agg [(.sl x29 n30 5)]), (.g (.str (mkS []))), (.g (.str (mkS [])))] H36 fun r49 H50 =>
 rT r49 fun c51 =>
 uR c51 fun q52 c53 =>
 rC q52 fun c54 =>
 uC c54 fun v55 c56 =>
 dL 5 v55 fun x57 n58 =>
 uN c56 (uR c53 fun q59 c60 =>
 rS q59 fun v61 =>
 dI .i64 v61 fun i62 =>
 uE c60 (cl insert_Insert [(.agg [(.sl none 0 5)]), (.g (.str (mkS [97]))), (.g (.str (mkS [])))] H50 fun r63 H64 =>
 rT r63 fun c65 =>
 uR c65 fun q66 c67 =>
 rC q66 fun c68 =>
 uC c68 fun v69 c70 =>
 dL 5 v69 fun x71 n72 =>
 uN c70 (uR c67 fun q73 c74 =>
 rS q73 fun v75 =>
 dI .i64 v75 fun i76 =>
 uE c74 (cl ref9_All [(.agg [(.sl x43 n44 5)])] H64 fun r77 H78 =>
 rT r77 fun c79 =>
 uR c79 fun q80 c81 =>
 rS q80 fun v82 =>
 dL 2 v82 fun x83 n84 =>
 uR c81 fun q85 c86 =>
 rS q85 fun v87 =>
 dI .i64 v87 fun i88 =>
 uE c86 (cl law0_Num [(.g (.int .i64 i20))] H78 fun r89 H90 =>
 rG r89 fun v91 =>
 dI .i64 v91 fun i92 =>
 bite (eqI i92 0)
 (cl law0_Num [(.g (.int .i64 i34))] H90 fun r93 H94 =>
  rG r93 fun v95 =>
  dI .i64 v95 fun i96 =>
  bite (eqI i96 0)
  (cl law0_Num [(.g (.int .i64 i48))] H94 fun r97 H98 =>
   rG r97 fun v99 =>
   dI .i64 v99 fun i100 =>
   bite (eqI i100 0)
   (cl law0_Num [(.g (.int .i64 i62))] H98 fun r101 H102 =>
    rG r101 fun v103 =>
    dI .i64 v103 fun i104 =>
    bite (eqI i104 1200)
    (cl law0_Num [(.g (.int .i64 i76))] H102 fun r105 H106 =>
     rG r105 fun v107 =>
     dI .i64 v107 fun i108 =>
     bite (eqI i108 1200)
     (bite (eqI i88 0)
      (cl law0_SamePairs [(.g (.sl x83 n84 2)), (.g (.sl (some ((ln H106), 0)) 2 2))] (pu H106 (.row false 1000003 [(.str (mkS [97])), (.str (mkS [50])), (.str (mkS [98])), (.str (mkS [51]))])) fun r109 H110 =>
       rG r109 fun v111 =>
       dB v111 fun b112 =>
       Q (.g (.bool b112)) H110)
      (Q (.g (.bool false)) H106))
     (Q (.g (.bool false)) H106))
    (Q (.g (.bool false)) H102))
   (Q (.g (.bool false)) H98))
  (Q (.g (.bool false)) H94))
 (Q (.g (.bool false)) H90)))))))))))))) := by kernel_rfl
theorem law12_awake_ok : Sound Go.Proofs.Tryz.prog 25 (law12_awake) := prog_ok.sound (cx := law12_awake.cx) rfl (EnvOK.cons ((ref9_New_ok).c ⟨_, Go.Proofs.Tryz.func28, by kernel_rfl, by kernel_rfl⟩) (EnvOK.cons ((insert_Insert_ok).c ⟨_, Go.Proofs.Tryz.func23, by kernel_rfl, by kernel_rfl⟩) (EnvOK.cons ((ref9_All_ok).c ⟨_, Go.Proofs.Tryz.func26, by kernel_rfl, by kernel_rfl⟩) (EnvOK.cons ((law0_Num_ok).c ⟨_, Go.Proofs.Tryz.func17, by kernel_rfl, by kernel_rfl⟩) (EnvOK.cons ((law0_SamePairs_ok).c ⟨_, Go.Proofs.Tryz.func27, by kernel_rfl, by kernel_rfl⟩) (EnvOK.nil _)))))) (noDyn_ok _) Go.Proofs.Tryz.func25 rfl

/-! 4: cryostat/cryostatlaw12.Inserts -/
def law12_Inserts.cx : Cx := ⟨tys, [], [], [], [(8, law0_CopyTree), (23, insert_Insert), (24, ref9_Insert), (17, law0_Num), (18, law0_SameTree), (25, law12_awake), (26, ref9_All), (20, law0_SpoilTree), (27, law0_SamePairs)], noDyn, [.tmp 6]⟩
def law12_Inserts : Sm := fun xs H Q => ∃ k, callK (law12_Inserts.cx) Go.Proofs.Tryz.f4 k xs H Q
theorem law12_Inserts_eq (k : Nat) (z0 : Pl) (z0n : Nat) (z1 : ByteArray) (z2 : ByteArray) (H : Hp) (Q : Post) : callK (law12_Inserts.cx) Go.Proofs.Tryz.f4 (k + 1) [.agg [.sl z0 z0n 5], .g (.str z1), .g (.str z2)] H Q = (
 cl law0_CopyTree [(.agg [(.sl z0 z0n 5)])] H fun r0 H1 =>
 rA r0 fun c2 =>
 uC c2 fun v3 c4 =>
 dL 5 v3 fun x5 n6 =>
 uN c4 (cl insert_Insert [(.agg [(.sl x5 n6 5)]), (.g (.str z1)), (.g (.str z2))] H1 fun r7 H8 =>
 rT r7 fun c9 =>
 uR c9 fun q10 c11 =>
 rC q10 fun c12 =>
 uC c12 fun v13 c14 =>
 dL 5 v13 fun x15 n16 =>
 uN c14 (uR c11 fun q17 c18 =>
 rS q17 fun v19 =>
 dI .i64 v19 fun i20 =>
 uE c18 (cl ref9_Insert [(.agg [(.sl z0 z0n 5)]), (.g (.str z1)), (.g (.str z2))] H8 fun r21 H22 =>
 rT r21 fun c23 =>
 uR c23 fun q24 c25 =>
 rC q24 fun c26 =>
 uC c26 fun v27 c28 =>
 dL 5 v27 fun x29 n30 =>
 uN c28 (uR c25 fun q31 c32 =>
 rS q31 fun v33 =>
 dI .i64 v33 fun i34 =>
 uE c32 (cl law0_Num [(.g (.int .i64 i20))] H22 fun r35 H36 =>
 rG r35 fun v37 =>
 dI .i64 v37 fun i38 =>
 bite (!(eqI i38 i34))
 (Q (.g (.bool false)) H36)
 (cl law0_SameTree [(.agg [(.sl x5 n6 5)]), (.agg [(.sl z0 z0n 5)])] H36 fun r39 H40 =>
  rG r39 fun v41 =>
  dB v41 fun b42 =>
  bite (!b42)
  (Q (.g (.bool false)) H40)
  (bite (!(eqI i34 0))
   (cl law0_SameTree [(.agg [(.sl x15 n16 5)]), (.agg [(.sl none 0 5)])] H40 fun r43 H44 =>
    rG r43 fun v45 =>
    dB v45 fun b46 =>
    bite b46
    (cl law12_awake [] H44 fun r47 H48 =>
     rG r47 fun v49 =>
     dB v49 fun b50 =>
     Q (.g (.bool b50)) H48)
    (Q (.g (.bool false)) H44))
   (cl ref9_All [(.agg [(.sl x15 n16 5)])] H40 fun r51 H52 =>
    rT r51 fun c53 =>
    uR c53 fun q54 c55 =>
    rS q54 fun v56 =>
    dL 2 v56 fun x57 n58 =>
    uR c55 fun q59 c60 =>
    rS q59 fun v61 =>
    dI .i64 v61 fun i62 =>
    uE c60 (cl ref9_All [(.agg [(.sl x29 n30 5)])] H52 fun r63 H64 =>
    rT r63 fun c65 =>
    uR c65 fun q66 c67 =>
    rS q66 fun v68 =>
    dL 2 v68 fun x69 n70 =>
    uR c67 fun q71 c72 =>
    rS q71 fun v73 =>
    dI .i64 v73 fun i74 =>
    uE c72 (cl law0_SpoilTree [(.agg [(.sl x15 n16 5)])] H64 fun r75 H76 =>
    bite (eqI i62 0)
    (cl law0_SamePairs [(.g (.sl x57 n58 2)), (.g (.sl x69 n70 2))] H76 fun r77 H78 =>
     rG r77 fun v79 =>
     dB v79 fun b80 =>
     bite b80
     (cl law0_SameTree [(.agg [(.sl x5 n6 5)]), (.agg [(.sl z0 z0n 5)])] H78 fun r81 H82 =>
      rG r81 fun v83 =>
      dB v83 fun b84 =>
      bite b84
      (cl law12_awake [] H82 fun r85 H86 =>
       rG r85 fun v87 =>
       dB v87 fun b88 =>
       Q (.g (.bool b88)) H86)
      (Q (.g (.bool false)) H82))
     (Q (.g (.bool false)) H78))
    (Q (.g (.bool false)) H76)))))))))))) := by kernel_rfl
theorem law12_Inserts_ok : Sound Go.Proofs.Tryz.prog 4 (law12_Inserts) := prog_ok.sound (cx := law12_Inserts.cx) rfl (EnvOK.cons ((law0_CopyTree_ok).c ⟨_, Go.Proofs.Tryz.func8, by kernel_rfl, by kernel_rfl⟩) (EnvOK.cons ((insert_Insert_ok).c ⟨_, Go.Proofs.Tryz.func23, by kernel_rfl, by kernel_rfl⟩) (EnvOK.cons ((ref9_Insert_ok).c ⟨_, Go.Proofs.Tryz.func24, by kernel_rfl, by kernel_rfl⟩) (EnvOK.cons ((law0_Num_ok).c ⟨_, Go.Proofs.Tryz.func17, by kernel_rfl, by kernel_rfl⟩) (EnvOK.cons ((law0_SameTree_ok).c ⟨_, Go.Proofs.Tryz.func18, by kernel_rfl, by kernel_rfl⟩) (EnvOK.cons ((law12_awake_ok).c ⟨_, Go.Proofs.Tryz.func25, by kernel_rfl, by kernel_rfl⟩) (EnvOK.cons ((ref9_All_ok).c ⟨_, Go.Proofs.Tryz.func26, by kernel_rfl, by kernel_rfl⟩) (EnvOK.cons ((law0_SpoilTree_ok).c ⟨_, Go.Proofs.Tryz.func20, by kernel_rfl, by kernel_rfl⟩) (EnvOK.cons ((law0_SamePairs_ok).c ⟨_, Go.Proofs.Tryz.func27, by kernel_rfl, by kernel_rfl⟩) (EnvOK.nil _)))))))))) (noDyn_ok _) Go.Proofs.Tryz.func4 rfl

end Go.Am
namespace Go.Am

/-! one leaf alone has a key -/
section
variable {T : List Pg} {i j : Nat} {p q : Pg} {k : ByteArray}
end

/-! the laws -/
theorem newH : 0 < heightD newT := by decide +kernel
theorem newE : entD newT = [] := by decide +kernel
theorem insE_ok {T : List Pg} {key v : ByteArray} (h : 0 < heightD T) (h1 : 1 ≤ key.size) (h2 : key.size ≤ 6) (h3 : v.size ≤ 10) (hl : (entD T).length < 60 ∨ (findK (entD T) key).isSome = true) : insE T key v = 0 := by
  have hform : formE T key v = true := by unfold formE; simp; omega
  unfold insE
  rw [hform]
  show (match (findK (entD T) key).isNone && decide (60 ≤ (entD T).length) with | true => 1201 | false => 0) = (0 : Int)
  rcases hl with hl | hl
  · rw [decide_eq_false (by omega), Bool.and_false]
  · cases hf : findK (entD T) key with
    | none => rw [hf] at hl; cases hl
    | some _ => rfl
theorem insE_form {T : List Pg} {key v : ByteArray} (h : ¬ 0 < heightD T ∨ key.size < 1 ∨ 6 < key.size ∨ 10 < v.size) : insE T key v = 1200 := by
  have hform : formE T key v = false := by
    cases hf : formE T key v with
    | false => rfl
    | true => have := formE_true hf; omega
  unfold insE
  rw [hform]
theorem allE_of {T : List Pg} (h : 0 < heightD T) : allE T = entD T := by unfold allE; rw [decide_eq_true h]
section
variable {H : Hp} {Q : Post} {key v : ByteArray}
theorem kv2_at (H : Hp) : Kv (H ++ [.row false 1000003 [(.str (mkS [97])), (.str (mkS [50])), (.str (mkS [98])), (.str (mkS [51]))]]) (some (H.length, 0)) 2 [(mkS [97], mkS [50]), (mkS [98], mkS [51])] :=
  ⟨by simp [cells?, kvCells], rfl⟩
set_option maxRecDepth 100000 in
theorem law12_awake_spec (hQ : ∀ H', H <+: H' → Q (.g (.bool true)) H') : law12_awake [] H Q := by
  refine ⟨1, ?_⟩
  rw [law12_awake_eq]
  refine ref9_New_spec fun H1 p1 o1 => ?_
  simp only [rA_agg, uC_cons, dL_sl, uN_nil]
  have z1 : insE newT (mkS [98]) (mkS [49]) = 0 := insE_ok newH (by decide) (by decide) (by decide) (.inl (by rw [newE]; decide))
  refine insert_Insert_spec o1.tr (by omega) (fun _ h => (h z1).elim) fun _ _ a1 d1 A1 H2 p2 t1 q1 _ => ?_
  simp only [rT_tup, uR_cons, rC_a, uC_cons, dL_sl, uN_nil, rS_s, dI_int, uE_nil]
  have e1 : entD A1 = [(mkS [98], mkS [49])] := by rw [q1.ent, newE]; rfl
  have z2 : insE A1 (mkS [97]) (mkS [50]) = 0 := insE_ok q1.pos (by decide) (by decide) (by decide) (.inl (by rw [e1]; decide))
  refine insert_Insert_spec t1 (by omega) (fun _ h => (h z2).elim) fun _ _ a2 d2 A2 H3 p3 t2 q2 _ => ?_
  simp only [rT_tup, uR_cons, rC_a, uC_cons, dL_sl, uN_nil, rS_s, dI_int, uE_nil]
  have e2 : entD A2 = [(mkS [97], mkS [50]), (mkS [98], mkS [49])] := by rw [q2.ent, e1]; decide +kernel
  have z3 : insE A2 (mkS [98]) (mkS [51]) = 0 := insE_ok q2.pos (by decide) (by decide) (by decide) (.inl (by rw [e2]; decide))
  refine insert_Insert_spec t2 (by omega) (fun _ h => (h z3).elim) fun _ _ a3 d3 A3 H4 p4 t3 q3 _ => ?_
  simp only [rT_tup, uR_cons, rC_a, uC_cons, dL_sl, uN_nil, rS_s, dI_int, uE_nil]
  have e3 : entD A3 = [(mkS [97], mkS [50]), (mkS [98], mkS [51])] := by rw [q3.ent, e2]; decide +kernel
  have z4 : insE A2 (mkS []) (mkS []) = 1200 := insE_form (.inr (.inl (by decide)))
  refine insert_Insert_spec (t2.mono p4) (by omega) (fun H5 _ p5 => ?_) (fun h => by rw [z4] at h; cases h)
  rw [z4]
  simp only [rT_tup, uR_cons, rC_a, uC_cons, dL_sl, uN_nil, rS_s, dI_int, uE_nil]
  have z5 : insE [] (mkS [97]) (mkS []) = 1200 := insE_form (.inl (by decide +kernel))
  refine insert_Insert_spec (tr_nil H5) (by omega) (fun H6 _ p6 => ?_) (fun h => by rw [z5] at h; cases h)
  rw [z5]
  simp only [rT_tup, uR_cons, rC_a, uC_cons, dL_sl, uN_nil, rS_s, dI_int, uE_nil]
  refine ref9_All_spec (t3.mono (p5.trans p6)) fun c k H7 p7 o7 l7 => ?_
  simp only [rT_tup, uR_cons, rS_s, dL_sl, dI_int, uE_nil]
  rw [err_ok q3.pos]
  refine law0_Num_spec ?_
  simp only [rG_g, dI_int]
  rw [bite_t (by decide)]
  refine law0_Num_spec ?_
  simp only [rG_g, dI_int]
  rw [bite_t (by decide)]
  refine law0_Num_spec ?_
  simp only [rG_g, dI_int]
  rw [bite_t (by decide)]
  refine law0_Num_spec ?_
  simp only [rG_g, dI_int]
  rw [bite_t (by decide)]
  refine law0_Num_spec ?_
  simp only [rG_g, dI_int]
  rw [bite_t (by decide), bite_t (by decide)]
  simp only [pu_def, ln_def]
  rw [allE_of q3.pos, e3] at o7 l7
  have hk : k = 2 := l7.symm
  subst hk
  have pz := pre_pu H7 (.row false 1000003 [(.str (mkS [97])), (.str (mkS [50])), (.str (mkS [98])), (.str (mkS [51]))])
  refine law0_SamePairs_spec ((o7.kv rfl).mono pz) (kv2_at H7) (by omega) fun b hb => ?_
  simp only [rG_g, dB_bool]
  rw [hb.2 rfl]
  exact hQ _ (p1.trans (p2.trans (p3.trans (p4.trans (p5.trans (p6.trans (p7.trans pz)))))))

set_option maxRecDepth 100000 in
theorem law12_Inserts_spec {z : Pl} {n : Nat} {cs : List Am.PC} {T : List Pg} (hT : Tr H z n cs T) (hn : n * 80 ≤ 140737488351232) (hQ : ∀ H', Q (.g (.bool true)) H') : law12_Inserts [.agg [.sl z n 5], .g (.str key), .g (.str v)] H Q := by
  refine ⟨1, ?_⟩
  rw [law12_Inserts_eq]
  refine law0_CopyTree_spec hT hn fun ax cx H1 p1 ox _ _ => ?_
  simp only [rA_agg, uC_cons, dL_sl, uN_nil]
  refine insert_Insert_spec ox.tr hn (fun H2 hz p2 => ?_) (fun hz hpos a ds A H2 p2 tA qA wA => ?_)
  · simp only [rT_tup, uR_cons, rC_a, uC_cons, dL_sl, uN_nil, rS_s, dI_int, uE_nil]
    refine ref9_Insert_spec (hT.mono (p1.trans p2)) hn (fun H3 _ p3 => ?_) (fun h => (hz h).elim)
    simp only [rT_tup, uR_cons, rC_a, uC_cons, dL_sl, uN_nil, rS_s, dI_int, uE_nil]
    refine law0_Num_spec ?_
    simp only [rG_g, dI_int]
    rw [bite_f (by simp)]
    refine law0_SameTree_spec (ox.tr.mono (p2.trans p3)) (hT.mono (p1.trans (p2.trans p3))) (by omega) fun b hb => ?_
    simp only [rG_g, dB_bool]
    rw [hb.2 rfl, bite_f (by decide), bite_t (by simpa using hz)]
    refine law0_SameTree_spec (tr_nil H3) (tr_nil H3) (by omega) fun b hb => ?_
    simp only [rG_g, dB_bool]
    rw [bite_t (hb.2 rfl)]
    refine law12_awake_spec fun H4 p4 => ?_
    simp only [rG_g, dB_bool]
    exact hQ _
  · simp only [rT_tup, uR_cons, rC_a, uC_cons, dL_sl, uN_nil, rS_s, dI_int, uE_nil]
    refine ref9_Insert_spec (hT.mono (p1.trans p2)) hn (fun H3 h _ => (h hz).elim) (fun _ _ a' ds' A' H3 p3 tB qB => ?_)
    simp only [rT_tup, uR_cons, rC_a, uC_cons, dL_sl, uN_nil, rS_s, dI_int, uE_nil]
    refine law0_Num_spec ?_
    simp only [rG_g, dI_int]
    rw [bite_f (by decide)]
    refine law0_SameTree_spec (ox.tr.mono (p2.trans p3)) (hT.mono (p1.trans (p2.trans p3))) (by omega) fun b hb => ?_
    simp only [rG_g, dB_bool]
    rw [hb.2 rfl, bite_f (by decide), bite_f (by decide)]
    refine ref9_All_spec (tA.mono p3) fun c k H4 p4 o4 l4 => ?_
    simp only [rT_tup, uR_cons, rS_s, dL_sl, dI_int, uE_nil]
    refine ref9_All_spec (tB.mono p4) fun c' k' H5 p5 o5 l5 => ?_
    simp only [rT_tup, uR_cons, rS_s, dL_sl, dI_int, uE_nil]
    have wt := wA.keep (H' := H5) fun l _ hl => pre_at (p3.trans (p4.trans p5)) hl
    refine spoil_any wt fun H6 k6 s6 => ?_
    rw [err_ok qA.pos, bite_t (by decide)]
    have e1 := p1.length_le
    have e2 := p2.length_le
    have e3 := p3.length_le
    have e4 := p4.length_le
    have e5 := p5.length_le
    have o5' : Own H5 H3.length tKV c (k * 2) (kvCells (allE A)) := o4.mono p5
    have kA : Kv H6 c k (allE A) := (o5'.keep (H' := H6) fun l e => s6 l fun h => by have := o5'.ge e; omega).kv l4
    have kB : Kv H6 c' k' (allE A') := (o5.keep (H' := H6) fun l e => s6 l fun h => by have := o5.ge e; omega).kv l5
    have lA := allE_len A
    refine law0_SamePairs_spec kA kB (by omega) fun b hb => ?_
    simp only [rG_g, dB_bool]
    rw [bite_t (hb.2 (by rw [allE_of qA.pos, allE_of qB.pos, qA.ent, qB.ent]))]
    have p16 : H1 <+: H6 := pre_of (p2.trans (p3.trans (p4.trans p5))) k6 fun l hl => s6 l (by omega)
    refine law0_SameTree_spec (ox.tr.mono p16) (hT.mono (p1.trans p16)) (by omega) fun b hb => ?_
    simp only [rG_g, dB_bool]
    rw [bite_t (hb.2 rfl)]
    refine law12_awake_spec fun H7 p7 => ?_
    simp only [rG_g, dB_bool]
    exact hQ _

end
end Go.Am
