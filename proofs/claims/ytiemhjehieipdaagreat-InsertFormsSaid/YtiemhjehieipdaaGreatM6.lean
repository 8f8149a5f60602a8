import Derived.Test.YtiemhjehieipdaaGreatM5
import Derived.Shelf.Spec.SlicesInsertGrow
import Derived.Shelf.Lays2
set_option linter.unusedVariables false
set_option linter.unusedSimpArgs false
namespace Go.Am

/-- a tree that an eraser works on: its rows are all its own; pages of X stand as they were copied -/
structure CM (B H : Hp) (le tp : Nat) (ds : List PC) (T : List Pg) (X : Nat → Prop) : Prop where
  pre : B <+: H
  ot : OT H B.length tPg (some (tp, 0)) 48 ds T
  wo : ∀ i (h : i < ds.length), WoP H B.length 1000 ds[i]
  base : ∀ i (h : i < ds.length) l, (ds[i]).on l → B.length ≤ l
  own : ∀ i (h : i < ds.length) (h' : i < T.length), X i → (ds[i]).own H B.length T[i]
  ap : ∀ i j (hi : i < ds.length) (hj : j < ds.length), i ≠ j → ∀ l, (ds[i]).on l → ¬ (ds[j]).on l
  er : H[le]? = some (.row true tEraser [.sl (some (tp, 0)) 48 5])
  erB : B.length ≤ le
  offE : ∀ i (h : i < ds.length), ¬ (ds[i]).on le
section
variable {B H H' : Hp} {le tp : Nat} {ds : List PC} {T : List Pg} {X X' : Nat → Prop} {i : Nat} {c : PC} {p : Pg}
theorem CM.ne (g : CM B H le tp ds T X) : le ≠ tp := fun e => by
  have h1 := g.er
  have h2 := g.ot.at_row.2
  rw [e, h2] at h1
  simp at h1
  exact absurd h1.1 (by decide)
theorem CM.gtE (g : CM B H le tp ds T X) : gt H le 0 = some (.sl (some (tp, 0)) 48 5) := by rw [gt_some g.er]; rfl
theorem CM.mono (g : CM B H le tp ds T X) (hp : H <+: H') : CM B H' le tp ds T X := by
  have lt : ∀ i (h : i < ds.length) l, (ds[i]).on l → l < H.length := fun i h l hl => g.ot.onlt (List.getElem_mem h) hl
  refine ⟨g.pre.trans hp, g.ot.mono hp, fun i h => ?_, g.base, fun i h h' hx => (g.own i h h' hx).keep fun l hl => pre_at hp (lt i h l hl), g.ap, by rw [pre_at hp (List.getElem?_eq_some_iff.1 g.er).1]; exact g.er, g.erB, g.offE⟩
  have w := g.wo i h
  have k1 : ∀ {a n M}, TxR H B.length M a n → TxR H' B.length M a n := fun h => by
    rcases h with h | ⟨l, o, xs, e, h1, h2, h3, h4⟩
    · exact .inl h
    · exact .inr ⟨l, o, xs, e, h1, by unfold SRow; rw [pre_at hp (List.getElem?_eq_some_iff.1 h2).1]; exact h2, h3, h4⟩
  have k2 : ∀ {a n}, NuR H B.length a n → NuR H' B.length a n := fun h => by
    rcases h with h | ⟨l, o, xs, e, h1, h2, h3⟩
    · exact .inl h
    · exact .inr ⟨l, o, xs, e, h1, by unfold IRow; rw [pre_at hp (List.getElem?_eq_some_iff.1 h2).1]; exact h2, h3⟩
  exact ⟨k1 w.t1, k1 w.t2, k2 w.t3, w.s1, w.s2, w.s3⟩
theorem WoP.keepOn {b M : Nat} (w : WoP H b M c) (hk : ∀ l, c.on l → H'[l]? = H[l]?) : WoP H' b M c := by
  refine ⟨?_, ?_, ?_, w.s1, w.s2, w.s3⟩
  · rcases w.t1 with h | ⟨l, o, xs, e, h1, h2, h3, h4⟩
    · exact .inl h
    · exact .inr ⟨l, o, xs, e, h1, by unfold SRow; rw [hk l ⟨o, .inl e⟩]; exact h2, h3, h4⟩
  · rcases w.t2 with h | ⟨l, o, xs, e, h1, h2, h3, h4⟩
    · exact .inl h
    · exact .inr ⟨l, o, xs, e, h1, by unfold SRow; rw [hk l ⟨o, .inr (.inl e)⟩]; exact h2, h3, h4⟩
  · rcases w.t3 with h | ⟨l, o, xs, e, h1, h2, h3⟩
    · exact .inl h
    · exact .inr ⟨l, o, xs, e, h1, by unfold IRow; rw [hk l ⟨o, .inr (.inr e)⟩]; exact h2, h3⟩
/-- a page turned -/
theorem CM.turn (g : CM B H le tp ds T X) (hi : i < ds.length) (hlen : H.length ≤ H'.length) (hkeep : ∀ l, l < H.length → ¬ (ds[i]).on l → l ≠ tp → H'[l]? = H[l]?)
    (hrow : H'[tp]? = some (.row true tPg (pcells (ds.set i c)))) (hc : c.at H' p) (hw : WoP H' B.length 1000 c)
    (hon : ∀ l, c.on l → l ≠ tp ∧ l ≠ le ∧ B.length ≤ l ∧ ∀ j (hj : j < ds.length), j ≠ i → ¬ (ds[j]).on l) (hX : ∀ j, X' j → (j = i ∧ c.own H' B.length p) ∨ (j ≠ i ∧ X j)) :
    CM B H' le tp (ds.set i c) (T.set i p) X' := by
  have q1 := g.ot.len
  have q2 := g.ot.lenT
  obtain ⟨hb, hr⟩ := g.ot.at_row
  have htp := (List.getElem?_eq_some_iff.1 hr).1
  have lt : ∀ j (h : j < ds.length) l, (ds[j]).on l → l < H.length := fun j h l hl => g.ot.onlt (List.getElem_mem h) hl
  have other : ∀ j (h : j < ds.length), j ≠ i → ∀ l, (ds[j]).on l → H'[l]? = H[l]? := fun j h hne l hl => hkeep l (lt j h l hl) (g.ap j i h hi hne l hl) (fun e => g.ot.off _ (List.getElem_mem h) l hl (by rw [e]))
  have hpre : B <+: H' := by
    rw [List.prefix_iff_eq_take]
    apply List.ext_getElem?
    intro l
    rw [List.getElem?_take]
    split
    · rename_i hl
      have := g.pre.length_le
      rw [hkeep l (by omega) (fun h => by have := g.base i hi l h; omega) (by omega), pre_at g.pre hl]
    · rename_i hl
      exact List.getElem?_eq_none (by omega)
  refine ⟨hpre, ⟨.inr ⟨tp, rfl, hb, hrow, by rw [pcells_length]; simp [q1]⟩, by simp [q1], by simp [q2], fun j h1 h2 => ?_, fun d hd l hl e => ?_⟩, fun j h => ?_, fun j h l hl => ?_, fun j h h' hx => ?_, fun j k hj hk hne l h1 h2 => ?_, ?_, g.erB, fun j h hl => ?_⟩
  · rw [List.getElem_set, List.getElem_set]
    by_cases e : i = j
    · rw [if_pos e, if_pos e]; exact hc
    · rw [if_neg e, if_neg e]
      simp at h1 h2
      exact (g.ot.all j h1 h2).keep (other j h1 (Ne.symm e))
  · cases e
    rcases List.mem_or_eq_of_mem_set hd with q | q
    · exact g.ot.off d q tp hl rfl
    · subst q; exact (hon tp hl).1 rfl
  · rw [List.getElem_set]
    by_cases e : i = j
    · rw [if_pos e]; exact hw
    · rw [if_neg e]; simp at h; exact (g.wo j h).keepOn (other j h (Ne.symm e))
  · rw [List.getElem_set] at hl
    by_cases e : i = j
    · rw [if_pos e] at hl; exact (hon l hl).2.2.1
    · rw [if_neg e] at hl; simp at h; exact g.base j h l hl
  · rw [List.getElem_set, List.getElem_set]
    rcases hX j hx with ⟨e, ho⟩ | ⟨e, hx'⟩
    · rw [if_pos e.symm, if_pos e.symm]; exact ho
    · rw [if_neg (Ne.symm e), if_neg (Ne.symm e)]
      simp at h h'
      exact (g.own j h h' hx').keep (other j h e)
  · rw [List.getElem_set] at h1 h2
    simp at hj hk
    by_cases e1 : i = j
    · rw [if_pos e1] at h1
      by_cases e2 : i = k
      · omega
      · rw [if_neg e2] at h2
        exact (hon l h1).2.2.2 k hk (Ne.symm e2) h2
    · rw [if_neg e1] at h1
      by_cases e2 : i = k
      · rw [if_pos e2] at h2
        exact (hon l h2).2.2.2 j hj (Ne.symm e1) h1
      · rw [if_neg e2] at h2
        exact g.ap j k hj hk hne l h1 h2
  · rw [hkeep le (List.getElem?_eq_some_iff.1 g.er).1 (g.offE i hi) g.ne]; exact g.er
  · rw [List.getElem_set] at hl
    by_cases e : i = j
    · rw [if_pos e] at hl; exact (hon le hl).2.1 rfl
    · rw [if_neg e] at hl; simp at h; exact g.offE j h hl
/-- a page laid in anew -/
theorem CM.lay (g : CM B H le tp ds T X) (hi : i < ds.length) (hc : c.at H p) (hw : WoP H B.length 1000 c) (hon : ∀ l, c.on l → l ≠ tp ∧ l ≠ le ∧ B.length ≤ l ∧ ∀ j (hj : j < ds.length), j ≠ i → ¬ (ds[j]).on l) {K : Hp → Prop}
    (hK : ∀ H', CM B H' le tp (ds.set i c) (T.set i p) (fun j => j ≠ i ∧ X j) → H'.length = H.length → (∀ l, l ≠ tp → H'[l]? = H[l]?) → K H') :
    wr H tp (0 + i * 5) (.bool c.u) fun H1 => wr H1 tp (0 + i * 5 + 1) (.bool c.l) fun H2 => wr H2 tp (0 + i * 5 + 1 + 1) (.sl c.a1 c.n1 1) fun H3 => wr H3 tp (0 + i * 5 + 1 + 1 + 1) (.sl c.a2 c.n2 1) fun H4 => wr H4 tp (0 + i * 5 + 1 + 1 + 1 + 1) (.sl c.a3 c.n3 1) K := by
  obtain ⟨hb, hr⟩ := g.ot.at_row
  have htp := (List.getElem?_eq_some_iff.1 hr).1
  rw [Nat.zero_add]
  have kp : ∀ l, l ≠ tp → (H.set tp (.row true tPg (pcells (ds.set i c))))[l]? = H[l]? := fun l hl => by rw [List.getElem?_set_ne (Ne.symm hl)]
  refine wr5 hr hi (hK _ (g.turn hi (by simp) (fun l _ _ hl => kp l hl) (List.getElem?_set_self htp) (hc.keep fun l hl => kp l (hon l hl).1) (hw.keepOn fun l hl => kp l (hon l hl).1) hon fun j hj => .inr hj) (by simp) kp)
theorem own_row {t : TypeId} {b : Nat} {a : Pl} {n : Nat} {cs : List GV} (h : Own H b t a n cs) (hn : 0 < n) : ∃ l, a = some (l, 0) ∧ b ≤ l ∧ H[l]? = some (.row true t cs) ∧ cs.length = n := by
  rcases h with ⟨_, q, _⟩ | ⟨l, e, hb, hr, hl⟩
  · omega
  · exact ⟨l, e, hb, hr, hl⟩
end
end Go.Am
namespace Go.Am

section
variable {B H H' : Hp} {le tp : Nat} {ds : List PC} {T : List Pg} {X : Nat → Prop} {i : Nat} {p : Pg} {Q : Post}
theorem wr_23 {b1 b2 : Pl} {m1 m2 : Nat} {K : Hp → Prop} (hr : H[tp]? = some (.row true tPg (pcells ds))) (hi : i < ds.length) (hK : K (H.set tp (.row true tPg (pcells (ds.set i ⟨ds[i].u, ds[i].l, b1, m1, b2, m2, ds[i].a3, ds[i].n3⟩))))) :
    wr H tp (0 + i * 5 + 2) (.sl b1 m1 1) fun H2 => wr H2 tp (0 + i * 5 + 3) (.sl b2 m2 1) K := by
  have htp := (List.getElem?_eq_some_iff.1 hr).1
  rw [Nat.zero_add]
  refine wr_row hr (by rw [pcells_length]; omega) ?_
  rw [pcells_set1 ds i 2 _ ⟨ds[i].u, ds[i].l, b1, m1, ds[i].a2, ds[i].n2, ds[i].a3, ds[i].n3⟩ hi (by omega) rfl]
  refine wr_row (List.getElem?_set_self htp) (by rw [pcells_length]; simp; omega) ?_
  rw [pcells_set1 _ i 3 _ ⟨ds[i].u, ds[i].l, b1, m1, b2, m2, ds[i].a3, ds[i].n3⟩ (by simpa using hi) (by omega) (by rw [List.getElem_set_self]; rfl), List.set_set, List.set_set]
  exact hK
theorem wr_24 {b1 b2 : Pl} {m1 m2 : Nat} {K : Hp → Prop} (hr : H[tp]? = some (.row true tPg (pcells ds))) (hi : i < ds.length) (hK : K (H.set tp (.row true tPg (pcells (ds.set i ⟨ds[i].u, ds[i].l, b1, m1, ds[i].a2, ds[i].n2, b2, m2⟩))))) :
    wr H tp (0 + i * 5 + 2) (.sl b1 m1 1) fun H2 => wr H2 tp (0 + i * 5 + 4) (.sl b2 m2 1) K := by
  have htp := (List.getElem?_eq_some_iff.1 hr).1
  rw [Nat.zero_add]
  refine wr_row hr (by rw [pcells_length]; omega) ?_
  rw [pcells_set1 ds i 2 _ ⟨ds[i].u, ds[i].l, b1, m1, ds[i].a2, ds[i].n2, ds[i].a3, ds[i].n3⟩ hi (by omega) rfl]
  refine wr_row (List.getElem?_set_self htp) (by rw [pcells_length]; simp; omega) ?_
  rw [pcells_set1 _ i 4 _ ⟨ds[i].u, ds[i].l, b1, m1, ds[i].a2, ds[i].n2, b2, m2⟩ (by simpa using hi) (by omega) (by rw [List.getElem_set_self]; rfl), List.set_set, List.set_set]
  exact hK

end
end Go.Am
namespace Go.Am

section
variable {B H H' : Hp} {le tp : Nat} {ds : List PC} {T : List Pg} {X : Nat → Prop} {a j x y : Nat} {p px py : Pg} {Q : Post}
theorem CM.cells (g : CM B H le tp ds T X) {i : Nat} (hi : i < ds.length) : gt H tp (0 + i * 5) = some (.bool ds[i].u) ∧ gt H tp (0 + i * 5 + 1) = some (.bool ds[i].l) ∧ gt H tp (0 + i * 5 + 2) = some (.sl ds[i].a1 ds[i].n1 1) ∧ gt H tp (0 + i * 5 + 3) = some (.sl ds[i].a2 ds[i].n2 1) ∧ gt H tp (0 + i * 5 + 4) = some (.sl ds[i].a3 ds[i].n3 1) := by
  rw [Nat.zero_add]
  exact ⟨g.ot.gt hi (j := 0) (by omega), g.ot.gt hi (j := 1) (by omega), g.ot.gt hi (j := 2) (by omega), g.ot.gt hi (j := 3) (by omega), g.ot.gt hi (j := 4) (by omega)⟩
end
end Go.Am
namespace Go.Am

section
variable {B : Hp} {le tp : Nat} {key : ByteArray}
end
end Go.Am
namespace Go.Am

section
variable {H : Hp} {Q : Post} {a : Pl} {n : Nat} {T : List Pg} {cs : List Am.PC}
set_option maxRecDepth 100000 in
theorem sound_Copy_spec (hT : Tr H a n cs T) (hn : n * 80 ≤ 140737488351232) (hs : ∀ p ∈ T, small p) (hQ : ∀ a' ds H', CT H H' tPg a' n ds T → Q (.agg [.sl a' n 5]) H') : sound_Copy [.agg [.sl a n 5]] H Q := by
  have hlT := hT.lenT
  have loop : ∀ (f k : Nat) (a' : Pl) (ds : List Am.PC) (H' : Hp), n - k < f → k ≤ n → CT H H' tPg a' k ds (T.take k) → sound_Copy.l3 f none 0 a' k a n (nI n) (k : Int) H' Q := by
    intro f
    induction f with
    | zero => intro k _ _ _ h; omega
    | succ f ih =>
      intro k a' ds H' hf hk g
      have hp := g.pre
      rw [sound_Copy.l3_eq]
      by_cases hkn : k < n
      · obtain ⟨l, o, c, p, rfl, hc, hpp, hpc, g0, g1, g2, g3, g4⟩ := (hT.mono hp).get hkn
        have etN : tN (k : Int) = k := rfl
        rw [bite_t (by simp; omega), chk_true]
        refine chk_of (by simp; omega) ?_
        rw [pS_some, etN, rdPage_of g0 g1 g2 g3 g4]
        have hsp := hs p (List.mem_of_getElem? hpp)
        obtain ⟨s1, s2, s3, s4, s5⟩ := hsp
        have e1 := hpc.keys.len
        have e2 := hpc.vals.len
        have e3 := hpc.kids.len
        refine page_Copy_spec hpc (by omega) fun b1 b2 b3 H2 p2 o2 => ?_
        simp only [rA_agg, uC_cons, dB_bool, dL_sl, uN_nil]
        rw [chk_true]
        have hTk : T.take k ++ [p] = T.take (k + 1) := by rw [List.take_add_one, hpp]; rfl
        refine g.add (d := ⟨c.u, c.l, b1, c.n1, b2, c.n2, b3, c.n3⟩) p2 o2.at o2.pc o2.fresh (by unfold Lim; have := Nat.mul_le_mul_right 80 (show k + 1 ≤ n by omega); omega) fun a'' H3 g3 => ?_
        rw [hTk] at g3
        rw [wrap_succ (by omega)]
        exact ih (k + 1) a'' _ H3 (by omega) (by omega) g3
      · obtain rfl : k = n := by omega
        rw [bite_f (by simp)]
        rw [List.take_of_length_le (by omega)] at g
        exact hQ a' ds H' g
  refine ⟨n + 2, ?_⟩
  rw [sound_Copy_eq]
  exact loop (n + 1) 0 none [] H (by omega) (Nat.zero_le _) (CT.nil H tPg)

theorem CT.cm {B H : Hp} {a : Pl} {ds : List Am.PC} {T : List Pg} (g : CT B H tPg a 48 ds T) (hs : ∀ p ∈ T, small p) : ∃ tp, a = some (tp, 0) ∧ CM B (H ++ [.row true tEraser [.sl a 48 5]]) H.length tp ds T (fun _ => True) := by
  have q1 := g.ot.len
  have q2 := g.ot.lenT
  obtain ⟨tp, e, hb, hr, _⟩ := own_row g.ot.own (by omega)
  subst e
  have p1 : H <+: H ++ [.row true tEraser [.sl (some (tp, 0)) 48 5]] := List.prefix_append _ _
  have g1 := g.mono p1
  have lt : ∀ i (h : i < ds.length) l, (ds[i]).on l → l < H.length := fun i h l hl => g.ot.onlt (List.getElem_mem h) hl
  refine ⟨tp, rfl, g1.pre, g1.ot, fun i h => (g1.own i h (by omega)).wo (g1.ot.all i h (by omega)) (hs _ (List.getElem_mem _)), fun i h l hl => ?_, fun i h h' _ => g1.own i h h', g1.ap, by simp, g.pre.length_le, fun i h hl => by have := lt i h _ hl; omega⟩
  have ho := g.own i h (by omega)
  obtain ⟨o, e | e | e⟩ := hl
  · exact ho.keys.ge e
  · exact ho.vals.ge e
  · exact ho.kids.ge e
end

/-! the root -/
section
variable {B H : Hp} {le tp : Nat} {ds : List Am.PC} {T T' : List Pg} {X : Nat → Prop} {d : Nat} {P P' : List Nat} {ps qs : KV} {Q : Post}
end
end Go.Am
namespace Go.Am

section
variable {ps : KV} {k k' : ByteArray}
end

/-! a tree that may be written over, or none -/
def WT (H : Hp) (b hi : Nat) (a : Pl) (m : Nat) : Prop := m = 0 ∨ ∃ tp cs, a = some (tp, 0) ∧ (b ≤ tp ∧ tp < hi) ∧ H[tp]? = some (Obj.row true tPg (pcells cs)) ∧ cs.length = m ∧ m ≤ 1000 ∧ ∀ c ∈ cs, WoS H b hi 1000 c
theorem TxS.keep {H H' : Hp} {b hi M : Nat} {a : Pl} {n : Nat} (h : TxS H b hi M a n) (hk : ∀ l, b ≤ l → l < hi → H'[l]? = H[l]?) : TxS H' b hi M a n := by
  rcases h with h | ⟨l, o, xs, e, hb, hr, hl, hm⟩
  · exact .inl h
  · exact .inr ⟨l, o, xs, e, hb, by unfold SRow; rw [hk l hb.1 hb.2]; exact hr, hl, hm⟩
theorem NuS.keep {H H' : Hp} {b hi : Nat} {a : Pl} {n : Nat} (h : NuS H b hi a n) (hk : ∀ l, b ≤ l → l < hi → H'[l]? = H[l]?) : NuS H' b hi a n := by
  rcases h with h | ⟨l, o, xs, e, hb, hr, hl⟩
  · exact .inl h
  · exact .inr ⟨l, o, xs, e, hb, by unfold IRow; rw [hk l hb.1 hb.2]; exact hr, hl⟩
theorem WT.keep {H H' : Hp} {b hi : Nat} {a : Pl} {m : Nat} (h : WT H b hi a m) (hk : ∀ l, b ≤ l → l < hi → H'[l]? = H[l]?) : WT H' b hi a m := by
  rcases h with h | ⟨tp, cs, e, hb, hr, hl, hm, hc⟩
  · exact .inl h
  · exact .inr ⟨tp, cs, e, hb, by rw [hk tp hb.1 hb.2]; exact hr, hl, hm, fun c q => ⟨(hc c q).t1.keep hk, (hc c q).t2.keep hk, (hc c q).t3.keep hk, (hc c q).s1, (hc c q).s2, (hc c q).s3⟩⟩
theorem TxR.s {H : Hp} {b M : Nat} {a : Pl} {n : Nat} (h : TxR H b M a n) : TxS H b H.length M a n := by
  rcases h with h | ⟨l, o, xs, e, hb, hr, hl, hm⟩
  · exact .inl h
  · exact .inr ⟨l, o, xs, e, ⟨hb, (List.getElem?_eq_some_iff.1 hr).1⟩, hr, hl, hm⟩
theorem NuR.s {H : Hp} {b : Nat} {a : Pl} {n : Nat} (h : NuR H b a n) : NuS H b H.length a n := by
  rcases h with h | ⟨l, o, xs, e, hb, hr, hl⟩
  · exact .inl h
  · exact .inr ⟨l, o, xs, e, ⟨hb, (List.getElem?_eq_some_iff.1 hr).1⟩, hr, hl⟩
theorem WoP.s {H : Hp} {b M : Nat} {c : Am.PC} (h : WoP H b M c) : WoS H b H.length M c := ⟨h.t1.s, h.t2.s, h.t3.s, h.s1, h.s2, h.s3⟩
theorem CM.wt {B H : Hp} {le tp : Nat} {ds : List Am.PC} {T : List Pg} {X : Nat → Prop} (g : CM B H le tp ds T X) {b : Nat} (hb' : b ≤ B.length) : WT H b H.length (some (tp, 0)) 48 := by
  obtain ⟨hb, hr⟩ := g.ot.at_row
  refine .inr ⟨tp, ds, rfl, ⟨by omega, (List.getElem?_eq_some_iff.1 hr).1⟩, hr, g.ot.len, by omega, fun c hc => ?_⟩
  obtain ⟨i, hi, rfl⟩ := List.getElem_of_mem hc
  exact ((g.wo i hi).base hb').s
/-! erase -/
section
variable {H : Hp} {Q : Post} {x : Pl} {n : Nat} {T : List Pg} {cs : List Am.PC} {key : ByteArray}
theorem findE_of (h : 0 < heightD T) : findE T key = findK (entD T) key := by unfold findE allE; rw [decide_eq_true h]
end
end Go.Am
namespace Go.Am

/-! numbers -/
theorem wrapU (z : Int) : wrapI .u64 z = z % 18446744073709551616 := by
  show (if (false && decide (z % (18446744073709551616 : Int) ≥ 9223372036854775808)) = true then z % (18446744073709551616 : Int) - 18446744073709551616 else z % (18446744073709551616 : Int)) = _
  rw [Bool.false_and]
  rfl
theorem wrapU_nat {m : Nat} (h : m ≤ 1000000) : wrapI .u64 (m : Int) = m := by rw [wrapU]; omega
theorem pick (z : Int) {m : Nat} (h1 : 1 ≤ m) (h2 : m ≤ 1000) : ∃ i : Nat, i < m ∧ wrapI .i64 (Int.tmod (wrapI .u64 z) (wrapI .u64 (m : Int))) = (i : Int) := by
  have e1 : wrapI .u64 (m : Int) = m := wrapU_nat (by omega)
  have h0 : 0 ≤ wrapI .u64 z := by rw [wrapU]; omega
  rw [e1, Int.tmod_eq_emod_of_nonneg h0]
  have l1 := Int.emod_nonneg (wrapI .u64 z) (show (m : Int) ≠ 0 by omega)
  have l2 := Int.emod_lt_of_pos (wrapI .u64 z) (show 0 < (m : Int) by omega)
  refine ⟨(wrapI .u64 z % (m : Int)).toNat, by omega, ?_⟩
  rw [wrap64 (by omega) (by omega)]; omega
theorem other (z : Int) {m i : Nat} (h1 : 2 ≤ m) (h2 : m ≤ 1000) (hi : i < m) : ∃ j : Nat, j < m ∧ j ≠ i ∧ Int.tmod (wrapI .i64 (wrapI .i64 ((i : Int) + 1) + wrapI .i64 (Int.tmod (wrapI .u64 z) (wrapI .u64 (wrapI .i64 ((m : Int) - 1)))))) (m : Int) = (j : Int) := by
  have e0 : wrapI .i64 ((m : Int) - 1) = ((m - 1 : Nat) : Int) := by rw [wrap64 (by omega) (by omega)]; omega
  obtain ⟨b, hb, eb⟩ := pick z (m := m - 1) (by omega) (by omega)
  rw [e0, eb, wrap64 (n := (i : Int) + 1) (by omega) (by omega), wrap64 (by omega) (by omega)]
  have e1 : (i : Int) + 1 + (b : Int) = ((i + 1 + b : Nat) : Int) := by omega
  refine ⟨(i + 1 + b) % m, Nat.mod_lt _ (by omega), fun e => ?_, ?_⟩
  · by_cases h : i + 1 + b < m
    · rw [Nat.mod_eq_of_lt h] at e; omega
    · rw [Nat.mod_eq_sub_mod (by omega), Nat.mod_eq_of_lt (by omega)] at e; omega
  · rw [e1]; rfl

section
variable {H : Hp} {Q : Post} {key : ByteArray}
theorem err_ok {T : List Pg} (h : 0 < heightD T) (e : Int) : errE e T = 0 := by unfold errE; rw [decide_eq_true h]
end
end Go.Am
namespace Go.Am

/-! how many pages a tree has -/
theorem KidsR.pages {R : Nat → List Nat → KV → Prop} (hR : ∀ k P ps, R k P ps → 4 * P.length + 2 ≤ 3 * ps.length) : ∀ {ks : List Int} {ss : List ByteArray} {P : List Nat} {ps : KV}, KidsR R ks ss P ps → 4 * P.length + 2 * ks.length ≤ 3 * ps.length
  | [], _, _, _, h => h.elim
  | k :: ks, [], P, ps, h => by
    have := hR _ _ _ h.2
    rw [h.1]; simpa using this
  | k :: ks, s :: ss, P, ps, ⟨P1, ps1, P2, ps2, h1, h2, e1, e2, _, _⟩ => by
    have a := hR _ _ _ h1
    have b := KidsR.pages hR h2
    subst e1; subst e2
    simp only [List.length_append, List.length_cons]
    omega
theorem SubB.pages {T : List Pg} : ∀ {d k : Nat} {P : List Nat} {ps : KV}, SubB T d k P ps → 4 * P.length + 2 ≤ 3 * ps.length
  | 0, _, _, _, h => h.1.elim
  | d + 1, k, P, ps, h => by
    obtain ⟨⟨p, hp, hm, hc⟩, q, hq, h2⟩ := h
    rw [hp] at hq
    obtain rfl := Option.some.inj hq
    rcases hc with ⟨_, hl, eP, es⟩ | ⟨hl, P', eP, hk⟩
    · have := (hm.2.leaf hl).1
      subst eP; subst es
      simp [List.length_zip]
      omega
    · have a := KidsR.pages (fun _ _ _ h => SubB.pages h) hk
      have b := (hm.2.inner hl).2.2.1
      subst eP
      simp only [List.length_cons]
      omega

/-! entries -/
section
variable {l r ps : KV} {k v : ByteArray}
theorem insK_right (h : ∀ x ∈ r, blt k x.1 = true) : insK (l ++ r) k v = insK l k v ++ r := by
  induction l with
  | nil =>
    show insK r k v = (k, v) :: r
    have := insK_new (l := []) (r := r) (k := k) (v := v) (fun x hx => by cases hx) h
    simpa using this
  | cons x l ih =>
    show (match decide (x.1 = k) with | true => (k, v) :: (l ++ r) | false => match blt x.1 k with | true => x :: insK (l ++ r) k v | false => (k, v) :: x :: (l ++ r)) = (match decide (x.1 = k) with | true => (k, v) :: l | false => match blt x.1 k with | true => x :: insK l k v | false => (k, v) :: x :: l) ++ r
    rw [ih]
    cases decide (x.1 = k) <;> cases blt x.1 k <;> rfl
theorem insK_le (h : Asc ps) : (insK ps k v).length ≤ ps.length + 1 := by
  rw [insK_len h]; split <;> omega
end

/-! a page with one key more -/
def insP (p : Pg) (i : Nat) (k v : ByteArray) : Pg := ⟨p.used, p.leaf, p.keys.take i ++ k :: p.keys.drop i, p.vals.take i ++ v :: p.vals.drop i, p.kids⟩
def insI (p : Pg) (i : Nat) (s : ByteArray) (f : Int) : Pg := ⟨p.used, p.leaf, p.keys.take i ++ s :: p.keys.drop i, p.vals, p.kids.take (i + 1) ++ f :: p.kids.drop (i + 1)⟩
/-- a subtree whose root may have a key too many -/
def SubF (T : List Pg) (d a : Nat) (P : List Nat) (ps : KV) : Prop := ∃ p, T[a]? = some p ∧ FitsP p ∧
  ((d = 1 ∧ p.leaf = true ∧ P = [a] ∧ ps = p.keys.zip p.vals) ∨ (p.leaf = false ∧ ∃ d' P', d = d' + 2 ∧ P = a :: P' ∧ KidsR (SubB T (d' + 1)) p.kids p.keys P' ps))
section
variable {T T' T1 : List Pg} {d a f : Nat} {p : Pg} {key v s : ByteArray} {P : List Nat} {ps : KV}
theorem SubF.sub (h : SubF T d a P ps) (hp : T[a]? = some p) (h4 : p.keys.length ≤ 4) : Sub T d a P ps := by
  obtain ⟨q, hq, hf, hc⟩ := h
  rw [hp] at hq
  obtain rfl := Option.some.inj hq
  rcases hc with ⟨e, h1, h2, h3⟩ | ⟨h1, d', P', e, h2, h3⟩
  · subst e; exact ⟨p, hp, ⟨h4, hf⟩, .inl ⟨rfl, h1, h2, h3⟩⟩
  · subst e; exact ⟨p, hp, ⟨h4, hf⟩, .inr ⟨h1, P', h2, h3⟩⟩
theorem mem_ins {α : Type} {xs : List α} {i : Nat} {x y : α} (h : y ∈ xs.take i ++ x :: xs.drop i) : y = x ∨ y ∈ xs := by
  rcases List.mem_append.1 h with q | q
  · exact .inr (List.mem_of_mem_take q)
  · rcases List.mem_cons.1 q with z | z
    · exact .inl z
    · exact .inr (List.mem_of_mem_drop z)
theorem slot_split {ks : List ByteArray} (pw : Pw ks) (hb : slotB ks key = false) : (∀ s ∈ ks.take (slotN ks key), blt s key = true) ∧ (∀ s ∈ ks.drop (slotN ks key), blt key s = true) ∧ slotN ks key ≤ ks.length := by
  obtain ⟨k1, k2, k3⟩ := kidN_split (key := key) pw
  have e : kidN ks key = slotN ks key := by unfold kidN; rw [hb]; rfl
  rw [e] at k1 k2 k3
  refine ⟨fun s hs => not_blt (k1 s hs) fun q => ?_, k2, k3⟩
  have := slotB_of_mem (key := key) pw (by rw [q]; exact List.mem_of_mem_take hs)
  rw [hb] at this; cases this
theorem ins_leaf (hS : Sub T d a P ps) (hp : T[a]? = some p) (hl : p.leaf = true) (hb : slotB p.keys key = false) (h1 : 1 ≤ key.size) (h2 : key.size ≤ 6) (h3 : v.size ≤ 10) :
    d = 1 ∧ P = [a] ∧ SubF (T.set a (insP p (slotN p.keys key) key v)) d a P (insK ps key v) := by
  have hm := hS.may hp
  obtain ⟨e1, e2, e3⟩ := hS.leafD hp hl
  obtain ⟨f1, f2, f3⟩ := hm.2.leaf hl
  have pw := rising_pw hm.2.rising
  obtain ⟨k1, k2, k3⟩ := slot_split pw hb
  have hlt := (List.getElem?_eq_some_iff.1 hp).1
  refine ⟨e1, e2, _, List.getElem?_set_self hlt, ⟨hm.2.used, pw_rising ?_, fun k hk => ?_, fun _ => ⟨?_, f2, fun w hw => ?_⟩, fun q => ?_⟩, .inl ⟨e1, hl, e2, ?_⟩⟩
  · refine List.pairwise_append.2 ⟨pw.sublist (List.take_sublist _ _), List.pairwise_cons.2 ⟨k2, pw.sublist (List.drop_sublist _ _)⟩, fun x hx y hy => ?_⟩
    rcases List.mem_cons.1 hy with z | z
    · rw [z]; exact k1 x hx
    · exact blt_trans (k1 x hx) (k2 y z)
  · rcases mem_ins hk with z | z
    · rw [z]; exact ⟨h1, h2⟩
    · exact hm.2.keys k z
  · show (p.vals.take _ ++ v :: p.vals.drop _).length = (p.keys.take _ ++ key :: p.keys.drop _).length
    simp; omega
  · rcases mem_ins hw with z | z
    · rw [z]; exact h3
    · exact f3 w z
  · have q' : p.leaf = false := q
    rw [hl] at q'; cases q'
  · show insK ps key v = (p.keys.take _ ++ key :: p.keys.drop _).zip (p.vals.take _ ++ v :: p.vals.drop _)
    rw [List.zip_append (by simp; omega), List.zip_cons_cons, zip_take, zip_drop, e3]
    have hx : ∀ x ∈ (p.keys.zip p.vals).take (slotN p.keys key), blt x.1 key = true := fun x hx => by
      rw [← zip_take] at hx
      exact k1 _ (zip_mem hx).1
    have hy : ∀ x ∈ (p.keys.zip p.vals).drop (slotN p.keys key), blt key x.1 = true := fun x hx => by
      rw [← zip_drop] at hx
      exact k2 _ (zip_mem hx).1
    rw [← insK_new hx hy, List.take_append_drop]

section
variable {D i : Nat} {PA Pi PC Pi' PX PY : List Nat} {psA psi psC psX psY : KV}
/-- what a key put in leaves beside its kid -/
theorem Kid.insK (h : Kid T d a p (kidN p.keys key) key P ps PA psA Pi psi PC psC) (hm : MayP p) : Am.insK ps key v = psA ++ (Am.insK psi key v ++ psC) := by
  obtain ⟨k1, k2, k3⟩ := kidN_split (key := key) (rising_pw hm.2.rising)
  rw [h.eps, insK_left fun x hx => ?_, insK_right fun x hx => ?_]
  · obtain ⟨s, hs, z⟩ := h.suf.ge x hx
    exact blt_le (k2 s hs) z
  · obtain ⟨s, hs, z⟩ := h.pre.lt x hx
    exact blt_le z (k1 s hs)
theorem Kid.low (h : Kid T d a p (kidN p.keys key) key P ps PA psA Pi psi PC psC) (hm : MayP p) {e} (he : e ∈ Am.insK psi key v) : ∀ s ∈ p.keys.take (kidN p.keys key), blt e.1 s = false := by
  obtain ⟨k1, k2, k3⟩ := kidN_split (key := key) (rising_pw hm.2.rising)
  intro s hs
  rcases insK_mem he with z | z
  · rw [z]; exact k1 s hs
  · exact h.c1 s hs e (List.mem_append.2 (.inl z))
theorem Kid.high (h : Kid T d a p (kidN p.keys key) key P ps PA psA Pi psi PC psC) (hm : MayP p) {e} (he : e ∈ Am.insK psi key v) : ∀ s ∈ p.keys.drop (kidN p.keys key), blt e.1 s = true := by
  obtain ⟨k1, k2, k3⟩ := kidN_split (key := key) (rising_pw hm.2.rising)
  have pw := (rising_pw hm.2.rising).sublist (List.drop_sublist (kidN p.keys key) p.keys)
  intro s hs
  rcases insK_mem he with z | z
  · rw [z]; exact k2 s hs
  · cases hd : p.keys.drop (kidN p.keys key) with
    | nil => rw [hd] at hs; cases hs
    | cons u us =>
      have q := h.c2 u (by rw [hd]; rfl) e z
      rw [hd] at hs pw
      rcases List.mem_cons.1 hs with y | y
      · rw [y]; exact q
      · exact blt_trans q ((List.pairwise_cons.1 pw).1 s y)
/-- behind a kid that was not split -/
theorem Kid.put1 (h : Kid T d a p (kidN p.keys key) key P ps PA psA Pi psi PC psC) (hp : T[a]? = some p) (hm : MayP p) (hl : p.leaf = false) {d' : Nat} (hd : d = d' + 1) (hA : ∀ j ∈ PA ++ PC, T1[j]? = T[j]?) (ha : T1[a]? = some p)
    (hk : SubB T1 d (p.kids[kidN p.keys key]'h.hi).toNat Pi' (Am.insK psi key v)) : Sub T1 (d + 1) a (a :: (PA ++ (Pi' ++ PC))) (Am.insK ps key v) := by
  refine ⟨p, ha, hm, .inr ⟨hl, _, rfl, ?_⟩⟩
  have pre := h.pre.imp (R' := SubB T1 d) fun k Q rs hb hin => hb.keep fun j hj => hA j (by simp [hin j hj])
  have suf := h.suf.imp (R' := SubB T1 d) fun k Q rs hb hin => hb.keep fun j hj => hA j (by simp [hin j hj])
  have k1 := SufR.glue hk suf fun s e x hx => h.high hm hx s (List.mem_of_mem_head? e)
  rw [← List.drop_eq_getElem_cons h.hi] at k1
  have k2 := pre.glue k1 fun s hs e he => by
    rcases List.mem_append.1 he with z | z
    · exact h.low hm z s hs
    · exact h.c1 s hs e (List.mem_append.2 (.inr z))
  rw [List.take_append_drop, List.take_append_drop] at k2
  rw [h.insK hm]
  exact k2
/-- behind a kid that was split -/
theorem Kid.put2 (h : Kid T d a p (kidN p.keys key) key P ps PA psA Pi psi PC psC) (hp : T[a]? = some p) (hm : MayP p) (hl : p.leaf = false) {d' : Nat} (hd : d = d' + 1) (hf : f ∉ P) (hf1 : 1 ≤ f) (hf2 : f < 48) (hs : 1 ≤ s.size ∧ s.size ≤ 6)
    (hA : ∀ j ∈ PA ++ PC, T1[j]? = T[j]?) (hX : SubB T1 d (p.kids[kidN p.keys key]'h.hi).toNat PX psX) (hY : SubB T1 d f PY psY) (hXY : psX ++ psY = Am.insK psi key v) (lt : ∀ e ∈ psX, blt e.1 s = true) (ge : ∀ e ∈ psY, blt e.1 s = false)
    (ha : T1[a]? = some (insI p (kidN p.keys key) s (f : Int))) : SubF T1 (d + 1) a (a :: (PA ++ (PX ++ (PY ++ PC)))) (Am.insK ps key v) := by
  obtain ⟨k1, k2, k3⟩ := kidN_split (key := key) (rising_pw hm.2.rising)
  have pw := rising_pw hm.2.rising
  obtain ⟨f1, f2, f3, f4, f5⟩ := hm.2.inner hl
  have hi := h.hi
  obtain ⟨x0, hx0⟩ := List.exists_mem_of_ne_nil _ hX.ne
  obtain ⟨y0, hy0⟩ := List.exists_mem_of_ne_nil _ hY.ne
  have inX : ∀ e ∈ psX, e ∈ Am.insK psi key v := fun e he => by rw [← hXY]; exact List.mem_append.2 (.inl he)
  have inY : ∀ e ∈ psY, e ∈ Am.insK psi key v := fun e he => by rw [← hXY]; exact List.mem_append.2 (.inr he)
  have lo : ∀ t ∈ p.keys.take (kidN p.keys key), blt t s = true := fun t ht => le_blt (h.low hm (inX x0 hx0) t ht) (lt x0 hx0)
  have hi' : ∀ t ∈ p.keys.drop (kidN p.keys key), blt s t = true := fun t ht => le_blt (ge y0 hy0) (h.high hm (inY y0 hy0) t ht)
  have pre := h.pre.imp (R' := SubB T1 d) fun k Q rs hb hin => hb.keep fun j hj => hA j (by simp [hin j hj])
  have suf := h.suf.imp (R' := SubB T1 d) fun k Q rs hb hin => hb.keep fun j hj => hA j (by simp [hin j hj])
  have etf : (f : Int).toNat = f := rfl
  have g1 := SufR.glue (k := (f : Int)) (by rw [etf]; exact hY) suf fun u e x hx => h.high hm (inY x hx) u (List.mem_of_mem_head? e)
  have geC : ∀ e ∈ psC, blt e.1 s = false := fun e he => by
    obtain ⟨u, hu, z⟩ := h.suf.ge e he
    exact le_le (blt_asy (hi' u hu)) z
  have g2 : KidsR (SubB T1 d) ((p.kids[kidN p.keys key]'hi) :: (f : Int) :: p.kids.drop (kidN p.keys key + 1)) (s :: p.keys.drop (kidN p.keys key)) (PX ++ (PY ++ PC)) (psX ++ (psY ++ psC)) :=
    ⟨PX, psX, _, _, hX, g1, rfl, rfl, lt, fun e he => by
      rcases List.mem_append.1 he with z | z
      · exact ge e z
      · exact geC e z⟩
  have g3 := pre.glue g2 fun t ht e he => by
    rcases List.mem_append.1 he with z | z
    · exact h.low hm (inX e z) t ht
    · rcases List.mem_append.1 z with z | z
      · exact h.low hm (inY e z) t ht
      · exact h.c1 t ht e (List.mem_append.2 (.inr z))
  have ek : p.kids.take (kidN p.keys key) ++ (p.kids[kidN p.keys key]'hi) :: (f : Int) :: p.kids.drop (kidN p.keys key + 1) = p.kids.take (kidN p.keys key + 1) ++ (f : Int) :: p.kids.drop (kidN p.keys key + 1) := by
    rw [List.take_succ_eq_append_getElem hi, List.append_assoc]; rfl
  rw [ek] at g3
  have kin : ∀ k ∈ p.kids, k.toNat ∈ P := fun k hk => by
    have hh : ∀ k Q qs, SubB T d k Q qs → k ∈ Q := fun k Q qs h => h.1.head
    have whole : KidsR (SubB T d) p.kids p.keys (PA ++ (Pi ++ PC)) (psA ++ (psi ++ psC)) := by
      have q1 := SufR.glue h.kid h.suf h.c2
      rw [← List.drop_eq_getElem_cons h.hi] at q1
      have q2 := h.pre.glue q1 h.c1
      rwa [List.take_append_drop, List.take_append_drop] at q2
    rw [h.eP]
    exact List.mem_cons_of_mem _ (kids_in hh whole k hk)
  refine ⟨_, ha, ⟨hm.2.used, pw_rising ?_, fun k hk => ?_, fun q => ?_, fun _ => ⟨?_, f2, ?_, fun k hk => ?_, ?_⟩⟩, .inr ⟨hl, d', PA ++ (PX ++ (PY ++ PC)), by omega, rfl, ?_⟩⟩
  · refine List.pairwise_append.2 ⟨pw.sublist (List.take_sublist _ _), List.pairwise_cons.2 ⟨hi', pw.sublist (List.drop_sublist _ _)⟩, fun x hx y hy => ?_⟩
    rcases List.mem_cons.1 hy with z | z
    · rw [z]; exact lo x hx
    · exact blt_trans (lo x hx) (hi' y z)
  · rcases mem_ins hk with z | z
    · rw [z]; exact hs
    · exact hm.2.keys k z
  · have q' : p.leaf = true := q
    rw [hl] at q'; cases q'
  · show 1 ≤ (p.keys.take _ ++ s :: p.keys.drop _).length; simp; omega
  · show (p.kids.take _ ++ (f : Int) :: p.kids.drop _).length = (p.keys.take _ ++ s :: p.keys.drop _).length + 1
    simp; omega
  · rcases mem_ins (i := kidN p.keys key + 1) hk with z | z
    · rw [z]; omega
    · exact f4 k z
  · show (p.kids.take _ ++ (f : Int) :: p.kids.drop _).Nodup
    have f5' := f5
    rw [← List.take_append_drop (kidN p.keys key + 1) p.kids] at f5'
    have n1 := List.nodup_append.1 f5'
    have nf : (f : Int) ∉ p.kids := fun q => hf (by have := kin _ q; simpa using this)
    refine List.nodup_append.2 ⟨n1.1, List.nodup_cons.2 ⟨fun q => nf (List.mem_of_mem_drop q), n1.2.1⟩, fun u hu w hw e => ?_⟩
    rcases List.mem_cons.1 hw with z | z
    · rw [← e] at z; rw [z] at hu; exact nf (List.mem_of_mem_take hu)
    · exact n1.2.2 u hu w z e
  · show KidsR (SubB T1 (d' + 1)) (p.kids.take _ ++ (f : Int) :: p.kids.drop _) (p.keys.take _ ++ s :: p.keys.drop _) _ _
    rw [h.insK hm, ← hXY, List.append_assoc, ← hd]
    exact g3
end

/-! a page split in two -/
def cutAt (p : Pg) : Nat := match p.leaf with | true => 3 | false => 2
theorem split_sub (h : SubF T d a P ps) (hp : T[a]? = some p) (h5 : p.keys.length = 5) (hnd : P.Nodup) (hf : f ∉ P) (hT : ∀ j ∈ P, j ≠ a → T'[j]? = T[j]?) (hx : T'[a]? = some (cutL p (cutAt p))) (hy : T'[f]? = some (cutR p (cutAt p))) (hk : cutAt p < p.keys.length) :
    ∃ PX psX PY psY, SubB T' d a PX psX ∧ SubB T' d f PY psY ∧ psX ++ psY = ps ∧ (PX ++ PY).Nodup ∧ (∀ j, j ∈ PX ++ PY ↔ j ∈ P ∨ j = f) ∧ (PX ++ PY).length = P.length + 1 ∧ (∀ e ∈ psX, blt e.1 p.keys[cutAt p] = true) ∧ (∀ e ∈ psY, blt e.1 p.keys[cutAt p] = false) := by
  obtain ⟨q, hq, hfit, hc⟩ := h
  rw [hp] at hq
  obtain rfl := Option.some.inj hq
  have pw := rising_pw hfit.rising
  have hsplit : p.keys = p.keys.take (cutAt p) ++ p.keys[cutAt p] :: p.keys.drop (cutAt p + 1) := by rw [List.getElem_cons_drop, List.take_append_drop]
  have ltk : ∀ t ∈ p.keys.take (cutAt p), blt t p.keys[cutAt p] = true := fun t ht => by
    have pw' := pw
    rw [hsplit] at pw'
    exact (List.pairwise_append.1 pw').2.2 t ht _ List.mem_cons_self
  have gtk : ∀ t ∈ p.keys.drop (cutAt p + 1), blt p.keys[cutAt p] t = true := fun t ht => by
    have pw' := pw
    rw [hsplit] at pw'
    exact (List.pairwise_cons.1 (List.pairwise_append.1 pw').2.1).1 t ht
  have fL := fits_cutL hfit hk (by unfold cutAt; cases p.leaf <;> simp)
  rcases hc with ⟨ed, hl, eP, es⟩ | ⟨hl, d', P', ed, eP, hkk⟩
  · obtain ⟨f1, f2, f3⟩ := hfit.leaf hl
    have ec : cutAt p = 3 := by unfold cutAt; rw [hl]
    have eL : (cutL p (cutAt p)).keys = p.keys.take 3 ∧ (cutL p (cutAt p)).vals = p.vals.take 3 ∧ (cutL p (cutAt p)).leaf = true := by rw [ec]; unfold cutL; rw [hl]; exact ⟨rfl, rfl, rfl⟩
    have eR : (cutR p (cutAt p)).keys = p.keys.drop 3 ∧ (cutR p (cutAt p)).vals = p.vals.drop 3 ∧ (cutR p (cutAt p)).leaf = true := by rw [ec]; unfold cutR; rw [hl]; exact ⟨rfl, rfl, rfl⟩
    have fR := fits_cutR (k := cutAt p) hfit (by rw [eR.1]; simp; omega)
    subst ed; subst eP
    have hfa : a ≠ f := fun e => hf (by simp [e])
    refine ⟨[a], _, [f], _, ⟨⟨_, hx, ⟨by rw [eL.1]; simp; omega, fL⟩, .inl ⟨rfl, eL.2.2, rfl, rfl⟩⟩, _, hx, by rw [eL.1]; simp; omega⟩, ⟨⟨_, hy, ⟨by rw [eR.1]; simp; omega, fR⟩, .inl ⟨rfl, eR.2.2, rfl, rfl⟩⟩, _, hy, by rw [eR.1]; simp; omega⟩, ?_, ?_, fun j => by simp, rfl, fun e he => ?_, fun e he => ?_⟩
    · rw [eL.1, eL.2.1, eR.1, eR.2.1, zip_take, zip_drop, List.take_append_drop, es]
    · simp [hfa]
    · rw [eL.1, ← ec] at he
      exact ltk _ (zip_mem he).1
    · rw [eR.1, ← ec] at he
      have := (zip_mem he).1
      rw [← List.getElem_cons_drop (h := hk)] at this
      rcases List.mem_cons.1 this with q | q
      · rw [q]; exact blt_irr _
      · exact blt_asy (gtk _ q)
  · obtain ⟨f1, f2, f3, f4, f5⟩ := hfit.inner hl
    have ec : cutAt p = 2 := by unfold cutAt; rw [hl]
    have eL : (cutL p (cutAt p)).keys = p.keys.take 2 ∧ (cutL p (cutAt p)).kids = p.kids.take 3 ∧ (cutL p (cutAt p)).leaf = false := by rw [ec]; unfold cutL; rw [hl]; exact ⟨rfl, rfl, rfl⟩
    have eR : (cutR p (cutAt p)).keys = p.keys.drop 3 ∧ (cutR p (cutAt p)).kids = p.kids.drop 3 ∧ (cutR p (cutAt p)).leaf = false := by rw [ec]; unfold cutR; rw [hl]; exact ⟨rfl, rfl, rfl⟩
    have fR := fits_cutR (k := cutAt p) hfit (by rw [eR.1]; simp; omega)
    have ek : p.kids = p.kids.take 3 ++ p.kids.drop 3 := (List.take_append_drop _ _).symm
    have hkk' : KidsR (SubB T (d' + 1)) (p.kids.take 3 ++ p.kids.drop 3) (p.keys.take (cutAt p) ++ p.keys[cutAt p] :: p.keys.drop (cutAt p + 1)) P' ps := by rw [← ek, ← hsplit]; exact hkk
    obtain ⟨P1, ps1, P2, ps2, r1, r2, e1, e2, r3, r4⟩ := KidsR.cut (by intro q; have := congrArg List.length q; simp at this; omega) (by rw [ec]; simp; omega) hkk' ltk
    subst ed; subst eP; subst e1; subst e2
    have n1 := List.nodup_cons.1 hnd
    have hfa : a ≠ f := fun e => hf (by simp [e])
    have keep : ∀ j ∈ P1 ++ P2, T'[j]? = T[j]? := fun j hj => hT j (List.mem_cons_of_mem _ hj) fun e => n1.1 (by rw [← e]; exact hj)
    have ec1 : cutAt p + 1 = 3 := by omega
    rw [ec1] at r2
    rw [ec] at r1
    have hnd' : (P1 ++ P2).Nodup := n1.2
    have n2 := List.nodup_append.1 hnd'
    refine ⟨a :: P1, ps1, f :: P2, ps2, ⟨⟨_, hx, ⟨by rw [eL.1]; simp; omega, fL⟩, .inr ⟨eL.2.2, P1, rfl, ?_⟩⟩, _, hx, by rw [eL.1]; simp; omega⟩, ⟨⟨_, hy, ⟨by rw [eR.1]; simp; omega, fR⟩, .inr ⟨eR.2.2, P2, rfl, ?_⟩⟩, _, hy, by rw [eR.1]; simp; omega⟩, rfl, ?_, fun j => ?_, by simp; omega, r3, r4⟩
    · rw [eL.1, eL.2.1]
      exact r1.imp fun k Q qs hb hin => hb.keep fun j hj => keep j (List.mem_append.2 (.inl (hin j hj)))
    · rw [eR.1, eR.2.1]
      exact r2.imp fun k Q qs hb hin => hb.keep fun j hj => keep j (List.mem_append.2 (.inr (hin j hj)))
    · have hf1 : f ∉ P1 := fun q => hf (by simp [q])
      have hf2 : f ∉ P2 := fun q => hf (by simp [q])
      have ha1 : a ∉ P1 := fun q => n1.1 (by simp [q])
      have ha2 : a ∉ P2 := fun q => n1.1 (by simp [q])
      refine List.nodup_append.2 ⟨List.nodup_cons.2 ⟨ha1, n2.1⟩, List.nodup_cons.2 ⟨hf2, n2.2.1⟩, fun u hu w hw e => ?_⟩
      subst e
      rcases List.mem_cons.1 hu with z | z <;> rcases List.mem_cons.1 hw with y | y
      · exact hfa (z.symm.trans y)
      · exact ha2 (by rw [← z]; exact y)
      · exact hf1 (by rw [← y]; exact z)
      · exact n2.2.2 u z u y rfl
    · simp only [List.mem_append, List.mem_cons]
      constructor
      · rintro ((z | z) | (z | z)) <;> simp [z]
      · rintro ((z | z | z) | z) <;> simp [z]
end
end Go.Am
namespace Go.Proofs
open Go.Shelf
def Uq.insS_ren : Go.Shelf.Ren := ⟨fun | 22 => 86 | 29 => 103 | 30 => 104 | 36 => 123 | 17 => 133 | n => n, fun | 24 => 27 | 9 => 9 | 3 => 3 | 4 => 4 | 0 => 0 | n => n, fun | n => n⟩
theorem Uq.insS : Go.Proofs.Lays2.n22 Tryz.prog Uq.insS_ren := {
  mixed := by kernel_rfl
  f17 := Tryz.func133.trans (congrArg some (by kernel_rfl))
  f22 := Tryz.func86.trans (congrArg some (by kernel_rfl))
  f29 := Tryz.func103.trans (congrArg some (by kernel_rfl))
  f30 := Tryz.func104.trans (congrArg some (by kernel_rfl))
  f36 := Tryz.func123.trans (congrArg some (by kernel_rfl))
  t0 := Tryz.underlying0
  a0 := Tryz.isAgg0
  z0 := Tryz.sizeOf0
  v0 := Tryz.zeroValue0
  t3 := Tryz.underlying3
  a3 := Tryz.isAgg3
  z3 := Tryz.sizeOf3
  v3 := Tryz.zeroValue3
  t4 := Tryz.underlying4
  a4 := Tryz.isAgg4
  z4 := Tryz.sizeOf4
  v4 := Tryz.zeroValue4
  t9 := Tryz.underlying9
  a9 := Tryz.isAgg9
  z9 := Tryz.sizeOf9
  v9 := Tryz.zeroValue9
  t24 := Tryz.underlying27
  a24 := Tryz.isAgg27
  z24 := Tryz.sizeOf27
  v24 := Tryz.zeroValue27
  i9 := by kernel_rfl }
def Uq.insI_ren : Go.Shelf.Ren := ⟨fun | 21 => 87 | 27 => 105 | 28 => 106 | 35 => 124 | 39 => 134 | n => n, fun | 22 => 73 | 3 => 3 | 4 => 4 | 0 => 0 | n => n, fun | n => n⟩
theorem Uq.insI : Go.Proofs.Lays2.n21 Tryz.prog Uq.insI_ren := {
  mixed := by kernel_rfl
  f21 := Tryz.func87.trans (congrArg some (by kernel_rfl))
  f27 := Tryz.func105.trans (congrArg some (by kernel_rfl))
  f28 := Tryz.func106.trans (congrArg some (by kernel_rfl))
  f35 := Tryz.func124.trans (congrArg some (by kernel_rfl))
  f39 := Tryz.func134.trans (congrArg some (by kernel_rfl))
  t0 := Tryz.underlying0
  a0 := Tryz.isAgg0
  z0 := Tryz.sizeOf0
  v0 := Tryz.zeroValue0
  t3 := Tryz.underlying3
  a3 := Tryz.isAgg3
  z3 := Tryz.sizeOf3
  v3 := Tryz.zeroValue3
  t4 := Tryz.underlying4
  a4 := Tryz.isAgg4
  z4 := Tryz.sizeOf4
  v4 := Tryz.zeroValue4
  t22 := Tryz.underlying73
  a22 := Tryz.isAgg73
  z22 := Tryz.sizeOf73
  v22 := Tryz.zeroValue73
  i3 := by kernel_rfl }
end Go.Proofs
namespace Go.Am
open Go.Proofs Go.RowKit

theorem All2.three {α β : Type} {R : α → β → Prop} {a b c : α} {vs : List β} (h : All2 R [a, b, c] vs) : ∃ x y z, vs = [x, y, z] ∧ R a x ∧ R b y ∧ R c z := by
  obtain ⟨x, vs, rfl, h1, h⟩ := h.cons_inv
  obtain ⟨y, vs, rfl, h2, h⟩ := h.cons_inv
  obtain ⟨z, vs, rfl, h3, h⟩ := h.cons_inv
  rw [h.nil_inv]
  exact ⟨x, y, z, rfl, h1, h2, h3⟩

/-- slices.Insert of one value: the old row is spent -/
def insSm (t : TypeId) (by_ : Nat) : Sm := fun xs H Q => ∃ a n i lv v, xs = [.g (.sl a n 1), .g (.int .i64 ((i : Nat) : Int)), .g (.sl (some (lv, 0)) 1 1)] ∧ i ≤ n ∧ (n + 1) * by_ ≤ Lim ∧ H[lv]? = some (.row false lentT [v]) ∧
  ((a = none ∧ n = 0 ∧ Q (.g (.sl (some (ln H, 0)) 1 1)) (pu H (.row true t [v]))) ∨
   ∃ l zs, a = some (l, 0) ∧ H[l]? = some (.row true t zs) ∧ zs.length = n ∧ Q (.g (.sl (some (ln H, 0)) (n + 1) 1)) (pu (H.set l .dead) (.row true t (zs.take i ++ v :: zs.drop i))))
def slices_Insert__string_string : Sm := insSm 9 16
def slices_Insert__int_int : Sm := insSm 3 8

theorem setCells_row (b : Nat) (t : TypeId) (fz : Nat × Nat) : ∀ (vs : List Value) (o : Nat) (c : Array Value) (w : World), w.heap[b]? = some (.cells c t fz) → o + vs.length ≤ c.size →
    ∃ c', Keeps (fun b' => b' = b) w (w.setCells b o vs) ∧ (w.setCells b o vs).heap[b]? = some (.cells c' t fz) ∧ c'.toList = c.toList.take o ++ vs ++ c.toList.drop (o + vs.length)
  | [], o, c, w, hb, _ => ⟨c, Keeps.refl _ _, hb, by simp⟩
  | v :: vs, o, c, w, hb, hl => by
    obtain ⟨c', hk, hb', hc'⟩ := setCells_row b t fz vs (o + 1) (c.setIfInBounds o v) (w.setCell ⟨b, o, none⟩ v) (heap_setCell_at hb) (by simp at hl ⊢; omega)
    refine ⟨c', (keeps_setCell w b o v).trans hk (fun b h => .inl h), hb', ?_⟩
    rw [hc', Array.toList_setIfInBounds]
    have := list_set_append c.toList o v vs (by simp at hl ⊢; omega)
    rw [← this]
    simp



structure InsLaws (P : Program) (f : FuncId) (t : TypeId) (by_ : Nat) (zc : Value) : Prop where
  enters : ∀ vs w, (callFunc f vs).run P w = .ok (.enter f vs) w
  shift : ∀ (b off n c i vb voff m vc : Nat) (cs vs : List Value) (w : World), i < n → 0 < m → n + m ≤ c → c ≤ 9223372036854775807 → vb ≠ b → cs.length = n → vs.length = m →
    (∀ j v, cs[j]? = some v → w.cell? ⟨b, off + j, none⟩ = some v) → (∀ j, j < n + m → (w.cell? ⟨b, off + j, none⟩).isSome = true) → (∀ j, j < n + m → w.frozen? ⟨b, off + j, none⟩ = false) →
    (∀ j v, vs[j]? = some v → w.cell? ⟨vb, voff + j, none⟩ = some v) → (∀ v ∈ cs, v.oneCell' = true) → (∀ v ∈ vs, v.oneCell' = true) →
    ∀ (tA tB : TypeId) (kA kB : Nat), w.shape? vb = some (tA, kA) → w.shape? b = some (tB, kB) → kB ≠ 0 → w.frozen? ⟨vb, voff, none⟩ = false → w.frozen? ⟨vb, kA, none⟩ = false →
    Calls P f #[.slice (some ⟨b, off, none⟩) n c, .int .i64 i, .slice (some ⟨vb, voff, none⟩) m vc] w fun e w' =>
      e = .returned (.slice (some ⟨b, off, none⟩) (n + m) c) ∧ w' = (w.drew.setCells b (off + (i + m)) (cs.drop i)).setCells b (off + i) vs
  end_room : ∀ (b off n c vb voff m vc : Nat) (vs : List Value) (w : World), 0 < m → n + m ≤ c → c ≤ 9223372036854775807 → vs.length = m →
    (∀ j, j < m → (w.cell? ⟨b, off + n + j, none⟩).isSome = true) → (∀ j, j < m → w.frozen? ⟨b, off + n + j, none⟩ = false) →
    (∀ j v, vs[j]? = some v → w.cell? ⟨vb, voff + j, none⟩ = some v) → (∀ v ∈ vs, v.oneCell' = true) →
    Calls P f #[.slice (some ⟨b, off, none⟩) n c, .int .i64 n, .slice (some ⟨vb, voff, none⟩) m vc] w fun e w' =>
      e = .returned (.slice (some ⟨b, off, none⟩) (n + m) c) ∧ w' = w.setCells b (off + n) vs
  end_grow : ∀ (base : Option Addr) (n c vb voff m vc : Nat) (cs vs : List Value) (w : World), 0 < m → n ≤ c → c < n + m → (n + m) * by_ ≤ 140737488355328 → cs.length = n → vs.length = m → (base = none → n = 0) →
    (∀ a, base = some a → ∀ j v, cs[j]? = some v → w.cell? (a.add j) = some v) →
    (∀ j v, vs[j]? = some v → w.cell? ⟨vb, voff + j, none⟩ = some v) → (∀ v ∈ vs, v.oneCell' = true) →
    Calls P f #[.slice base n c, .int .i64 n, .slice (some ⟨vb, voff, none⟩) m vc] w fun e w' =>
      e = .returned (.slice (some ⟨w.heap.size, 0, none⟩) (n + m) (grownCap w (n + m) c t)) ∧
      w' = w.drew.alloc (.cells ((cs ++ vs).toArray ++ Builtin.zeroCells zc.cells (grownCap w (n + m) c t - (n + m))) t)
  grow : ∀ (b off n c i vb voff m vc : Nat) (cs vs : List Value) (w : World), i < n → 0 < m → n ≤ c → c < n + m → (n + m) * by_ ≤ 140737488355328 → cs.length = n → vs.length = m →
    (∀ j v, cs[j]? = some v → w.cell? ⟨b, off + j, none⟩ = some v) → (∀ j v, vs[j]? = some v → w.cell? ⟨vb, voff + j, none⟩ = some v) → (∀ v ∈ cs, v.oneCell' = true) → (∀ v ∈ vs, v.oneCell' = true) →
    Calls P f #[.slice (some ⟨b, off, none⟩) n c, .int .i64 i, .slice (some ⟨vb, voff, none⟩) m vc] w fun e w' =>
      e = .returned (.slice (some ⟨w.heap.size, 0, none⟩) (n + m) (grownCap w (n + m) c t)) ∧
      w' = (((w.alloc (.cells ((cs.take i).toArray ++ Builtin.zeroCells zc.cells (n + m - i) ++ Builtin.zeroCells zc.cells (grownCap w (n + m) c t - (n + m))) t)).drew.setCells w.heap.size i vs).drew).setCells w.heap.size (i + m) (cs.drop i)

theorem insS_laws : InsLaws Tryz.prog 86 9 16 (.string ⟨#[]⟩) where
  enters vs w := enters_of Tryz.func86 (by kernel_rfl) rfl _ _
  shift b off n c i vb voff m vc cs vs w h1 h2 h3 h4 h5 h6 h7 h8 h9 h10 h11 h12 h13 tA tB kA kB h14 h15 h16 h17 h18 := Any2.slices_Insert_string_shift Uq.insS b off n c i vb voff m vc cs vs w h1 h2 h3 h4 h5 h6 h7 h8 h9 h10 h11 h12 h13 tA tB kA kB h14 h15 h16 h17 h18
  end_room b off n c vb voff m vc vs w h1 h2 h3 h4 h5 h6 h7 h8 := Any2.slices_Insert_string_end_room Uq.insS b off n c vb voff m vc vs w h1 h2 h3 h4 h5 h6 h7 h8
  end_grow base n c vb voff m vc cs vs w h1 h2 h3 h4 h5 h6 h7 h8 h9 h10 := Any2.slices_Insert_string_end_grow Uq.insS base n c vb voff m vc cs vs w h1 h2 h3 h4 h5 h6 h7 h8 h9 h10
  grow b off n c i vb voff m vc cs vs w h1 h2 h3 h4 h5 h6 h7 h8 h9 h10 h11 := Any2.slices_Insert_string_grow Uq.insS b off n c i vb voff m vc cs vs w h1 h2 h3 h4 h5 h6 h7 h8 h9 h10 h11
theorem insI_laws : InsLaws Tryz.prog 87 3 8 (.int .i64 0) where
  enters vs w := enters_of Tryz.func87 (by kernel_rfl) rfl _ _
  shift b off n c i vb voff m vc cs vs w h1 h2 h3 h4 h5 h6 h7 h8 h9 h10 h11 h12 h13 tA tB kA kB h14 h15 h16 h17 h18 := Any2.slices_Insert_int_shift Uq.insI b off n c i vb voff m vc cs vs w h1 h2 h3 h4 h5 h6 h7 h8 h9 h10 h11 h12 h13 tA tB kA kB h14 h15 h16 h17 h18
  end_room b off n c vb voff m vc vs w h1 h2 h3 h4 h5 h6 h7 h8 := Any2.slices_Insert_int_end_room Uq.insI b off n c vb voff m vc vs w h1 h2 h3 h4 h5 h6 h7 h8
  end_grow base n c vb voff m vc cs vs w h1 h2 h3 h4 h5 h6 h7 h8 h9 h10 := Any2.slices_Insert_int_end_grow Uq.insI base n c vb voff m vc cs vs w h1 h2 h3 h4 h5 h6 h7 h8 h9 h10
  grow b off n c i vb voff m vc cs vs w h1 h2 h3 h4 h5 h6 h7 h8 h9 h10 h11 := Any2.slices_Insert_int_grow Uq.insI b off n c i vb voff m vc cs vs w h1 h2 h3 h4 h5 h6 h7 h8 h9 h10 h11

theorem All2.mem_right {α β : Type} {R : α → β → Prop} {S : β → Prop} (hRS : ∀ a b, R a b → S b) {xs : List α} {bs : List β} (h : All2 R xs bs) : ∀ b ∈ bs, S b := by
  induction h with
  | nil => intro b h; simp at h
  | cons h1 _ ih => intro b hb; rcases List.mem_cons.1 hb with rfl | hb; exact hRS _ _ h1; exact ih b hb
theorem is2_one {φ : List LI} {cs : List GV} {xs : List Value} (h : Is2 φ cs xs) : ∀ x ∈ xs, x.oneCell' = true := All2.mem_right (S := fun x => x.oneCell' = true) (fun _ _ h => (GV.is.one h).2) h

set_option maxHeartbeats 1000000 in
theorem ins_ok {P : Program} {f : FuncId} {t : TypeId} {by_ : Nat} {zc : Value} (L : InsLaws P f t by_ zc) (hz : zc.cells = #[zc]) (hby : 1 ≤ by_) : SoundC P f (insSm t by_) := by
  intro as0 H Q ⟨a, n, i, lv, v, e, hi, hlim, hlv, hcase⟩ φ w vs hr ha
  subst e
  obtain ⟨x, y, z, rfl, hx, hy, hz'⟩ := ha.three
  subst hy
  obtain ⟨iv, ad, cv, hiv, rfl, hqv, hncv, huv, _⟩ := hz'
  obtain ⟨iv', hiv', r1, r2, r3, r4, r5⟩ := hr.row lv false lentT [v] hlv
  rw [hiv] at hiv'; cases hiv'
  obtain ⟨hp, cv0, ev, hbv⟩ := r5 rfl
  obtain ⟨xv, hxv, hxis⟩ := r4 0 v rfl
  have hqv := hqv.resolve_right (by omega)
  rw [hp] at hqv hxv
  subst hqv
  have hvs : ∀ j u, [xv][j]? = some u → w.cell? ⟨iv.b, 0 + j, none⟩ = some u := by
    intro j u hj
    cases j with
    | zero => simp at hj; subst hj; exact hxv
    | succ j => simp at hj
  have hx1 := (GV.is.one hxis).2
  have h1v : ∀ u ∈ [xv], u.oneCell' = true := by intro u hu; simp at hu; subst hu; exact hx1
  have hlim' : (n + 1) * by_ ≤ 140737488355328 := hlim
  have hn63 : n + 1 ≤ 140737488355328 := Nat.le_trans (Nat.le_mul_of_pos_right _ hby) hlim'
  have hgc : ∀ c, n + 1 ≤ grownCap w (n + 1) c t := fun c => grownCap_ge w (n + 1) c t
  have hgm : ∀ c, grownCap w (n + 1) c t ≤ 9223372036854775807 := fun c => grownCap_le_maxLen w (n + 1) c t (by unfold maxLen; omega)
  have hzsz : ∀ k, (Builtin.zeroCells zc.cells k).size = k := by intro k; simp [Builtin.zeroCells, hz]
  refine .inl ⟨L.enters _ _, ?_⟩
  rcases hcase with ⟨rfl, rfl, hQ⟩ | ⟨l, zs, rfl, hl, hzl, hQ⟩
  · obtain ⟨_, rfl⟩ := hx
    have hi0 : i = 0 := by omega
    subst hi0
    refine (L.end_grow none 0 0 iv.b 0 1 cv [] [xv] w (by omega) (by omega) (by omega) hlim' rfl rfl (fun _ => rfl) (by intro a h; cases h) hvs h1v).mono ?_
    rintro e w' ⟨rfl, rfl⟩
    have B := (Back.drew hr).trans (Back.new (Back.drew hr).rep t [v] (([] ++ [xv]).toArray ++ Builtin.zeroCells zc.cells (grownCap w (0 + 1) 0 t - (0 + 1))) (0, 0) (by simp) (by simpa using All2.cons hxis .nil) (fun j _ h => by simp at h))
    refine ⟨_, _, _, _, hQ, rfl, ?_, B⟩
    refine ⟨_, _, _, by simp only [ln, ← hr.len]; exact List.getElem?_concat_length, rfl, .inl rfl, hgc 0, ?_, fun _ => ⟨rfl, ?_, hgm 0⟩⟩
    · have := hgc 0; simp; omega
    · have := hgc 0; simp [hzsz]; omega
  · obtain ⟨il, al, c, hil, rfl, hq, hnc, hu, ho⟩ := hx
    obtain ⟨il', hil', ho', hu', hlt, hpl, cur, t', fz, hb, ht', hs, hfz, hle, his⟩ := hr.row l true t zs hl
    rw [hil] at hil'; cases hil'
    obtain ⟨_, hcs, hc63⟩ := ho ho'
    have hcl := his.length
    have hcurl : cur.toList.length = il.s := by simpa using hs
    have hxl : (cur.toList.take zs.length).length = n := by rw [← hcl, hzl]
    have hcells : ∀ j u, (cur.toList.take zs.length)[j]? = some u → w.cell? ⟨il.b, 0 + j, none⟩ = some u := by
      intro j u hj
      rw [cell_of hb, Nat.zero_add]
      rw [List.getElem?_take] at hj
      split at hj
      · simpa using hj
      · cases hj
    have h1c := is2_one his
    by_cases hroom : n + 1 ≤ c
    · have hpos : 0 < il.s := by omega
      have hq' : al = ⟨il.b, 0, none⟩ := by
        rcases hq with h | h
        · rw [h, hpl]
        · omega
      subst hq'
      have hvb : iv.b ≠ il.b := fun e => hr.rows l lv t zs false lentT [v] il iv hl hlv (fun q => by subst q; rw [hl] at hlv; cases hlv) hil hiv hpos e.symm
      have hsp : ∀ j, j < il.s → (w.cell? ⟨il.b, 0 + j, none⟩).isSome = true := by
        intro j hj
        rw [cell_of hb, Nat.zero_add, Array.getElem?_eq_getElem (by omega)]; rfl
      have hfr : ∀ j, j < il.s → w.frozen? ⟨il.b, 0 + j, none⟩ = false := by
        intro j hj
        obtain ⟨f1, f2⟩ := fz
        simp only [World.frozen?, hb, Nat.zero_add]
        by_cases q : f1 ≤ j ∧ j < f2
        · have := (hfz _ q.1 q.2).1; omega
        · simp; omega
      have main : ∀ w', Keeps (fun b => b = il.b) w w' → (∃ c', w'.heap[il.b]? = some (.cells c' t' fz) ∧ c'.toList = cur.toList.take i ++ xv :: (cur.toList.take n).drop i ++ cur.toList.drop (n + 1)) →
          ∃ r H' φ' x, Q r H' ∧ Ending.returned (.slice (some ⟨il.b, 0, none⟩) (n + 1) c) = .returned x ∧ r.is φ' x ∧ Back φ H w φ' H' w' := by
        rintro w' hk ⟨c', hb', hc'⟩
        have hc'l : c'.toList.length = il.s := by rw [hc']; simp [hcurl]; omega
        have hsz' : c'.size = il.s := by simpa using hc'l
        have hnl : (zs.take i ++ v :: zs.drop i).length = n + 1 := by simp [hzl]; omega
        have B := Back.pass (i' := ⟨il.b, 0, true, n + 1, il.s⟩) (t' := t) (cs' := zs.take i ++ v :: zs.drop i) hr hl hil hpos rfl hk
          ⟨rfl, hnl.symm, Nat.lt_of_lt_of_le hlt hk.size, rfl, c', t', fz, hb', ht', by simpa using hc'l, hfz, (by rw [hnl, hsz']; omega), by
            have e1 : (cur.toList.take i ++ xv :: (cur.toList.take n).drop i).length = n + 1 := by simp [hcurl]; omega
            rw [hnl, hc', List.take_left' e1]
            have h3 : Is2 φ zs (cur.toList.take n) := by rw [← hzl]; exact his
            have h4 := h3.take i
            have h5 := h3.drop i
            rw [List.take_take, Nat.min_eq_left (by omega)] at h4
            exact (All2.append (Is2.mono (List.prefix_append _ _) h4) (.cons (GV.is.mono (List.prefix_append _ _) hxis) (Is2.mono (List.prefix_append _ _) h5)))⟩
        refine ⟨_, _, _, _, hQ, rfl, ?_, by simpa [pu] using B⟩
        refine ⟨_, _, c, by simp only [ln, ← hr.len]; exact List.getElem?_concat_length, rfl, .inl rfl, hroom, ?_, fun _ => ⟨rfl, ?_, hc63⟩⟩
        · simp; omega
        · simpa using hcs
      by_cases hin : i = n
      · subst hin
        refine (L.end_room il.b 0 i c iv.b 0 1 cv [xv] w (by omega) hroom hc63 rfl (fun j hj => by have := hsp (i + j) (by omega); simpa using this) (fun j hj => by have := hfr (i + j) (by omega); simpa using this) hvs h1v).mono ?_
        rintro e w' ⟨rfl, rfl⟩
        refine main _ ?_ ?_
        · obtain ⟨c', h1, h2, h3⟩ := setCells_row il.b t' fz [xv] (0 + i) cur w hb (by simp; omega)
          exact h1
        · obtain ⟨c', h1, h2, h3⟩ := setCells_row il.b t' fz [xv] (0 + i) cur w hb (by simp; omega)
          refine ⟨c', h2, ?_⟩
          rw [h3]; simp
      · obtain ⟨tA, tB, hsa, hsb⟩ : ∃ tA tB, w.shape? iv.b = some (tA, cv0.size) ∧ w.shape? il.b = some (tB, cur.size) := ⟨ev, t', by simp [World.shape?, hbv], by simp [World.shape?, hb]⟩
        refine (L.shift il.b 0 n c i iv.b 0 1 cv _ [xv] w (by omega) (by omega) hroom hc63 hvb hxl rfl hcells (fun j hj => hsp j (by omega)) (fun j hj => hfr j (by omega)) hvs h1c h1v tA tB cv0.size cur.size hsa hsb (by omega) (by simp [World.frozen?, hbv]) (by simp [World.frozen?, hbv])).mono ?_
        rintro e w' ⟨rfl, rfl⟩
        obtain ⟨c1, k1, b1, e1⟩ := setCells_row il.b t' fz ((cur.toList.take zs.length).drop i) (0 + (i + 1)) cur w.drew hb (by simp; omega)
        have hc1l : c1.toList.length = il.s := by rw [e1]; simp; omega
        have hc1s : c1.size = il.s := by simpa using hc1l
        obtain ⟨c2, k2, b2, e2⟩ := setCells_row il.b t' fz [xv] (0 + i) c1 _ b1 (by simp; omega)
        refine main _ (((keeps_drew _ w).trans k1 (fun b h => .inl h)).trans k2 (fun b h => .inl h)) ⟨c2, b2, ?_⟩
        have hD : ((cur.toList.take zs.length).drop i).length = n - i := by rw [List.length_drop, hxl]
        have g0 : (cur.toList.take (0 + (i + 1))).length = i + 1 := by rw [List.length_take, hcurl]; omega
        have g1 : c1.toList.take (0 + i) = cur.toList.take i := by
          rw [e1, List.append_assoc, List.take_append_of_le_length (by omega), List.take_take]
          congr 1; omega
        have g2 : c1.toList.drop (0 + i + [xv].length) = (cur.toList.take zs.length).drop i ++ cur.toList.drop (n + 1) := by
          rw [e1, List.append_assoc, List.drop_left' (by rw [g0]; simp), hD]
          congr 2; omega
        rw [e2, g1, g2, hzl]
        simp
    · have hroom' : c < n + 1 := by omega
      have hsplit : Is2 φ (zs.take i ++ v :: zs.drop i) ((cur.toList.take zs.length).take i ++ xv :: (cur.toList.take zs.length).drop i) := All2.append (his.take i) (.cons hxis (his.drop i))
      have hnl : (zs.take i ++ v :: zs.drop i).length = n + 1 := by simp [hzl]; omega
      have hlt' : l < H.length := (List.getElem?_eq_some_iff.1 hl).1
      have main : ∀ w' (cc : Array Value), Back φ H w φ H w' → cc.size = grownCap w (n + 1) c t → cc.toList.take (n + 1) = (cur.toList.take zs.length).take i ++ xv :: (cur.toList.take zs.length).drop i →
          ∃ r H' φ' x, Q r H' ∧ Ending.returned (.slice (some ⟨w'.heap.size, 0, none⟩) (n + 1) (grownCap w (n + 1) c t)) = .returned x ∧ r.is φ' x ∧ Back φ H w φ' H' (w'.alloc (.cells cc t)) := by
        intro w' cc B0 hcs hct
        have B1 := B0.trans (Back.drop B0.rep l)
        have B2 := B1.trans (Back.new B1.rep t (zs.take i ++ v :: zs.drop i) cc (0, 0) (by rw [hnl, hcs]; exact hgc c) (by rw [hnl, hct]; exact hsplit) (fun j _ h => by simp at h))
        have hlen : (H.set l .dead).length = φ.length := by rw [List.length_set, hr.len]
        refine ⟨_, _, _, _, hQ, rfl, ?_, B2⟩
        refine ⟨_, _, _, by simp only [ln, ← hr.len]; exact List.getElem?_concat_length, rfl, .inl rfl, hgc c, ?_, fun _ => ⟨rfl, ?_, hgm c⟩⟩
        · show (zs.take i ++ v :: zs.drop i).length ≤ 0 + grownCap w (n + 1) c t * 1
          have := hgc c; rw [hnl]; omega
        · show 0 + grownCap w (n + 1) c t * 1 ≤ cc.size
          rw [hcs]; omega
      by_cases hin : i = n
      · subst hin
        refine (L.end_grow (some al) i c iv.b 0 1 cv _ [xv] w (by omega) hnc hroom' hlim' hxl rfl (fun h => by cases h) (by
          intro a ha j u hj
          cases ha
          have hj' := (List.getElem?_eq_some_iff.1 hj).1
          have hq' : al = ⟨il.b, 0, none⟩ := by
            rcases hq with h | h
            · rw [h, hpl]
            · omega
          rw [hq', add_at]
          exact hcells j u hj) hvs h1v).mono ?_
        rintro e w' ⟨rfl, rfl⟩
        refine main w.drew _ (Back.drew hr) ?_ ?_
        · have := hgc c
          simp only [Array.size_append, hzsz, List.size_toArray, List.length_append, hxl, List.length_cons, List.length_nil]
          omega
        · simp only [Array.toList_append]
          rw [List.take_left' (by simp [hxl]), List.take_of_length_le (l := cur.toList.take zs.length) (by omega), List.drop_of_length_le (by omega)]
      · have hq' : al = ⟨il.b, 0, none⟩ := by
          rcases hq with h | h
          · rw [h, hpl]
          · omega
        subst hq'
        refine (L.grow il.b 0 n c i iv.b 0 1 cv _ [xv] w (by omega) (by omega) hnc hroom' hlim' hxl rfl hcells hvs h1c h1v).mono ?_
        rintro e w' ⟨rfl, rfl⟩
        have hg := hgc c
        have hA : (w.alloc (.cells (((cur.toList.take zs.length).take i).toArray ++ Builtin.zeroCells zc.cells (n + 1 - i) ++ Builtin.zeroCells zc.cells (grownCap w (n + 1) c t - (n + 1))) t)).drew.heap[w.heap.size]? = some (.cells (((cur.toList.take zs.length).take i).toArray ++ Builtin.zeroCells zc.cells (n + 1 - i) ++ Builtin.zeroCells zc.cells (grownCap w (n + 1) c t - (n + 1))) t (0, 0)) := heap_alloc_new w _
        have hAs : (((cur.toList.take zs.length).take i).toArray ++ Builtin.zeroCells zc.cells (n + 1 - i) ++ Builtin.zeroCells zc.cells (grownCap w (n + 1) c t - (n + 1))).size = grownCap w (n + 1) c t := by
          simp only [Array.size_append, hzsz, List.size_toArray, List.length_take, hxl]
          omega
        obtain ⟨c1, k1, b1, e1⟩ := setCells_row w.heap.size t (0, 0) [xv] i _ _ hA (by rw [hAs]; simp; omega)
        have hc1l : c1.toList.length = grownCap w (n + 1) c t := by
          rw [e1]
          simp only [List.length_append, List.length_take, List.length_drop, List.length_cons, List.length_nil, Array.length_toList, hAs]
          omega
        have hc1s : c1.size = grownCap w (n + 1) c t := by simpa using hc1l
        obtain ⟨c2, k2, b2, e2⟩ := setCells_row w.heap.size t (0, 0) ((cur.toList.take zs.length).drop i) (i + 1) c1 _ (show (World.drew (World.setCells (World.drew (w.alloc _)) w.heap.size i [xv])).heap[w.heap.size]? = _ from b1) (by rw [hc1s, List.length_drop, hxl]; omega)
        have hc2l : c2.toList.length = grownCap w (n + 1) c t := by
          rw [e2]
          simp only [List.length_append, List.length_take, List.length_drop, hc1l, hxl]
          have : (List.take zs.length cur.toList).length = n := hxl
          rw [List.length_take] at this
          omega
        have hc2s : c2.size = grownCap w (n + 1) c t := by simpa using hc2l
        have kk := ((((keeps_alloc (fun b => b = w.heap.size) w _).trans (keeps_drew (fun b => b = w.heap.size) _) (fun b h => .inl h)).trans k1 (fun b h => .inl h)).trans (keeps_drew (fun b => b = w.heap.size) _) (fun b h => .inl h)).trans k2 (fun b h => .inl h)
        have B0 := Back.drop hr l
        have hct : c2.toList.take (n + 1) = (cur.toList.take zs.length).take i ++ xv :: (cur.toList.take zs.length).drop i := by
          have f1 : (List.take i c1.toList) = (cur.toList.take zs.length).take i := by
            rw [e1]
            have : (List.take i (((cur.toList.take zs.length).take i).toArray ++ Builtin.zeroCells zc.cells (n + 1 - i) ++ Builtin.zeroCells zc.cells (grownCap w (n + 1) c t - (n + 1))).toList) = (cur.toList.take zs.length).take i := by
              simp only [Array.toList_append]
              rw [List.append_assoc, List.take_left' (by simp only [List.length_take, hxl]; rw [List.length_take] at hxl; omega)]
            rw [this, List.append_assoc, List.take_left' (by simp only [List.length_take, hxl]; rw [List.length_take] at hxl; omega)]
          have f2 : c1.toList.take (i + 1) = (cur.toList.take zs.length).take i ++ [xv] := by
            have g1 : c1.toList[i]? = some xv := by
              rw [e1, List.append_assoc, List.getElem?_append_right (by simp only [List.length_take, Array.length_toList, hAs]; omega)]
              simp only [List.length_take, Array.length_toList, hAs]
              rw [show i - min i (grownCap w (n + 1) c t) = 0 by omega]
              rfl
            rw [List.take_add_one, g1, f1]; rfl
          rw [e2, f2]
          rw [List.take_left' (by simp only [List.length_append, List.length_take, List.length_drop, hxl, List.length_cons, List.length_nil]; rw [List.length_take] at hxl; omega)]
          simp
        have B2 := B0.trans (Back.snoc (own := true) (t := t) (cs := zs.take i ++ v :: zs.drop i) (i := ⟨w.heap.size, 0, true, (zs.take i ++ v :: zs.drop i).length, c2.size⟩) B0.rep ⟨kk.os, kk.tape, kk.output, kk.size, fun b h1 _ => kk.block b h1 (by omega)⟩ (fun b q => kk.block b (B0.rep.blockLt q) (by have := B0.rep.blockLt q; omega))
          ⟨rfl, rfl, (Array.getElem?_eq_some_iff.1 b2).1, rfl, c2, t, (0, 0), b2, fun _ => rfl, rfl, fun j _ h => by simp at h, by rw [hnl, hc2s]; exact hg, Is2.mono (List.prefix_append _ _) (by rw [hnl, hct]; exact hsplit)⟩ (Nat.le_refl _))
        have hlen : (H.set l .dead).length = φ.length := by rw [List.length_set, hr.len]
        refine ⟨_, _, _, _, hQ, rfl, ?_, B2⟩
        refine ⟨_, _, _, by simp only [ln, ← hr.len]; exact List.getElem?_concat_length, rfl, .inl rfl, hg, ?_, fun _ => ⟨rfl, ?_, hgm c⟩⟩
        · show (zs.take i ++ v :: zs.drop i).length ≤ 0 + grownCap w (n + 1) c t * 1
          rw [hnl]; omega
        · show 0 + grownCap w (n + 1) c t * 1 ≤ c2.size
          rw [hc2s]; omega
theorem slices_Insert__string_string_ok : SoundC Tryz.prog 86 slices_Insert__string_string := ins_ok insS_laws rfl (by omega)
theorem slices_Insert__int_int_ok : SoundC Tryz.prog 87 slices_Insert__int_int := ins_ok insI_laws rfl (by omega)
end Go.Am
namespace Go.Am
/-! 51: cryostat/insert.entries -/
def insert_entries.cx : Cx := ⟨tys, [], [(3, [3, 9, 10, 11])], [], [], noDyn, [.tmp 2]⟩
def insert_entries : Sm := fun xs H Q => ∃ k, callK (insert_entries.cx) Go.Proofs.Tryz.f51 k xs H Q
def insert_entries.l3 (k : Nat) (ix0 : Int) (xx1 : Pl) (nx2 : Nat) (ix3 : Int) (ix4 : Int) (H : Hp) (Q : Post) : Prop := loopK (insert_entries.cx) Go.Proofs.Tryz.f51 3 k (B 3 ((.g (.int .i64 ix0)) :: B 5 ((.g (.sl xx1 nx2 5)) :: (.g (.int .i64 ix3)) :: (.g (.int .i64 ix4)) :: B 12 ([])))) H Q
theorem insert_entries_eq (k : Nat) (z0 : Pl) (H : Hp) (Q : Post) : callK (insert_entries.cx) Go.Proofs.Tryz.f51 (k + 1) [.g (.ptr z0)] H Q = (
 pS z0 fun n0 n1 =>
 rd H n0 (n1 + 0) fun v2 =>
 dL 5 v2 fun x3 n4 =>
 insert_entries.l3 k 0 x3 n4 (nI n4) 0 H Q) := by kernel_rfl
theorem insert_entries.l3_eq (k : Nat) (ix0 : Int) (xx1 : Pl) (nx2 : Nat) (ix3 : Int) (ix4 : Int) (H : Hp) (Q : Post) : insert_entries.l3 (k + 1) ix0 xx1 nx2 ix3 ix4 H Q = (
 bite (ltI ix4 ix3)
 (chk true (chk ((leI 0 ix4) && (ltI ix4 (nI nx2))) (pS xx1 fun n0 n1 =>
  rd H n0 (n1 + ((tN ix4) * 5)) fun v2 =>
  dB v2 fun b3 =>
  rd H n0 ((n1 + ((tN ix4) * 5)) + 1) fun v4 =>
  dB v4 fun b5 =>
  rd H n0 (((n1 + ((tN ix4) * 5)) + 1) + 1) fun v6 =>
  dL 1 v6 fun x7 n8 =>
  rd H n0 ((((n1 + ((tN ix4) * 5)) + 1) + 1) + 1) fun v9 =>
  dL 1 v9 fun x10 n11 =>
  rd H n0 (((((n1 + ((tN ix4) * 5)) + 1) + 1) + 1) + 1) fun v12 =>
  dL 1 v12 fun x13 n14 =>
  bite b5
  (insert_entries.l3 k (wrapI .i64 (ix0 + (nI n8))) xx1 nx2 ix3 (wrapI .i64 (ix4 + 1)) H Q)
  (insert_entries.l3 k ix0 xx1 nx2 ix3 (wrapI .i64 (ix4 + 1)) H Q))))
 (Q (.g (.int .i64 ix0)) H)) := by kernel_rfl
theorem insert_entries_ok : Sound Go.Proofs.Tryz.prog 51 (insert_entries) := prog_ok.sound (cx := insert_entries.cx) rfl (EnvOK.nil _) (noDyn_ok _) Go.Proofs.Tryz.func51 rfl

/-! 181: (*cryostat/insert.free).Push -/
def insert_free_Push.cx : Cx := ⟨tys, [], [], [], [], noDyn, []⟩
def insert_free_Push : Sm := fun xs H Q => ∃ k, callK (insert_free_Push.cx) Go.Proofs.Tryz.f181 k xs H Q
theorem insert_free_Push_eq (k : Nat) (z0 : Pl) (z1 : Int) (H : Hp) (Q : Post) : callK (insert_free_Push.cx) Go.Proofs.Tryz.f181 (k + 1) [.g (.ptr z0), .g (.iface 3 (.int .i64 z1))] H Q = (
 pS z0 fun n0 n1 =>
 rd H n0 n1 fun v2 =>
 dL 1 v2 fun x3 n4 =>
 dX 3 (.iface 3 (.int .i64 z1)) fun v5 =>
 dI .i64 v5 fun i6 =>
 chk true (ap H 3 1 8 x3 n4 [(.int .i64 i6)] 1 fun x7 n8 H9 =>
 pS z0 fun n10 n11 =>
 wr H9 n10 n11 (.sl x7 n8 1) fun H12 =>
 Q (.tup []) H12)) := by kernel_rfl
theorem insert_free_Push_ok : Sound Go.Proofs.Tryz.prog 181 (insert_free_Push) := prog_ok.sound (cx := insert_free_Push.cx) rfl (EnvOK.nil _) (noDyn_ok _) Go.Proofs.Tryz.func181 rfl

/-! 177: (cryostat/insert.free).Len -/
def insert_free_Len.cx : Cx := ⟨tys, [], [], [], [], noDyn, [.tmp 2]⟩
def insert_free_Len : Sm := fun xs H Q => ∃ k, callK (insert_free_Len.cx) Go.Proofs.Tryz.f177 k xs H Q
theorem insert_free_Len_eq (k : Nat) (z0 : Pl) (z0n : Nat) (H : Hp) (Q : Post) : callK (insert_free_Len.cx) Go.Proofs.Tryz.f177 (k + 1) [.g (.sl z0 z0n 1)] H Q = (
 Q (.g (.int .i64 (nI z0n))) H) := by kernel_rfl
theorem insert_free_Len_ok : Sound Go.Proofs.Tryz.prog 177 (insert_free_Len) := prog_ok.sound (cx := insert_free_Len.cx) rfl (EnvOK.nil _) (noDyn_ok _) Go.Proofs.Tryz.func177 rfl

/-! 178: (cryostat/insert.free).Less -/
def insert_free_Less.cx : Cx := ⟨tys, [], [], [], [], noDyn, [.tmp 6]⟩
def insert_free_Less : Sm := fun xs H Q => ∃ k, callK (insert_free_Less.cx) Go.Proofs.Tryz.f178 k xs H Q
theorem insert_free_Less_eq (k : Nat) (z0 : Pl) (z0n : Nat) (z1 : Int) (z2 : Int) (H : Hp) (Q : Post) : callK (insert_free_Less.cx) Go.Proofs.Tryz.f178 (k + 1) [.g (.sl z0 z0n 1), .g (.int .i64 z1), .g (.int .i64 z2)] H Q = (
 chk true (chk ((leI 0 z1) && (ltI z1 (nI z0n))) (pS z0 fun n0 n1 =>
 rd H n0 (n1 + ((tN z1) * 1)) fun v2 =>
 dI .i64 v2 fun i3 =>
 chk true (chk ((leI 0 z2) && (ltI z2 (nI z0n))) (pS z0 fun n4 n5 =>
 rd H n4 (n5 + ((tN z2) * 1)) fun v6 =>
 dI .i64 v6 fun i7 =>
 Q (.g (.bool (ltI i3 i7))) H))))) := by kernel_rfl
theorem insert_free_Less_ok : Sound Go.Proofs.Tryz.prog 178 (insert_free_Less) := prog_ok.sound (cx := insert_free_Less.cx) rfl (EnvOK.nil _) (noDyn_ok _) Go.Proofs.Tryz.func178 rfl

/-! 179: (cryostat/insert.free).Swap -/
def insert_free_Swap.cx : Cx := ⟨tys, [], [], [], [], noDyn, []⟩
def insert_free_Swap : Sm := fun xs H Q => ∃ k, callK (insert_free_Swap.cx) Go.Proofs.Tryz.f179 k xs H Q
theorem insert_free_Swap_eq (k : Nat) (z0 : Pl) (z0n : Nat) (z1 : Int) (z2 : Int) (H : Hp) (Q : Post) : callK (insert_free_Swap.cx) Go.Proofs.Tryz.f179 (k + 1) [.g (.sl z0 z0n 1), .g (.int .i64 z1), .g (.int .i64 z2)] H Q = (
 chk true (chk ((leI 0 z2) && (ltI z2 (nI z0n))) (pS z0 fun n0 n1 =>
 rd H n0 (n1 + ((tN z2) * 1)) fun v2 =>
 dI .i64 v2 fun i3 =>
 chk true (chk ((leI 0 z1) && (ltI z1 (nI z0n))) (pS z0 fun n4 n5 =>
 rd H n4 (n5 + ((tN z1) * 1)) fun v6 =>
 dI .i64 v6 fun i7 =>
 chk true (chk ((leI 0 z1) && (ltI z1 (nI z0n))) (pS z0 fun n8 n9 =>
 wr H n8 (n9 + ((tN z1) * 1)) (.int .i64 i3) fun H10 =>
 chk true (chk ((leI 0 z2) && (ltI z2 (nI z0n))) (pS z0 fun n11 n12 =>
 wr H10 n11 (n12 + ((tN z2) * 1)) (.int .i64 i7) fun H13 =>
 Q (.tup []) H13))))))))) := by kernel_rfl
theorem insert_free_Swap_ok : Sound Go.Proofs.Tryz.prog 179 (insert_free_Swap) := prog_ok.sound (cx := insert_free_Swap.cx) rfl (EnvOK.nil _) (noDyn_ok _) Go.Proofs.Tryz.func179 rfl

/-! 84: container/heap.up -/
def heap_up.cx : Cx := ⟨tys, [], [(0, [0, 1])], [], [(178, insert_free_Less), (179, insert_free_Swap)], noDyn, []⟩
def heap_up : Sm := fun xs H Q => ∃ k, callK (heap_up.cx) Go.Proofs.Tryz.f84 k xs H Q
def heap_up.l0 (k : Nat) (xx0 : Pl) (ix1 : Int) (H : Hp) (Q : Post) : Prop := loopK (heap_up.cx) Go.Proofs.Tryz.f84 0 k ((.g (.iface 102 (.ptr xx0))) :: (.g (.int .i64 ix1)) :: B 21 ([])) H Q
theorem heap_up_eq (k : Nat) (z0 : Pl) (z1 : Int) (H : Hp) (Q : Post) : callK (heap_up.cx) Go.Proofs.Tryz.f84 (k + 1) [.g (.iface 102 (.ptr z0)), .g (.int .i64 z1)] H Q = (
 heap_up.l0 k z0 z1 H Q) := by kernel_rfl
theorem heap_up.l0_eq (k : Nat) (xx0 : Pl) (ix1 : Int) (H : Hp) (Q : Post) : heap_up.l0 (k + 1) xx0 ix1 H Q = (
 bite (eqI (wrapI .i64 (Int.tdiv (wrapI .i64 (ix1 - 1)) 2)) ix1)
 (Q (.tup []) H)
 (pS xx0 fun n0 n1 =>
  rd H n0 n1 fun v2 =>
  dL 1 v2 fun x3 n4 =>
  cl insert_free_Less [(.g (.sl x3 n4 1)), (.g (.int .i64 ix1)), (.g (.int .i64 (wrapI .i64 (Int.tdiv (wrapI .i64 (ix1 - 1)) 2))))] H fun r5 H6 =>
  rG r5 fun v7 =>
  dB v7 fun b8 =>
  bite (!b8)
  (Q (.tup []) H6)
  (pS xx0 fun n9 n10 =>
   rd H6 n9 n10 fun v11 =>
   dL 1 v11 fun x12 n13 =>
   cl insert_free_Swap [(.g (.sl x12 n13 1)), (.g (.int .i64 (wrapI .i64 (Int.tdiv (wrapI .i64 (ix1 - 1)) 2)))), (.g (.int .i64 ix1))] H6 fun r14 H15 =>
   heap_up.l0 k xx0 (wrapI .i64 (Int.tdiv (wrapI .i64 (ix1 - 1)) 2)) H15 Q))) := by kernel_rfl
theorem heap_up_ok : Sound Go.Proofs.Tryz.prog 84 (heap_up) := prog_ok.sound (cx := heap_up.cx) rfl (EnvOK.cons ((insert_free_Less_ok).c ⟨_, Go.Proofs.Tryz.func178, by kernel_rfl, by kernel_rfl⟩) (EnvOK.cons ((insert_free_Swap_ok).c ⟨_, Go.Proofs.Tryz.func179, by kernel_rfl, by kernel_rfl⟩) (EnvOK.nil _))) (noDyn_ok _) Go.Proofs.Tryz.func84 rfl

/-! 53: container/heap.Push -/
def heap_Push.cx : Cx := ⟨tys, [], [], [], [(181, insert_free_Push), (177, insert_free_Len), (84, heap_up)], noDyn, []⟩
def heap_Push : Sm := fun xs H Q => ∃ k, callK (heap_Push.cx) Go.Proofs.Tryz.f53 k xs H Q
theorem heap_Push_eq (k : Nat) (z0 : Pl) (z1 : Int) (H : Hp) (Q : Post) : callK (heap_Push.cx) Go.Proofs.Tryz.f53 (k + 1) [.g (.iface 102 (.ptr z0)), .g (.iface 3 (.int .i64 z1))] H Q = (
 cl insert_free_Push [(.g (.ptr z0)), (.g (.iface 3 (.int .i64 z1)))] H fun r0 H1 =>
 pS z0 fun n2 n3 =>
 rd H1 n2 n3 fun v4 =>
 dL 1 v4 fun x5 n6 =>
 cl insert_free_Len [(.g (.sl x5 n6 1))] H1 fun r7 H8 =>
 rG r7 fun v9 =>
 dI .i64 v9 fun i10 =>
 cl heap_up [(.g (.iface 102 (.ptr z0))), (.g (.int .i64 (wrapI .i64 (i10 - 1))))] H8 fun r11 H12 =>
 Q (.tup []) H12) := by kernel_rfl
theorem heap_Push_ok : Sound Go.Proofs.Tryz.prog 53 (heap_Push) := prog_ok.sound (cx := heap_Push.cx) rfl (EnvOK.cons ((insert_free_Push_ok).c ⟨_, Go.Proofs.Tryz.func181, by kernel_rfl, by kernel_rfl⟩) (EnvOK.cons ((insert_free_Len_ok).c ⟨_, Go.Proofs.Tryz.func177, by kernel_rfl, by kernel_rfl⟩) (EnvOK.cons ((heap_up_ok).c ⟨_, Go.Proofs.Tryz.func84, by kernel_rfl, by kernel_rfl⟩) (EnvOK.nil _)))) (noDyn_ok _) Go.Proofs.Tryz.func53 rfl

/-! 107: cryostat/node.Split -/
def node_Split.cx : Cx := ⟨tys, [], [], [(6, [1, 2, 4, 6])], [(98, page_Fits), (112, node_Cut)], noDyn, [.cell 2 75, .tmp 3, .cell 4 75, .tmp 5]⟩
def node_Split : Sm := fun xs H Q => ∃ k, callK (node_Split.cx) Go.Proofs.Tryz.f107 k xs H Q
def node_Split.l6 (k : Nat) (bx0 : Bool) (bx1 : Bool) (xx2 : Pl) (nx3 : Nat) (xx4 : Pl) (nx5 : Nat) (xx6 : Pl) (nx7 : Nat) (bx8 : Bool) (bx9 : Bool) (ax10 : Pl) (nx11 : Nat) (ax12 : Pl) (nx13 : Nat) (ax14 : Pl) (nx15 : Nat) (bx16 : Bool) (bx17 : Bool) (ax18 : Pl) (nx19 : Nat) (ax20 : Pl) (nx21 : Nat) (ax22 : Pl) (nx23 : Nat) (ix24 : Int) (H : Hp) (Q : Post) : Prop := loopK (node_Split.cx) Go.Proofs.Tryz.f107 6 k (.bad :: (.bx [(.bool bx0), (.bool bx1), (.sl xx2 nx3 1), (.sl xx4 nx5 1), (.sl xx6 nx7 1)]) :: (.bx [(.bool bx8), (.bool bx9), (.sl ax10 nx11 1), (.sl ax12 nx13 1), (.sl ax14 nx15 1)]) :: .bad :: (.bx [(.bool bx16), (.bool bx17), (.sl ax18 nx19 1), (.sl ax20 nx21 1), (.sl ax22 nx23 1)]) :: .bad :: (.g (.int .i64 ix24)) :: B 26 ([])) H Q
theorem node_Split_eq (k : Nat) (z0 : Bool) (z1 : Bool) (z2 : Pl) (z2n : Nat) (z3 : Pl) (z3n : Nat) (z4 : Pl) (z4n : Nat) (H : Hp) (Q : Post) : callK (node_Split.cx) Go.Proofs.Tryz.f107 (k + 1) [.agg [.bool z0, .bool z1, .sl z2 z2n 1, .sl z3 z3n 1, .sl z4 z4n 1]] H Q = (
 bite (!(eqI (nI z2n) 5))
 (Q (.tup [(.a [(.bool false), (.bool false), (.sl none 0 1), (.sl none 0 1), (.sl none 0 1)]), (.s (.str (mkS []))), (.a [(.bool false), (.bool false), (.sl none 0 1), (.sl none 0 1), (.sl none 0 1)]), (.s (.int .i64 900))]) H)
 (cl page_Fits [(.agg [(.bool z0), (.bool z1), (.sl z2 z2n 1), (.sl z3 z3n 1), (.sl z4 z4n 1)])] H fun r0 H1 =>
  rG r0 fun v2 =>
  dB v2 fun b3 =>
  bite (!b3)
  (Q (.tup [(.a [(.bool false), (.bool false), (.sl none 0 1), (.sl none 0 1), (.sl none 0 1)]), (.s (.str (mkS []))), (.a [(.bool false), (.bool false), (.sl none 0 1), (.sl none 0 1), (.sl none 0 1)]), (.s (.int .i64 900))]) H1)
  (bite z1
   (node_Split.l6 k z0 z1 z2 z2n z3 z3n z4 z4n false false none 0 none 0 none 0 false false none 0 none 0 none 0 3 H1 Q)
   (node_Split.l6 k z0 z1 z2 z2n z3 z3n z4 z4n false false none 0 none 0 none 0 false false none 0 none 0 none 0 2 H1 Q)))) := by kernel_rfl
theorem node_Split.l6_eq (k : Nat) (bx0 : Bool) (bx1 : Bool) (xx2 : Pl) (nx3 : Nat) (xx4 : Pl) (nx5 : Nat) (xx6 : Pl) (nx7 : Nat) (bx8 : Bool) (bx9 : Bool) (ax10 : Pl) (nx11 : Nat) (ax12 : Pl) (nx13 : Nat) (ax14 : Pl) (nx15 : Nat) (bx16 : Bool) (bx17 : Bool) (ax18 : Pl) (nx19 : Nat) (ax20 : Pl) (nx21 : Nat) (ax22 : Pl) (nx23 : Nat) (ix24 : Int) (H : Hp) (Q : Post) : node_Split.l6 (k + 1) bx0 bx1 xx2 nx3 xx4 nx5 xx6 nx7 bx8 bx9 ax10 nx11 ax12 nx13 ax14 nx15 bx16 bx17 ax18 nx19 ax20 nx21 ax22 nx23 ix24 H Q = (
 cl node_Cut [(.agg [(.bool bx0), (.bool bx1), (.sl xx2 nx3 1), (.sl xx4 nx5 1), (.sl xx6 nx7 1)]), (.g (.int .i64 ix24))] H fun r0 H1 =>
 rT r0 fun c2 =>
 uR c2 fun q3 c4 =>
 rC q3 fun c5 =>
 uC c5 fun v6 c7 =>
 dB v6 fun b8 =>
 uC c7 fun v9 c10 =>
 dB v9 fun b11 =>
 uC c10 fun v12 c13 =>
 dL 1 v12 fun x14 n15 =>
 uC c13 fun v16 c17 =>
 dL 1 v16 fun x18 n19 =>
 uC c17 fun v20 c21 =>
 dL 1 v20 fun x22 n23 =>
 uN c21 (uR c4 fun q24 c25 =>
 rS q24 fun v26 =>
 dS v26 fun s27 =>
 uR c25 fun q28 c29 =>
 rC q28 fun c30 =>
 uC c30 fun v31 c32 =>
 dB v31 fun b33 =>
 uC c32 fun v34 c35 =>
 dB v34 fun b36 =>
 uC c35 fun v37 c38 =>
 dL 1 v37 fun x39 n40 =>
 uC c38 fun v41 c42 =>
 dL 1 v41 fun x43 n44 =>
 uC c42 fun v45 c46 =>
 dL 1 v45 fun x47 n48 =>
 uN c46 (uE c29 (Q (.tup [(.a [(.bool b8), (.bool b11), (.sl x14 n15 1), (.sl x18 n19 1), (.sl x22 n23 1)]), (.s (.str s27)), (.a [(.bool b33), (.bool b36), (.sl x39 n40 1), (.sl x43 n44 1), (.sl x47 n48 1)]), (.s (.int .i64 0))]) H1)))) := by kernel_rfl
theorem node_Split_ok : Sound Go.Proofs.Tryz.prog 107 (node_Split) := prog_ok.sound (cx := node_Split.cx) rfl (EnvOK.cons ((page_Fits_ok).c ⟨_, Go.Proofs.Tryz.func98, by kernel_rfl, by kernel_rfl⟩) (EnvOK.cons ((node_Cut_ok).c ⟨_, Go.Proofs.Tryz.func112, by kernel_rfl, by kernel_rfl⟩) (EnvOK.nil _))) (noDyn_ok _) Go.Proofs.Tryz.func107 rfl

/-! 108: container/heap.down -/
def heap_down.cx : Cx := ⟨tys, [], [(2, [0, 1, 2, 7])], [(8, [0, 1, 2, 7, 9])], [(178, insert_free_Less), (179, insert_free_Swap)], noDyn, [.tmp 6]⟩
def heap_down : Sm := fun xs H Q => ∃ k, callK (heap_down.cx) Go.Proofs.Tryz.f108 k xs H Q
def heap_down.l2 (k : Nat) (xx0 : Pl) (ix1 : Int) (ix2 : Int) (ix3 : Int) (H : Hp) (Q : Post) : Prop := loopK (heap_down.cx) Go.Proofs.Tryz.f108 2 k ((.g (.iface 102 (.ptr xx0))) :: (.g (.int .i64 ix1)) :: (.g (.int .i64 ix2)) :: B 4 ((.g (.int .i64 ix3)) :: B 40 ([]))) H Q
def heap_down.l8 (k : Nat) (xx0 : Pl) (ix1 : Int) (ix2 : Int) (ix3 : Int) (ix4 : Int) (H : Hp) (Q : Post) : Prop := loopK (heap_down.cx) Go.Proofs.Tryz.f108 8 k ((.g (.iface 102 (.ptr xx0))) :: (.g (.int .i64 ix1)) :: (.g (.int .i64 ix2)) :: B 4 ((.g (.int .i64 ix3)) :: .bad :: (.g (.int .i64 ix4)) :: B 38 ([]))) H Q
theorem heap_down_eq (k : Nat) (z0 : Pl) (z1 : Int) (z2 : Int) (H : Hp) (Q : Post) : callK (heap_down.cx) Go.Proofs.Tryz.f108 (k + 1) [.g (.iface 102 (.ptr z0)), .g (.int .i64 z1), .g (.int .i64 z2)] H Q = (
 heap_down.l2 k z0 z1 z2 z1 H Q) := by kernel_rfl
theorem heap_down.l2_eq (k : Nat) (xx0 : Pl) (ix1 : Int) (ix2 : Int) (ix3 : Int) (H : Hp) (Q : Post) : heap_down.l2 (k + 1) xx0 ix1 ix2 ix3 H Q = (
 bite (leI ix2 (wrapI .i64 ((wrapI .i64 (2 * ix3)) + 1)))
 (Q (.g (.bool (ltI ix1 ix3))) H)
 (bite (ltI (wrapI .i64 ((wrapI .i64 (2 * ix3)) + 1)) 0)
  (Q (.g (.bool (ltI ix1 ix3))) H)
  (bite (ltI (wrapI .i64 ((wrapI .i64 ((wrapI .i64 (2 * ix3)) + 1)) + 1)) ix2)
   (pS xx0 fun n0 n1 =>
    rd H n0 n1 fun v2 =>
    dL 1 v2 fun x3 n4 =>
    cl insert_free_Less [(.g (.sl x3 n4 1)), (.g (.int .i64 (wrapI .i64 ((wrapI .i64 ((wrapI .i64 (2 * ix3)) + 1)) + 1)))), (.g (.int .i64 (wrapI .i64 ((wrapI .i64 (2 * ix3)) + 1))))] H fun r5 H6 =>
    rG r5 fun v7 =>
    dB v7 fun b8 =>
    bite b8
    (heap_down.l8 k xx0 ix1 ix2 ix3 (wrapI .i64 ((wrapI .i64 ((wrapI .i64 (2 * ix3)) + 1)) + 1)) H6 Q)
    (heap_down.l8 k xx0 ix1 ix2 ix3 (wrapI .i64 ((wrapI .i64 (2 * ix3)) + 1)) H6 Q))
   (heap_down.l8 k xx0 ix1 ix2 ix3 (wrapI .i64 ((wrapI .i64 (2 * ix3)) + 1)) H Q)))) := by kernel_rfl
theorem heap_down.l8_eq (k : Nat) (xx0 : Pl) (ix1 : Int) (ix2 : Int) (ix3 : Int) (ix4 : Int) (H : Hp) (Q : Post) : heap_down.l8 (k + 1) xx0 ix1 ix2 ix3 ix4 H Q = (
 pS xx0 fun n0 n1 =>
 rd H n0 n1 fun v2 =>
 dL 1 v2 fun x3 n4 =>
 cl insert_free_Less [(.g (.sl x3 n4 1)), (.g (.int .i64 ix4)), (.g (.int .i64 ix3))] H fun r5 H6 =>
 rG r5 fun v7 =>
 dB v7 fun b8 =>
 bite (!b8)
 (Q (.g (.bool (ltI ix1 ix3))) H6)
 (pS xx0 fun n9 n10 =>
  rd H6 n9 n10 fun v11 =>
  dL 1 v11 fun x12 n13 =>
  cl insert_free_Swap [(.g (.sl x12 n13 1)), (.g (.int .i64 ix3)), (.g (.int .i64 ix4))] H6 fun r14 H15 =>
  heap_down.l2 k xx0 ix1 ix2 ix4 H15 Q)) := by kernel_rfl
theorem heap_down_ok : Sound Go.Proofs.Tryz.prog 108 (heap_down) := prog_ok.sound (cx := heap_down.cx) rfl (EnvOK.cons ((insert_free_Less_ok).c ⟨_, Go.Proofs.Tryz.func178, by kernel_rfl, by kernel_rfl⟩) (EnvOK.cons ((insert_free_Swap_ok).c ⟨_, Go.Proofs.Tryz.func179, by kernel_rfl, by kernel_rfl⟩) (EnvOK.nil _))) (noDyn_ok _) Go.Proofs.Tryz.func108 rfl

/-! 180: (*cryostat/insert.free).Pop -/
def insert_free_Pop.cx : Cx := ⟨tys, [], [], [], [], noDyn, [.tmp 2]⟩
def insert_free_Pop : Sm := fun xs H Q => ∃ k, callK (insert_free_Pop.cx) Go.Proofs.Tryz.f180 k xs H Q
theorem insert_free_Pop_eq (k : Nat) (z0 : Pl) (H : Hp) (Q : Post) : callK (insert_free_Pop.cx) Go.Proofs.Tryz.f180 (k + 1) [.g (.ptr z0)] H Q = (
 pS z0 fun n0 n1 =>
 rd H n0 n1 fun v2 =>
 dL 1 v2 fun x3 n4 =>
 pS z0 fun n5 n6 =>
 rd H n5 n6 fun v7 =>
 dL 1 v7 fun x8 n9 =>
 chk true (chk ((leI 0 (wrapI .i64 ((nI n4) - 1))) && (ltI (wrapI .i64 ((nI n4) - 1)) (nI n9))) (pS x8 fun n10 n11 =>
 rd H n10 (n11 + ((tN (wrapI .i64 ((nI n4) - 1))) * 1)) fun v12 =>
 dI .i64 v12 fun i13 =>
 pS z0 fun n14 n15 =>
 rd H n14 n15 fun v16 =>
 dL 1 v16 fun x17 n18 =>
 chk true (chk (leI 0 (wrapI .i64 ((nI n4) - 1))) (chk ((leN 0 (tN (wrapI .i64 ((nI n4) - 1)))) && ((leN (tN (wrapI .i64 ((nI n4) - 1))) n18) || (room H x17 ((tN (wrapI .i64 ((nI n4) - 1))) * 1)))) (pS z0 fun n19 n20 =>
 wr H n19 n20 (.sl (shf x17 0) ((tN (wrapI .i64 ((nI n4) - 1))) - 0) 1) fun H21 =>
 Q (.g (.iface 3 (.int .i64 i13))) H21)))))) := by kernel_rfl
theorem insert_free_Pop_ok : Sound Go.Proofs.Tryz.prog 180 (insert_free_Pop) := prog_ok.sound (cx := insert_free_Pop.cx) rfl (EnvOK.nil _) (noDyn_ok _) Go.Proofs.Tryz.func180 rfl

/-! 89: container/heap.Pop -/
def heap_Pop.cx : Cx := ⟨tys, [], [], [], [(177, insert_free_Len), (179, insert_free_Swap), (108, heap_down), (180, insert_free_Pop)], noDyn, [.tmp 2]⟩
def heap_Pop : Sm := fun xs H Q => ∃ k, callK (heap_Pop.cx) Go.Proofs.Tryz.f89 k xs H Q
theorem heap_Pop_eq (k : Nat) (z0 : Pl) (H : Hp) (Q : Post) : callK (heap_Pop.cx) Go.Proofs.Tryz.f89 (k + 1) [.g (.iface 102 (.ptr z0))] H Q = (
 pS z0 fun n0 n1 =>
 rd H n0 n1 fun v2 =>
 dL 1 v2 fun x3 n4 =>
 cl insert_free_Len [(.g (.sl x3 n4 1))] H fun r5 H6 =>
 rG r5 fun v7 =>
 dI .i64 v7 fun i8 =>
 pS z0 fun n9 n10 =>
 rd H6 n9 n10 fun v11 =>
 dL 1 v11 fun x12 n13 =>
 cl insert_free_Swap [(.g (.sl x12 n13 1)), (.g (.int .i64 0)), (.g (.int .i64 (wrapI .i64 (i8 - 1))))] H6 fun r14 H15 =>
 cl heap_down [(.g (.iface 102 (.ptr z0))), (.g (.int .i64 0)), (.g (.int .i64 (wrapI .i64 (i8 - 1))))] H15 fun r16 H17 =>
 rG r16 fun v18 =>
 dB v18 fun b19 =>
 cl insert_free_Pop [(.g (.ptr z0))] H17 fun r20 H21 =>
 rG r20 fun v22 =>
 Q (.g v22) H21) := by kernel_rfl
theorem heap_Pop_ok : Sound Go.Proofs.Tryz.prog 89 (heap_Pop) := prog_ok.sound (cx := heap_Pop.cx) rfl (EnvOK.cons ((insert_free_Len_ok).c ⟨_, Go.Proofs.Tryz.func177, by kernel_rfl, by kernel_rfl⟩) (EnvOK.cons ((insert_free_Swap_ok).c ⟨_, Go.Proofs.Tryz.func179, by kernel_rfl, by kernel_rfl⟩) (EnvOK.cons ((heap_down_ok).c ⟨_, Go.Proofs.Tryz.func108, by kernel_rfl, by kernel_rfl⟩) (EnvOK.cons ((insert_free_Pop_ok).c ⟨_, Go.Proofs.Tryz.func180, by kernel_rfl, by kernel_rfl⟩) (EnvOK.nil _))))) (noDyn_ok _) Go.Proofs.Tryz.func89 rfl

/-! 55: (*cryostat/insert.writer).take -/
def insert_writer_take.cx : Cx := ⟨tys, [], [], [], [(89, heap_Pop)], noDyn, [.tmp 4]⟩
def insert_writer_take : Sm := fun xs H Q => ∃ k, callK (insert_writer_take.cx) Go.Proofs.Tryz.f55 k xs H Q
theorem insert_writer_take_eq (k : Nat) (z0 : Pl) (z1 : Bool) (z2 : Bool) (z3 : Pl) (z3n : Nat) (z4 : Pl) (z4n : Nat) (z5 : Pl) (z5n : Nat) (H : Hp) (Q : Post) : callK (insert_writer_take.cx) Go.Proofs.Tryz.f55 (k + 1) [.g (.ptr z0), .agg [.bool z1, .bool z2, .sl z3 z3n 1, .sl z4 z4n 1, .sl z5 z5n 1]] H Q = (
 pS z0 fun n0 n1 =>
 cl heap_Pop [(.g (.iface 102 (.ptr (some (n0, (n1 + 1))))))] H fun r2 H3 =>
 rG r2 fun v4 =>
 dX 3 v4 fun v5 =>
 dI .i64 v5 fun i6 =>
 pS z0 fun n7 n8 =>
 rd H3 n7 (n8 + 0) fun v9 =>
 dL 5 v9 fun x10 n11 =>
 chk true (chk ((leI 0 i6) && (ltI i6 (nI n11))) (pS x10 fun n12 n13 =>
 wr H3 n12 (n13 + ((tN i6) * 5)) (.bool z1) fun H14 =>
 wr H14 n12 ((n13 + ((tN i6) * 5)) + 1) (.bool z2) fun H15 =>
 wr H15 n12 (((n13 + ((tN i6) * 5)) + 1) + 1) (.sl z3 z3n 1) fun H16 =>
 wr H16 n12 ((((n13 + ((tN i6) * 5)) + 1) + 1) + 1) (.sl z4 z4n 1) fun H17 =>
 wr H17 n12 (((((n13 + ((tN i6) * 5)) + 1) + 1) + 1) + 1) (.sl z5 z5n 1) fun H18 =>
 Q (.g (.int .i64 i6)) H18))) := by kernel_rfl
theorem insert_writer_take_ok : Sound Go.Proofs.Tryz.prog 55 (insert_writer_take) := prog_ok.sound (cx := insert_writer_take.cx) rfl (EnvOK.cons ((heap_Pop_ok).c ⟨_, Go.Proofs.Tryz.func89, by kernel_rfl, by kernel_rfl⟩) (EnvOK.nil _)) (noDyn_ok _) Go.Proofs.Tryz.func55 rfl

/-! 88: (*cryostat/insert.writer).settle -/
def insert_writer_settle.cx : Cx := ⟨tys, [36], [], [], [(107, node_Split), (55, insert_writer_take)], noDyn, [.tmp 4]⟩
def insert_writer_settle : Sm := fun xs H Q => ∃ k, callK (insert_writer_settle.cx) Go.Proofs.Tryz.f88 k xs H Q
theorem insert_writer_settle_eq (k : Nat) (z0 : Pl) (z1 : Int) (H : Hp) (Q : Post) : callK (insert_writer_settle.cx) Go.Proofs.Tryz.f88 (k + 1) [.g (.ptr z0), .g (.int .i64 z1)] H Q = (
 pS z0 fun n0 n1 =>
 rd H n0 (n1 + 0) fun v2 =>
 dL 5 v2 fun x3 n4 =>
 chk true (chk ((leI 0 z1) && (ltI z1 (nI n4))) (pS x3 fun n5 n6 =>
 rd H n5 (n6 + ((tN z1) * 5)) fun v7 =>
 dB v7 fun b8 =>
 rd H n5 ((n6 + ((tN z1) * 5)) + 1) fun v9 =>
 dB v9 fun b10 =>
 rd H n5 (((n6 + ((tN z1) * 5)) + 1) + 1) fun v11 =>
 dL 1 v11 fun x12 n13 =>
 rd H n5 ((((n6 + ((tN z1) * 5)) + 1) + 1) + 1) fun v14 =>
 dL 1 v14 fun x15 n16 =>
 rd H n5 (((((n6 + ((tN z1) * 5)) + 1) + 1) + 1) + 1) fun v17 =>
 dL 1 v17 fun x18 n19 =>
 cl node_Split [(.agg [(.bool b8), (.bool b10), (.sl x12 n13 1), (.sl x15 n16 1), (.sl x18 n19 1)])] H fun r20 H21 =>
 rT r20 fun c22 =>
 uR c22 fun q23 c24 =>
 rC q23 fun c25 =>
 uC c25 fun v26 c27 =>
 dB v26 fun b28 =>
 uC c27 fun v29 c30 =>
 dB v29 fun b31 =>
 uC c30 fun v32 c33 =>
 dL 1 v32 fun x34 n35 =>
 uC c33 fun v36 c37 =>
 dL 1 v36 fun x38 n39 =>
 uC c37 fun v40 c41 =>
 dL 1 v40 fun x42 n43 =>
 uN c41 (uR c24 fun q44 c45 =>
 rS q44 fun v46 =>
 dS v46 fun s47 =>
 uR c45 fun q48 c49 =>
 rC q48 fun c50 =>
 uC c50 fun v51 c52 =>
 dB v51 fun b53 =>
 uC c52 fun v54 c55 =>
 dB v54 fun b56 =>
 uC c55 fun v57 c58 =>
 dL 1 v57 fun x59 n60 =>
 uC c58 fun v61 c62 =>
 dL 1 v61 fun x63 n64 =>
 uC c62 fun v65 c66 =>
 dL 1 v65 fun x67 n68 =>
 uN c66 (uR c49 fun q69 c70 =>
 rS q69 fun v71 =>
 dI .i64 v71 fun i72 =>
 uE c70 (bite (!(eqI i72 0))
 (Q (.g (.ptr none)) H21)
 (pS z0 fun n73 n74 =>
  rd H21 n73 (n74 + 0) fun v75 =>
  dL 5 v75 fun x76 n77 =>
  chk true (chk ((leI 0 z1) && (ltI z1 (nI n77))) (pS x76 fun n78 n79 =>
  wr H21 n78 (n79 + ((tN z1) * 5)) (.bool b28) fun H80 =>
  wr H80 n78 ((n79 + ((tN z1) * 5)) + 1) (.bool b31) fun H81 =>
  wr H81 n78 (((n79 + ((tN z1) * 5)) + 1) + 1) (.sl x34 n35 1) fun H82 =>
  wr H82 n78 ((((n79 + ((tN z1) * 5)) + 1) + 1) + 1) (.sl x38 n39 1) fun H83 =>
  wr H83 n78 (((((n79 + ((tN z1) * 5)) + 1) + 1) + 1) + 1) (.sl x42 n43 1) fun H84 =>
  cl insert_writer_take [(.g (.ptr z0)), (.agg [(.bool b53), (.bool b56), (.sl x59 n60 1), (.sl x63 n64 1), (.sl x67 n68 1)])] H84 fun r85 H86 =>
  rG r85 fun v87 =>
  dI .i64 v87 fun i88 =>
  Q (.g (.ptr (some ((ln H86), 0)))) (pu H86 (.row true 107 [(.str s47), (.int .i64 i88)]))))))))))) := by kernel_rfl
theorem insert_writer_settle_ok : Sound Go.Proofs.Tryz.prog 88 (insert_writer_settle) := prog_ok.sound (cx := insert_writer_settle.cx) rfl (EnvOK.cons ((node_Split_ok).c ⟨_, Go.Proofs.Tryz.func107, by kernel_rfl, by kernel_rfl⟩) (EnvOK.cons ((insert_writer_take_ok).c ⟨_, Go.Proofs.Tryz.func55, by kernel_rfl, by kernel_rfl⟩) (EnvOK.nil _))) (noDyn_ok _) Go.Proofs.Tryz.func88 rfl

/-! 85: (*cryostat/insert.writer).leaf -/
def insert_writer_leaf.cx : Cx := ⟨tys, [], [], [], [(82, node_Slot), (86, slices_Insert__string_string), (88, insert_writer_settle)], noDyn, [.tmp 8]⟩
def insert_writer_leaf : Sm := fun xs H Q => ∃ k, callK (insert_writer_leaf.cx) Go.Proofs.Tryz.f85 k xs H Q
theorem insert_writer_leaf_eq (k : Nat) (z0 : Pl) (z1 : Int) (z2 : ByteArray) (z3 : ByteArray) (H : Hp) (Q : Post) : callK (insert_writer_leaf.cx) Go.Proofs.Tryz.f85 (k + 1) [.g (.ptr z0), .g (.int .i64 z1), .g (.str z2), .g (.str z3)] H Q = (
 pS z0 fun n0 n1 =>
 rd H n0 (n1 + 0) fun v2 =>
 dL 5 v2 fun x3 n4 =>
 chk true (chk ((leI 0 z1) && (ltI z1 (nI n4))) (pS x3 fun n5 n6 =>
 rd H n5 ((n6 + ((tN z1) * 5)) + 2) fun v7 =>
 dL 1 v7 fun x8 n9 =>
 cl node_Slot [(.g (.sl x8 n9 1)), (.g (.str z2))] H fun r10 H11 =>
 rT r10 fun c12 =>
 uR c12 fun q13 c14 =>
 rS q13 fun v15 =>
 dI .i64 v15 fun i16 =>
 uR c14 fun q17 c18 =>
 rS q17 fun v19 =>
 dB v19 fun b20 =>
 uE c18 (bite b20
 (rd H11 n5 ((n6 + ((tN z1) * 5)) + 3) fun v21 =>
  dL 1 v21 fun x22 n23 =>
  chk true (chk ((leI 0 i16) && (ltI i16 (nI n23))) (pS x22 fun n24 n25 =>
  wr H11 n24 (n25 + ((tN i16) * 1)) (.str z3) fun H26 =>
  Q (.g (.ptr none)) H26)))
 (rd H11 n5 ((n6 + ((tN z1) * 5)) + 2) fun v27 =>
  dL 1 v27 fun x28 n29 =>
  rd H11 n5 ((n6 + ((tN z1) * 5)) + 3) fun v30 =>
  dL 1 v30 fun x31 n32 =>
  cl slices_Insert__string_string [(.g (.sl x28 n29 1)), (.g (.int .i64 i16)), (.g (.sl (some ((ln H11), 0)) 1 1))] (pu H11 (.row false 1000003 [(.str z2)])) fun r33 H34 =>
  rG r33 fun v35 =>
  dL 1 v35 fun x36 n37 =>
  rd H34 n5 ((n6 + ((tN z1) * 5)) + 3) fun v38 =>
  dL 1 v38 fun x39 n40 =>
  eqv (.g (.sl x31 n32 1)) (.g (.sl x39 n40 1)) (cl slices_Insert__string_string [(.g (.sl x31 n32 1)), (.g (.int .i64 i16)), (.g (.sl (some ((ln H34), 0)) 1 1))] (pu H34 (.row false 1000003 [(.str z3)])) fun r41 H42 =>
  rG r41 fun v43 =>
  dL 1 v43 fun x44 n45 =>
  wr H42 n5 ((n6 + ((tN z1) * 5)) + 2) (.sl x36 n37 1) fun H46 =>
  wr H46 n5 ((n6 + ((tN z1) * 5)) + 3) (.sl x44 n45 1) fun H47 =>
  cl insert_writer_settle [(.g (.ptr z0)), (.g (.int .i64 z1))] H47 fun r48 H49 =>
  rG r48 fun v50 =>
  dP v50 fun x51 =>
  Q (.g (.ptr x51)) H49)))))) := by kernel_rfl
theorem insert_writer_leaf_ok : Sound Go.Proofs.Tryz.prog 85 (insert_writer_leaf) := prog_ok.sound (cx := insert_writer_leaf.cx) rfl (EnvOK.cons ((node_Slot_ok).c ⟨_, Go.Proofs.Tryz.func82, by kernel_rfl, by kernel_rfl⟩) (EnvOK.cons (slices_Insert__string_string_ok) (EnvOK.cons ((insert_writer_settle_ok).c ⟨_, Go.Proofs.Tryz.func88, by kernel_rfl, by kernel_rfl⟩) (EnvOK.nil _)))) (noDyn_ok _) Go.Proofs.Tryz.func85 rfl

/-! 54: (*cryostat/insert.writer).put -/
def insert_writer_put.cx (S : Sm) : Cx := ⟨tys, [], [], [], [(85, insert_writer_leaf), (81, find_Kid), (54, S), (86, slices_Insert__string_string), (87, slices_Insert__int_int), (88, insert_writer_settle)], noDyn, [.tmp 8]⟩
def insert_writer_put.st (S : Sm) : Sm := fun xs H Q => ∃ k, callK (insert_writer_put.cx S) Go.Proofs.Tryz.f54 k xs H Q
theorem insert_writer_put_eq (S : Sm) (k : Nat) (z0 : Pl) (z1 : Int) (z2 : ByteArray) (z3 : ByteArray) (H : Hp) (Q : Post) : callK (insert_writer_put.cx S) Go.Proofs.Tryz.f54 (k + 1) [.g (.ptr z0), .g (.int .i64 z1), .g (.str z2), .g (.str z3)] H Q = (
 pS z0 fun n0 n1 =>
 rd H n0 (n1 + 0) fun v2 =>
 dL 5 v2 fun x3 n4 =>
 chk true (chk ((leI 0 z1) && (ltI z1 (nI n4))) (pS x3 fun n5 n6 =>
 rd H n5 ((n6 + ((tN z1) * 5)) + 1) fun v7 =>
 dB v7 fun b8 =>
 bite b8
 (cl insert_writer_leaf [(.g (.ptr z0)), (.g (.int .i64 z1)), (.g (.str z2)), (.g (.str z3))] H fun r9 H10 =>
  rG r9 fun v11 =>
  dP v11 fun x12 =>
  Q (.g (.ptr x12)) H10)
 (cl find_Kid [(.g (.ptr (some (n5, (n6 + ((tN z1) * 5)))))), (.g (.str z2))] H fun r13 H14 =>
  rG r13 fun v15 =>
  dI .i64 v15 fun i16 =>
  rd H14 n5 ((n6 + ((tN z1) * 5)) + 4) fun v17 =>
  dL 1 v17 fun x18 n19 =>
  chk true (chk ((leI 0 i16) && (ltI i16 (nI n19))) (pS x18 fun n20 n21 =>
  rd H14 n20 (n21 + ((tN i16) * 1)) fun v22 =>
  dI .i64 v22 fun i23 =>
  cl S [(.g (.ptr z0)), (.g (.int .i64 i23)), (.g (.str z2)), (.g (.str z3))] H14 fun r24 H25 =>
  rG r24 fun v26 =>
  dP v26 fun x27 =>
  bite (isNone x27)
  (Q (.g (.ptr none)) H25)
  (rd H25 n5 ((n6 + ((tN z1) * 5)) + 2) fun v28 =>
   dL 1 v28 fun x29 n30 =>
   pS x27 fun n31 n32 =>
   rd H25 n31 (n32 + 0) fun v33 =>
   dS v33 fun s34 =>
   rd H25 n5 ((n6 + ((tN z1) * 5)) + 4) fun v35 =>
   dL 1 v35 fun x36 n37 =>
   pS x27 fun n38 n39 =>
   rd H25 n38 (n39 + 1) fun v40 =>
   dI .i64 v40 fun i41 =>
   cl slices_Insert__string_string [(.g (.sl x29 n30 1)), (.g (.int .i64 i16)), (.g (.sl (some ((ln H25), 0)) 1 1))] (pu H25 (.row false 1000003 [(.str s34)])) fun r42 H43 =>
   rG r42 fun v44 =>
   dL 1 v44 fun x45 n46 =>
   rd H43 n38 (n39 + 1) fun v47 =>
   dI .i64 v47 fun i48 =>
   eqv (.g (.int .i64 i41)) (.g (.int .i64 i48)) (rd H43 n5 ((n6 + ((tN z1) * 5)) + 4) fun v49 =>
   dL 1 v49 fun x50 n51 =>
   eqv (.g (.sl x36 n37 1)) (.g (.sl x50 n51 1)) (cl slices_Insert__int_int [(.g (.sl x36 n37 1)), (.g (.int .i64 (wrapI .i64 (i16 + 1)))), (.g (.sl (some ((ln H43), 0)) 1 1))] (pu H43 (.row false 1000003 [(.int .i64 i41)])) fun r52 H53 =>
   rG r52 fun v54 =>
   dL 1 v54 fun x55 n56 =>
   wr H53 n5 ((n6 + ((tN z1) * 5)) + 2) (.sl x45 n46 1) fun H57 =>
   wr H57 n5 ((n6 + ((tN z1) * 5)) + 4) (.sl x55 n56 1) fun H58 =>
   cl insert_writer_settle [(.g (.ptr z0)), (.g (.int .i64 z1))] H58 fun r59 H60 =>
   rG r59 fun v61 =>
   dP v61 fun x62 =>
   Q (.g (.ptr x62)) H60))))))))) := by kernel_rfl
theorem insert_writer_put.st_ok (S : Sm) (hS : SoundC Go.Proofs.Tryz.prog 54 S) : Sound Go.Proofs.Tryz.prog 54 (insert_writer_put.st S) := prog_ok.sound (cx := insert_writer_put.cx S) rfl (EnvOK.cons ((insert_writer_leaf_ok).c ⟨_, Go.Proofs.Tryz.func85, by kernel_rfl, by kernel_rfl⟩) (EnvOK.cons ((find_Kid_ok).c ⟨_, Go.Proofs.Tryz.func81, by kernel_rfl, by kernel_rfl⟩) (EnvOK.cons hS (EnvOK.cons (slices_Insert__string_string_ok) (EnvOK.cons (slices_Insert__int_int_ok) (EnvOK.cons ((insert_writer_settle_ok).c ⟨_, Go.Proofs.Tryz.func88, by kernel_rfl, by kernel_rfl⟩) (EnvOK.nil _))))))) (noDyn_ok _) Go.Proofs.Tryz.func54 rfl
def insert_writer_put.at : Nat → Sm
  | 0 => fun _ _ _ => False
  | n + 1 => insert_writer_put.st (insert_writer_put.at n)
def insert_writer_put : Sm := fun xs H Q => ∃ n, insert_writer_put.at n xs H Q
theorem insert_writer_put.at_ok : ∀ n, Sound Go.Proofs.Tryz.prog 54 (insert_writer_put.at n)
  | 0 => fun _ _ _ h => h.elim
  | n + 1 => insert_writer_put.st_ok _ ((insert_writer_put.at_ok n).c ⟨_, Go.Proofs.Tryz.func54, by kernel_rfl, by kernel_rfl⟩)
theorem insert_writer_put_ok : Sound Go.Proofs.Tryz.prog 54 (insert_writer_put) := Sound.ex (insert_writer_put.at_ok)

/-! 23: cryostat/insert.Insert -/
def insert_Insert.cx : Cx := ⟨tys, [3, 48, 92, 98], [(8, [1, 2, 6, 11, 48, 52, 53, 54])], [], [(36, sound_Sound), (48, page_Key), (49, page_Value), (50, find_Find), (51, insert_entries), (52, sound_Copy), (53, heap_Push), (54, insert_writer_put), (55, insert_writer_take)], noDyn, [.cell 6 24, .tmp 7]⟩
def insert_Insert : Sm := fun xs H Q => ∃ k, callK (insert_Insert.cx) Go.Proofs.Tryz.f23 k xs H Q
def insert_Insert.l8 (k : Nat) (sx0 : ByteArray) (sx1 : ByteArray) (ax2 : Pl) (nx3 : Nat) (nx4 : Nat) (nx5 : Nat) (nx6 : Nat) (nx7 : Nat) (xx8 : Pl) (nx9 : Nat) (ix10 : Int) (ix11 : Int) (H : Hp) (Q : Post) : Prop := loopK (insert_Insert.cx) Go.Proofs.Tryz.f23 8 k (.bad :: (.g (.str sx0)) :: (.g (.str sx1)) :: B 3 ((.bx [(.sl ax2 nx3 5)]) :: B 4 ((.g (.ptr (some (nx4, nx5)))) :: B 36 ((.g (.ptr (some (nx6, nx7)))) :: B 3 ((.g (.sl xx8 nx9 5)) :: (.g (.int .i64 ix10)) :: (.g (.int .i64 ix11)) :: B 51 ([])))))) H Q
theorem insert_Insert_eq (k : Nat) (z0 : Pl) (z0n : Nat) (z1 : ByteArray) (z2 : ByteArray) (H : Hp) (Q : Post) : callK (insert_Insert.cx) Go.Proofs.Tryz.f23 (k + 1) [.agg [.sl z0 z0n 5], .g (.str z1), .g (.str z2)] H Q = (
 rd (pu H (.row true 24 [(.sl z0 z0n 5)])) (ln H) 0 fun v0 =>
 dL 5 v0 fun x1 n2 =>
 cl sound_Sound [(.agg [(.sl x1 n2 5)])] (pu H (.row true 24 [(.sl z0 z0n 5)])) fun r3 H4 =>
 rG r3 fun v5 =>
 dB v5 fun b6 =>
 bite (!b6)
 (Q (.tup [(.a [(.sl none 0 5)]), (.s (.int .i64 1200))]) H4)
 (cl page_Key [(.g (.str z1))] H4 fun r7 H8 =>
  rG r7 fun v9 =>
  dB v9 fun b10 =>
  bite (!b10)
  (Q (.tup [(.a [(.sl none 0 5)]), (.s (.int .i64 1200))]) H8)
  (cl page_Value [(.g (.str z2))] H8 fun r11 H12 =>
   rG r11 fun v13 =>
   dB v13 fun b14 =>
   bite (!b14)
   (Q (.tup [(.a [(.sl none 0 5)]), (.s (.int .i64 1200))]) H12)
   (rd H12 (ln H) 0 fun v15 =>
    dL 5 v15 fun x16 n17 =>
    cl find_Find [(.agg [(.sl x16 n17 5)]), (.g (.str z1))] H12 fun r18 H19 =>
    rT r18 fun c20 =>
    uR c20 fun q21 c22 =>
    rS q21 fun v23 =>
    dS v23 fun s24 =>
    uR c22 fun q25 c26 =>
    rS q25 fun v27 =>
    dB v27 fun b28 =>
    uR c26 fun q29 c30 =>
    rS q29 fun v31 =>
    dI .i64 v31 fun i32 =>
    uE c30 (bite (!b28)
    (cl insert_entries [(.g (.ptr (some ((ln H), 0))))] H19 fun r33 H34 =>
     rG r33 fun v35 =>
     dI .i64 v35 fun i36 =>
     bite (leI 60 i36)
     (Q (.tup [(.a [(.sl none 0 5)]), (.s (.int .i64 1201))]) H34)
     (rd H34 (ln H) 0 fun v37 =>
      dL 5 v37 fun x38 n39 =>
      cl sound_Copy [(.agg [(.sl x38 n39 5)])] H34 fun r40 H41 =>
      rA r40 fun c42 =>
      uC c42 fun v43 c44 =>
      dL 5 v43 fun x45 n46 =>
      uN c44 (rd (pu H41 (.row true 100 [(.sl x45 n46 5), (.sl none 0 1)])) (ln H41) 0 fun v47 =>
      dL 5 v47 fun x48 n49 =>
      insert_Insert.l8 k z1 z2 none 0 (ln H41) 0 (ln H41) 0 x48 n49 (nI n49) 0 (pu H41 (.row true 100 [(.sl x45 n46 5), (.sl none 0 1)])) Q)))
    (rd H19 (ln H) 0 fun v50 =>
     dL 5 v50 fun x51 n52 =>
     cl sound_Copy [(.agg [(.sl x51 n52 5)])] H19 fun r53 H54 =>
     rA r53 fun c55 =>
     uC c55 fun v56 c57 =>
     dL 5 v56 fun x58 n59 =>
     uN c57 (rd (pu H54 (.row true 100 [(.sl x58 n59 5), (.sl none 0 1)])) (ln H54) 0 fun v60 =>
     dL 5 v60 fun x61 n62 =>
     insert_Insert.l8 k z1 z2 none 0 (ln H54) 0 (ln H54) 0 x61 n62 (nI n62) 0 (pu H54 (.row true 100 [(.sl x58 n59 5), (.sl none 0 1)])) Q))))))) := by kernel_rfl
theorem insert_Insert.l8_eq (k : Nat) (sx0 : ByteArray) (sx1 : ByteArray) (ax2 : Pl) (nx3 : Nat) (nx4 : Nat) (nx5 : Nat) (nx6 : Nat) (nx7 : Nat) (xx8 : Pl) (nx9 : Nat) (ix10 : Int) (ix11 : Int) (H : Hp) (Q : Post) : insert_Insert.l8 (k + 1) sx0 sx1 ax2 nx3 nx4 nx5 nx6 nx7 xx8 nx9 ix10 ix11 H Q = (
 bite (ltI ix11 ix10)
 (chk true (chk ((leI 0 ix11) && (ltI ix11 (nI nx9))) (pS xx8 fun n0 n1 =>
  rd H n0 (n1 + ((tN ix11) * 5)) fun v2 =>
  dB v2 fun b3 =>
  rd H n0 ((n1 + ((tN ix11) * 5)) + 1) fun v4 =>
  dB v4 fun b5 =>
  rd H n0 (((n1 + ((tN ix11) * 5)) + 1) + 1) fun v6 =>
  dL 1 v6 fun x7 n8 =>
  rd H n0 ((((n1 + ((tN ix11) * 5)) + 1) + 1) + 1) fun v9 =>
  dL 1 v9 fun x10 n11 =>
  rd H n0 (((((n1 + ((tN ix11) * 5)) + 1) + 1) + 1) + 1) fun v12 =>
  dL 1 v12 fun x13 n14 =>
  bite (!b3)
  (cl heap_Push [(.g (.iface 102 (.ptr (some (nx4, (nx5 + 1)))))), (.g (.iface 3 (.int .i64 ix11)))] H fun r15 H16 =>
   insert_Insert.l8 k sx0 sx1 ax2 nx3 nx4 nx5 nx6 nx7 xx8 nx9 ix10 (wrapI .i64 (ix11 + 1)) H16 Q)
  (insert_Insert.l8 k sx0 sx1 ax2 nx3 nx4 nx5 nx6 nx7 xx8 nx9 ix10 (wrapI .i64 (ix11 + 1)) H Q))))
 (cl insert_writer_put [(.g (.ptr (some (nx4, nx5)))), (.g (.int .i64 0)), (.g (.str sx0)), (.g (.str sx1))] H fun r17 H18 =>
  rG r17 fun v19 =>
  dP v19 fun x20 =>
  bite (!(isNone x20))
  (rd H18 nx4 (nx5 + 0) fun v21 =>
   dL 5 v21 fun x22 n23 =>
   chk true (chk ((leI 0 0) && (ltI 0 (nI n23))) (pS x22 fun n24 n25 =>
   rd H18 n24 (n25 + ((tN 0) * 5)) fun v26 =>
   dB v26 fun b27 =>
   rd H18 n24 ((n25 + ((tN 0) * 5)) + 1) fun v28 =>
   dB v28 fun b29 =>
   rd H18 n24 (((n25 + ((tN 0) * 5)) + 1) + 1) fun v30 =>
   dL 1 v30 fun x31 n32 =>
   rd H18 n24 ((((n25 + ((tN 0) * 5)) + 1) + 1) + 1) fun v33 =>
   dL 1 v33 fun x34 n35 =>
   rd H18 n24 (((((n25 + ((tN 0) * 5)) + 1) + 1) + 1) + 1) fun v36 =>
   dL 1 v36 fun x37 n38 =>
   cl insert_writer_take [(.g (.ptr (some (nx4, nx5)))), (.agg [(.bool b27), (.bool b29), (.sl x31 n32 1), (.sl x34 n35 1), (.sl x37 n38 1)])] H18 fun r39 H40 =>
   rG r39 fun v41 =>
   dI .i64 v41 fun i42 =>
   rd H40 nx4 (nx5 + 0) fun v43 =>
   dL 5 v43 fun x44 n45 =>
   pS x20 fun n46 n47 =>
   rd H40 n46 (n47 + 0) fun v48 =>
   dS v48 fun s49 =>
   pS x20 fun n50 n51 =>
   rd H40 n50 (n51 + 1) fun v52 =>
   dI .i64 v52 fun i53 =>
   both (rd (pu H40 (.row true 9 [(.str s49)])) n50 (n51 + 1) fun v54 =>
    dI .i64 v54 fun i55 =>
    eqv (.g (.int .i64 i53)) (.g (.int .i64 i55)) (rd (pu H40 (.row true 9 [(.str s49)])) nx4 (nx5 + 0) fun v56 =>
    dL 5 v56 fun x57 n58 =>
    eqv (.g (.sl x44 n45 5)) (.g (.sl x57 n58 5)) (rd (pu (pu H40 (.row true 9 [(.str s49)])) (.row true 3 [(.int .i64 i42), (.int .i64 i53)])) n46 (n47 + 0) fun v59 =>
    dS v59 fun s60 =>
    eqv (.g (.str s49)) (.g (.str s60)) (rd (pu (pu H40 (.row true 9 [(.str s49)])) (.row true 3 [(.int .i64 i42), (.int .i64 i53)])) nx4 (nx5 + 0) fun v61 =>
    dL 5 v61 fun x62 n63 =>
    eqv (.g (.sl x44 n45 5)) (.g (.sl x62 n63 5)) (chk true (chk ((leI 0 0) && (ltI 0 (nI n45))) (pS x44 fun n64 n65 =>
    wr (pu (pu H40 (.row true 9 [(.str s49)])) (.row true 3 [(.int .i64 i42), (.int .i64 i53)])) n64 (n65 + ((tN 0) * 5)) (.bool true) fun H66 =>
    wr H66 n64 ((n65 + ((tN 0) * 5)) + 1) (.bool false) fun H67 =>
    wr H67 n64 (((n65 + ((tN 0) * 5)) + 1) + 1) (.sl (some ((ln H40), 0)) 1 1) fun H68 =>
    wr H68 n64 ((((n65 + ((tN 0) * 5)) + 1) + 1) + 1) (.sl none 0 1) fun H69 =>
    wr H69 n64 (((((n65 + ((tN 0) * 5)) + 1) + 1) + 1) + 1) (.sl (some ((ln (pu H40 (.row true 9 [(.str s49)]))), 0)) 2 1) fun H70 =>
    rd H70 nx4 (nx5 + 0) fun v71 =>
    dL 5 v71 fun x72 n73 =>
    Q (.tup [(.a [(.sl x72 n73 5)]), (.s (.int .i64 0))]) H70)))))))
   (rd (pu H40 (.row true 3 [(.int .i64 i42), (.int .i64 i53)])) n46 (n47 + 0) fun v74 =>
    dS v74 fun s75 =>
    eqv (.g (.str s49)) (.g (.str s75)) (rd (pu H40 (.row true 3 [(.int .i64 i42), (.int .i64 i53)])) nx4 (nx5 + 0) fun v76 =>
    dL 5 v76 fun x77 n78 =>
    eqv (.g (.sl x44 n45 5)) (.g (.sl x77 n78 5)) (rd (pu (pu H40 (.row true 3 [(.int .i64 i42), (.int .i64 i53)])) (.row true 9 [(.str s49)])) n50 (n51 + 1) fun v79 =>
    dI .i64 v79 fun i80 =>
    eqv (.g (.int .i64 i53)) (.g (.int .i64 i80)) (rd (pu (pu H40 (.row true 3 [(.int .i64 i42), (.int .i64 i53)])) (.row true 9 [(.str s49)])) nx4 (nx5 + 0) fun v81 =>
    dL 5 v81 fun x82 n83 =>
    eqv (.g (.sl x44 n45 5)) (.g (.sl x82 n83 5)) (chk true (chk ((leI 0 0) && (ltI 0 (nI n45))) (pS x44 fun n84 n85 =>
    wr (pu (pu H40 (.row true 3 [(.int .i64 i42), (.int .i64 i53)])) (.row true 9 [(.str s49)])) n84 (n85 + ((tN 0) * 5)) (.bool true) fun H86 =>
    wr H86 n84 ((n85 + ((tN 0) * 5)) + 1) (.bool false) fun H87 =>
    wr H87 n84 (((n85 + ((tN 0) * 5)) + 1) + 1) (.sl (some ((ln (pu H40 (.row true 3 [(.int .i64 i42), (.int .i64 i53)]))), 0)) 1 1) fun H88 =>
    wr H88 n84 ((((n85 + ((tN 0) * 5)) + 1) + 1) + 1) (.sl none 0 1) fun H89 =>
    wr H89 n84 (((((n85 + ((tN 0) * 5)) + 1) + 1) + 1) + 1) (.sl (some ((ln H40), 0)) 2 1) fun H90 =>
    rd H90 nx4 (nx5 + 0) fun v91 =>
    dL 5 v91 fun x92 n93 =>
    Q (.tup [(.a [(.sl x92 n93 5)]), (.s (.int .i64 0))]) H90))))))))))
  (rd H18 nx4 (nx5 + 0) fun v94 =>
   dL 5 v94 fun x95 n96 =>
   Q (.tup [(.a [(.sl x95 n96 5)]), (.s (.int .i64 0))]) H18))) := by kernel_rfl
theorem insert_Insert_ok : Sound Go.Proofs.Tryz.prog 23 (insert_Insert) := prog_ok.sound (cx := insert_Insert.cx) rfl (EnvOK.cons ((sound_Sound_ok).c ⟨_, Go.Proofs.Tryz.func36, by kernel_rfl, by kernel_rfl⟩) (EnvOK.cons ((page_Key_ok).c ⟨_, Go.Proofs.Tryz.func48, by kernel_rfl, by kernel_rfl⟩) (EnvOK.cons ((page_Value_ok).c ⟨_, Go.Proofs.Tryz.func49, by kernel_rfl, by kernel_rfl⟩) (EnvOK.cons ((find_Find_ok).c ⟨_, Go.Proofs.Tryz.func50, by kernel_rfl, by kernel_rfl⟩) (EnvOK.cons ((insert_entries_ok).c ⟨_, Go.Proofs.Tryz.func51, by kernel_rfl, by kernel_rfl⟩) (EnvOK.cons ((sound_Copy_ok).c ⟨_, Go.Proofs.Tryz.func52, by kernel_rfl, by kernel_rfl⟩) (EnvOK.cons ((heap_Push_ok).c ⟨_, Go.Proofs.Tryz.func53, by kernel_rfl, by kernel_rfl⟩) (EnvOK.cons ((insert_writer_put_ok).c ⟨_, Go.Proofs.Tryz.func54, by kernel_rfl, by kernel_rfl⟩) (EnvOK.cons ((insert_writer_take_ok).c ⟨_, Go.Proofs.Tryz.func55, by kernel_rfl, by kernel_rfl⟩) (EnvOK.nil _)))))))))) (noDyn_ok _) Go.Proofs.Tryz.func23 rfl


end Go.Am
namespace Go.Am

/-! free pages: whatever is put in comes out, in some order -/
structure FR (H : Hp) (le lf n : Nat) (c0 : GV) (ws rest : List Int) : Prop where
  wr : H[le]? = some (.row true tWriter [c0, .sl (some (lf, 0)) n 1])
  row : H[lf]? = some (.row true tI ((ws ++ rest).map (GV.int .i64)))
  len : ws.length = n
  lim : n ≤ 1000
section
variable {H : Hp} {le lf n : Nat} {c0 : GV} {ws rest : List Int} {Q : Post}
theorem FR.ne (h : FR H le lf n c0 ws rest) : le ≠ lf := fun e => by
  have h1 := h.wr
  have h2 := h.row
  rw [e, h2] at h1
  simp at h1
  exact absurd h1.1 (by decide)
theorem FR.gt (h : FR H le lf n c0 ws rest) : Am.gt H le 1 = some (.sl (some (lf, 0)) n 1) := by rw [gt_some h.wr]; rfl
theorem FR.is (h : FR H le lf n c0 ws rest) : Is H (some (lf, 0)) n ws := by
  have e := h.len
  have l := h.lim
  refine ⟨?_, e.symm, by omega⟩
  simp only [cells?, h.row]
  rw [if_pos (by simp; omega)]
  simp only [List.drop_zero, List.map_append]
  rw [List.take_left' (by simp [e])]
theorem FR.set (h : FR H le lf n c0 ws rest) {ws' : List Int} (hl : ws'.length = ws.length) : FR (H.set lf (.row true tI ((ws' ++ rest).map (GV.int .i64)))) le lf n c0 ws' rest :=
  ⟨by rw [List.getElem?_set_ne (Ne.symm h.ne)]; exact h.wr, List.getElem?_set_self (List.getElem?_eq_some_iff.1 h.row).1, by rw [hl]; exact h.len, h.lim⟩
theorem free_Less (h : FR H le lf n c0 ws rest) {i j : Nat} (hi : i < n) (hj : j < n) (hQ : ∀ b, Q (.g (.bool b)) H) : insert_free_Less [.g (.sl (some (lf, 0)) n 1), .g (.int .i64 (i : Int)), .g (.int .i64 (j : Int))] H Q := by
  have e := h.len
  refine ⟨1, ?_⟩
  rw [insert_free_Less_eq, chk_true, h.is.rd i rfl (by omega), chk_true, h.is.rd j rfl (by omega)]
  exact hQ _
theorem set_row {i : Nat} {x : Int} (hi : i < ws.length) : ((ws ++ rest).map (GV.int .i64)).set i (.int .i64 x) = ((ws.set i x) ++ rest).map (GV.int .i64) := by
  rw [← List.map_set, List.set_append_left _ _ hi]
theorem free_Swap (h : FR H le lf n c0 ws rest) {i j : Nat} (hi : i < n) (hj : j < n) (hQ : ∀ ws', ws'.Perm ws → Q (.tup []) (H.set lf (.row true tI ((ws' ++ rest).map (GV.int .i64))))) :
    insert_free_Swap [.g (.sl (some (lf, 0)) n 1), .g (.int .i64 (i : Int)), .g (.int .i64 (j : Int))] H Q := by
  have e := h.len
  have l := h.lim
  have ei : tN (i : Int) = i := rfl
  have ej : tN (j : Int) = j := rfl
  have hlt := (List.getElem?_eq_some_iff.1 h.row).1
  refine ⟨1, ?_⟩
  rw [insert_free_Swap_eq, chk_true, h.is.rd j rfl (by omega), chk_true, h.is.rd i rfl (by omega), chk_true]
  refine chk_of (by simp; omega) ?_
  rw [pS_some, ei, Nat.zero_add, Nat.mul_one]
  refine wr_row h.row (by simp; omega) ?_
  rw [set_row (by omega), chk_true]
  refine chk_of (by simp; omega) ?_
  rw [pS_some, ej, Nat.zero_add, Nat.mul_one]
  refine wr_row (List.getElem?_set_self hlt) (by simp; omega) ?_
  rw [List.set_set, set_row (by simp; omega)]
  exact hQ _ (List.set_set_perm (by omega) (by omega))
theorem up_idx {j : Nat} (h : j ≤ 1000) : wrapI .i64 (Int.tdiv (wrapI .i64 ((j : Int) - 1)) 2) = (((j - 1) / 2 : Nat) : Int) := by
  cases j with
  | zero => decide
  | succ j =>
    have e : ((j + 1 : Nat) : Int) - 1 = (j : Int) := by omega
    rw [e, wrap64 (n := (j : Int)) (by omega) (by omega)]
    have e2 : Int.tdiv (j : Int) 2 = ((j / 2 : Nat) : Int) := rfl
    rw [e2, wrap64 (by omega) (by omega)]; rfl
theorem heap_up_loop : ∀ (f j : Nat) {H : Hp} {ws : List Int}, j < f → FR H le lf n c0 ws rest → j < n → (∀ ws', ws'.Perm ws → Q (.tup []) (H.set lf (.row true tI ((ws' ++ rest).map (GV.int .i64))))) → heap_up.l0 f (some (le, 1)) (j : Int) H Q
  | 0, j, _, _, h, _, _, _ => by omega
  | f + 1, j, H, ws, hf, h, hj, hQ => by
    have l := h.lim
    have stay : Q (.tup []) H := by
      have := hQ ws (List.Perm.refl _)
      rwa [set_same h.row] at this
    rw [heap_up.l0_eq, up_idx (by omega)]
    refine bite_of (fun _ => stay) (fun e => ?_)
    have hlt : (j - 1) / 2 < j := by
      have e' : ((j - 1) / 2 : Nat) ≠ j := by
        intro q
        rw [eqI_def, q] at e
        simp at e
      omega
    rw [pS_some, rd_of h.gt, dL_sl]
    refine free_Less h hj (by omega) fun b => ?_
    simp only [rG_g, dB_bool]
    refine bite_of (fun _ => stay) (fun _ => ?_)
    rw [pS_some, rd_of h.gt, dL_sl]
    refine free_Swap h (by omega) hj fun ws' hp => ?_
    refine heap_up_loop f _ (by omega) (h.set hp.length_eq) (by omega) fun ws2 hp2 => ?_
    rw [List.set_set]
    exact hQ ws2 (hp2.trans hp)
theorem free_up (h : FR H le lf n c0 ws rest) {j : Nat} (hj : j < n) (hQ : ∀ ws', ws'.Perm ws → Q (.tup []) (H.set lf (.row true tI ((ws' ++ rest).map (GV.int .i64))))) : heap_up [.g (.iface tPFree (.ptr (some (le, 1)))), .g (.int .i64 (j : Int))] H Q := by
  refine ⟨j + 2, ?_⟩
  rw [heap_up_eq]
  exact heap_up_loop (j + 1) j (by omega) h hj hQ
theorem heap_down_loop {m : Nat} : ∀ (f i : Nat) {H : Hp} {ws : List Int}, 2 * (m - i) + 1 ≤ f → FR H le lf n c0 ws rest → i ≤ n → m ≤ n → (∀ b ws', ws'.Perm ws → Q (.g (.bool b)) (H.set lf (.row true tI ((ws' ++ rest).map (GV.int .i64))))) → ∀ i0, heap_down.l2 f (some (le, 1)) i0 (m : Int) (i : Int) H Q
  | 0, i, _, _, h, _, _, _, _ => by omega
  | f + 1, i, H, ws, hf, h, hi, hm, hQ => fun i0 => by
    have l := h.lim
    have stay : ∀ b, Q (.g (.bool b)) H := fun b => by
      have := hQ b ws (List.Perm.refl _)
      rwa [set_same h.row] at this
    have e1 : wrapI .i64 (wrapI .i64 (2 * (i : Int)) + 1) = ((2 * i + 1 : Nat) : Int) := by
      rw [wrap64 (n := 2 * (i : Int)) (by omega) (by omega), wrap64 (by omega) (by omega)]; omega
    have e2 : wrapI .i64 (((2 * i + 1 : Nat) : Int) + 1) = ((2 * i + 2 : Nat) : Int) := by rw [wrap64 (by omega) (by omega)]; omega
    have j8 : ∀ (j : Nat), i < j → j < m → heap_down.l8 f (some (le, 1)) i0 (m : Int) (i : Int) (j : Int) H Q := fun j hij hjm => by
      cases f with
      | zero => omega
      | succ f =>
        rw [heap_down.l8_eq, pS_some, rd_of h.gt, dL_sl]
        refine free_Less h (by omega) (by omega) fun b => ?_
        simp only [rG_g, dB_bool]
        refine bite_of (fun _ => stay _) (fun _ => ?_)
        rw [pS_some, rd_of h.gt, dL_sl]
        refine free_Swap h (by omega) (by omega) fun ws' hp => ?_
        refine heap_down_loop f j (by omega) (h.set hp.length_eq) (by omega) hm (fun b ws2 hp2 => ?_) _
        rw [List.set_set]
        exact hQ b ws2 (hp2.trans hp)
    rw [heap_down.l2_eq, e1, e2]
    refine bite_of (fun _ => stay _) (fun c1 => bite_of (fun _ => stay _) (fun c2 => bite_of (fun c3 => ?_) (fun c3 => ?_)))
    · have c3 : 2 * i + 2 < m := by simp at c3; omega
      rw [pS_some, rd_of h.gt, dL_sl]
      refine free_Less h (by omega) (by omega) fun b => ?_
      simp only [rG_g, dB_bool]
      refine bite_of (fun _ => j8 _ (by omega) (by omega)) (fun _ => j8 _ (by omega) (by omega))
    · exact j8 _ (by omega) (by simp at c1; omega)
theorem free_down (h : FR H le lf n c0 ws rest) {m : Nat} (hm : m ≤ n) (hQ : ∀ b ws', ws'.Perm ws → Q (.g (.bool b)) (H.set lf (.row true tI ((ws' ++ rest).map (GV.int .i64))))) : heap_down [.g (.iface tPFree (.ptr (some (le, 1)))), .g (.int .i64 0), .g (.int .i64 (m : Int))] H Q := by
  refine ⟨2 * m + 2, ?_⟩
  rw [heap_down_eq]
  exact heap_down_loop (2 * m + 1) 0 (by omega) h (by omega) hm hQ 0
theorem free_Len (hQ : Q (.g (.int .i64 (n : Int))) H) {a : Pl} : insert_free_Len [.g (.sl a n 1)] H Q := ⟨1, by rw [insert_free_Len_eq]; exact hQ⟩
/-- the last one taken out -/
theorem free_Pop (h : FR H le lf n c0 ws rest) (hn : 1 ≤ n) (hQ : ∀ x init, ws = init ++ [x] → Q (.g (.iface 3 (.int .i64 x))) (H.set le (.row true tWriter [c0, .sl (some (lf, 0)) (n - 1) 1]))) : insert_free_Pop [.g (.ptr (some (le, 1)))] H Q := by
  have e := h.len
  have l := h.lim
  have e1 : wrapI .i64 (nI n - 1) = ((n - 1 : Nat) : Int) := by
    have : nI n - 1 = ((n - 1 : Nat) : Int) := by rw [nI_def]; omega
    rw [this]; exact wrap64 (by omega) (by omega)
  have et : tN ((n - 1 : Nat) : Int) = n - 1 := rfl
  refine ⟨1, ?_⟩
  rw [insert_free_Pop_eq, pS_some, rd_of h.gt, dL_sl, pS_some, rd_of h.gt, dL_sl, e1, chk_true, h.is.rd (n - 1) rfl (by omega), pS_some, rd_of h.gt, dL_sl, chk_true, et]
  refine chk_of (by simp) (chk_of (by simp) ?_)
  rw [pS_some]
  refine wr_row h.wr (by simp) ?_
  have hs : ws = ws.take (n - 1) ++ [ws[n - 1]'(by omega)] := by
    rw [← List.take_succ_eq_append_getElem (by omega), List.take_of_length_le (by omega)]
  exact hQ _ _ hs
theorem heap_Pop_spec (h : FR H le lf n c0 ws rest) (hn : 1 ≤ n) (hQ : ∀ x init, (init ++ [x]).Perm ws → ∀ H', FR H' le lf (n - 1) c0 init (x :: rest) → H'.length = H.length → (∀ l, l ≠ le → l ≠ lf → H'[l]? = H[l]?) → Q (.g (.iface 3 (.int .i64 x))) H') : heap_Pop [.g (.iface tPFree (.ptr (some (le, 1))))] H Q := by
  have l := h.lim
  have e0 : wrapI .i64 ((n : Int) - 1) = ((n - 1 : Nat) : Int) := by
    have : (n : Int) - 1 = ((n - 1 : Nat) : Int) := by omega
    rw [this]; exact wrap64 (by omega) (by omega)
  refine ⟨1, ?_⟩
  rw [heap_Pop_eq, pS_some, rd_of h.gt, dL_sl]
  refine free_Len ?_
  simp only [rG_g, dI_int]
  rw [pS_some, rd_of h.gt, dL_sl, e0]
  refine free_Swap (i := 0) h (by omega) (by omega) fun ws1 p1 => ?_
  have h1 := h.set p1.length_eq
  refine free_down h1 (by omega) fun b ws2 p2 => ?_
  simp only [rG_g, dB_bool]
  have h2 := h1.set p2.length_eq
  refine free_Pop h2 hn fun x init e => ?_
  simp only [rG_g]
  have hle := (List.getElem?_eq_some_iff.1 h2.wr).1
  refine hQ x init (by rw [← e]; exact p2.trans p1) _ ⟨List.getElem?_set_self hle, ?_, ?_, by omega⟩ (by simp) fun l h3 h4 => ?_
  · rw [List.getElem?_set_ne h.ne, h2.row, e]
    simp
  · have := h2.len
    rw [e] at this; simp at this; omega
  · rw [List.getElem?_set_ne (Ne.symm h3), List.getElem?_set_ne (Ne.symm h4), List.getElem?_set_ne (Ne.symm h4)]
end

/-- free pages, when they are gathered -/
def FA (H : Hp) (b le : Nat) (c0 : GV) (fa : Pl) (ws : List Int) : Prop :=
  (fa = none ∧ ws = [] ∧ H[le]? = some (.row true tWriter [c0, .sl none 0 1])) ∨ ∃ lf, fa = some (lf, 0) ∧ b ≤ lf ∧ FR H le lf ws.length c0 ws []
section
variable {H : Hp} {b le : Nat} {c0 : GV} {fa : Pl} {ws : List Int} {Q : Post}
theorem heap_Push_spec {x : Int} (h : FA H b le c0 fa ws) (hb : b ≤ H.length) (hl : ws.length < 1000) (hQ : ∀ lf ws' H', ws'.Perm (ws ++ [x]) → FA H' b le c0 (some (lf, 0)) ws' → H.length ≤ lf → lf < H'.length → (∀ l, l < H.length → l ≠ le → (∀ o, fa ≠ some (l, o)) → H'[l]? = H[l]?) → Q (.tup []) H') :
    heap_Push [.g (.iface tPFree (.ptr (some (le, 1)))), .g (.iface 3 (.int .i64 x))] H Q := by
  have key : ∀ (H1 : Hp), H1.length = H.length + 1 → (∀ l, l < H.length → l ≠ le → (∀ o, fa ≠ some (l, o)) → H1[l]? = H[l]?) → FR H1 le H.length (ws.length + 1) c0 (ws ++ [x]) [] →
      (pS (some (le, 1)) fun n2 n3 => rd H1 n2 n3 fun v4 => dL 1 v4 fun x5 n6 => cl insert_free_Len [(.g (.sl x5 n6 1))] H1 fun r7 H8 => rG r7 fun v9 => dI .i64 v9 fun i10 => cl heap_up [(.g (.iface tPFree (.ptr (some (le, 1))))), (.g (.int .i64 (wrapI .i64 (i10 - 1))))] H8 fun r11 H12 => Q (.tup []) H12) := fun H1 hlen hk h1 => by
    rw [pS_some, rd_of h1.gt, dL_sl]
    refine free_Len ?_
    simp only [rG_g, dI_int]
    have e0 : wrapI .i64 (((ws.length + 1 : Nat) : Int) - 1) = (ws.length : Int) := by
      have : ((ws.length + 1 : Nat) : Int) - 1 = (ws.length : Int) := by omega
      rw [this]; exact wrap64 (by omega) (by omega)
    rw [e0]
    refine free_up h1 (by omega) fun ws' hp => ?_
    have h2 := h1.set hp.length_eq
    have el : ws'.length = ws.length + 1 := by rw [hp.length_eq]; simp
    refine hQ H.length ws' _ hp (.inr ⟨_, rfl, hb, by rw [el]; exact h2⟩) (Nat.le_refl _) (by simp; omega) fun l h3 h4 h5 => ?_
    rw [List.getElem?_set_ne (by omega)]
    exact hk l h3 h4 h5
  refine ⟨1, ?_⟩
  rw [heap_Push_eq]
  rcases h with ⟨rfl, rfl, hw⟩ | ⟨lf, rfl, hbl, hf⟩
  · have hle := (List.getElem?_eq_some_iff.1 hw).1
    have g1 : gt H le 1 = some (.sl none 0 1) := by rw [gt_some hw]; rfl
    refine ⟨1, ?_⟩
    rw [insert_free_Push_eq, pS_some, rd_of g1, dL_sl]
    refine ⟨rfl, ?_⟩
    simp only [dI_int]
    rw [chk_true]
    have hap : app? H 3 1 8 none 0 [.int .i64 x] 1 = some (some (H.length, 0), 1, H ++ [.row true 3 [.int .i64 x]]) := by
      unfold app?
      rw [if_pos ⟨by unfold Lim; omega, rfl⟩]; rfl
    unfold ap
    rw [hap]
    simp only [pS_some]
    have hw1 : (H ++ [Obj.row true 3 [.int .i64 x]])[le]? = some (.row true tWriter [c0, .sl none 0 1]) := by rw [List.getElem?_append_left hle]; exact hw
    refine wr_row hw1 (by simp) ?_
    refine key _ (by simp) (fun l h3 h4 h5 => by rw [List.getElem?_set_ne (Ne.symm h4), List.getElem?_append_left h3]) ⟨List.getElem?_set_self (by simp; omega), ?_, by simp, by simp⟩
    rw [List.getElem?_set_ne (by omega)]
    simp
  · have hle := (List.getElem?_eq_some_iff.1 hf.wr).1
    have hlf := (List.getElem?_eq_some_iff.1 hf.row).1
    have g1 := hf.gt
    have hne := hf.ne
    refine ⟨1, ?_⟩
    rw [insert_free_Push_eq, pS_some, rd_of g1, dL_sl]
    refine ⟨rfl, ?_⟩
    simp only [dI_int]
    rw [chk_true]
    have hr := hf.row
    rw [List.append_nil] at hr
    have hap : app? H 3 1 8 (some (lf, 0)) ws.length [.int .i64 x] 1 = some (some (H.length, 0), ws.length + 1, (H.set lf .dead) ++ [.row true 3 (ws.map (GV.int .i64) ++ [.int .i64 x])]) := by
      unfold app?
      rw [if_pos ⟨by unfold Lim; omega, rfl⟩]
      simp only [hr]
      rw [if_pos ⟨trivial, trivial, by simp⟩]
    unfold ap
    rw [hap]
    simp only [pS_some]
    have hw1 : ((H.set lf .dead) ++ [Obj.row true 3 (ws.map (GV.int .i64) ++ [.int .i64 x])])[le]? = some (.row true tWriter [c0, .sl (some (lf, 0)) ws.length 1]) := by
      rw [List.getElem?_append_left (by simpa using hle), List.getElem?_set_ne (Ne.symm hne)]; exact hf.wr
    refine wr_row hw1 (by simp) ?_
    refine key _ (by simp) (fun l h3 h4 h5 => ?_) ⟨List.getElem?_set_self (by simp; omega), ?_, by simp, by omega⟩
    · rw [List.getElem?_set_ne (Ne.symm h4), List.getElem?_append_left (by simpa using h3), List.getElem?_set_ne fun e => h5 0 (by rw [e])]
    · rw [List.getElem?_set_ne (by omega)]
      simp
end
end Go.Am
namespace Go.Am

/-- a tree in rows of its own; pages of X stand as they were copied; off: rows beside it -/
structure GT (B H : Hp) (tp : Nat) (ds : List PC) (T : List Pg) (X : Nat → Prop) (off : Nat → Prop) : Prop where
  pre : B <+: H
  ot : OT H B.length tPg (some (tp, 0)) 48 ds T
  wo : ∀ i (h : i < ds.length), WoP H B.length 1000 ds[i]
  base : ∀ i (h : i < ds.length) l, (ds[i]).on l → B.length ≤ l
  own : ∀ i (h : i < ds.length) (h' : i < T.length), X i → (ds[i]).own H B.length T[i]
  ap : ∀ i j (hi : i < ds.length) (hj : j < ds.length), i ≠ j → ∀ l, (ds[i]).on l → ¬ (ds[j]).on l
  off : ∀ l, off l → B.length ≤ l ∧ l ≠ tp ∧ ∀ i (h : i < ds.length), ¬ (ds[i]).on l
section
variable {B H H' : Hp} {tp : Nat} {ds : List PC} {T : List Pg} {X X' off off' : Nat → Prop} {i : Nat} {c : PC} {p : Pg}
theorem GT.onlt (g : GT B H tp ds T X off) (i : Nat) (h : i < ds.length) {l : Nat} (hl : (ds[i]).on l) : l < H.length := g.ot.onlt (List.getElem_mem h) hl
theorem GT.keep (g : GT B H tp ds T X off) (hk : ∀ l, l < H.length → ¬ off l → H'[l]? = H[l]?) (hlen : H.length ≤ H'.length) : GT B H' tp ds T X off := by
  have on : ∀ i (h : i < ds.length) l, (ds[i]).on l → H'[l]? = H[l]? := fun i h l hl => hk l (g.onlt i h hl) fun q => (g.off l q).2.2 i h hl
  obtain ⟨hb, hr⟩ := g.ot.at_row
  have htp : H'[tp]? = H[tp]? := hk tp (List.getElem?_eq_some_iff.1 hr).1 fun q => (g.off tp q).2.1 rfl
  have hpre : B <+: H' := by
    rw [List.prefix_iff_eq_take]
    apply List.ext_getElem?
    intro l
    rw [List.getElem?_take]
    split
    · rename_i hl
      have := g.pre.length_le
      rw [hk l (by omega) (fun h => by have := (g.off l h).1; omega), pre_at g.pre hl]
    · rename_i hl
      exact List.getElem?_eq_none (by omega)
  refine ⟨hpre, g.ot.keep (fun l e => by cases e; exact htp) (fun c hc l hl => ?_), fun i h => (g.wo i h).keepOn (on i h), g.base, fun i h h' hx => (g.own i h h' hx).keep (on i h), g.ap, g.off⟩
  obtain ⟨i, hi, rfl⟩ := List.getElem_of_mem hc
  exact on i hi l hl
theorem GT.mono (g : GT B H tp ds T X off) (hp : H <+: H') : GT B H' tp ds T X off := g.keep (fun l hl _ => pre_at hp hl) hp.length_le
theorem GT.reoff (g : GT B H tp ds T X off) (h : ∀ l, off' l → B.length ≤ l ∧ l ≠ tp ∧ ∀ i (h : i < ds.length), ¬ (ds[i]).on l) : GT B H tp ds T X off' := ⟨g.pre, g.ot, g.wo, g.base, g.own, g.ap, h⟩
theorem GT.weak (g : GT B H tp ds T X off) (h : ∀ i, X' i → X i) : GT B H tp ds T X' off := ⟨g.pre, g.ot, g.wo, g.base, fun i h1 h2 hx => g.own i h1 h2 (h i hx), g.ap, g.off⟩
/-- a page turned -/
theorem GT.turn (g : GT B H tp ds T X off) (hi : i < ds.length) (hlen : H.length ≤ H'.length) (hkeep : ∀ l, l < H.length → ¬ (ds[i]).on l → l ≠ tp → ¬ off l → H'[l]? = H[l]?)
    (hrow : H'[tp]? = some (.row true tPg (pcells (ds.set i c)))) (hc : c.at H' p) (hw : WoP H' B.length 1000 c)
    (hon : ∀ l, c.on l → l ≠ tp ∧ ¬ off l ∧ B.length ≤ l ∧ ∀ j (hj : j < ds.length), j ≠ i → ¬ (ds[j]).on l) (hX : ∀ j, X' j → (j = i ∧ c.own H' B.length p) ∨ (j ≠ i ∧ X j)) :
    GT B H' tp (ds.set i c) (T.set i p) X' off := by
  have q1 := g.ot.len
  have q2 := g.ot.lenT
  obtain ⟨hb, hr⟩ := g.ot.at_row
  have htp := (List.getElem?_eq_some_iff.1 hr).1
  have other : ∀ j (h : j < ds.length), j ≠ i → ∀ l, (ds[j]).on l → H'[l]? = H[l]? := fun j h hne l hl => hkeep l (g.onlt j h hl) (g.ap j i h hi hne l hl) (fun e => g.ot.off _ (List.getElem_mem h) l hl (by rw [e])) fun q => (g.off l q).2.2 j h hl
  have hpre : B <+: H' := by
    rw [List.prefix_iff_eq_take]
    apply List.ext_getElem?
    intro l
    rw [List.getElem?_take]
    split
    · rename_i hl
      have := g.pre.length_le
      rw [hkeep l (by omega) (fun h => by have := g.base i hi l h; omega) (by omega) (fun h => by have := (g.off l h).1; omega), pre_at g.pre hl]
    · rename_i hl
      exact List.getElem?_eq_none (by omega)
  refine ⟨hpre, ⟨.inr ⟨tp, rfl, hb, hrow, by rw [pcells_length]; simp [q1]⟩, by simp [q1], by simp [q2], fun j h1 h2 => ?_, fun d hd l hl e => ?_⟩, fun j h => ?_, fun j h l hl => ?_, fun j h h' hx => ?_, fun j k hj hk hne l h1 h2 => ?_, fun l hl => ?_⟩
  · rw [List.getElem_set, List.getElem_set]
    by_cases e : i = j
    · rw [if_pos e, if_pos e]; exact hc
    · rw [if_neg e, if_neg e]
      simp at h1 h2
      exact (g.ot.all j h1 h2).keep (other j h1 (Ne.symm e))
  · cases e
    rcases List.mem_or_eq_of_mem_set hd with q | q
    · exact g.ot.off d q tp hl rfl
    · subst q; exact (hon tp hl).1 rfl
  · rw [List.getElem_set]
    by_cases e : i = j
    · rw [if_pos e]; exact hw
    · rw [if_neg e]; simp at h; exact (g.wo j h).keepOn (other j h (Ne.symm e))
  · rw [List.getElem_set] at hl
    by_cases e : i = j
    · rw [if_pos e] at hl; exact (hon l hl).2.2.1
    · rw [if_neg e] at hl; simp at h; exact g.base j h l hl
  · rw [List.getElem_set, List.getElem_set]
    rcases hX j hx with ⟨e, ho⟩ | ⟨e, hx'⟩
    · rw [if_pos e.symm, if_pos e.symm]; exact ho
    · rw [if_neg (Ne.symm e), if_neg (Ne.symm e)]
      simp at h h'
      exact (g.own j h h' hx').keep (other j h e)
  · rw [List.getElem_set] at h1 h2
    simp at hj hk
    by_cases e1 : i = j
    · rw [if_pos e1] at h1
      by_cases e2 : i = k
      · omega
      · rw [if_neg e2] at h2
        exact (hon l h1).2.2.2 k hk (Ne.symm e2) h2
    · rw [if_neg e1] at h1
      by_cases e2 : i = k
      · rw [if_pos e2] at h2
        exact (hon l h2).2.2.2 j hj (Ne.symm e1) h1
      · rw [if_neg e2] at h2
        exact g.ap j k hj hk hne l h1 h2
  · obtain ⟨o1, o2, o3⟩ := g.off l hl
    refine ⟨o1, o2, fun j h hj => ?_⟩
    rw [List.getElem_set] at hj
    by_cases e : i = j
    · rw [if_pos e] at hj; exact (hon l hj).2.1 hl
    · rw [if_neg e] at hj; simp at h; exact o3 j h hj
theorem GT.gt (g : GT B H tp ds T X off) (hi : i < ds.length) {j : Nat} (hj : j < 5) : Am.gt H tp (i * 5 + j) = (ds[i]).cells[j]? := by
  rw [gt_some g.ot.at_row.2]; exact pcells_get hi hj
theorem GT.cells (g : GT B H tp ds T X off) (hi : i < ds.length) : Am.gt H tp (0 + i * 5) = some (.bool ds[i].u) ∧ Am.gt H tp (0 + i * 5 + 1) = some (.bool ds[i].l) ∧ Am.gt H tp (0 + i * 5 + 2) = some (.sl ds[i].a1 ds[i].n1 1) ∧ Am.gt H tp (0 + i * 5 + 3) = some (.sl ds[i].a2 ds[i].n2 1) ∧ Am.gt H tp (0 + i * 5 + 4) = some (.sl ds[i].a3 ds[i].n3 1) := by
  rw [Nat.zero_add]
  have h0 := g.gt hi (j := 0) (by omega)
  rw [Nat.add_zero] at h0
  exact ⟨h0, g.gt hi (by omega), g.gt hi (by omega), g.gt hi (by omega), g.gt hi (by omega)⟩
end

/-- where a writer's own rows lie -/
def offW (le : Nat) (fa : Pl) (l : Nat) : Prop := l = le ∨ ∃ o, fa = some (l, o)
/-- a tree that a writer works on -/
structure WM (B H : Hp) (le tp : Nat) (ds : List PC) (T : List Pg) (X : Nat → Prop) (fa : Pl) (ws : List Int) : Prop where
  g : GT B H tp ds T X (offW le fa)
  fre : (fa = none ∧ ws = [] ∧ H[le]? = some (.row true tWriter [.sl (some (tp, 0)) 48 5, .sl none 0 1])) ∨ ∃ lf rest, fa = some (lf, 0) ∧ FR H le lf ws.length (.sl (some (tp, 0)) 48 5) ws rest
section
variable {B H H' : Hp} {le tp : Nat} {ds : List PC} {T : List Pg} {X X' : Nat → Prop} {fa : Pl} {ws : List Int} {i : Nat} {c : PC} {p : Pg} {Q : Post}
theorem WM.gtE (m : WM B H le tp ds T X fa ws) : Am.gt H le 0 = some (.sl (some (tp, 0)) 48 5) := by
  rcases m.fre with ⟨_, _, h⟩ | ⟨lf, rest, _, h⟩
  · rw [gt_some h]; rfl
  · rw [gt_some h.wr]; rfl
theorem WM.le_lt (m : WM B H le tp ds T X fa ws) : le < H.length := by
  rcases m.fre with ⟨_, _, h⟩ | ⟨lf, rest, _, h⟩
  · exact (List.getElem?_eq_some_iff.1 h).1
  · exact (List.getElem?_eq_some_iff.1 h.wr).1
theorem WM.off_lt (m : WM B H le tp ds T X fa ws) {l : Nat} (h : offW le fa l) : l < H.length := by
  rcases h with rfl | ⟨o, e⟩
  · exact m.le_lt
  · rcases m.fre with ⟨q, _, _⟩ | ⟨lf, rest, q, h⟩
    · rw [q] at e; cases e
    · rw [q] at e; cases e; exact (List.getElem?_eq_some_iff.1 h.row).1
theorem fre_keep (m : WM B H le tp ds T X fa ws) (hk : ∀ l, offW le fa l → H'[l]? = H[l]?) :
    (fa = none ∧ ws = [] ∧ H'[le]? = some (.row true tWriter [.sl (some (tp, 0)) 48 5, .sl none 0 1])) ∨ ∃ lf rest, fa = some (lf, 0) ∧ FR H' le lf ws.length (.sl (some (tp, 0)) 48 5) ws rest := by
  rcases m.fre with ⟨e, e2, h⟩ | ⟨lf, rest, e, h⟩
  · exact .inl ⟨e, e2, by rw [hk le (.inl rfl)]; exact h⟩
  · exact .inr ⟨lf, rest, e, ⟨by rw [hk le (.inl rfl)]; exact h.wr, by rw [hk lf (.inr ⟨0, e⟩)]; exact h.row, h.len, h.lim⟩⟩
theorem WM.mono (m : WM B H le tp ds T X fa ws) (hp : H <+: H') : WM B H' le tp ds T X fa ws := ⟨m.g.mono hp, fre_keep m fun l hl => pre_at hp (m.off_lt hl)⟩
theorem WM.weak (m : WM B H le tp ds T X fa ws) (h : ∀ i, X' i → X i) : WM B H le tp ds T X' fa ws := ⟨m.g.weak h, m.fre⟩
/-- a page turned -/
theorem WM.turn (m : WM B H le tp ds T X fa ws) (hi : i < ds.length) (hlen : H.length ≤ H'.length) (hkeep : ∀ l, l < H.length → ¬ (ds[i]).on l → l ≠ tp → H'[l]? = H[l]?)
    (hrow : H'[tp]? = some (.row true tPg (pcells (ds.set i c)))) (hc : c.at H' p) (hw : WoP H' B.length 1000 c)
    (hon : ∀ l, c.on l → l ≠ tp ∧ ¬ offW le fa l ∧ B.length ≤ l ∧ ∀ j (hj : j < ds.length), j ≠ i → ¬ (ds[j]).on l) (hX : ∀ j, X' j → (j = i ∧ c.own H' B.length p) ∨ (j ≠ i ∧ X j)) :
    WM B H' le tp (ds.set i c) (T.set i p) X' fa ws :=
  ⟨m.g.turn hi hlen (fun l h1 h2 h3 _ => hkeep l h1 h2 h3) hrow hc hw hon hX, fre_keep m fun l hl => hkeep l (m.off_lt hl) ((m.g.off l hl).2.2 i hi) (m.g.off l hl).2.1⟩
/-- a page laid in anew -/
theorem WM.lay (m : WM B H le tp ds T X fa ws) (hi : i < ds.length) (hc : c.at H p) (hw : WoP H B.length 1000 c) (hon : ∀ l, c.on l → l ≠ tp ∧ ¬ offW le fa l ∧ B.length ≤ l ∧ ∀ j (hj : j < ds.length), j ≠ i → ¬ (ds[j]).on l) {K : Hp → Prop}
    (hK : ∀ H', WM B H' le tp (ds.set i c) (T.set i p) (fun j => j ≠ i ∧ X j) fa ws → H'.length = H.length → (∀ l, l ≠ tp → H'[l]? = H[l]?) → K H') :
    wr H tp (0 + i * 5) (.bool c.u) fun H1 => wr H1 tp (0 + i * 5 + 1) (.bool c.l) fun H2 => wr H2 tp (0 + i * 5 + 1 + 1) (.sl c.a1 c.n1 1) fun H3 => wr H3 tp (0 + i * 5 + 1 + 1 + 1) (.sl c.a2 c.n2 1) fun H4 => wr H4 tp (0 + i * 5 + 1 + 1 + 1 + 1) (.sl c.a3 c.n3 1) K := by
  obtain ⟨hb, hr⟩ := m.g.ot.at_row
  have htp := (List.getElem?_eq_some_iff.1 hr).1
  rw [Nat.zero_add]
  have kp : ∀ l, l ≠ tp → (H.set tp (.row true tPg (pcells (ds.set i c))))[l]? = H[l]? := fun l hl => by rw [List.getElem?_set_ne (Ne.symm hl)]
  refine wr5 hr hi (hK _ (m.turn hi (by simp) (fun l _ _ hl => kp l hl) (List.getElem?_set_self htp) (hc.keep fun l hl => kp l (hon l hl).1) (hw.keepOn fun l hl => kp l (hon l hl).1) hon fun j hj => .inr hj) (by simp) kp)
/-- a free page taken out -/
theorem WM.pop (m : WM B H le tp ds T X fa ws) (hn : ws ≠ []) (hQ : ∀ x init H', (init ++ [x]).Perm ws → WM B H' le tp ds T X fa init → H'.length = H.length → (∀ l, ¬ offW le fa l → H'[l]? = H[l]?) → Q (.g (.iface 3 (.int .i64 x))) H') :
    heap_Pop [.g (.iface tPFree (.ptr (some (le, 1))))] H Q := by
  rcases m.fre with ⟨_, e, _⟩ | ⟨lf, rest, e, h⟩
  · exact (hn e).elim
  · have hl : 1 ≤ ws.length := List.length_pos_iff.2 hn
    refine heap_Pop_spec h hl fun x init hp H' h' hlen hk => ?_
    have el : init.length = ws.length - 1 := h'.len
    refine hQ x init H' hp ⟨m.g.keep (fun l _ hno => hk l (fun q => hno (.inl q)) (fun q => hno (.inr ⟨0, by rw [e, q]⟩))) (by omega), .inr ⟨lf, x :: rest, e, by rw [el]; exact h'⟩⟩ hlen fun l hno => hk l (fun q => hno (.inl q)) (fun q => hno (.inr ⟨0, by rw [e, q]⟩))
/-- a free page taken for something -/
theorem take_raw (m : WM B H le tp ds T X fa ws) (hn : ws ≠ []) (hws : ∀ x ∈ ws, 0 ≤ x ∧ x < 48)
    (hQ : ∀ (x : Int) (init : List Int) H', (init ++ [x]).Perm ws → WM B H' le tp ds T X fa init → H'.length = H.length → (∀ l, ¬ offW le fa l → H'[l]? = H[l]?) → Q (.g (.int .i64 x)) (H'.set tp (.row true tPg (pcells (ds.set x.toNat c))))) :
    insert_writer_take [.g (.ptr (some (le, 0))), .agg [.bool c.u, .bool c.l, .sl c.a1 c.n1 1, .sl c.a2 c.n2 1, .sl c.a3 c.n3 1]] H Q := by
  have q1 := m.g.ot.len
  refine ⟨1, ?_⟩
  rw [insert_writer_take_eq, pS_some, Nat.zero_add]
  refine m.pop hn fun x init H1 hp m1 hlen hk => ?_
  obtain ⟨x1, x2⟩ := hws x (hp.mem_iff.1 (by simp))
  simp only [rG_g]
  refine ⟨rfl, ?_⟩
  simp only [dI_int]
  rw [pS_some, Nat.add_zero, rd_of m1.gtE, dL_sl, chk_true]
  refine chk_of (by simp; omega) ?_
  rw [pS_some, Nat.zero_add]
  have ex : tN x = x.toNat := rfl
  rw [ex]
  exact wr5 (c := c) m1.g.ot.at_row.2 (by omega) (hQ x init H1 hp m1 hlen hk)
theorem take_spec (m : WM B H le tp ds T X fa ws) (hn : ws ≠ []) (hws : ∀ x ∈ ws, 0 ≤ x ∧ x < 48) (hc : c.at H p) (hw : WoP H B.length 1000 c)
    (hon : ∀ l, c.on l → l ≠ tp ∧ ¬ offW le fa l ∧ B.length ≤ l ∧ ∀ j (hj : j < ds.length), ¬ (ds[j]).on l)
    (hQ : ∀ (x : Int) (init : List Int) H', (init ++ [x]).Perm ws → WM B H' le tp (ds.set x.toNat c) (T.set x.toNat p) (fun j => j ≠ x.toNat ∧ X j) fa init → H'.length = H.length → (∀ l, ¬ offW le fa l → l ≠ tp → H'[l]? = H[l]?) → Q (.g (.int .i64 x)) H') :
    insert_writer_take [.g (.ptr (some (le, 0))), .agg [.bool c.u, .bool c.l, .sl c.a1 c.n1 1, .sl c.a2 c.n2 1, .sl c.a3 c.n3 1]] H Q := by
  have q1 := m.g.ot.len
  refine take_raw m hn hws fun x init H1 hp m1 hlen hk => ?_
  obtain ⟨x1, x2⟩ := hws x (hp.mem_iff.1 (by simp))
  have hr := m1.g.ot.at_row.2
  have htp := (List.getElem?_eq_some_iff.1 hr).1
  have kp : ∀ l, l ≠ tp → (H1.set tp (.row true tPg (pcells (ds.set x.toNat c))))[l]? = H1[l]? := fun l hl => by rw [List.getElem?_set_ne (Ne.symm hl)]
  have kc : ∀ l, c.on l → (H1.set tp (.row true tPg (pcells (ds.set x.toNat c))))[l]? = H[l]? := fun l hl => by
    obtain ⟨h1, h2, _, _⟩ := hon l hl
    rw [kp l h1, hk l h2]
  refine hQ x init _ hp (m1.turn (by omega) (by simp) (fun l _ _ hl => kp l hl) (List.getElem?_set_self htp) (hc.keep kc) (hw.keepOn kc) (fun l hl => ?_) fun j hj => .inr hj) (by simp [hlen]) fun l h1 h2 => by rw [kp l h2, hk l h1]
  obtain ⟨h1, h2, h3, h4⟩ := hon l hl
  exact ⟨h1, h2, h3, fun j hj _ => h4 j hj⟩
end
end Go.Am
namespace Go.Am

section
variable {H : Hp} {Q : Post} {b n i : Nat} {a : Pl}
/-- what slices.Insert leaves of the rows -/
structure InsH (H : Hp) (a : Pl) (H' : Hp) : Prop where
  len : H'.length = H.length + 2
  row : ∀ l, l < H.length → a ≠ some (l, 0) → H'[l]? = H[l]?
theorem ins_any {t : TypeId} {by_ : Nat} {v : GV} {cs : List GV} (h : Own H b t a n cs) (hb : b ≤ H.length) (hi : i ≤ n) (hlim : (n + 1) * by_ ≤ Lim)
    (hQ : ∀ H', InsH H a H' → Own H' b t (some (H.length + 1, 0)) (n + 1) (cs.take i ++ v :: cs.drop i) → Q (.g (.sl (some (H.length + 1, 0)) (n + 1) 1)) H') :
    insSm t by_ [.g (.sl a n 1), .g (.int .i64 (i : Int)), .g (.sl (some (ln H, 0)) 1 1)] (pu H (.row false lentT [v])) Q := by
  have hl : (pu H (.row false lentT [v])).length = H.length + 1 := by simp [pu]
  refine ⟨a, n, i, ln H, v, rfl, hi, hlim, by simp [pu, ln], ?_⟩
  rcases h with ⟨rfl, rfl, rfl⟩ | ⟨l, rfl, hb', hr, hlen⟩
  · refine .inl ⟨rfl, rfl, ?_⟩
    have e : ln (pu H (.row false lentT [v])) = H.length + 1 := hl
    rw [e]
    have hi0 : i = 0 := by omega
    subst hi0
    refine hQ _ ⟨by simp [pu], fun l hl _ => by simp [pu, List.getElem?_append_left, hl]⟩ (.inr ⟨_, rfl, by omega, ?_, rfl⟩)
    have : (pu H (.row false lentT [v])).length = H.length + 1 := hl
    show (pu H (.row false lentT [v]) ++ [_])[H.length + 1]? = _
    rw [← this]; exact List.getElem?_concat_length
  · have hlt := (List.getElem?_eq_some_iff.1 hr).1
    refine .inr ⟨l, cs, rfl, by show (H ++ [_])[l]? = _; rw [List.getElem?_append_left hlt]; exact hr, hlen, ?_⟩
    have e : ln (pu H (.row false lentT [v])) = H.length + 1 := hl
    rw [e]
    refine hQ _ ⟨by simp [pu], fun l' hl' hne => ?_⟩ (.inr ⟨_, rfl, by omega, ?_, by simp; omega⟩)
    · show ((pu H (.row false lentT [v])).set l .dead ++ [_])[l']? = _
      rw [List.getElem?_append_left (by simp [pu]; omega), List.getElem?_set_ne fun q => hne (by rw [q])]
      simp [pu, List.getElem?_append_left, hl']
    · show ((pu H (.row false lentT [v])).set l .dead ++ [_])[H.length + 1]? = _
      have e2 : ((pu H (.row false lentT [v])).set l .dead).length = H.length + 1 := by simp [pu]
      rw [← e2]; exact List.getElem?_concat_length
theorem map_ins {α β : Type} (g : α → β) (xs : List α) (i : Nat) (x : α) : (xs.map g).take i ++ g x :: (xs.map g).drop i = (xs.take i ++ x :: xs.drop i).map g := by simp [List.map_take, List.map_drop]
theorem insS_spec {s : ByteArray} {xs : List ByteArray} (h : Own H b tS a n (xs.map GV.str)) (hb : b ≤ H.length) (hi : i ≤ n) (hn : n ≤ 1000)
    (hQ : ∀ H', InsH H a H' → Own H' b tS (some (H.length + 1, 0)) (n + 1) ((xs.take i ++ s :: xs.drop i).map GV.str) → Q (.g (.sl (some (H.length + 1, 0)) (n + 1) 1)) H') :
    slices_Insert__string_string [.g (.sl a n 1), .g (.int .i64 (i : Int)), .g (.sl (some (ln H, 0)) 1 1)] (pu H (.row false lentT [.str s])) Q := by
  refine ins_any h hb hi (by unfold Lim; omega) fun H' q o => hQ H' q ?_
  rw [← map_ins]; exact o
theorem insI_spec {s : Int} {xs : List Int} (h : Own H b tI a n (xs.map (GV.int .i64))) (hb : b ≤ H.length) (hi : i ≤ n) (hn : n ≤ 1000)
    (hQ : ∀ H', InsH H a H' → Own H' b tI (some (H.length + 1, 0)) (n + 1) ((xs.take i ++ s :: xs.drop i).map (GV.int .i64)) → Q (.g (.sl (some (H.length + 1, 0)) (n + 1) 1)) H') :
    slices_Insert__int_int [.g (.sl a n 1), .g (.int .i64 (i : Int)), .g (.sl (some (ln H, 0)) 1 1)] (pu H (.row false lentT [.int .i64 s])) Q := by
  refine ins_any h hb hi (by unfold Lim; omega) fun H' q o => hQ H' q ?_
  rw [← map_ins]; exact o
end
section
variable {H : Hp} {Q : Post} {u l : Bool} {a1 : Pl} {n1 : Nat} {a2 : Pl} {n2 : Nat} {a3 : Pl} {n3 : Nat} {p : Pg}
theorem fits_small (hf : FitsP p) (h : p.keys.length ≤ 5) : small p := by
  refine ⟨fun s hs => by have := (hf.keys s hs).2; omega, fun s hs => ?_, by omega, ?_, ?_⟩
  · cases hl : p.leaf with
    | true => have := (hf.leaf hl).2.2 s hs; omega
    | false => rw [(hf.inner hl).2.1] at hs; cases hs
  · cases hl : p.leaf with
    | true => have := (hf.leaf hl).1; omega
    | false => rw [(hf.inner hl).2.1]; simp
  · cases hl : p.leaf with
    | true => rw [(hf.leaf hl).2.1]; simp
    | false => have := (hf.inner hl).2.2.1; omega
set_option maxRecDepth 10000 in
theorem node_Split_spec (h : PgAt H u l a1 n1 a2 n2 a3 n3 p) (hf : FitsP p)
    (hQ1 : p.keys.length ≠ 5 → Q (.tup [.a [.bool false, .bool false, .sl none 0 1, .sl none 0 1, .sl none 0 1], .s (.str (mkS [])), .a [.bool false, .bool false, .sl none 0 1, .sl none 0 1, .sl none 0 1], .s (.int .i64 900)]) H)
    (hQ2 : p.keys.length = 5 → ∀ (hk : cutAt p < p.keys.length) (c d : PC) H', H <+: H' → c.at H' (cutL p (cutAt p)) → d.at H' (cutR p (cutAt p)) → WoP H' H.length 1000 c → WoP H' H.length 1000 d → (∀ m, c.on m → H.length ≤ m ∧ ¬ d.on m) → (∀ m, d.on m → H.length ≤ m) →
      Q (.tup [.a [.bool c.u, .bool c.l, .sl c.a1 c.n1 1, .sl c.a2 c.n2 1, .sl c.a3 c.n3 1], .s (.str p.keys[cutAt p]), .a [.bool d.u, .bool d.l, .sl d.a1 d.n1 1, .sl d.a2 d.n2 1, .sl d.a3 d.n3 1], .s (.int .i64 0)]) H') :
    node_Split [.agg [.bool u, .bool l, .sl a1 n1 1, .sl a2 n2 1, .sl a3 n3 1]] H Q := by
  have e1 := h.keys.len
  have hl := h.leaf
  refine ⟨2, ?_⟩
  rw [node_Split_eq]
  by_cases h5 : p.keys.length = 5
  rotate_left
  · rw [bite_t (by simp; omega)]
    exact hQ1 h5
  rw [bite_f (by simp; omega)]
  refine page_Fits_spec h fun bb H1 p1 hb => ?_
  simp only [rG_g, dB_bool]
  rw [hb.2 hf, bite_f (by decide)]
  have hs := fits_small hf (by omega)
  have hk : cutAt p < p.keys.length := by unfold cutAt; cases p.leaf <;> simp <;> omega
  have key : node_Split.l6 1 u l a1 n1 a2 n2 a3 n3 false false none 0 none 0 none 0 false false none 0 none 0 none 0 (cutAt p : Int) H1 Q := by
    rw [node_Split.l6_eq]
    refine node_Cut_at (h.mono p1) hs hk (fun e => (hf.leaf e).1) (fun e => (hf.inner e).2.2.1) fun c d H2 p2 hc hd wc wd oc od => ?_
    simp only [rT_tup, uR_cons, rC_a, uC_cons, dB_bool, dL_sl, uN_nil, rS_s, dS_str, uE_nil]
    have hl1 := p1.length_le
    exact hQ2 h5 hk c d H2 (p1.trans p2) hc hd (wc.base hl1) (wd.base hl1) (fun m hm => ⟨Nat.le_trans hl1 (oc m hm).1, (oc m hm).2⟩) (fun m hm => Nat.le_trans hl1 (od m hm))
  cases e : l with
  | true =>
    subst e
    rw [bite_t rfl]
    have : (cutAt p : Int) = 3 := by unfold cutAt; rw [hl]; rfl
    rw [this] at key
    exact key
  | false =>
    subst e
    rw [bite_f rfl]
    have : (cutAt p : Int) = 2 := by unfold cutAt; rw [hl]; rfl
    rw [this] at key
    exact key
end
end Go.Am
namespace Go.Am

section
variable {B H : Hp} {le tp : Nat} {ds : List PC} {T : List Pg} {X : Nat → Prop} {fa : Pl} {ws : List Int} {i : Nat} {p : Pg} {Q : Post} {key v : ByteArray}
set_option maxRecDepth 10000 in
theorem settle_spec (m : WM B H le tp ds T X fa ws) (hp : T[i]? = some p) (hf : FitsP p) (hws : ∀ x ∈ ws, 1 ≤ x ∧ x < 48) (hx : ∀ x ∈ ws, x.toNat ≠ i) (hne : p.keys.length = 5 → ws ≠ [])
    (hQ1 : p.keys.length ≠ 5 → Q (.g (.ptr none)) H)
    (hQ2 : p.keys.length = 5 → ∀ (hk : cutAt p < p.keys.length) (x : Int) (init : List Int) H' ds' lq, (init ++ [x]).Perm ws → WM B H' le tp ds' ((T.set i (cutL p (cutAt p))).set x.toNat (cutR p (cutAt p))) (fun j => j ≠ x.toNat ∧ j ≠ i ∧ X j) fa init →
      H'[lq]? = some (.row true tHalf [.str p.keys[cutAt p], .int .i64 x]) → H.length ≤ lq → Q (.g (.ptr (some (lq, 0)))) H') :
    insert_writer_settle [.g (.ptr (some (le, 0))), .g (.int .i64 (i : Int))] H Q := by
  have q1 := m.g.ot.len
  have q2 := m.g.ot.lenT
  have hiT := (List.getElem?_eq_some_iff.1 hp).1
  have eT : T[i]'hiT = p := (List.getElem?_eq_some_iff.1 hp).2
  have hi : i < ds.length := by omega
  obtain ⟨a0, a1, a2, a3, a4⟩ := m.g.cells hi
  have hat := m.g.ot.all i hi hiT
  rw [eT] at hat
  have ei : tN (i : Int) = i := rfl
  refine ⟨1, ?_⟩
  rw [insert_writer_settle_eq, pS_some, Nat.add_zero, rd_of m.gtE, dL_sl, chk_true]
  refine chk_of (by simp; omega) ?_
  rw [pS_some, ei, rdPage_of a0 a1 a2 a3 a4]
  refine node_Split_spec hat hf (fun h5 => ?_) (fun h5 hk c d H1 p1 hc hd wc wd oc od => ?_)
  · simp only [rT_tup, uR_cons, rC_a, uC_cons, dB_bool, dL_sl, uN_nil, rS_s, dS_str, dI_int, uE_nil]
    rw [bite_t (by decide)]
    exact hQ1 h5
  · simp only [rT_tup, uR_cons, rC_a, uC_cons, dB_bool, dL_sl, uN_nil, rS_s, dS_str, dI_int, uE_nil]
    rw [bite_f (by decide)]
    have m1 := m.mono p1
    have hBH := m.g.pre.length_le
    have l1 := p1.length_le
    have htp := (List.getElem?_eq_some_iff.1 m.g.ot.at_row.2).1
    rw [pS_some, Nat.add_zero, rd_of m1.gtE, dL_sl, chk_true]
    refine chk_of (by simp; omega) ?_
    rw [pS_some]
    refine m1.lay (i := i) (c := c) (p := cutL p (cutAt p)) hi hc (wc.base hBH) (fun l hl => ?_) fun H2 m2 l2 k2 => ?_
    · have := (oc l hl).1
      exact ⟨by omega, fun q => by have := m.off_lt q; omega, by omega, fun j hj _ hl' => by have := m.g.onlt j hj hl'; omega⟩
    have kd : ∀ l, d.on l → H2[l]? = H1[l]? := fun l hl => k2 l (by have := od l hl; omega)
    refine take_spec m2 (hne h5) (fun x hx => ⟨by have := (hws x hx).1; omega, (hws x hx).2⟩) (c := d) (p := cutR p (cutAt p)) (hd.keep kd) ((wd.base hBH).keepOn kd) (fun l hl => ?_) fun x init H3 hperm m3 l3 k3 => ?_
    · have hl' := od l hl
      refine ⟨by omega, fun q => by have := m.off_lt q; omega, by omega, fun j hj hon => ?_⟩
      rw [List.getElem_set] at hon
      by_cases e : i = j
      · rw [if_pos e] at hon; exact (oc l hon).2 hl
      · rw [if_neg e] at hon
        have := m.g.onlt j (by simpa using hj) hon
        omega
    simp only [rG_g, dI_int]
    have hxi : x.toNat ≠ i := hx x (hperm.mem_iff.1 (by simp))
    have pr := pre_pu H3 (.row true tHalf [.str p.keys[cutAt p], .int .i64 x])
    refine hQ2 h5 hk x init _ _ H3.length hperm ((m3.mono pr).weak fun j hj => hj) ?_ (by omega)
    simp [pu]

/-- a key and its value put into a leaf's rows -/
theorem WM.insLeaf (m : WM B H le tp ds T X fa ws) (hp : T[i]? = some p) (hX : X i) {s : Nat} (hs : s ≤ p.keys.length) (hv : p.vals.length = p.keys.length) (hsm : small p) (h4 : p.keys.length ≤ 900) (hk : key.size ≤ 1000) (hvs : v.size ≤ 1000) {K : Hp → Prop}
    (hK : ∀ H' ds', WM B H' le tp ds' (T.set i (insP p s key v)) X fa ws → K H') :
    rd H tp (0 + i * 5 + 2) fun v27 => dL 1 v27 fun x28 n29 => rd H tp (0 + i * 5 + 3) fun v30 => dL 1 v30 fun x31 n32 =>
    cl slices_Insert__string_string [(.g (.sl x28 n29 1)), (.g (.int .i64 (s : Int))), (.g (.sl (some ((ln H), 0)) 1 1))] (pu H (.row false 1000003 [(.str key)])) fun r33 H34 =>
    rG r33 fun v35 => dL 1 v35 fun x36 n37 => rd H34 tp (0 + i * 5 + 3) fun v38 => dL 1 v38 fun x39 n40 =>
    eqv (.g (.sl x31 n32 1)) (.g (.sl x39 n40 1)) (cl slices_Insert__string_string [(.g (.sl x31 n32 1)), (.g (.int .i64 (s : Int))), (.g (.sl (some ((ln H34), 0)) 1 1))] (pu H34 (.row false 1000003 [(.str v)])) fun r41 H42 =>
    rG r41 fun v43 => dL 1 v43 fun x44 n45 => wr H42 tp (0 + i * 5 + 2) (.sl x36 n37 1) fun H46 => wr H46 tp (0 + i * 5 + 3) (.sl x44 n45 1) K) := by
  have q1 := m.g.ot.len
  have q2 := m.g.ot.lenT
  have hiT := (List.getElem?_eq_some_iff.1 hp).1
  have eT : T[i]'hiT = p := (List.getElem?_eq_some_iff.1 hp).2
  have hi : i < ds.length := by omega
  obtain ⟨a0, a1, a2, a3, a4⟩ := m.g.cells hi
  have hat := m.g.ot.all i hi hiT
  have ho := m.g.own i hi hiT hX
  rw [eT] at hat ho
  have e1 := hat.keys.len
  have e2 := hat.vals.len
  have hBH := m.g.pre.length_le
  obtain ⟨hb, hr⟩ := m.g.ot.at_row
  have htp := (List.getElem?_eq_some_iff.1 hr).1
  have off := m.g.ot.off _ (List.getElem_mem hi)
  rw [rd_of a2, dL_sl, rd_of a3, dL_sl]
  refine insS_spec ho.keys hBH (by omega) (by omega) fun H1 w1 o1 => ?_
  simp only [rG_g, dL_sl]
  have r1 : H1[tp]? = H[tp]? := w1.row tp htp fun e => off tp ⟨0, .inl e⟩ rfl
  have g3 : gt H1 tp (0 + i * 5 + 3) = some (.sl ds[i].a2 ds[i].n2 1) := by rw [← a3]; unfold gt; rw [r1]
  rw [rd_of g3, dL_sl]
  refine ⟨rfl, ?_⟩
  have ov : Own H1 B.length tS ds[i].a2 ds[i].n2 (p.vals.map GV.str) := ho.vals.keep fun l e => w1.row l (ho.vals.lt' e) fun q => ho.d12 l 0 0 q e
  have ok : Own H1 B.length tI ds[i].a3 ds[i].n3 (p.kids.map (GV.int .i64)) := ho.kids.keep fun l e => w1.row l (ho.kids.lt' e) fun q => ho.d13 l 0 0 q e
  refine insS_spec ov (by have := w1.len; omega) (by omega) (by omega) fun H2 w2 o2 => ?_
  simp only [rG_g, dL_sl]
  have hl1 := w1.len
  have hl2 := w2.len
  have r2 : H2[tp]? = H[tp]? := by rw [w2.row tp (by omega) fun e => off tp ⟨0, .inr (.inl e)⟩ rfl, r1]
  have hr2 : H2[tp]? = some (.row true tPg (pcells ds)) := by rw [r2]; exact hr
  have htp2 := (List.getElem?_eq_some_iff.1 hr2).1
  refine wr_23 hr2 hi ?_
  have kp : ∀ l, l ≠ tp → (H2.set tp (.row true tPg (pcells (ds.set i ⟨ds[i].u, ds[i].l, some (H.length + 1, 0), ds[i].n1 + 1, some (H1.length + 1, 0), ds[i].n2 + 1, ds[i].a3, ds[i].n3⟩))))[l]? = H2[l]? := fun l hl => by rw [List.getElem?_set_ne (Ne.symm hl)]
  have ow : (⟨ds[i].u, ds[i].l, some (H.length + 1, 0), ds[i].n1 + 1, some (H1.length + 1, 0), ds[i].n2 + 1, ds[i].a3, ds[i].n3⟩ : PC).own (H2.set tp (.row true tPg (pcells (ds.set i ⟨ds[i].u, ds[i].l, some (H.length + 1, 0), ds[i].n1 + 1, some (H1.length + 1, 0), ds[i].n2 + 1, ds[i].a3, ds[i].n3⟩)))) B.length (insP p s key v) := by
    refine ⟨ho.used, ho.leaf, o1.keep fun l e => ?_, o2.keep fun l e => ?_, ok.keep fun l e => ?_, fun l o o' q1 q2 => ?_, fun l o o' q1 q2 => ?_, fun l o o' q1 q2 => ?_⟩
    · have : l = H.length + 1 := by cases e; rfl
      rw [kp l (by omega), w2.row l (by omega) fun q => by have := ho.vals.lt' q; omega]
    · have : l = H1.length + 1 := by cases e; rfl
      rw [kp l (by omega)]
    · have hlt := ho.kids.lt' e
      rw [kp l fun q => off l ⟨0, .inr (.inr e)⟩ (by rw [q]), w2.row l (by omega) fun q => ho.d23 l 0 0 q e]
    · simp at q1 q2; omega
    · simp at q1
      have := ho.kids.lt' (show ds[i].a3 = some (l, 0) by
        rcases ho.kids with ⟨e, _, _⟩ | ⟨l', e, _⟩
        · have q2' : ds[i].a3 = some (l, o') := q2
          rw [e] at q2'; cases q2'
        · have q2' : ds[i].a3 = some (l, o') := q2
          rw [e] at q2'; cases q2'; exact e)
      omega
    · simp at q1
      have := ho.kids.lt' (show ds[i].a3 = some (l, 0) by
        rcases ho.kids with ⟨e, _, _⟩ | ⟨l', e, _⟩
        · have q2' : ds[i].a3 = some (l, o') := q2
          rw [e] at q2'; cases q2'
        · have q2' : ds[i].a3 = some (l, o') := q2
          rw [e] at q2'; cases q2'; exact e)
      omega
  have at' : (⟨ds[i].u, ds[i].l, some (H.length + 1, 0), ds[i].n1 + 1, some (H1.length + 1, 0), ds[i].n2 + 1, ds[i].a3, ds[i].n3⟩ : PC).at (H2.set tp (.row true tPg (pcells (ds.set i ⟨ds[i].u, ds[i].l, some (H.length + 1, 0), ds[i].n1 + 1, some (H1.length + 1, 0), ds[i].n2 + 1, ds[i].a3, ds[i].n3⟩)))) (insP p s key v) := by
    refine ⟨hat.used, hat.leaf, ⟨ow.keys.cells, ?_, ?_⟩, ⟨ow.vals.cells, ?_, ?_⟩, ⟨ow.kids.cells, hat.kids.len, hat.kids.lim⟩⟩
    · show ds[i].n1 + 1 = (p.keys.take s ++ key :: p.keys.drop s).length
      simp; omega
    · show (ds[i].n1 + 1) * 16 ≤ _; omega
    · show ds[i].n2 + 1 = (p.vals.take s ++ v :: p.vals.drop s).length
      simp; omega
    · show (ds[i].n2 + 1) * 16 ≤ _; omega
  obtain ⟨s1, s2, s3, s4, s5⟩ := hsm
  have sm : small (insP p s key v) := by
    refine ⟨fun k hk' => ?_, fun k hk' => ?_, ?_, ?_, s5⟩
    · rcases mem_ins hk' with z | z
      · rw [z]; omega
      · exact s1 k z
    · rcases mem_ins hk' with z | z
      · rw [z]; omega
      · exact s2 k z
    · show (p.keys.take s ++ key :: p.keys.drop s).length ≤ 1000
      simp; omega
    · show (p.vals.take s ++ v :: p.vals.drop s).length ≤ 1000
      simp; omega
  refine hK _ _ (m.turn (c := ⟨ds[i].u, ds[i].l, some (H.length + 1, 0), ds[i].n1 + 1, some (H1.length + 1, 0), ds[i].n2 + 1, ds[i].a3, ds[i].n3⟩) hi (by simp; omega) (fun l h1 h2 h3 => ?_) (List.getElem?_set_self htp2) at' (ow.wo at' sm) (fun l hl => ?_) fun j hj => ?_)
  · rw [kp l h3, w2.row l (by omega) fun q => h2 ⟨0, .inr (.inl q)⟩, w1.row l h1 fun q => h2 ⟨0, .inl q⟩]
  · obtain ⟨o, e | e | e⟩ := hl
    · have : l = H.length + 1 := by cases e; rfl
      exact ⟨by omega, fun q => by have := m.off_lt q; omega, by omega, fun j hj _ hl' => by have := m.g.onlt j hj hl'; omega⟩
    · have : l = H1.length + 1 := by cases e; rfl
      exact ⟨by omega, fun q => by have := m.off_lt q; omega, by omega, fun j hj _ hl' => by have := m.g.onlt j hj hl'; omega⟩
    · have hon : (ds[i]).on l := ⟨o, .inr (.inr e)⟩
      exact ⟨fun q => off l hon (by rw [q]), fun q => (m.g.off l q).2.2 i hi hon, m.g.base i hi l hon, fun j hj hne => m.g.ap i j hi hj (Ne.symm hne) l hon⟩
  · by_cases e : j = i
    · exact .inl ⟨e, ow⟩
    · exact .inr ⟨e, hj⟩
end
end Go.Am
namespace Go.Am

section
variable {B H : Hp} {le tp : Nat} {ds : List PC} {T : List Pg} {X : Nat → Prop} {fa : Pl} {ws : List Int} {i : Nat} {p : Pg} {Q : Post} {key v : ByteArray}
theorem half_ne {t : TypeId} {lq l : Nat} {cs cs' : List GV} (hq : H[lq]? = some (.row true tHalf cs)) (hl : H[l]? = some (.row true t cs')) (ht : tHalf ≠ t) : lq ≠ l := fun e => by
  rw [e, hl] at hq; simp at hq; exact ht hq.1.symm
/-- a key and a kid put into an inner page's rows -/
theorem WM.insInner (m : WM B H le tp ds T X fa ws) (hp : T[i]? = some p) (hX : X i) {s : Nat} (hs : s ≤ p.keys.length) (hv : p.kids.length = p.keys.length + 1) (hsm : small p) (h4 : p.keys.length ≤ 900) {lq : Nat} {x : Int} (hq : H[lq]? = some (.row true tHalf [.str key, .int .i64 x])) (hk : key.size ≤ 1000) {K : Hp → Prop}
    (hK : ∀ H' ds', WM B H' le tp ds' (T.set i (insI p s key x)) X fa ws → K H') :
    rd H tp (0 + i * 5 + 2) fun v28 => dL 1 v28 fun x29 n30 => pS (some (lq, 0)) fun n31 n32 => rd H n31 (n32 + 0) fun v33 => dS v33 fun s34 =>
    rd H tp (0 + i * 5 + 4) fun v35 => dL 1 v35 fun x36 n37 => pS (some (lq, 0)) fun n38 n39 => rd H n38 (n39 + 1) fun v40 => dI .i64 v40 fun i41 =>
    cl slices_Insert__string_string [(.g (.sl x29 n30 1)), (.g (.int .i64 (s : Int))), (.g (.sl (some ((ln H), 0)) 1 1))] (pu H (.row false 1000003 [(.str s34)])) fun r42 H43 =>
    rG r42 fun v44 => dL 1 v44 fun x45 n46 => rd H43 n38 (n39 + 1) fun v47 => dI .i64 v47 fun i48 => eqv (.g (.int .i64 i41)) (.g (.int .i64 i48)) (rd H43 tp (0 + i * 5 + 4) fun v49 => dL 1 v49 fun x50 n51 =>
    eqv (.g (.sl x36 n37 1)) (.g (.sl x50 n51 1)) (cl slices_Insert__int_int [(.g (.sl x36 n37 1)), (.g (.int .i64 (wrapI .i64 ((s : Int) + 1)))), (.g (.sl (some ((ln H43), 0)) 1 1))] (pu H43 (.row false 1000003 [(.int .i64 i41)])) fun r52 H53 =>
    rG r52 fun v54 => dL 1 v54 fun x55 n56 => wr H53 tp (0 + i * 5 + 2) (.sl x45 n46 1) fun H57 => wr H57 tp (0 + i * 5 + 4) (.sl x55 n56 1) K)) := by
  have q1 := m.g.ot.len
  have q2 := m.g.ot.lenT
  have hiT := (List.getElem?_eq_some_iff.1 hp).1
  have eT : T[i]'hiT = p := (List.getElem?_eq_some_iff.1 hp).2
  have hi : i < ds.length := by omega
  obtain ⟨a0, a1, a2, a3, a4⟩ := m.g.cells hi
  have hat := m.g.ot.all i hi hiT
  have ho := m.g.own i hi hiT hX
  rw [eT] at hat ho
  have e1 := hat.keys.len
  have e3 := hat.kids.len
  have hBH := m.g.pre.length_le
  obtain ⟨hb, hr⟩ := m.g.ot.at_row
  have htp := (List.getElem?_eq_some_iff.1 hr).1
  have off := m.g.ot.off _ (List.getElem_mem hi)
  have gq0 : gt H lq (0 + 0) = some (.str key) := by rw [gt_some hq]; rfl
  have gq1 : gt H lq (0 + 1) = some (.int .i64 x) := by rw [gt_some hq]; rfl
  have hlq := (List.getElem?_eq_some_iff.1 hq).1
  rw [rd_of a2, dL_sl, pS_some, rd_of gq0, dS_str, rd_of a4, dL_sl, pS_some, rd_of gq1, dI_int]
  refine insS_spec ho.keys hBH (by omega) (by omega) fun H1 w1 o1 => ?_
  simp only [rG_g, dL_sl]
  have r1 : H1[tp]? = H[tp]? := w1.row tp htp fun e => off tp ⟨0, .inl e⟩ rfl
  have rq : H1[lq]? = H[lq]? := w1.row lq hlq fun e => by
    rcases ho.keys with ⟨q, _, _⟩ | ⟨l, q, _, hl, _⟩
    · rw [q] at e; cases e
    · rw [q] at e; cases e; exact half_ne hq hl (by decide) rfl
  have gq1' : gt H1 lq (0 + 1) = some (.int .i64 x) := by rw [← gq1]; unfold gt; rw [rq]
  rw [rd_of gq1', dI_int]
  refine ⟨rfl, ?_⟩
  have g4 : gt H1 tp (0 + i * 5 + 4) = some (.sl ds[i].a3 ds[i].n3 1) := by rw [← a4]; unfold gt; rw [r1]
  rw [rd_of g4, dL_sl]
  refine ⟨rfl, ?_⟩
  have ov : Own H1 B.length tS ds[i].a2 ds[i].n2 (p.vals.map GV.str) := ho.vals.keep fun l e => w1.row l (ho.vals.lt' e) fun q => ho.d12 l 0 0 q e
  have ok : Own H1 B.length tI ds[i].a3 ds[i].n3 (p.kids.map (GV.int .i64)) := ho.kids.keep fun l e => w1.row l (ho.kids.lt' e) fun q => ho.d13 l 0 0 q e
  rw [wrap_succ (by omega)]
  refine insI_spec ok (by have := w1.len; omega) (by omega) (by omega) fun H2 w2 o2 => ?_
  simp only [rG_g, dL_sl]
  have hl1 := w1.len
  have hl2 := w2.len
  have r2 : H2[tp]? = H[tp]? := by rw [w2.row tp (by omega) fun e => off tp ⟨0, .inr (.inr e)⟩ rfl, r1]
  have hr2 : H2[tp]? = some (.row true tPg (pcells ds)) := by rw [r2]; exact hr
  have htp2 := (List.getElem?_eq_some_iff.1 hr2).1
  refine wr_24 hr2 hi ?_
  have kp : ∀ l, l ≠ tp → (H2.set tp (.row true tPg (pcells (ds.set i ⟨ds[i].u, ds[i].l, some (H.length + 1, 0), ds[i].n1 + 1, ds[i].a2, ds[i].n2, some (H1.length + 1, 0), ds[i].n3 + 1⟩))))[l]? = H2[l]? := fun l hl => by rw [List.getElem?_set_ne (Ne.symm hl)]
  have a2at : ∀ {l o}, ds[i].a2 = some (l, o) → ds[i].a2 = some (l, 0) := fun {l o} q2 => by
    rcases ho.vals with ⟨e, _, _⟩ | ⟨l', e, _⟩
    · rw [e] at q2; cases q2
    · rw [e] at q2; cases q2; exact e
  have ow : (⟨ds[i].u, ds[i].l, some (H.length + 1, 0), ds[i].n1 + 1, ds[i].a2, ds[i].n2, some (H1.length + 1, 0), ds[i].n3 + 1⟩ : PC).own (H2.set tp (.row true tPg (pcells (ds.set i ⟨ds[i].u, ds[i].l, some (H.length + 1, 0), ds[i].n1 + 1, ds[i].a2, ds[i].n2, some (H1.length + 1, 0), ds[i].n3 + 1⟩)))) B.length (insI p s key x) := by
    refine ⟨ho.used, ho.leaf, o1.keep fun l e => ?_, ov.keep fun l e => ?_, o2.keep fun l e => ?_, fun l o o' q1 q2 => ?_, fun l o o' q1 q2 => ?_, fun l o o' q1 q2 => ?_⟩
    · have : l = H.length + 1 := by cases e; rfl
      rw [kp l (by omega), w2.row l (by omega) fun q => by have := ho.kids.lt' q; omega]
    · have hlt := ho.vals.lt' e
      rw [kp l fun q => off l ⟨0, .inr (.inl e)⟩ (by rw [q]), w2.row l (by omega) fun q => ho.d23 l 0 0 e q]
    · have : l = H1.length + 1 := by cases e; rfl
      rw [kp l (by omega)]
    · have hlt := ho.vals.lt' (a2at q2)
      simp at q1; omega
    · simp at q1 q2; omega
    · have hlt := ho.vals.lt' (a2at q1)
      simp at q2; omega
  have at' : (⟨ds[i].u, ds[i].l, some (H.length + 1, 0), ds[i].n1 + 1, ds[i].a2, ds[i].n2, some (H1.length + 1, 0), ds[i].n3 + 1⟩ : PC).at (H2.set tp (.row true tPg (pcells (ds.set i ⟨ds[i].u, ds[i].l, some (H.length + 1, 0), ds[i].n1 + 1, ds[i].a2, ds[i].n2, some (H1.length + 1, 0), ds[i].n3 + 1⟩)))) (insI p s key x) := by
    refine ⟨hat.used, hat.leaf, ⟨ow.keys.cells, ?_, ?_⟩, ⟨ow.vals.cells, hat.vals.len, hat.vals.lim⟩, ⟨ow.kids.cells, ?_, ?_⟩⟩
    · show ds[i].n1 + 1 = (p.keys.take s ++ key :: p.keys.drop s).length
      simp; omega
    · show (ds[i].n1 + 1) * 16 ≤ _; omega
    · show ds[i].n3 + 1 = (p.kids.take (s + 1) ++ x :: p.kids.drop (s + 1)).length
      simp; omega
    · show (ds[i].n3 + 1) * 8 ≤ _; omega
  obtain ⟨s1, s2, s3, s4, s5⟩ := hsm
  have sm : small (insI p s key x) := by
    refine ⟨fun k hk' => ?_, s2, ?_, s4, ?_⟩
    · rcases mem_ins hk' with z | z
      · rw [z]; omega
      · exact s1 k z
    · show (p.keys.take s ++ key :: p.keys.drop s).length ≤ 1000
      simp; omega
    · show (p.kids.take (s + 1) ++ x :: p.kids.drop (s + 1)).length ≤ 1000
      simp; omega
  refine hK _ _ (m.turn (c := ⟨ds[i].u, ds[i].l, some (H.length + 1, 0), ds[i].n1 + 1, ds[i].a2, ds[i].n2, some (H1.length + 1, 0), ds[i].n3 + 1⟩) hi (by simp; omega) (fun l h1 h2 h3 => ?_) (List.getElem?_set_self htp2) at' (ow.wo at' sm) (fun l hl => ?_) fun j hj => ?_)
  · rw [kp l h3, w2.row l (by omega) fun q => h2 ⟨0, .inr (.inr q)⟩, w1.row l h1 fun q => h2 ⟨0, .inl q⟩]
  · obtain ⟨o, e | e | e⟩ := hl
    · have : l = H.length + 1 := by cases e; rfl
      exact ⟨by omega, fun q => by have := m.off_lt q; omega, by omega, fun j hj _ hl' => by have := m.g.onlt j hj hl'; omega⟩
    · have hon : (ds[i]).on l := ⟨o, .inr (.inl e)⟩
      exact ⟨fun q => off l hon (by rw [q]), fun q => (m.g.off l q).2.2 i hi hon, m.g.base i hi l hon, fun j hj hne => m.g.ap i j hi hj (Ne.symm hne) l hon⟩
    · have : l = H1.length + 1 := by cases e; rfl
      exact ⟨by omega, fun q => by have := m.off_lt q; omega, by omega, fun j hj _ hl' => by have := m.g.onlt j hj hl'; omega⟩
  · by_cases e : j = i
    · exact .inl ⟨e, ow⟩
    · exact .inr ⟨e, hj⟩
/-- a leaf's value turned -/
theorem WM.setVal (m : WM B H le tp ds T X fa ws) (hp : T[i]? = some p) (hX : X i) {s : Nat} (hs : s < p.vals.length) (hsm : small p) (hvs : v.size ≤ 1000) {K : Hp → Prop}
    (hK : ∀ H' ds', WM B H' le tp ds' (T.set i ⟨p.used, p.leaf, p.keys, p.vals.set s v, p.kids⟩) X fa ws → K H') :
    rd H tp (0 + i * 5 + 3) fun v21 => dL 1 v21 fun x22 n23 => chk true (chk ((leI 0 (s : Int)) && (ltI (s : Int) (nI n23))) (pS x22 fun n24 n25 => wr H n24 (n25 + ((tN (s : Int)) * 1)) (.str v) K)) := by
  have q1 := m.g.ot.len
  have q2 := m.g.ot.lenT
  have hiT := (List.getElem?_eq_some_iff.1 hp).1
  have eT : T[i]'hiT = p := (List.getElem?_eq_some_iff.1 hp).2
  have hi : i < ds.length := by omega
  obtain ⟨a0, a1, a2, a3, a4⟩ := m.g.cells hi
  have hat := m.g.ot.all i hi hiT
  have ho := m.g.own i hi hiT hX
  rw [eT] at hat ho
  have e2 := hat.vals.len
  obtain ⟨lv, v1, v2, v3, v4⟩ := own_row ho.vals (by omega)
  have onv : (ds[i]).on lv := ⟨0, .inr (.inl v1)⟩
  obtain ⟨hb, hr⟩ := m.g.ot.at_row
  have htp := (List.getElem?_eq_some_iff.1 hr).1
  have nvt : lv ≠ tp := fun e => by subst e; exact m.g.ot.off _ (List.getElem_mem hi) _ onv rfl
  have es : tN (s : Int) = s := rfl
  rw [rd_of a3, dL_sl, chk_true]
  refine chk_of (by simp; omega) ?_
  rw [v1, pS_some, es, Nat.zero_add, Nat.mul_one]
  refine wr_row v3 (by simp; omega) ?_
  have em : (p.vals.map GV.str).set s (.str v) = (p.vals.set s v).map GV.str := by rw [← List.map_set]
  rw [em]
  have hlv := (List.getElem?_eq_some_iff.1 v3).1
  have kp : ∀ l, l ≠ lv → (H.set lv (.row true tS ((p.vals.set s v).map GV.str)))[l]? = H[l]? := fun l hl => by rw [List.getElem?_set_ne (Ne.symm hl)]
  have ow : (ds[i]).own (H.set lv (.row true tS ((p.vals.set s v).map GV.str))) B.length ⟨p.used, p.leaf, p.keys, p.vals.set s v, p.kids⟩ := by
    refine ⟨ho.used, ho.leaf, ho.keys.keep fun l e => kp l fun q => ho.d12 l 0 0 e (by rw [v1, q]), .inr ⟨lv, v1, v2, List.getElem?_set_self hlv, by simp; omega⟩, ho.kids.keep fun l e => kp l fun q => ho.d23 lv 0 0 v1 (by rw [e, q]), ho.d12, ho.d13, ho.d23⟩
  have at' : (ds[i]).at (H.set lv (.row true tS ((p.vals.set s v).map GV.str))) ⟨p.used, p.leaf, p.keys, p.vals.set s v, p.kids⟩ := ⟨hat.used, hat.leaf, ⟨ow.keys.cells, hat.keys.len, hat.keys.lim⟩, ⟨ow.vals.cells, by simp; omega, hat.vals.lim⟩, ⟨ow.kids.cells, hat.kids.len, hat.kids.lim⟩⟩
  obtain ⟨s1, s2, s3, s4, s5⟩ := hsm
  have sm : small ⟨p.used, p.leaf, p.keys, p.vals.set s v, p.kids⟩ := by
    refine ⟨s1, fun k hk' => ?_, s3, by simpa using s4, s5⟩
    rcases List.mem_or_eq_of_mem_set hk' with z | z
    · exact s2 k z
    · rw [z]; omega
  refine hK _ _ (m.turn (c := ds[i]) hi (by simp) (fun l h1 h2 h3 => kp l fun q => h2 (by rw [q]; exact onv)) (by rw [kp tp (Ne.symm nvt), List.set_getElem_self]; exact hr) at' (ow.wo at' sm) (fun l hon => ?_) fun j hj => ?_)
  · exact ⟨fun q => m.g.ot.off _ (List.getElem_mem hi) l hon (by rw [q]), fun q => (m.g.off l q).2.2 i hi hon, m.g.base i hi l hon, fun j hj hne => m.g.ap i j hi hj (Ne.symm hne) l hon⟩
  · by_cases e : j = i
    · exact .inl ⟨e, ow⟩
    · exact .inr ⟨e, hj⟩
end
end Go.Am
namespace Go.Am

/-- pages that are free -/
structure Frees (P : List Nat) (ws : List Int) : Prop where
  rng : ∀ x ∈ ws, 1 ≤ x ∧ x < 48
  nd : ws.Nodup
  out : ∀ x ∈ ws, x.toNat ∉ P
theorem Frees.pop {P : List Nat} {ws init : List Int} {x : Int} (h : Frees P ws) (hp : (init ++ [x]).Perm ws) : Frees P init ∧ (1 ≤ x ∧ x < 48) ∧ x.toNat ∉ P ∧ (∀ y ∈ init, y.toNat ≠ x.toNat) ∧ x ∈ ws ∧ (∀ y ∈ init, y ∈ ws) ∧ init.length + 1 = ws.length := by
  have hx : x ∈ ws := hp.mem_iff.1 (by simp)
  have hi : ∀ y ∈ init, y ∈ ws := fun y hy => hp.mem_iff.1 (by simp [hy])
  have hnd := hp.nodup_iff.2 h.nd
  obtain ⟨n1, n2, n3⟩ := List.nodup_append.1 hnd
  refine ⟨⟨fun y hy => h.rng y (hi y hy), n1, fun y hy => h.out y (hi y hy)⟩, h.rng x hx, h.out x hx, fun y hy e => ?_, hx, hi, by rw [← hp.length_eq]; simp⟩
  have a := h.rng y (hi y hy)
  have b := h.rng x hx
  exact n3 y hy x (by simp) (by omega)
/-- what a pointer to a half tells -/
def Rp (H : Hp) (r : Option (ByteArray × Int)) (rp : Pl) : Prop := match r with
  | none => rp = none
  | some (s, x) => ∃ lq, rp = some (lq, 0) ∧ H[lq]? = some (.row true tHalf [.str s, .int .i64 x])
/-- a subtree in two halves, or whole -/
def Res2 (T' : List Pg) (d a : Nat) (P' : List Nat) (qs : KV) (r : Option (ByteArray × Int)) : Prop := match r with
  | none => Sub T' d a P' qs
  | some (s, x) => ∃ PX psX PY psY, SubB T' d a PX psX ∧ SubB T' d x.toNat PY psY ∧ P' = PX ++ PY ∧ psX ++ psY = qs ∧ (∀ e ∈ psX, blt e.1 s = true) ∧ (∀ e ∈ psY, blt e.1 s = false) ∧ (1 ≤ s.size ∧ s.size ≤ 6) ∧ 1 ≤ x ∧ x < 48 ∧ x.toNat ∉ PX
structure Fin2 (T T' : List Pg) (d a : Nat) (P P' : List Nat) (ws ws' : List Int) (qs : KV) (r : Option (ByteArray × Int)) : Prop where
  len : T'.length = T.length
  nd : P'.Nodup
  sub : ∀ j ∈ P, j ∈ P'
  new : ∀ j ∈ P', j ∈ P ∨ ∃ x ∈ ws, x.toNat = j
  out : ∀ j, j ∉ P' → T'[j]? = T[j]?
  wsub : ∀ x ∈ ws', x ∈ ws
  fr : Frees P' ws'
  count : ws'.length + P'.length = ws.length + P.length
  res : Res2 T' d a P' qs r
  half : ∀ s x, r = some (s, x) → x ∈ ws
section
variable {B H : Hp} {le tp d a : Nat} {ds : List PC} {T T' T1 : List Pg} {X : Nat → Prop} {fa : Pl} {ws : List Int} {p p1 : Pg} {P P1 : List Nat} {ps qs : KV} {Q : Post} {key v : ByteArray}
theorem fin_spec (m : WM B H le tp ds T X fa ws) (hS : SubF T d a P qs) (hp : T[a]? = some p) (h5 : p.keys.length ≤ 5) (hnd : P.Nodup) (hfr : Frees P ws) (hcnt : p.keys.length = 5 → ws ≠ [])
    (hQ : ∀ H' ds' T' P' ws' X' r rp, WM B H' le tp ds' T' X' fa ws' → Fin2 T T' d a P P' ws ws' qs r → (r = none → T' = T) → (∀ j, j ∉ P' → X j → X' j) → Rp H' r rp → Q (.g (.ptr rp)) H') :
    insert_writer_settle [.g (.ptr (some (le, 0))), .g (.int .i64 (a : Int))] H Q := by
  have hS' := hS
  obtain ⟨p', hp', hf, hc⟩ := hS
  rw [hp] at hp'
  obtain rfl := Option.some.inj hp'
  have haP : a ∈ P := by rcases hc with ⟨_, _, e, _⟩ | ⟨_, _, _, _, e, _⟩ <;> simp [e]
  have hlt := (List.getElem?_eq_some_iff.1 hp).1
  have q2 := m.g.ot.lenT
  refine settle_spec m hp hf hfr.rng (fun x hx e => hfr.out x hx (by rw [e]; exact haP)) hcnt (fun h => ?_) (fun h hk x init H' ds' lq hperm m' hq _ => ?_)
  · exact hQ H ds T P ws X none none m ⟨rfl, hnd, fun j h => h, fun j h => .inl h, fun j _ => rfl, fun x h => h, hfr, rfl, hS'.sub hp (by omega), fun s x e => by cases e⟩ (fun _ => rfl) (fun j _ h => h) rfl
  · obtain ⟨f1, f2, f3, f4, f5, f6, f7⟩ := hfr.pop hperm
    have hxa : x.toNat ≠ a := fun e => f3 (by rw [e]; exact haP)
    have hxl : x.toNat < T.length := by omega
    have ta : ((T.set a (cutL p (cutAt p))).set x.toNat (cutR p (cutAt p)))[a]? = some (cutL p (cutAt p)) := by rw [List.getElem?_set_ne hxa, List.getElem?_set_self hlt]
    have tx : ((T.set a (cutL p (cutAt p))).set x.toNat (cutR p (cutAt p)))[x.toNat]? = some (cutR p (cutAt p)) := by rw [List.getElem?_set_self (by simpa using hxl)]
    have to : ∀ j, j ≠ a → j ≠ x.toNat → ((T.set a (cutL p (cutAt p))).set x.toNat (cutR p (cutAt p)))[j]? = T[j]? := fun j h1 h2 => by rw [List.getElem?_set_ne (Ne.symm h2), List.getElem?_set_ne (Ne.symm h1)]
    obtain ⟨PX, psX, PY, psY, s1, s2, s3, s4, s5, s6, s7, s8⟩ := split_sub hS' hp h hnd f3 (fun j hj hja => to j hja fun e => f3 (by rw [← e]; exact hj)) ta tx hk
    refine hQ H' ds' _ (PX ++ PY) init _ (some (p.keys[cutAt p], x)) (some (lq, 0)) m' ⟨by simp, s4, fun j hj => (s5 j).2 (.inl hj), fun j hj => ?_, fun j hj => ?_, f6, ⟨f1.rng, f1.nd, fun y hy hy' => ?_⟩, by omega, ?_, fun s x' e => by cases e; exact f5⟩ (fun e => by cases e) (fun j hj hx => ⟨fun e => hj ((s5 j).2 (.inr e)), fun e => hj ((s5 j).2 (.inl (by rw [e]; exact haP))), hx⟩) ⟨lq, rfl, hq⟩
    · rcases (s5 j).1 hj with q | q
      · exact .inl q
      · exact .inr ⟨x, f5, q.symm⟩
    · exact to j (fun e => hj ((s5 j).2 (.inl (by rw [e]; exact haP)))) fun e => hj ((s5 j).2 (.inr e))
    · rcases (s5 _).1 hy' with q | q
      · exact f1.out y hy q
      · exact f4 y hy q
    · refine ⟨PX, psX, PY, psY, s1, s2, rfl, s3, s7, s8, hf.keys _ (List.getElem_mem hk), f2.1, f2.2, fun q => ?_⟩
      exact (List.nodup_append.1 s4).2.2 _ q _ s2.1.head rfl

/-- a key put in below a page -/
structure PutR (T T' : List Pg) (d a : Nat) (key v : ByteArray) (P P' : List Nat) (ws ws' : List Int) (ps : KV) (r : Option (ByteArray × Int)) : Prop where
  fin : Fin2 T T' d a P P' ws ws' (insK ps key v) r
  keys : r = none → ∃ p q, T[a]? = some p ∧ T'[a]? = some q ∧ p.keys.length ≤ q.keys.length
  was : (findK ps key).isSome = true → r = none ∧ P' = P ∧ ws' = ws ∧ ∃ i p, i ∈ P ∧ T[i]? = some p ∧ p.leaf = true ∧ slotB p.keys key = true ∧ T' = T.set i (setP p key v)
theorem find_leaf (hS : Sub T d a P ps) (hp : T[a]? = some p) (hl : p.leaf = true) : (findK ps key).isSome = slotB p.keys key := by
  have hm := hS.may hp
  obtain ⟨e1, e2, e3⟩ := hS.leafD hp hl
  obtain ⟨f1, f2, f3⟩ := hm.2.leaf hl
  rw [e3, findK_zip (rising_pw hm.2.rising) f1]
  cases hb : slotB p.keys key with
  | false => rfl
  | true =>
    obtain ⟨hs, _⟩ := slot_at hb
    show (p.vals[slotN p.keys key]?).isSome = true
    rw [List.getElem?_eq_getElem (by omega)]; rfl
set_option maxRecDepth 10000 in
theorem leaf_put (m : WM B H le tp ds T X fa ws) (hS : Sub T d a P ps) (hp : T[a]? = some p) (hl : p.leaf = true) (hX : X a) (hfr : Frees P ws) (hcnt : 3 * ps.length + 3 ≤ 4 * (ws.length + P.length)) (h1 : 1 ≤ key.size) (h2 : key.size ≤ 6) (h3 : v.size ≤ 10)
    (hQ : ∀ H' ds' T' P' ws' X' r rp, WM B H' le tp ds' T' X' fa ws' → PutR T T' d a key v P P' ws ws' ps r → (∀ j, j ∉ P' → X j → X' j) → Rp H' r rp → Q (.g (.ptr rp)) H') :
    insert_writer_leaf [.g (.ptr (some (le, 0))), .g (.int .i64 (a : Int)), .g (.str key), .g (.str v)] H Q := by
  have q1 := m.g.ot.len
  have q2 := m.g.ot.lenT
  have hlt := (List.getElem?_eq_some_iff.1 hp).1
  have eT : T[a]'hlt = p := (List.getElem?_eq_some_iff.1 hp).2
  have hm := hS.may hp
  have h4 := hm.1
  obtain ⟨e1, e2, e3⟩ := hS.leafD hp hl
  obtain ⟨f1, f2, f3⟩ := hm.2.leaf hl
  have hat := m.g.ot.all a (by omega) hlt
  rw [eT] at hat
  obtain ⟨a0, a1, a2, a3, a4⟩ := m.g.cells (i := a) (by omega)
  have ei : tN (a : Int) = a := rfl
  have hsl : slotN p.keys key ≤ p.keys.length := slotN_le
  refine ⟨1, ?_⟩
  rw [insert_writer_leaf_eq, pS_some, Nat.add_zero, rd_of m.gtE, dL_sl, chk_true]
  refine chk_of (by simp; omega) ?_
  rw [pS_some, ei, rd_of a2, dL_sl]
  refine node_Slot_spec hat.keys ?_
  simp only [rT_tup, uR_cons, rS_s, dI_int, dB_bool, uE_nil]
  cases hb : slotB p.keys key with
  | true =>
    rw [bite_t rfl]
    obtain ⟨hs, hk⟩ := slot_at hb
    have hasc := hS.asc.1
    obtain ⟨L, v0, R, es, hS2⟩ := Sub.setVal (v := v) hp hl hb h3 hS (by rw [e2]; simp) (by rw [e2]; simp)
    have hL : ∀ x ∈ L, blt x.1 key = true := fun x hx => by
      rw [es] at hasc
      exact (List.pairwise_append.1 hasc).2.2 x hx _ List.mem_cons_self
    have eins : insK ps key v = L ++ (key, v) :: R := by rw [es]; exact insK_mid hL
    refine m.setVal hp hX (s := slotN p.keys key) (v := v) (by omega) (small_may hm) (by omega) fun H' ds' m' => ?_
    refine hQ H' ds' _ P ws X none none m' ⟨⟨by simp, by rw [e2]; simp, fun j h => h, fun j h => .inl h, fun j hj => ?_, fun x h => h, hfr, rfl, by rw [eins]; exact hS2, fun s x e => by cases e⟩, fun _ => ⟨p, _, hp, List.getElem?_set_self hlt, Nat.le_refl _⟩, fun _ => ⟨rfl, rfl, rfl, a, p, by rw [e2]; simp, hp, hl, hb, rfl⟩⟩ (fun j _ h => h) rfl
    rw [List.getElem?_set_ne]; intro e; subst e; exact hj (by rw [e2]; simp)
  | false =>
    rw [bite_f rfl]
    obtain ⟨g1, g2, hF⟩ := ins_leaf (v := v) hS hp hl hb h1 h2 h3
    refine m.insLeaf hp hX hsl f1 (small_may hm) (by omega) (by omega) (by omega) fun H1 ds1 m1 => ?_
    have hp1 : (T.set a (insP p (slotN p.keys key) key v))[a]? = some (insP p (slotN p.keys key) key v) := List.getElem?_set_self hlt
    have hk1 : (insP p (slotN p.keys key) key v).keys.length = p.keys.length + 1 := by
      show (p.keys.take _ ++ key :: p.keys.drop _).length = _
      simp; omega
    have hps : ps.length = p.keys.length := by rw [e3, List.length_zip]; omega
    refine fin_spec m1 hF hp1 (by omega) (by rw [e2]; simp) hfr (fun h => ?_) fun H' ds' T' P' ws' X' r rp m' fin hnone hX' hrp => ?_
    · rw [e2] at hcnt
      intro e
      rw [e] at hcnt
      simp at hcnt; omega
    simp only [rG_g, dP_ptr]
    refine hQ H' ds' T' P' ws' X' r rp m' ⟨⟨by rw [fin.len]; simp, fin.nd, fin.sub, fin.new, fun j hj => ?_, fin.wsub, fin.fr, fin.count, fin.res, fin.half⟩, fun hr => ⟨p, _, hp, by rw [hnone hr]; exact hp1, by omega⟩, fun hf => ?_⟩ hX' hrp
    · rw [fin.out j hj, List.getElem?_set_ne]
      intro e; subst e; exact hj (fin.sub _ (by rw [e2]; simp))
    · rw [find_leaf hS hp hl, hb] at hf; cases hf
end
end Go.Am
namespace Go.Am

section
variable {T : List Pg} {d a : Nat} {p : Pg} {P : List Nat} {ps : KV} {key : ByteArray}
theorem PreR.pages {R : Nat → List Nat → KV → Prop} (hR : ∀ k P ps, R k P ps → 4 * P.length + 2 ≤ 3 * ps.length) : ∀ {ks : List Int} {ss : List ByteArray} {P : List Nat} {ps : KV}, PreR R ks ss P ps → 4 * P.length + 2 * ks.length ≤ 3 * ps.length
  | [], [], P, ps, h => by rw [h.1]; simp
  | k :: ks, s :: ss, P, ps, ⟨P1, ps1, P2, ps2, h1, h2, e1, e2, _, _⟩ => by
    have x := hR _ _ _ h1
    have y := PreR.pages hR h2
    subst e1; subst e2
    simp only [List.length_append, List.length_cons]
    omega
theorem SufR.pages {R : Nat → List Nat → KV → Prop} (hR : ∀ k P ps, R k P ps → 4 * P.length + 2 ≤ 3 * ps.length) {kc : List Int} {sc : List ByteArray} (h : SufR R kc sc P ps) : 4 * P.length + 2 * kc.length ≤ 3 * ps.length := by
  cases sc with
  | nil => rw [h.1, h.2.1]; simp
  | cons s sc => exact KidsR.pages hR h.1
theorem SubF.pages (h : SubF T d a P ps) (hp : T[a]? = some p) (h5 : p.keys.length = 5) : 4 * P.length + 8 ≤ 3 * ps.length := by
  obtain ⟨q, hq, hf, hc⟩ := h
  rw [hp] at hq
  obtain rfl := Option.some.inj hq
  rcases hc with ⟨e, h1, h2, h3⟩ | ⟨h1, d', P', e, h2, h3⟩
  · have := (hf.leaf h1).1
    subst h2; subst h3
    simp [List.length_zip]; omega
  · have x := KidsR.pages (fun _ _ _ h => SubB.pages h) h3
    have y := (hf.inner h1).2.2.1
    subst h2
    simp only [List.length_cons]; omega
theorem isN0 : isNone (none : Pl) = true := rfl
theorem isN1 (q : Nat × Nat) : isNone (some q : Pl) = false := rfl
theorem findK_ex : (findK ps key).isSome = true ↔ ∃ e ∈ ps, e.1 = key := by
  rw [findK_is, List.any_eq_true]
  simp
end
section
variable {B : Hp} {le tp : Nat} {fa : Pl} {key v : ByteArray}
set_option maxRecDepth 100000 in
theorem put_spec (h1 : 1 ≤ key.size) (h2 : key.size ≤ 6) (h3 : v.size ≤ 10) : ∀ (d : Nat) {H : Hp} {ds : List PC} {T : List Pg} {X : Nat → Prop} {ws : List Int} {a : Nat} {P : List Nat} {ps : KV} {p : Pg} {Q : Post}, WM B H le tp ds T X fa ws → Sub T d a P ps → P.Nodup → (∀ i ∈ P, X i) → Frees P ws → T[a]? = some p →
    (3 * ps.length + 5 ≤ 4 * (ws.length + P.length) ∨ (2 ≤ p.keys.length ∧ 3 * ps.length + 3 ≤ 4 * (ws.length + P.length))) →
    (hQ : ∀ H' ds' T' P' ws' X' r rp, WM B H' le tp ds' T' X' fa ws' → PutR T T' d a key v P P' ws ws' ps r → (∀ j, j ∉ P' → X j → X' j) → Rp H' r rp → Q (.g (.ptr rp)) H') →
    insert_writer_put.at d [.g (.ptr (some (le, 0))), .g (.int .i64 (a : Int)), .g (.str key), .g (.str v)] H Q
  | 0, H, ds, T, X, ws, a, P, ps, p, Q, m, hS, _, _, _, _, _, _ => hS.elim
  | n + 1, H, ds, T, X, ws, a, P, ps, p, Q, m, hS, hnd, hX, hfr, hp, hcnt, hQ => by
    have q1 := m.g.ot.len
    have q2 := m.g.ot.lenT
    have hm := hS.may hp
    have hlt := (List.getElem?_eq_some_iff.1 hp).1
    have eTa : T[a]'hlt = p := (List.getElem?_eq_some_iff.1 hp).2
    have at_a := m.g.ot.all a (by omega) hlt
    rw [eTa] at at_a
    obtain ⟨a0, a1, a2, a3, a4⟩ := m.g.cells (i := a) (by omega)
    have ea : tN (a : Int) = a := rfl
    have hsm := small_may hm
    have hlf := at_a.leaf
    refine ⟨1, ?_⟩
    rw [insert_writer_put_eq, pS_some, Nat.add_zero, rd_of m.gtE, dL_sl, chk_true]
    refine chk_of (by simp; omega) ?_
    rw [pS_some, ea, rd_of a1, dB_bool]
    cases hl : p.leaf with
    | true =>
      rw [bite_t (by rw [← hlf, hl])]
      refine leaf_put m hS hp hl (hX a hS.head) hfr (by omega) h1 h2 h3 fun H' ds' T' P' ws' X' r rp m' pr hx hr => ?_
      simp only [rG_g, dP_ptr]
      exact hQ H' ds' T' P' ws' X' r rp m' pr hx hr
    | false =>
      rw [bite_f (by rw [← hlf, hl])]
      obtain ⟨d, PA, psA, Pi, psi, PC, psC, ed, kd⟩ := kid_split (key := key) hS hp hl
      obtain rfl : n = d + 1 := by omega
      obtain ⟨f1, f2, f3, f4, f5⟩ := hm.2.inner hl
      have hnd' := hnd
      rw [kd.eP] at hnd'
      have n0 := List.nodup_cons.1 hnd'
      have n1 := List.nodup_append.1 n0.2
      have n2 := List.nodup_append.1 n1.2.1
      have hi := kd.hi
      have hm4 := hm.1
      have kr := f4 _ (List.getElem_mem hi)
      have ek : p.kids[kidN p.keys key] = (((p.kids[kidN p.keys key]).toNat : Nat) : Int) := by omega
      have inP : ∀ i ∈ Pi, i ∈ P := fun i h => by rw [kd.eP]; simp [h]
      have aPi : a ∉ Pi := fun h => n0.1 (by simp [h])
      have kle := (kidN_split (key := key) (rising_pw hm.2.rising)).2.2
      -- pages
      have c1 := PreR.pages (fun _ _ _ h => SubB.pages h) kd.pre
      have c2 := SufR.pages (fun _ _ _ h => SubB.pages h) kd.suf
      have c3 : P.length = 1 + (PA.length + (Pi.length + PC.length)) := by rw [kd.eP]; simp; omega
      have c4 : ps.length = psA.length + (psi.length + psC.length) := by rw [kd.eps]; simp
      have c5 : (p.kids.take (kidN p.keys key)).length = kidN p.keys key := by simp; omega
      have c6 : (p.kids.drop (kidN p.keys key + 1)).length = p.kids.length - (kidN p.keys key + 1) := by simp
      rw [c5] at c1
      rw [c6] at c2
      obtain ⟨kq, hkq, hkq2⟩ := kd.kid.2
      refine find_Kid_spec (o := 0 + a * 5) a2 at_a.keys ?_
      simp only [rG_g, dI_int]
      rw [rd_of a4, dL_sl, chk_true, at_a.kids.rd _ rfl hi, ek]
      refine put_spec h1 h2 h3 (d + 1) m kd.kid.1 n2.1 (fun i h => hX i (inP i h)) ⟨hfr.rng, hfr.nd, fun x hx hxi => hfr.out x hx (inP _ hxi)⟩ hkq (.inr ⟨hkq2, by omega⟩) ?_
      intro H1 ds1 T1 Pi' ws1 X1 r rp m1 pr hX1 hrp
      have r1 := m1.g.ot.len
      have r2 := m1.g.ot.lenT
      have fi := pr.fin
      have frOut : ∀ x ∈ ws, x.toNat ∉ P := hfr.out
      have memPi : ∀ j ∈ Pi', j ∈ P → j ∈ Pi := fun j hj hjP => by
        rcases fi.new j hj with q | ⟨x, hx, e⟩
        · exact q
        · exact (frOut x hx (by rw [e]; exact hjP)).elim
      have aPi' : a ∉ Pi' := fun h => aPi (memPi a h hS.head)
      have hp1 : T1[a]? = some p := by rw [fi.out a aPi']; exact hp
      have eTa1 : T1[a]'(by omega) = p := (List.getElem?_eq_some_iff.1 hp1).2
      have disjA : ∀ j ∈ PA ++ PC, j ∉ Pi' := fun j hj h => by
        have hjP : j ∈ P := by rw [kd.eP]; simp only [List.mem_append] at hj; rcases hj with z | z <;> simp [z]
        have := memPi j h hjP
        rcases List.mem_append.1 hj with z | z
        · exact n1.2.2 j z j (by simp [this]) rfl
        · exact n2.2.2 j this j z rfl
      have hA : ∀ j ∈ PA ++ PC, T1[j]? = T[j]? := fun j hj => fi.out j (disjA j hj)
      have hx1a : X1 a := hX1 a aPi' (hX a hS.head)
      have hfind : (findK ps key).isSome = true → (findK psi key).isSome = true := fun h => findK_ex.2 (kd.mem (findK_ex.1 h)).1
      simp only [rG_g, dP_ptr]
      have key1 : ∀ {P1 : List Nat}, (∀ j, j ∈ P1 ↔ j ∈ Pi') → (a :: (PA ++ (P1 ++ PC))).length = 1 + (PA.length + (Pi'.length + PC.length)) → P1.Nodup →
          (a :: (PA ++ (P1 ++ PC))).Nodup ∧ (∀ j ∈ P, j ∈ a :: (PA ++ (P1 ++ PC))) ∧ (∀ j ∈ a :: (PA ++ (P1 ++ PC)), j ∈ P ∨ ∃ x ∈ ws, x.toNat = j) ∧ (∀ x ∈ ws1, x.toNat ∉ a :: (PA ++ (P1 ++ PC))) := fun {P1} hm1 hl1 hn1 => by
        refine ⟨List.nodup_cons.2 ⟨fun h => ?_, List.nodup_append.2 ⟨n1.1, List.nodup_append.2 ⟨hn1, n2.2.1, fun u hu w hw e => ?_⟩, fun u hu w hw e => ?_⟩⟩, fun j hj => ?_, fun j hj => ?_, fun x hx h => ?_⟩
        · simp only [List.mem_append] at h
          rcases h with z | z | z
          · exact n0.1 (by simp [z])
          · exact aPi' ((hm1 a).1 z)
          · exact n0.1 (by simp [z])
        · subst e; exact disjA u (by simp [hw]) ((hm1 u).1 hu)
        · subst e
          rcases List.mem_append.1 hw with z | z
          · exact disjA u (by simp [hu]) ((hm1 u).1 z)
          · exact n1.2.2 u hu u (by simp [z]) rfl
        · rw [kd.eP] at hj
          simp only [List.mem_cons, List.mem_append] at hj ⊢
          rcases hj with z | z | z | z
          · exact .inl z
          · exact .inr (.inl z)
          · exact .inr (.inr (.inl ((hm1 j).2 (fi.sub j z))))
          · exact .inr (.inr (.inr z))
        · simp only [List.mem_cons, List.mem_append] at hj
          rw [kd.eP]
          rcases hj with z | z | z | z
          · exact .inl (by simp [z])
          · exact .inl (by simp [z])
          · rcases fi.new j ((hm1 j).1 z) with q | q
            · exact .inl (by simp [q])
            · exact .inr q
          · exact .inl (by simp [z])
        · have hxw := fi.wsub x hx
          have nP := frOut x hxw
          rw [kd.eP] at nP
          simp only [List.mem_cons, List.mem_append] at h nP
          rcases h with z | z | z | z
          · exact nP (.inl z)
          · exact nP (.inr (.inl z))
          · exact fi.fr.out x hx ((hm1 _).1 z)
          · exact nP (.inr (.inr (.inr z)))
      have cnt1 := fi.count
      cases r with
      | none =>
        have hrp' : rp = none := hrp
        subst hrp'
        rw [isN0, bite_t rfl]
        obtain ⟨p0, p1', hp0, hp1', hkk⟩ := pr.keys rfl
        rw [hkq] at hp0
        obtain rfl := Option.some.inj hp0
        have hsub : SubB T1 (d + 1) (p.kids[kidN p.keys key]).toNat Pi' (insK psi key v) := ⟨fi.res, p1', hp1', by omega⟩
        have hfin := kd.put1 hp hm hl rfl hA hp1 hsub
        obtain ⟨k1, k2, k3, k4⟩ := key1 (P1 := Pi') (fun j => Iff.rfl) (by simp; omega) fi.nd
        refine hQ H1 ds1 T1 _ ws1 X1 none none m1 ⟨⟨fi.len, k1, k2, k3, fun j hj => fi.out j fun h => hj (by simp [h]), fi.wsub, ⟨fi.fr.rng, fi.fr.nd, k4⟩, by simp only [List.length_cons, List.length_append]; omega, hfin, fun s x e => by cases e⟩, fun _ => ⟨p, p, hp, hp1, Nat.le_refl _⟩, fun hf => ?_⟩ (fun j hj hx => hX1 j (fun h => hj (by simp [h])) hx) rfl
        obtain ⟨w1, w2, w3, i, pi, w4, w5⟩ := pr.was (hfind hf)
        exact ⟨rfl, by rw [w2, kd.eP], w3, i, pi, inP i w4, w5⟩
      | some sx =>
        obtain ⟨s, x⟩ := sx
        obtain ⟨lq, e, hq⟩ := hrp
        subst e
        rw [isN1, bite_f rfl]
        obtain ⟨PX, psX, PY, psY, s1, s2, s3, s4, s5, s6, s7, s8, s9, s10⟩ := fi.res
        have ex : (x.toNat : Int) = x := by omega
        have hxw := fi.half s x rfl
        have hxP : x.toNat ∉ P := frOut x hxw
        have hmm : ∀ j, j ∈ PX ++ PY ↔ j ∈ Pi' := fun j => by rw [s3]
        refine m1.insInner hp1 hx1a kle f3 hsm (by omega) hq (by omega) fun H2 ds2 m2 => ?_
        have hlt1 := (List.getElem?_eq_some_iff.1 hp1).1
        have hp2 : (T1.set a (insI p (kidN p.keys key) s x))[a]? = some (insI p (kidN p.keys key) s x) := List.getElem?_set_self hlt1
        have out2 : ∀ j, j ≠ a → (T1.set a (insI p (kidN p.keys key) s x))[j]? = T1[j]? := fun j hj => List.getElem?_set_ne (Ne.symm hj)
        have nX : ∀ j ∈ PX ++ PY, j ≠ a := fun j hj e => aPi' ((hmm a).1 (by rw [← e]; exact hj))
        have nA : ∀ j ∈ PA ++ PC, j ≠ a := fun j hj e => by
          subst e
          rcases List.mem_append.1 hj with z | z
          · exact n0.1 (by simp [z])
          · exact n0.1 (by simp [z])
        have hSF := kd.put2 (T1 := T1.set a (insI p (kidN p.keys key) s x)) (f := x.toNat) (v := v) hp hm hl rfl hxP (by omega) (by omega) s7 (fun j hj => by rw [out2 j (nA j hj)]; exact hA j hj)
          (s1.keep fun j hj => out2 j (nX j (by simp [hj]))) (s2.keep fun j hj => out2 j (nX j (by simp [hj]))) s4 s5 s6 (by rw [ex]; exact hp2)
        have hk5 : (insI p (kidN p.keys key) s x).keys.length = p.keys.length + 1 := by
          show (p.keys.take _ ++ s :: p.keys.drop _).length = _
          simp; omega
        have eas : PX ++ (PY ++ PC) = (PX ++ PY) ++ PC := by simp
        rw [eas] at hSF
        have hl3 : (PX ++ PY).length = Pi'.length := by rw [s3]
        obtain ⟨k1, k2, k3, k4⟩ := key1 (P1 := PX ++ PY) hmm (by simp only [List.length_cons, List.length_append] at hl3 ⊢; omega) (by rw [← s3]; exact fi.nd)
        have hfr1 : Frees (a :: (PA ++ ((PX ++ PY) ++ PC))) ws1 := ⟨fi.fr.rng, fi.fr.nd, k4⟩
        have hlen1 : (a :: (PA ++ ((PX ++ PY) ++ PC))).length = 1 + (PA.length + (Pi'.length + PC.length)) := by simp only [List.length_cons, List.length_append] at hl3 ⊢; omega
        have hins := insK_le (k := key) (v := v) hS.asc.1
        refine fin_spec m2 hSF hp2 (by omega) k1 hfr1 (fun h5 e => ?_) fun H3 ds3 T3 P3 ws3 X3 r3 rp3 m3 fin3 hn3 hX3 hrp3 => ?_
        · have := hSF.pages hp2 h5
          rw [hlen1] at this
          rw [e] at cnt1
          simp only [List.length_nil] at cnt1
          omega
        simp only [rG_g, dP_ptr]
        have cnt3 := fin3.count
        rw [hlen1] at cnt3
        have inP3 : ∀ j ∈ a :: (PA ++ ((PX ++ PY) ++ PC)), j ∈ P3 := fin3.sub
        have inP4 : ∀ j ∈ Pi', j ∈ P3 := fun j h => inP3 j (List.mem_cons_of_mem _ (List.mem_append.2 (.inr (List.mem_append.2 (.inl ((hmm j).2 h))))))
        refine hQ H3 ds3 T3 P3 ws3 X3 r3 rp3 m3 ⟨⟨by rw [fin3.len]; simp [fi.len], fin3.nd, fun j hj => inP3 j (k2 j hj), fun j hj => ?_, fun j hj => ?_, fun y hy => fi.wsub y (fin3.wsub y hy), fin3.fr, by omega, fin3.res, fun s' x' e => fi.wsub x' (fin3.half s' x' e)⟩, fun hr => ⟨p, _, hp, by rw [hn3 hr]; exact hp2, by omega⟩, fun hf => ?_⟩ (fun j hj hx => hX3 j hj (hX1 j (fun h => hj (inP4 j h)) hx)) hrp3
        · rcases fin3.new j hj with q | ⟨y, hy, e⟩
          · exact k3 j q
          · exact .inr ⟨y, fi.wsub y hy, e⟩
        · rw [fin3.out j hj, out2 j (fun e => hj (inP3 j (by simp [e])))]
          exact fi.out j fun h => hj (inP4 j h)
        · have := (pr.was (hfind hf)).1
          cases this
end
end Go.Am
namespace Go.Am

/-! a tree's pages, used and free -/
theorem KidsR.pagesMay {R : Nat → List Nat → KV → Prop} {G : Nat → Prop} (hR : ∀ k P ps, R k P ps → ∀ i ∈ P, G i) : ∀ {ks : List Int} {ss : List ByteArray} {P : List Nat} {ps : KV}, KidsR R ks ss P ps → ∀ i ∈ P, G i
  | [], _, _, _, h, _, _ => h.elim
  | k :: ks, [], P, ps, h, i, hi => hR _ _ _ h.2 i hi
  | k :: ks, s :: ss, P, ps, ⟨P1, ps1, P2, ps2, h1, h2, e1, e2, _, _⟩, i, hi => by
    subst e1
    rcases List.mem_append.1 hi with q | q
    · exact hR _ _ _ h1 i q
    · exact KidsR.pagesMay hR h2 i q
theorem Sub.pagesMay {T : List Pg} : ∀ {d a : Nat} {P : List Nat} {ps : KV}, Sub T d a P ps → ∀ i ∈ P, ∃ p, T[i]? = some p ∧ MayP p
  | 0, _, _, _, h, _, _ => h.elim
  | d + 1, a, P, ps, h, i, hi => by
    obtain ⟨p, hp, hm, ⟨_, _, e, _⟩ | ⟨_, P', e, hk⟩⟩ := h
    · subst e; rw [List.mem_singleton.1 hi]; exact ⟨p, hp, hm⟩
    · subst e
      rcases List.mem_cons.1 hi with q | q
      · rw [q]; exact ⟨p, hp, hm⟩
      · exact KidsR.pagesMay (G := fun i => ∃ p, T[i]? = some p ∧ MayP p) (fun k P ps h i hi => Sub.pagesMay h.1 i hi) hk i q
def usedAt (T : List Pg) (i : Nat) : Bool := match T[i]? with | some p => p.used | none => false
section
variable {T T' : List Pg} {d : Nat} {P : List Nat} {ps : KV}
theorem Whole.used (w : Whole T d P ps) {i : Nat} (hi : i < 48) : i ∈ P ↔ usedAt T i = true := by
  have hl := w.len
  have hp : T[i]? = some (T[i]'(by omega)) := List.getElem?_eq_getElem (by omega)
  constructor
  · intro h
    obtain ⟨p, hp', hm⟩ := w.sub.pagesMay i h
    unfold usedAt; rw [hp']; exact hm.2.used
  · intro h
    refine Decidable.byContradiction fun q => ?_
    have := w.rest i _ hp q
    unfold usedAt at h
    rw [hp] at h
    have h' : (T[i]'(by omega)).used = true := h
    unfold nothingB at this
    rw [h'] at this; cases this
/-- pages that are free, as numbers, below k -/
def freeN (T : List Pg) (k : Nat) : List Int := List.map (fun i : Nat => (i : Int)) ((List.range k).filter fun i => !usedAt T i)
theorem freeN_succ (T : List Pg) (k : Nat) : freeN T (k + 1) = freeN T k ++ (match usedAt T k with | true => [] | false => [(k : Int)]) := by
  unfold freeN
  rw [List.range_succ, List.filter_append, List.map_append]
  congr 1
  cases h : usedAt T k <;> simp [h]
theorem freeN_mem {k : Nat} {x : Int} : x ∈ freeN T k ↔ ∃ i : Nat, x = i ∧ i < k ∧ usedAt T i = false := by
  unfold freeN
  simp only [List.mem_map, List.mem_filter, List.mem_range, Bool.not_eq_true']
  constructor
  · rintro ⟨i, ⟨h1, h2⟩, e⟩; exact ⟨i, e.symm, h1, h2⟩
  · rintro ⟨i, e, h1, h2⟩; exact ⟨i, ⟨h1, h2⟩, e.symm⟩
theorem freeN_nodup (T : List Pg) (k : Nat) : (freeN T k).Nodup := by
  unfold freeN
  rw [List.Nodup, List.pairwise_map]
  exact ((List.nodup_range (n := k)).sublist List.filter_sublist).imp fun h e => h (by omega)
theorem filter_add (q : Nat → Bool) : ∀ l : List Nat, (l.filter q).length + (l.filter fun i => !q i).length = l.length
  | [] => rfl
  | x :: l => by
    have := filter_add q l
    cases h : q x <;> simp [h] <;> omega
theorem Whole.frees (w : Whole T d P ps) {ws : List Int} (hp : ws.Perm (freeN T 48)) : Frees P ws ∧ ws.length + P.length = 48 := by
  have h0 : 0 ∈ P := w.sub.head
  refine ⟨⟨fun x hx => ?_, hp.nodup_iff.2 (freeN_nodup T 48), fun x hx hxP => ?_⟩, ?_⟩
  · obtain ⟨i, e, hi, hu⟩ := freeN_mem.1 (hp.mem_iff.1 hx)
    have : i ≠ 0 := fun q => by
      subst q
      rw [(w.used (by omega)).1 h0] at hu; cases hu
    omega
  · obtain ⟨i, e, hi, hu⟩ := freeN_mem.1 (hp.mem_iff.1 hx)
    subst e
    have : (i : Int).toNat = i := rfl
    rw [this, w.used hi, hu] at hxP
    cases hxP
  · have hperm : P.Perm ((List.range 48).filter fun i => usedAt T i) := by
      refine (List.perm_ext_iff_of_nodup w.nodup ((List.nodup_range (n := 48)).sublist List.filter_sublist)).2 fun i => ?_
      rw [List.mem_filter, List.mem_range]
      constructor
      · intro h
        have := w.sub.inT i h
        rw [w.len] at this
        exact ⟨this, (w.used this).1 h⟩
      · rintro ⟨h1, h2⟩; exact (w.used h1).2 h2
    rw [hperm.length_eq, hp.length_eq]
    unfold freeN
    rw [List.length_map]
    have := filter_add (fun i => usedAt T i) (List.range 48)
    rw [List.length_range] at this
    omega

/-- how many keys leaves have -/
def leafSum (T : List Pg) : Nat := (T.map gK).sum
theorem leafSum_used (h : 0 < heightD T) : leafSum T = (entD T).length := by
  obtain ⟨st, s⟩ := SF.of h
  have e1 := s.sums.1
  rw [← e1]
  have hp := sound_pages h
  have : ∀ l : List Pg, (∀ p ∈ l, p ∈ T) → (l.map gK).sum = usedSum gK l := by
    intro l
    induction l with
    | nil => intro _; rfl
    | cons p l ih =>
      intro hl
      have i1 := ih fun q hq => hl q (List.mem_cons_of_mem _ hq)
      unfold usedSum at i1 ⊢
      rw [List.map_cons, List.sum_cons, List.map_cons, List.sum_cons, i1]
      congr 1
      rcases hp p (hl p (by simp)) with q | q
      · rw [((mayB_iff p).1 q).2.used]
      · rw [q]; rfl
  exact this T fun p hp => hp

/-- a root that was split -/
theorem sub_move' {k t : Nat} {p : Pg} (h : Sub T d k P ps) (hp : T[k]? = some p) (h0 : T'[t]? = some p) (hk : P.Nodup) (hT : ∀ i ∈ P, i ≠ k → T'[i]? = T[i]?) : Sub T' d t (t :: P.tail) ps := by
  have hm := h.may hp
  cases hl : p.leaf with
  | true =>
    obtain ⟨e, eP, es⟩ := h.leafD hp hl
    subst e; subst eP
    exact ⟨p, h0, hm, .inl ⟨rfl, hl, rfl, es⟩⟩
  | false =>
    obtain ⟨d', P', e, eP, kk⟩ := h.innD hp hl
    subst e; subst eP
    have hn := List.nodup_cons.1 hk
    exact ⟨p, h0, hm, .inr ⟨hl, P', rfl, kk.imp fun j Q qs hb hin => hb.keep fun i hi => hT i (by simp [hin i hi]) fun e => hn.1 (by rw [← e]; exact hin i hi)⟩⟩
theorem Sub.eHead {a : Nat} (h : Sub T d a P ps) : P = a :: P.tail := by
  cases d with
  | zero => exact h.elim
  | succ d => obtain ⟨p, _, _, ⟨_, _, e, _⟩ | ⟨_, P', e, _⟩⟩ := h <;> simp [e]
theorem root_up {PX PY : List Nat} {psX psY qs : KV} {s : ByteArray} {x y : Int} {r : Pg} (hX : SubB T d 0 PX psX) (hY : SubB T d x.toNat PY psY) (hq : psX ++ psY = qs) (lt : ∀ e ∈ psX, blt e.1 s = true) (ge : ∀ e ∈ psY, blt e.1 s = false) (hs : 1 ≤ s.size ∧ s.size ≤ 6)
    (hx : 1 ≤ x ∧ x < 48) (hy : 1 ≤ y ∧ y < 48) (hnd : (PX ++ PY).Nodup) (hyP : y.toNat ∉ PX ++ PY) (hr : T[0]? = some r) (hlen : T.length = 48) (hrest : ∀ i p, T[i]? = some p → i ∉ PX ++ PY → nothingB p = true) (hc : qs.length ≤ 60) :
    ∃ P, Whole ((T.set 0 ⟨true, false, [s], [], [y, x]⟩).set y.toNat r) (d + 1) P qs := by
  have eX := hX.1.eHead
  have n1 := List.nodup_append.1 hnd
  have n0 := n1.1
  rw [eX] at n0
  have n0' := List.nodup_cons.1 n0
  have h0X : 0 ∈ PX := hX.1.head
  have xY : x.toNat ∈ PY := hY.1.head
  have y0 : y.toNat ≠ 0 := by omega
  have x0 : x.toNat ≠ 0 := by omega
  have xy : y.toNat ≠ x.toNat := fun e => hyP (by rw [e]; simp [xY])
  have t0 : ((T.set 0 (⟨true, false, [s], [], [y, x]⟩ : Pg)).set y.toNat r)[0]? = some ⟨true, false, [s], [], [y, x]⟩ := by rw [List.getElem?_set_ne y0, List.getElem?_set_self (by omega)]
  have ty : ((T.set 0 (⟨true, false, [s], [], [y, x]⟩ : Pg)).set y.toNat r)[y.toNat]? = some r := by rw [List.getElem?_set_self (by simp; omega)]
  have to : ∀ i, i ≠ 0 → i ≠ y.toNat → ((T.set 0 (⟨true, false, [s], [], [y, x]⟩ : Pg)).set y.toNat r)[i]? = T[i]? := fun i h1 h2 => by rw [List.getElem?_set_ne (Ne.symm h2), List.getElem?_set_ne (Ne.symm h1)]
  have inY0 : ∀ i ∈ PY, i ≠ 0 := fun i hi e => n1.2.2 0 h0X i hi e.symm
  have iny : ∀ i ∈ PX ++ PY, i ≠ y.toNat := fun i hi e => hyP (by rw [← e]; exact hi)
  have sX := sub_move' (T' := (T.set 0 (⟨true, false, [s], [], [y, x]⟩ : Pg)).set y.toNat r) hX.1 hr ty n1.1 fun i hi hi0 => to i hi0 (iny i (by simp [hi]))
  have sY := hY.keep (T' := (T.set 0 (⟨true, false, [s], [], [y, x]⟩ : Pg)).set y.toNat r) fun i hi => to i (inY0 i hi) (iny i (by simp [hi]))
  obtain ⟨q, hq1, hq2⟩ := hX.2
  rw [hr] at hq1
  obtain rfl := Option.some.inj hq1
  have tlX : ∀ i ∈ PX.tail, i ∈ PX := fun i hi => List.mem_of_mem_tail hi
  refine ⟨0 :: ((y.toNat :: PX.tail) ++ PY), by simp [hlen], ⟨_, t0, ⟨by simp, ⟨rfl, ?_, fun k hk => ?_, fun e => (by cases e), fun _ => ⟨by simp, rfl, rfl, fun k hk => ?_, ?_⟩⟩⟩, .inr ⟨rfl, _, rfl, ?_⟩⟩, ?_, fun i p hp hi => ?_, hc⟩
  · exact pw_rising (by simp [Pw])
  · have hk' : k ∈ [s] := hk
    rw [List.mem_singleton.1 hk']; exact hs
  · simp only [List.mem_cons, List.not_mem_nil, or_false] at hk
    rcases hk with e | e
    · rw [e]; exact hy
    · rw [e]; exact hx
  · have : y ≠ x := fun e => xy (by rw [e])
    simp [this]
  · show KidsR _ [y, x] [s] _ _
    refine ⟨y.toNat :: PX.tail, psX, PY, psY, ⟨sX, _, ty, hq2⟩, ⟨rfl, sY⟩, rfl, hq.symm, lt, ge⟩
  · refine List.nodup_cons.2 ⟨fun h => ?_, List.nodup_append.2 ⟨List.nodup_cons.2 ⟨fun h => iny _ (by simp [tlX _ h]) rfl, n0'.2⟩, n1.2.1, fun u hu w hw e => ?_⟩⟩
    · simp only [List.mem_append, List.mem_cons] at h
      rcases h with (z | z) | z
      · exact y0 z.symm
      · exact n0'.1 z
      · exact inY0 0 z rfl
    · subst e
      rcases List.mem_cons.1 hu with z | z
      · exact iny u (by simp [hw]) z
      · exact n1.2.2 u (tlX u z) u hw rfl
  · simp only [List.mem_cons, List.mem_append, not_or] at hi
    rw [to i hi.1 hi.2.1.1] at hp
    refine hrest i p hp fun h => ?_
    rcases List.mem_append.1 h with z | z
    · rw [eX] at z
      rcases List.mem_cons.1 z with z | z
      · exact hi.1 z
      · exact hi.2.1.2 z
    · exact hi.2.2 z
end
section
variable {H : Hp} {Q : Post} {x : Pl} {n : Nat} {T : List Pg} {cs : List Am.PC}
theorem gK_le {p : Pg} (h : p.keys.length ≤ 1000) : gK p ≤ 1000 := by unfold gK; cases p.leaf <;> simp <;> omega
theorem entries_spec {l0 : Nat} (hT : Tr H x n cs T) (hg : gt H l0 0 = some (.sl x n 5)) (hn : n ≤ 48) (hs : ∀ p ∈ T, small p) (hQ : Q (.g (.int .i64 (leafSum T : Int))) H) : insert_entries [.g (.ptr (some (l0, 0)))] H Q := by
  have hlT := hT.lenT
  have sumle : ∀ k, k ≤ n → ((T.take k).map gK).sum ≤ 1000 * k := by
    intro k
    induction k with
    | zero => intro _; simp
    | succ k ih =>
      intro hk
      have hk' : k < T.length := by omega
      rw [List.take_succ_eq_append_getElem hk', List.map_append, List.sum_append]
      have := gK_le (hs _ (List.getElem_mem hk')).2.2.1
      simp only [List.map_cons, List.map_nil, List.sum_cons, List.sum_nil]
      have := ih (by omega)
      omega
  have loop : ∀ (f k : Nat), n - k < f → k ≤ n → insert_entries.l3 f ((((T.take k).map gK).sum : Nat) : Int) x n (nI n) (k : Int) H Q := by
    intro f
    induction f with
    | zero => intro k h; omega
    | succ f ih =>
      intro k hf hk
      rw [insert_entries.l3_eq]
      by_cases hkn : k < n
      · obtain ⟨l, o, c, p, rfl, hc, hpp, hpc, g0, g1, g2, g3, g4⟩ := hT.get hkn
        have etN : tN (k : Int) = k := rfl
        rw [bite_t (by simp; omega), chk_true]
        refine chk_of (by simp; omega) ?_
        rw [pS_some, etN, rdPage_of g0 g1 g2 g3 g4, wrap_succ (by omega)]
        have e1 := hpc.keys.len
        have hk' : k < T.length := by omega
        have eT : T[k] = p := (List.getElem?_eq_some_iff.1 hpp).2
        have es : ((T.take (k + 1)).map gK).sum = ((T.take k).map gK).sum + gK p := by
          rw [List.take_succ_eq_append_getElem hk', eT]; simp
        have b1 := sumle k (by omega)
        have b2 := gK_le (hs p (by rw [← eT]; exact List.getElem_mem hk')).2.2.1
        have b3 := (hs p (by rw [← eT]; exact List.getElem_mem hk')).2.2.1
        have next := ih (k + 1) (by omega) (by omega)
        rw [es] at next
        have hl := hpc.leaf
        unfold gK at next b2
        cases hpl : p.leaf with
        | true =>
          rw [hpl] at next
          rw [bite_t (by rw [← hl, hpl]), nI_def, e1, wrap64 (by omega) (by omega)]
          have e2 : (((T.take k).map gK).sum : Int) + (p.keys.length : Int) = ((((T.take k).map gK).sum + p.keys.length : Nat) : Int) := by omega
          rw [e2]
          exact next
        | false =>
          rw [hpl] at next
          rw [bite_f (by rw [← hl, hpl])]
          exact next
      · obtain rfl : k = n := by omega
        rw [bite_f (by simp), List.take_of_length_le (by omega)]
        exact hQ
  refine ⟨n + 2, ?_⟩
  rw [insert_entries_eq, pS_some, Nat.add_zero, rd_of hg, dL_sl]
  exact loop (n + 1) 0 (by omega) (Nat.zero_le _)
end
end Go.Am
