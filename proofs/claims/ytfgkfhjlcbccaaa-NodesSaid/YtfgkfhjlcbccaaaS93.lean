import Derived.Test.YtfgkfhjlcbccaaaS92
set_option linter.unusedVariables false
set_option linter.unusedSimpArgs false
namespace Go.Am
open Classical

def joinP (a : Pg) (k : ByteArray) (b : Pg) : Pg := ⟨a.used, a.leaf, (match a.leaf with | true => a.keys | false => a.keys ++ [k]) ++ b.keys, a.vals ++ b.vals, a.kids ++ b.kids⟩
def CanJoin (a : Pg) (k : ByteArray) (b : Pg) : Prop := MayP a ∧ MayP b ∧ a.leaf = b.leaf ∧ MayP (joinP a k b)
noncomputable def jo (a : Pg) (k : ByteArray) (b : Pg) : Pg := if CanJoin a k b then joinP a k b else noPg
noncomputable def joE (a : Pg) (k : ByteArray) (b : Pg) : Int := if CanJoin a k b then 0 else 900

section
variable {H : Hp} {Q : Post} {a : Pl} {n : Nat}
theorem clip_str {b : Nat} {cs : List GV} (h : Own H b 9 a n cs) (hQ : Q (.g (.sl a n 1)) H) : slices_Clip__string_string [.g (.sl a n 1)] H Q := by
  refine ⟨1, ?_⟩
  rw [slices_Clip__string_string_eq, chk_true]
  refine chk_of (by simp) (chk_of (by simp) ?_)
  rcases h with ⟨rfl, rfl, rfl⟩ | ⟨l, rfl, h1, h2, h3⟩
  · exact chk_of (by simp [ends]) hQ
  · refine chk_of ?_ ?_
    · simp [ends, h2, h3]
    · simpa using hQ
theorem clip_int {b : Nat} {cs : List GV} (h : Own H b 3 a n cs) (hQ : Q (.g (.sl a n 1)) H) : slices_Clip__int_int [.g (.sl a n 1)] H Q := by
  refine ⟨1, ?_⟩
  rw [slices_Clip__int_int_eq, chk_true]
  refine chk_of (by simp) (chk_of (by simp) ?_)
  rcases h with ⟨rfl, rfl, rfl⟩ | ⟨l, rfl, h1, h2, h3⟩
  · exact chk_of (by simp [ends]) hQ
  · refine chk_of ?_ ?_
    · simp [ends, h2, h3]
    · simpa using hQ
end

section
variable {H : Hp} {Q : Post} {u l : Bool} {a1 : Pl} {n1 : Nat} {a2 : Pl} {n2 : Nat} {a3 : Pl} {n3 : Nat} {p : Pg} {u' l' : Bool} {b1 : Pl} {m1 : Nat} {b2 : Pl} {m2 : Nat} {b3 : Pl} {m3 : Nat} {q : Pg} {key : ByteArray}
set_option maxRecDepth 4000 in
theorem node_Both_spec (h : PgAt H u l a1 n1 a2 n2 a3 n3 p) (h' : PgAt H u' l' b1 m1 b2 m2 b3 m3 q) (hs : n1 ≤ 100 ∧ n2 ≤ 100 ∧ n3 ≤ 100) (hs' : m1 ≤ 100 ∧ m2 ≤ 100 ∧ m3 ≤ 100)
    (hQ : ∀ u l a1 n1 a2 n2 a3 n3 H', H <+: H' → PgOwn H' H.length u l a1 n1 a2 n2 a3 n3 (joinP p key q) → Q (.agg [.bool u, .bool l, .sl a1 n1 1, .sl a2 n2 1, .sl a3 n3 1]) H') :
    node_Both [.agg [.bool u, .bool l, .sl a1 n1 1, .sl a2 n2 1, .sl a3 n3 1], .g (.str key), .agg [.bool u', .bool l', .sl b1 m1 1, .sl b2 m2 1, .sl b3 m3 1]] H Q := by
  refine ⟨2, ?_⟩
  rw [node_Both_eq]
  refine page_Copy_spec h (by omega) fun x1 x2 x3 H1 p1 o1 => ?_
  simp only [rA_agg, uC_cons, dB_bool, dL_sl, uN_nil]
  have key4 : ∀ (x1 : Pl) (k1 : Nat) (H1 : Hp) (r : Pg), k1 ≤ 101 → H <+: H1 → PgOwn H1 H.length u l x1 k1 x2 n2 x3 n3 r → (⟨r.used, r.leaf, r.keys ++ q.keys, r.vals ++ q.vals, r.kids ++ q.kids⟩ : Pg) = joinP p key q →
      node_Both.l4 1 u' l' b1 m1 b2 m2 b3 m3 false false none 0 none 0 none 0 u l x1 k1 x2 n2 x3 n3 H1 Q := by
    intro x1 k1 H1 r hk1 p1 o1 hks
    rw [node_Both.l4_eq, chk_true, Nat.mul_one, rdN_of (h'.mono p1).keys.cells, chk_true]
    refine o1.addKeys p1 q.keys rfl h'.keys.len (by omega) fun y1 H2 p2 o2 => ?_
    rw [chk_true, Nat.mul_one, rdN_of (h'.mono p2).vals.cells, chk_true]
    refine o2.addVals p2 q.vals rfl h'.vals.len (by omega) fun y2 H3 p3 o3 => ?_
    rw [chk_true, Nat.mul_one, rdN_of (h'.mono p3).kids.cells, chk_true]
    refine o3.addKids p3 q.kids rfl h'.kids.len (by omega) fun y3 H4 p4 o4 => ?_
    refine hQ _ _ _ _ _ _ _ _ _ p4 ?_
    rw [← hks]
    exact o4
  have hl := h.leaf
  cases l with
  | true =>
    rw [bite_f (by decide)]
    have e4 : (⟨p.used, p.leaf, p.keys ++ q.keys, p.vals ++ q.vals, p.kids ++ q.kids⟩ : Pg) = joinP p key q := by unfold joinP; rw [hl]
    have hk : n1 ≤ 101 := by omega
    have t0 := key4 x1
    have t00 := t0 n1
    have t01 := t00 H1
    have t1 := t01 p
    have t2 := t1 hk
    have := t2 p1
    have := this o1
    have := this e4
    exact this
  | false =>
    rw [bite_t (by decide), chk_true]
    refine o1.addKeys p1 [key] (m := 1) rfl rfl (by omega) fun y1 H2 p2 o2 => ?_
    exact key4 y1 (n1 + 1) H2 _ (by omega) p2 o2 (by unfold joinP; rw [hl])

theorem may_small (h : PgAt H u l a1 n1 a2 n2 a3 n3 p) (hm : MayP p) : n1 ≤ 100 ∧ n2 ≤ 100 ∧ n3 ≤ 100 := by
  have e1 := h.keys.len
  have e2 := h.vals.len
  have e3 := h.kids.len
  obtain ⟨h4, hf⟩ := hm
  cases hl : p.leaf with
  | true =>
    obtain ⟨f1, f2, f3⟩ := hf.leaf hl
    rw [f2, List.length_nil] at e3
    omega
  | false =>
    obtain ⟨f1, f2, f3, f4, f5⟩ := hf.inner hl
    rw [f2, List.length_nil] at e2
    omega

def JoQ (p : Pg) (key : ByteArray) (q : Pg) (H : Hp) (Q : Post) : Prop := ∀ u l a1 n1 a2 n2 a3 n3 H', H <+: H' → PgOwn H' H.length u l a1 n1 a2 n2 a3 n3 (jo p key q) →
  Q (.tup [.a [.bool u, .bool l, .sl a1 n1 1, .sl a2 n2 1, .sl a3 n3 1], .s (.int .i64 (joE p key q))]) H'
theorem JoQ.no (hQ : JoQ p key q H Q) (hn : ¬ CanJoin p key q) {H' : Hp} (hp : H <+: H') : Q (.tup [.a [.bool false, .bool false, .sl none 0 1, .sl none 0 1, .sl none 0 1], .s (.int .i64 900)]) H' := by
  have := hQ false false none 0 none 0 none 0 H' hp (by unfold jo; rw [if_neg hn]; exact noPg_own _ _)
  unfold joE at this
  rw [if_neg hn] at this
  exact this
theorem JoQ.yes (hQ : JoQ p key q H Q) (hs : CanJoin p key q) {H' : Hp} (hp : H <+: H') {u l : Bool} {a1 : Pl} {n1 : Nat} {a2 : Pl} {n2 : Nat} {a3 : Pl} {n3 : Nat} (ho : PgOwn H' H.length u l a1 n1 a2 n2 a3 n3 (joinP p key q)) :
    Q (.tup [.a [.bool u, .bool l, .sl a1 n1 1, .sl a2 n2 1, .sl a3 n3 1], .s (.int .i64 0)]) H' := by
  have := hQ u l a1 n1 a2 n2 a3 n3 H' hp (by unfold jo; rw [if_pos hs]; exact ho)
  unfold joE at this
  rw [if_pos hs] at this
  exact this
theorem PgOwn.base {b b' : Nat} (h : PgOwn H b u l a1 n1 a2 n2 a3 n3 p) (hb : b' ≤ b) : PgOwn H b' u l a1 n1 a2 n2 a3 n3 p :=
  ⟨h.used, h.leaf, h.keys.base hb, h.vals.base hb, h.kids.base hb, h.d12, h.d13, h.d23, h.small⟩

theorem node_Join_spec (h : PgAt H u l a1 n1 a2 n2 a3 n3 p) (h' : PgAt H u' l' b1 m1 b2 m2 b3 m3 q) (hQ : JoQ p key q H Q) :
    node_Join [.agg [.bool u, .bool l, .sl a1 n1 1, .sl a2 n2 1, .sl a3 n3 1], .g (.str key), .agg [.bool u', .bool l', .sl b1 m1 1, .sl b2 m2 1, .sl b3 m3 1]] H Q := by
  refine ⟨1, ?_⟩
  rw [node_Join_eq]
  refine page_May_spec h fun b H1 p1 hb => ?_
  simp only [rG_g, dB_bool]
  refine bite_of (fun e => hQ.no (fun c => by have := hb.2 c.1; subst this; cases e) p1) (fun e => ?_)
  have hm1 : MayP p := hb.1 (by cases b <;> simp_all)
  refine page_May_spec (h'.mono p1) fun b' H2 p2 hb' => ?_
  simp only [rG_g, dB_bool]
  refine bite_of (fun e => hQ.no (fun c => by have := hb'.2 c.2.1; subst this; cases e) (p1.trans p2)) (fun e' => ?_)
  have hm2 : MayP q := hb'.1 (by cases b' <;> simp_all)
  refine bite_of (fun e => hQ.no (fun c => by have := c.2.2.1; rw [h.leaf, h'.leaf] at this; subst this; simp at e) (p1.trans p2)) (fun e2 => ?_)
  have hll : p.leaf = q.leaf := by rw [h.leaf, h'.leaf]; simpa using e2
  have p12 := p1.trans p2
  refine node_Both_spec (h.mono p12) (h'.mono p12) (may_small h hm1) (may_small h' hm2) fun ul ll c1 k1 c2 k2 c3 k3 H3 p3 o3 => ?_
  simp only [rA_agg, uC_cons, dB_bool, dL_sl, uN_nil]
  refine page_May_spec o3.at fun b3 H4 p4 hb3 => ?_
  simp only [rG_g, dB_bool]
  refine bite_of (fun e => hQ.no (fun c => by have := hb3.2 c.2.2.2; subst this; cases e) (p12.trans (p3.trans p4))) (fun e3 => ?_)
  have hm3 : MayP (joinP p key q) := hb3.1 (by cases b3 <;> simp_all)
  have o4 := o3.mono p4
  refine clip_str o4.keys ?_
  simp only [rG_g, dL_sl]
  refine clip_str o4.vals ?_
  simp only [rG_g, dL_sl]
  refine clip_int o4.kids ?_
  simp only [rG_g, dL_sl]
  exact hQ.yes ⟨hm1, hm2, hll, hm3⟩ (p12.trans (p3.trans p4)) (o4.base p12.length_le)

/-- the document's -/
def JrQ (p : Pg) (key : ByteArray) (q : Pg) (H : Hp) (Q : Post) : Prop := ∀ u l a1 n1 a2 n2 a3 n3 H', H <+: H' → PgAt H' u l a1 n1 a2 n2 a3 n3 (jo p key q) →
  Q (.tup [.a [.bool u, .bool l, .sl a1 n1 1, .sl a2 n2 1, .sl a3 n3 1], .s (.int .i64 (joE p key q))]) H'
theorem JrQ.no (hQ : JrQ p key q H Q) (hn : ¬ CanJoin p key q) {H' : Hp} (hp : H <+: H') : Q (.tup [.a [.bool false, .bool false, .sl none 0 1, .sl none 0 1, .sl none 0 1], .s (.int .i64 900)]) H' := by
  have := hQ false false none 0 none 0 none 0 H' hp (by unfold jo; rw [if_neg hn]; exact noPg_at _)
  unfold joE at this
  rw [if_neg hn] at this
  exact this
theorem JrQ.yes (hQ : JrQ p key q H Q) (hs : CanJoin p key q) {H' : Hp} (hp : H <+: H') {u l : Bool} {a1 : Pl} {n1 : Nat} {a2 : Pl} {n2 : Nat} {a3 : Pl} {n3 : Nat} (ho : PgAt H' u l a1 n1 a2 n2 a3 n3 (joinP p key q)) :
    Q (.tup [.a [.bool u, .bool l, .sl a1 n1 1, .sl a2 n2 1, .sl a3 n3 1], .s (.int .i64 0)]) H' := by
  have := hQ u l a1 n1 a2 n2 a3 n3 H' hp (by unfold jo; rw [if_pos hs]; exact ho)
  unfold joE at this
  rw [if_pos hs] at this
  exact this
theorem ref9_Join_spec (h : PgAt H u l a1 n1 a2 n2 a3 n3 p) (h' : PgAt H u' l' b1 m1 b2 m2 b3 m3 q) (hQ : JrQ p key q H Q) :
    ref9_Join [.agg [.bool u, .bool l, .sl a1 n1 1, .sl a2 n2 1, .sl a3 n3 1], .g (.str key), .agg [.bool u', .bool l', .sl b1 m1 1, .sl b2 m2 1, .sl b3 m3 1]] H Q := by
  refine ⟨2, ?_⟩
  rw [ref9_Join_eq]
  refine ref1_PageMay_spec h fun b hb => ?_
  simp only [rG_g, dB_bool]
  refine bite_of (fun e => hQ.no (fun c => by have := hb.2 c.1; subst this; cases e) (List.prefix_refl _)) (fun e => ?_)
  have hm1 : MayP p := hb.1 (by cases b <;> simp_all)
  refine ref1_PageMay_spec h' fun b' hb' => ?_
  simp only [rG_g, dB_bool]
  refine bite_of (fun e => hQ.no (fun c => by have := hb'.2 c.2.1; subst this; cases e) (List.prefix_refl _)) (fun e' => ?_)
  have hm2 : MayP q := hb'.1 (by cases b' <;> simp_all)
  refine bite_of (fun e => hQ.no (fun c => by have := c.2.2.1; rw [h.leaf, h'.leaf] at this; subst this; simp at e) (List.prefix_refl _)) (fun e2 => ?_)
  have hll : p.leaf = q.leaf := by rw [h.leaf, h'.leaf]; simpa using e2
  obtain ⟨s1, s2, s3⟩ := may_small h hm1
  obtain ⟨t1, t2, t3⟩ := may_small h' hm2
  have e1 := h.keys.len
  have e2 := h.vals.len
  have e3 := h.kids.len
  have d1 := h'.keys.len
  have d2 := h'.vals.len
  have d3 := h'.kids.len
  have hl := h.leaf
  refine ref9_texts_spec h.keys fun x1 H1 p1 o1 _ => ?_
  simp only [rG_g, dL_sl]
  have key4 : ∀ x1 k1 (H1 : Hp) ks, k1 ≤ 101 → H <+: H1 → Own H1 H.length 9 x1 k1 (ks.map GV.str) → (match p.leaf with | true => p.keys | false => p.keys ++ [key]) = ks →
      ref9_Join.l6 1 u l a1 n1 a2 n2 a3 n3 u' l' b1 m1 b2 m2 b3 m3 false false none 0 none 0 none 0 true l x1 k1 none 0 none 0 H1 Q := by
    intro x1 k1 H1 ks hk1 p1 o1 hks
    have k1e := o1.len
    simp only [List.length_map] at k1e
    rw [ref9_Join.l6_eq, chk_true, Nat.mul_one, rdN_of (h'.mono p1).keys.cells, chk_true]
    refine ap_own p1 o1 (by simp [d1]) (by unfold Lim; omega) fun y1 H2 o2 x2 _ => ?_
    have p2 := x2.pre
    refine ref9_texts_spec (h.mono p2).vals fun y2 H3 p3 o3 _ => ?_
    simp only [rG_g, dL_sl]
    rw [chk_true, Nat.mul_one, rdN_of (h'.mono (p2.trans p3)).vals.cells, chk_true]
    refine ap_own p3 o3 (by simp [d2]) (by unfold Lim; omega) fun y3 H4 o4 x4 _ => ?_
    have p4 := x4.pre
    refine ref9_ints_spec (h.mono (p2.trans p4)).kids fun y4 H5 p5 o5 _ => ?_
    simp only [rG_g, dL_sl]
    rw [chk_true, Nat.mul_one, rdN_of (h'.mono (p2.trans (p4.trans p5))).kids.cells, chk_true]
    refine ap_own p5 o5 (by simp [d3]) (by unfold Lim; omega) fun y5 H6 o6 x6 _ => ?_
    have p6 := x6.pre
    rw [← List.map_append] at o2 o4 o6
    have hP : PgAt H6 true l y1 (k1 + m1) y3 (n2 + m2) y5 (n3 + m3) (joinP p key q) := by
      refine ⟨hm1.2.used, hl, (o2.mono (p4.trans p6)).ss (by simp; omega) (by subst hks; rfl), (o4.mono p6).ss (by simp; omega) rfl, o6.is (by simp; omega) rfl⟩
    refine ref1_PageMay_spec hP fun b3 hb3 => ?_
    simp only [rG_g, dB_bool]
    have pp := p2.trans (p4.trans p6)
    refine bite_of (fun e => hQ.no (fun c => by have := hb3.2 c.2.2.2; subst this; cases e) pp) (fun e3 => ?_)
    have hm3 : MayP (joinP p key q) := hb3.1 (by cases b3 <;> simp_all)
    exact hQ.yes ⟨hm1, hm2, hll, hm3⟩ pp hP
  cases l with
  | true =>
    rw [bite_f (by decide)]
    exact key4 _ _ _ p.keys (by omega) p1 o1 (by rw [hl])
  | false =>
    rw [bite_t (by decide), chk_true]
    refine ap_own p1 o1 rfl (by unfold Lim; omega) fun y1 H2 o2 x2 _ => ?_
    exact key4 _ _ _ (p.keys ++ [key]) (by omega) x2.pre (by rw [List.map_append]; exact o2) (by rw [hl])
end
end Go.Am
