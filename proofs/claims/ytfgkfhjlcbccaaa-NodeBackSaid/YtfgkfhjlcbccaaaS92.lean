import Derived.Test.YtfgkfhjlcbccaaaS91
set_option linter.unusedVariables false
set_option linter.unusedSimpArgs false
namespace Go.Am
open Classical

section
variable {H : Hp} {Q : Post} {u l : Bool} {a1 : Pl} {n1 : Nat} {a2 : Pl} {n2 : Nat} {a3 : Pl} {n3 : Nat} {p : Pg}
theorem Mine.nilA {H : Hp} {lo hi : Nat} {t : TypeId} {a : Pl} {cs : List GV} (h : Mine H lo hi t a 0 cs) : cs = [] := List.eq_nil_of_length_eq_zero h.len

def CuQ (p : Pg) (H : Hp) (Q : Post) : Prop := ∀ u l a1 n1 a2 n2 a3 n3 u' l' b1 m1 b2 m2 b3 m3 md H', H <+: H' → H.length ≤ md → md ≤ H'.length → PgM H' H.length md u l a1 n1 a2 n2 a3 n3 (cutA p) → PgM H' md H'.length u' l' b1 m1 b2 m2 b3 m3 (cutB p) →
  Q (.tup [.a [.bool u, .bool l, .sl a1 n1 1, .sl a2 n2 1, .sl a3 n3 1], .s (.str (pcutK p)), .a [.bool u', .bool l', .sl b1 m1 1, .sl b2 m2 1, .sl b3 m3 1]]) H'

theorem node_Cut_spec (h : PgAt H u l a1 n1 a2 n2 a3 n3 p) (hs : CanSplit p) {at_ : Int} (hat : at_ = cond l 3 2) (hQ : CuQ p H Q) :
    node_Cut [.agg [.bool u, .bool l, .sl a1 n1 1, .sl a2 n2 1, .sl a3 n3 1], .g (.int .i64 at_)] H Q := by
  obtain ⟨h5, hf⟩ := hs
  have e1 := h.keys.len
  have e2 := h.vals.len
  have e3 := h.kids.len
  have hu := h.used
  have hl := h.leaf
  rw [hf.used] at hu
  subst hu
  refine ⟨1, ?_⟩
  rw [node_Cut_eq]
  cases l with
  | true =>
    simp only [cond_true, cond_false] at hat
    subst hat
    obtain ⟨f1, f2, f3⟩ := hf.leaf hl
    rw [f2, List.length_nil] at e3
    obtain ⟨m, o, rfl, hg⟩ := h.keys.get (k := 3) (by omega)
    rw [chk_true]
    refine chk_of (by simp; omega) ?_
    rw [pS_some, rd_of (by exact hg), dS_str]
    refine page_Copy_spec h (by omega) fun x1 x2 x3 H1 p1 o1 => ?_
    simp only [rA_agg, uC_cons, dB_bool, dL_sl, uN_nil]
    rw [rd_of (by exact gt_pre p1 hg), dS_str]
    refine ⟨rfl, ?_⟩
    refine page_Copy_spec (h.mono p1) (by omega) fun y1 y2 y3 H2 p2 o2 => ?_
    simp only [rA_agg, uC_cons, dB_bool, dL_sl, uN_nil]
    rw [rd_of (by exact gt_pre (p1.trans p2) hg), dS_str]
    refine ⟨rfl, ?_⟩
    rw [chk_true]
    refine chk_of (by decide) (chk_of (by simp; omega) ?_)
    rw [bite_true]
    rw [chk_true]
    refine chk_of (by decide) (chk_of (by simp; omega) ?_)
    rw [chk_true]
    refine chk_of (by decide) (chk_of (by simp; omega) ?_)
    rw [chk_true]
    refine chk_of (by decide) (chk_of (by simp; omega) ?_)
    have A := (o1.mine).mono p2
    have B := o2.mine
    have hk : p.keys[3] = pcutK p := by unfold pcutK; rw [hl]; simp [h5]
    rw [hk]
    have eA : cutA p = ⟨true, true, p.keys.take 3, p.vals.take 3, []⟩ := by unfold cutA; rw [hl]
    have eB : cutB p = ⟨true, true, p.keys.drop 3, p.vals.drop 3, []⟩ := by unfold cutB; rw [hl]
    refine hQ _ _ _ _ _ _ _ _ _ _ _ _ _ _ _ _ H1.length H2 (p1.trans p2) p1.length_le p2.length_le ?_ ?_
    · rw [eA]
      refine ⟨rfl, rfl, ?_, ?_, ?_, A.d12.shf _ _, ?_, ?_, ?_⟩
      · have := A.keys.part 0 3 (by omega); rw [List.drop_zero, ← List.map_take] at this; exact this
      · have := A.vals.part 0 3 (by omega); rw [List.drop_zero, ← List.map_take] at this; exact this
      · have := A.kids; rw [f2] at this; exact this
      · have := A.d13.shf 0 0; intro m o o' q1 q2; exact this m _ _ q1 (by rw [q2]; rfl)
      · have := A.d23.shf 0 0; intro m o o' q1 q2; exact this m _ _ q1 (by rw [q2]; rfl)
      · simp; omega
    · rw [eB]
      refine ⟨rfl, rfl, ?_, ?_, ?_, B.d12.shf _ _, ?_, ?_, ?_⟩
      · have := B.keys.part 3 (n1 - 3) (by omega); rw [List.take_of_length_le (by simp; omega), ← List.map_drop] at this; exact this
      · have := B.vals.part 3 (n2 - 3) (by omega); rw [List.take_of_length_le (by simp; omega), ← List.map_drop] at this; exact this
      · have := B.kids; rw [f2] at this; exact this
      · have := B.d13.shf 3 0; intro m o o' q1 q2; exact this m _ _ q1 (by rw [q2]; rfl)
      · have := B.d23.shf 3 0; intro m o o' q1 q2; exact this m _ _ q1 (by rw [q2]; rfl)
      · simp; omega
  | false =>
    simp only [cond_true, cond_false] at hat
    subst hat
    obtain ⟨f1, f2, f3, f4, f5⟩ := hf.inner hl
    rw [f2, List.length_nil] at e2
    obtain ⟨m, o, rfl, hg⟩ := h.keys.get (k := 2) (by omega)
    rw [chk_true]
    refine chk_of (by simp; omega) ?_
    rw [pS_some, rd_of (by exact hg), dS_str]
    refine page_Copy_spec h (by omega) fun x1 x2 x3 H1 p1 o1 => ?_
    simp only [rA_agg, uC_cons, dB_bool, dL_sl, uN_nil]
    rw [rd_of (by exact gt_pre p1 hg), dS_str]
    refine ⟨rfl, ?_⟩
    refine page_Copy_spec (h.mono p1) (by omega) fun y1 y2 y3 H2 p2 o2 => ?_
    simp only [rA_agg, uC_cons, dB_bool, dL_sl, uN_nil]
    rw [rd_of (by exact gt_pre (p1.trans p2) hg), dS_str]
    refine ⟨rfl, ?_⟩
    rw [chk_true]
    refine chk_of (by decide) (chk_of (by simp; omega) ?_)
    rw [bite_false]
    rw [show wrapI .i64 (2 + 1) = 3 from by decide]
    rw [chk_true]
    refine chk_of (by decide) (chk_of (by simp; omega) ?_)
    rw [chk_true]
    refine chk_of (by decide) (chk_of (by simp; omega) ?_)
    rw [chk_true]
    refine chk_of (by decide) (chk_of (by simp; omega) ?_)
    have A := (o1.mine).mono p2
    have B := o2.mine
    have hk : p.keys[2] = pcutK p := by unfold pcutK; rw [hl]; simp [h5]
    rw [hk]
    have eA : cutA p = ⟨true, false, p.keys.take 2, [], p.kids.take 3⟩ := by unfold cutA; rw [hl]
    have eB : cutB p = ⟨true, false, p.keys.drop 3, [], p.kids.drop 3⟩ := by unfold cutB; rw [hl]
    refine hQ _ _ _ _ _ _ _ _ _ _ _ _ _ _ _ _ H1.length H2 (p1.trans p2) p1.length_le p2.length_le ?_ ?_
    · rw [eA]
      refine ⟨rfl, rfl, ?_, ?_, ?_, ?_, A.d13.shf _ _, ?_, ?_⟩
      · have := A.keys.part 0 2 (by omega); rw [List.drop_zero, ← List.map_take] at this; exact this
      · have := A.vals; rw [f2] at this; exact this
      · have := A.kids.part 0 3 (by omega); rw [List.drop_zero, ← List.map_take] at this; exact this
      · have := A.d12.shf 0 0; intro m o o' q1 q2; exact this m _ _ q1 (by rw [q2]; rfl)
      · have := A.d23.shf 0 0; intro m o o' q1 q2; exact this m _ _ (by rw [q1]; rfl) q2
      · simp; omega
    · rw [eB]
      refine ⟨rfl, rfl, ?_, ?_, ?_, ?_, B.d13.shf _ _, ?_, ?_⟩
      · have := B.keys.part 3 (n1 - 3) (by omega); rw [List.take_of_length_le (by simp; omega), ← List.map_drop] at this; exact this
      · have := B.vals; rw [f2] at this; exact this
      · have := B.kids.part 3 (n3 - 3) (by omega); rw [List.take_of_length_le (by simp; omega), ← List.map_drop] at this; exact this
      · have := B.d12.shf 3 0; intro m o o' q1 q2; exact this m _ _ q1 (by rw [q2]; rfl)
      · have := B.d23.shf 0 3; intro m o o' q1 q2; exact this m _ _ (by rw [q1]; rfl) q2
      · simp; omega

theorem CuQ.sp (hs : CanSplit p) {H H1 : Hp} (h1 : H <+: H1) (hQ : SpQ p H Q) {u l : Bool} {a1 : Pl} {n1 : Nat} {a2 : Pl} {n2 : Nat} {a3 : Pl} {n3 : Nat} {u' l' : Bool} {b1 : Pl} {m1 : Nat} {b2 : Pl} {m2 : Nat} {b3 : Pl} {m3 : Nat} {lo md hi : Nat} {H' : Hp}
    (hp : H1 <+: H') (hlo : H1.length ≤ lo) (hmd : lo ≤ md) (hhi : md ≤ hi) (hh : hi ≤ H'.length) (hA : PgM H' lo md u l a1 n1 a2 n2 a3 n3 (cutA p)) (hB : PgM H' md hi u' l' b1 m1 b2 m2 b3 m3 (cutB p)) :
    Q (.tup [.a [.bool u, .bool l, .sl a1 n1 1, .sl a2 n2 1, .sl a3 n3 1], .s (.str (pcutK p)), .a [.bool u', .bool l', .sl b1 m1 1, .sl b2 m2 1, .sl b3 m3 1], .s (.int .i64 0)]) H' := by
  have := hQ u l a1 n1 a2 n2 a3 n3 u' l' b1 m1 b2 m2 b3 m3 lo md hi H' (h1.trans hp) (Nat.le_trans h1.length_le hlo) hmd hhi hh (by unfold spA; rw [if_pos hs]; exact hA) (by unfold spB; rw [if_pos hs]; exact hB)
  unfold spK spE at this
  rw [if_pos hs, if_pos hs] at this
  exact this

theorem node_Split_spec (h : PgAt H u l a1 n1 a2 n2 a3 n3 p) (hQ : SpQ p H Q) :
    node_Split [.agg [.bool u, .bool l, .sl a1 n1 1, .sl a2 n2 1, .sl a3 n3 1]] H Q := by
  have e1 := h.keys.len
  refine ⟨2, ?_⟩
  rw [node_Split_eq]
  refine bite_of (fun e => ?_) (fun e => ?_)
  · exact hQ.no (fun q => by have := q.1; simp at e; omega) (List.prefix_refl _)
  · have h5 : p.keys.length = 5 := by simp at e; omega
    refine page_Fits_spec h fun b H1 p1 hb => ?_
    simp only [rG_g, dB_bool]
    refine bite_of (fun e => ?_) (fun e => ?_)
    · exact hQ.no (fun q => by have := hb.2 q.2; subst this; cases e) p1
    · have hb1 : b = true := by cases b <;> simp_all
      have hs : CanSplit p := ⟨h5, hb.1 hb1⟩
      have key : ∀ at_ : Int, at_ = cond l 3 2 → node_Split.l6 1 u l a1 n1 a2 n2 a3 n3 false false none 0 none 0 none 0 false false none 0 none 0 none 0 at_ H1 Q := by
        intro at_ hat
        rw [node_Split.l6_eq]
        refine node_Cut_spec (h.mono p1) hs hat ?_
        intro u l a1 n1 a2 n2 a3 n3 u' l' b1 m1 b2 m2 b3 m3 md H' p2 hlo hmd hA hB
        simp only [rT_tup, uR_cons, rC_a, uC_cons, dB_bool, dL_sl, uN_nil, rS_s, dS_str, dI_int, uE_nil]
        exact CuQ.sp hs p1 hQ p2 (Nat.le_refl _) hlo hmd (Nat.le_refl _) hA hB
      cases l with
      | true => rw [bite_true]; exact key 3 rfl
      | false => rw [bite_false]; exact key 2 rfl

/-- the document's: what is answered, no more -/
def SrQ (p : Pg) (H : Hp) (Q : Post) : Prop := ∀ u l a1 n1 a2 n2 a3 n3 u' l' b1 m1 b2 m2 b3 m3 H', H <+: H' → PgAt H' u l a1 n1 a2 n2 a3 n3 (spA p) → PgAt H' u' l' b1 m1 b2 m2 b3 m3 (spB p) →
  Q (.tup [.a [.bool u, .bool l, .sl a1 n1 1, .sl a2 n2 1, .sl a3 n3 1], .s (.str (spK p)), .a [.bool u', .bool l', .sl b1 m1 1, .sl b2 m2 1, .sl b3 m3 1], .s (.int .i64 (spE p))]) H'
theorem SrQ.no {p : Pg} {H H' : Hp} {Q : Post} (hQ : SrQ p H Q) (hn : ¬ CanSplit p) (hp : H <+: H') :
    Q (.tup [.a [.bool false, .bool false, .sl none 0 1, .sl none 0 1, .sl none 0 1], .s (.str (mkS [])), .a [.bool false, .bool false, .sl none 0 1, .sl none 0 1, .sl none 0 1], .s (.int .i64 900)]) H' := by
  have := hQ false false none 0 none 0 none 0 false false none 0 none 0 none 0 H' hp (by unfold spA; rw [if_neg hn]; exact noPg_at _) (by unfold spB; rw [if_neg hn]; exact noPg_at _)
  unfold spK spE at this
  rw [if_neg hn, if_neg hn] at this
  exact this
theorem SrQ.yes {p : Pg} {H H' : Hp} {Q : Post} (hQ : SrQ p H Q) (hs : CanSplit p) (hp : H <+: H') {u l : Bool} {a1 : Pl} {n1 : Nat} {a2 : Pl} {n2 : Nat} {a3 : Pl} {n3 : Nat} {u' l' : Bool} {b1 : Pl} {m1 : Nat} {b2 : Pl} {m2 : Nat} {b3 : Pl} {m3 : Nat}
    (hA : PgAt H' u l a1 n1 a2 n2 a3 n3 (cutA p)) (hB : PgAt H' u' l' b1 m1 b2 m2 b3 m3 (cutB p)) :
    Q (.tup [.a [.bool u, .bool l, .sl a1 n1 1, .sl a2 n2 1, .sl a3 n3 1], .s (.str (pcutK p)), .a [.bool u', .bool l', .sl b1 m1 1, .sl b2 m2 1, .sl b3 m3 1], .s (.int .i64 0)]) H' := by
  have := hQ u l a1 n1 a2 n2 a3 n3 u' l' b1 m1 b2 m2 b3 m3 H' hp (by unfold spA; rw [if_pos hs]; exact hA) (by unfold spB; rw [if_pos hs]; exact hB)
  unfold spK spE at this
  rw [if_pos hs, if_pos hs] at this
  exact this
theorem Own.ss {H : Hp} {b : Nat} {a : Pl} {n : Nat} {xs ys : List ByteArray} (h : Own H b 9 a n (xs.map GV.str)) (hn : xs.length ≤ 1000) (e : xs = ys) : Ss H a n ys := by
  subst e
  have := h.len
  simp at this
  exact ⟨h.cells, this.symm, by omega⟩
theorem Own.is {H : Hp} {b : Nat} {a : Pl} {n : Nat} {xs ys : List Int} (h : Own H b 3 a n (xs.map (GV.int .i64))) (hn : xs.length ≤ 1000) (e : xs = ys) : Is H a n ys := by
  subst e
  have := h.len
  simp at this
  exact ⟨h.cells, this.symm, by omega⟩

theorem ref9_Split_spec (h : PgAt H u l a1 n1 a2 n2 a3 n3 p) (hQ : SrQ p H Q) :
    ref9_Split [.agg [.bool u, .bool l, .sl a1 n1 1, .sl a2 n2 1, .sl a3 n3 1]] H Q := by
  have e1 := h.keys.len
  have e2 := h.vals.len
  have e3 := h.kids.len
  have hl := h.leaf
  refine ⟨1, ?_⟩
  rw [ref9_Split_eq]
  refine bite_of (fun e => ?_) (fun e => ?_)
  · exact hQ.no (fun q => by have := q.1; simp at e; omega) (List.prefix_refl _)
  have h5 : p.keys.length = 5 := by simp at e; omega
  refine ref1_PageWith_spec (most := 5) (by omega) h fun b hb => ?_
  simp only [rG_g, dB_bool]
  refine bite_of (fun e => ?_) (fun e => ?_)
  · exact hQ.no (fun q => by have := hb.2 ⟨by omega, q.2⟩; subst this; cases e) (List.prefix_refl _)
  have hb1 : b = true := by cases b <;> simp_all
  have hs : CanSplit p := ⟨h5, (hb.1 hb1).2⟩
  have hf := hs.2
  rw [chk_true]
  refine chk_of (by simp; omega) ?_
  refine ref9_texts_spec (h.keys.part 3 (n1 - 3) (by omega)) fun x1 H1 p1 o1 _ => ?_
  simp only [rG_g, dL_sl]
  cases l with
  | true =>
    obtain ⟨f1, f2, f3⟩ := hf.leaf hl
    have eA : cutA p = ⟨true, true, p.keys.take 3, p.vals.take 3, []⟩ := by unfold cutA; rw [hl]
    have eB : cutB p = ⟨true, true, p.keys.drop 3, p.vals.drop 3, []⟩ := by unfold cutB; rw [hl]
    rw [bite_true, chk_true]
    refine chk_of (by simp; omega) ?_
    refine ref9_texts_spec ((h.mono p1).keys.part 0 3 (by omega)) fun x2 H2 p2 o2 _ => ?_
    simp only [rG_g, dL_sl]
    rw [chk_true]
    refine chk_of (by simp; omega) ?_
    refine ref9_texts_spec ((h.mono (p1.trans p2)).vals.part 0 3 (by omega)) fun x3 H3 p3 o3 _ => ?_
    simp only [rG_g, dL_sl]
    rw [chk_true]
    refine chk_of (by simp; omega) ?_
    refine ref9_texts_spec ((h.mono (p1.trans (p2.trans p3))).vals.part 3 (n2 - 3) (by omega)) fun x4 H4 p4 o4 _ => ?_
    simp only [rG_g, dL_sl]
    rw [chk_true]
    have hk : p.keys[3] = pcutK p := by unfold pcutK; rw [hl]; simp [h5]
    have r := (h.mono (p1.trans (p2.trans (p3.trans p4)))).keys.rd 3 (i := 3) rfl (by omega)
    rw [r, hk]
    have q4 := p2.trans (p3.trans p4)
    refine hQ.yes hs (p1.trans q4) ?_ ?_
    · rw [eA]
      exact ⟨rfl, rfl, (o2.mono (p3.trans p4)).ss (by simp; omega) (by simp), (o3.mono p4).ss (by simp; omega) (by simp), .nil _⟩
    · rw [eB]
      exact ⟨rfl, rfl, (o1.mono q4).ss (by simp; omega) (List.take_of_length_le (by simp; omega)), o4.ss (by simp; omega) (List.take_of_length_le (by simp; omega)), .nil _⟩
  | false =>
    obtain ⟨f1, f2, f3, f4, f5⟩ := hf.inner hl
    have eA : cutA p = ⟨true, false, p.keys.take 2, [], p.kids.take 3⟩ := by unfold cutA; rw [hl]
    have eB : cutB p = ⟨true, false, p.keys.drop 3, [], p.kids.drop 3⟩ := by unfold cutB; rw [hl]
    rw [bite_false, chk_true]
    refine chk_of (by simp; omega) ?_
    refine ref9_texts_spec ((h.mono p1).keys.part 0 2 (by omega)) fun x2 H2 p2 o2 _ => ?_
    simp only [rG_g, dL_sl]
    rw [chk_true]
    refine chk_of (by simp; omega) ?_
    refine ref9_ints_spec ((h.mono (p1.trans p2)).kids.part 0 3 (by omega)) fun x3 H3 p3 o3 _ => ?_
    simp only [rG_g, dL_sl]
    rw [chk_true]
    refine chk_of (by simp; omega) ?_
    refine ref9_ints_spec ((h.mono (p1.trans (p2.trans p3))).kids.part 3 (n3 - 3) (by omega)) fun x4 H4 p4 o4 _ => ?_
    simp only [rG_g, dL_sl]
    rw [chk_true]
    have hk : p.keys[2] = pcutK p := by unfold pcutK; rw [hl]; simp [h5]
    have r := (h.mono (p1.trans (p2.trans (p3.trans p4)))).keys.rd 2 (i := 2) rfl (by omega)
    rw [r, hk]
    have q4 := p2.trans (p3.trans p4)
    refine hQ.yes hs (p1.trans q4) ?_ ?_
    · rw [eA]
      exact ⟨rfl, rfl, (o2.mono (p3.trans p4)).ss (by simp; omega) (by simp), .nil _, (o3.mono p4).is (by simp; omega) (by simp)⟩
    · rw [eB]
      exact ⟨rfl, rfl, (o1.mono q4).ss (by simp; omega) (List.take_of_length_le (by simp; omega)), .nil _, o4.is (by simp; omega) (List.take_of_length_le (by simp; omega))⟩
end
end Go.Am
