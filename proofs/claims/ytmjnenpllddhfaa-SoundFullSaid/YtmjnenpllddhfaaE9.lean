import Derived.Test.YtmjnenpllddhfaaE8
set_option linter.unusedVariables false
set_option linter.unusedSimpArgs false
namespace Go.Am

/-! rows of pages -/
/-- does a page stand on a row? -/
def PC.on (c : PC) (l : Nat) : Prop := ∃ o, c.a1 = some (l, o) ∨ c.a2 = some (l, o) ∨ c.a3 = some (l, o)
theorem PC.at.lt {H : Hp} {c : PC} {p : Pg} (h : c.at H p) {l : Nat} (hl : c.on l) : l < H.length := by
  obtain ⟨o, h1 | h1 | h1⟩ := hl
  · have := h.keys.cells; rw [h1] at this; exact cells_lt this
  · have := h.vals.cells; rw [h1] at this; exact cells_lt this
  · have := h.kids.cells; rw [h1] at this; exact cells_lt this
theorem PC.at.keep {H H' : Hp} {c : PC} {p : Pg} (h : c.at H p) (hk : ∀ l, c.on l → H'[l]? = H[l]?) : c.at H' p := by
  obtain ⟨h1, h2, h3, h4, h5⟩ := h
  refine ⟨h1, h2, ⟨?_, h3.len, h3.lim⟩, ⟨?_, h4.len, h4.lim⟩, ⟨?_, h5.len, h5.lim⟩⟩
  · rw [← h3.cells]; exact cells_at fun l o e => hk l ⟨o, .inl e⟩
  · rw [← h4.cells]; exact cells_at fun l o e => hk l ⟨o, .inr (.inl e)⟩
  · rw [← h5.cells]; exact cells_at fun l o e => hk l ⟨o, .inr (.inr e)⟩
/-- append, elements of more cells -/
theorem ap_z {H0 H : Hp} {t z by_ : Nat} {a : Pl} {n m : Nat} {cs ds : List GV} {K : Pl → Nat → Hp → Prop} (hz : 1 ≤ z) (h0 : H0 <+: H) (h : Own H H0.length t a (n * z) cs) (hm : ds.length = m * z) (hl : (n + m) * by_ ≤ Lim)
    (hK : ∀ a' H', Own H' H0.length t a' ((n + m) * z) (cs ++ ds) → Ex H0 a H H' → (∀ l o, a' = some (l, o) → H.length ≤ l ∧ o = 0) → K a' (n + m) H') : ap H t z by_ a n ds m K := by
  unfold ap app?
  rw [if_pos ⟨hl, hm⟩]
  rcases h with ⟨rfl, hn, rfl⟩ | ⟨l, rfl, hb, hrow, hlen⟩
  · have hn0 : n = 0 := by rcases Nat.eq_zero_or_pos n with e | e; exact e; have := Nat.mul_le_mul e hz; omega
    subst hn0
    simp only [Nat.zero_add] at hK ⊢
    by_cases hm0 : m = 0
    · subst hm0
      rw [Nat.zero_mul] at hm
      obtain rfl : ds = [] := List.eq_nil_of_length_eq_zero hm
      simp only [if_pos]
      exact hK none H (.inl ⟨rfl, by omega, rfl⟩) ⟨h0, Nat.le_refl _, fun _ _ _ => rfl⟩ (fun _ _ e => by cases e)
    · simp only [if_pos, if_neg hm0]
      refine hK _ _ (.inr ⟨H.length, rfl, pre_len h0, by simp, by simpa using hm⟩) ⟨h0.trans (List.prefix_append _ _), by simp, fun l hl _ => by rw [List.getElem?_append_left hl]⟩ (fun _ _ e => by cases e; exact ⟨Nat.le_refl _, rfl⟩)
  · simp only [hrow]
    rw [if_pos ⟨trivial, trivial, hlen⟩]
    have hlt := (List.getElem?_eq_some_iff.1 hrow).1
    refine hK _ _ (.inr ⟨H.length, rfl, pre_len h0, by simp, by rw [List.length_append, hlen, hm, Nat.add_mul]⟩) ⟨(pre_set h0 hb .dead).trans (List.prefix_append _ _), by simp, fun l' hl' hne => ?_⟩ (fun _ _ e => by cases e; exact ⟨Nat.le_refl _, rfl⟩)
    have hll : l ≠ l' := fun e => hne (by rw [e])
    rw [List.getElem?_append_left (by simpa using hl'), List.getElem?_set_ne hll]

/-- pages in a row of one's own -/
structure OT (H : Hp) (b : Nat) (t : TypeId) (a : Pl) (n : Nat) (cs : List PC) (T : List Pg) : Prop where
  own : Own H b t a (n * 5) (pcells cs)
  len : cs.length = n
  lenT : T.length = n
  all : ∀ i (h : i < cs.length) (h' : i < T.length), (cs[i]).at H T[i]
  off : ∀ c ∈ cs, ∀ l, c.on l → a ≠ some (l, 0)
section
variable {H0 H H' : Hp} {b : Nat} {t : TypeId} {a : Pl} {n : Nat} {cs : List PC} {T : List Pg} {c : PC} {p : Pg}
theorem OT.tr (h : OT H b t a n cs T) : Tr H a n cs T := ⟨h.own.cells, h.len, h.lenT, h.all⟩
theorem OT.nil (H : Hp) (b : Nat) (t : TypeId) : OT H b t none 0 [] [] := ⟨.inl ⟨rfl, rfl, rfl⟩, rfl, rfl, fun i h => (by simp at h), fun c h => (by simp at h)⟩
theorem OT.keep (h : OT H b t a n cs T) (ha : ∀ l, a = some (l, 0) → H'[l]? = H[l]?) (hp : ∀ c ∈ cs, ∀ l, c.on l → H'[l]? = H[l]?) : OT H' b t a n cs T :=
  ⟨h.own.keep ha, h.len, h.lenT, fun i h1 h2 => (h.all i h1 h2).keep (hp _ (List.getElem_mem h1)), h.off⟩
theorem OT.onlt (h : OT H b t a n cs T) {c : PC} (hc : c ∈ cs) {l : Nat} (hl : c.on l) : l < H.length := by
  obtain ⟨i, hi, rfl⟩ := List.getElem_of_mem hc
  exact (h.all i hi (by have := h.len; have := h.lenT; omega)).lt hl
theorem OT.mono (h : OT H b t a n cs T) (hp : H <+: H') : OT H' b t a n cs T := h.keep (fun l e => pre_at hp (h.own.lt' e)) (fun c hc l hl => pre_at hp (h.onlt hc hl))
/-- another row turned -/
theorem OT.ex (h : OT H b t a n cs T) {x : Pl} (hx : Ex H0 x H H') (hd : Dj x a) (ho : ∀ c ∈ cs, ∀ l, c.on l → x ≠ some (l, 0)) : OT H' b t a n cs T :=
  h.keep (fun l e => hx.row l (h.own.lt' e) fun e0 => hd l e0 e) (fun c hc l hl => hx.row l (h.onlt hc hl) (ho c hc l hl))
theorem OT.add (h : OT H H0.length t a n cs T) (h0 : H0 <+: H) (hc : c.at H p) (hoff : ∀ l, c.on l → a ≠ some (l, 0)) (hl : (n + 1) * 80 ≤ Lim) {K : Pl → Nat → Hp → Prop}
    (hK : ∀ a' H', OT H' H0.length t a' (n + 1) (cs ++ [c]) (T ++ [p]) → Ex H0 a H H' → (∀ l o, a' = some (l, o) → H.length ≤ l ∧ o = 0) → K a' (n + 1) H') : ap H t 5 80 a n [.bool c.u, .bool c.l, .sl c.a1 c.n1 1, .sl c.a2 c.n2 1, .sl c.a3 c.n3 1] 1 K := by
  refine ap_z (by omega) h0 h.own rfl hl fun a' H' o x f => hK a' H' ?_ x f
  refine ⟨by rw [pcells_append]; simpa [pcells, PC.cells] using o, by simp [h.len], by simp [h.lenT], fun i h1 h2 => ?_, fun d hd l hl e => ?_⟩
  · rw [List.getElem_append, List.getElem_append]
    have q1 := h.len
    have q2 := h.lenT
    by_cases e : i < n
    · rw [dif_pos (by omega), dif_pos (by omega)]
      exact (h.all i (by omega) (by omega)).keep fun l hl => x.row l (h.onlt (List.getElem_mem _) hl) (h.off _ (List.getElem_mem _) l hl)
    · rw [dif_neg (by omega), dif_neg (by omega)]
      simp only [List.getElem_singleton]
      exact hc.keep fun l hl => x.row l (hc.lt hl) (hoff l hl)
  · have := (f l 0 e).1
    rcases List.mem_append.1 hd with q | q
    · have := h.onlt q hl; omega
    · rw [List.mem_singleton.1 q] at hl
      have := hc.lt hl; omega
end

/-- a page in rows of one's own -/
structure PC.own (c : PC) (H : Hp) (b : Nat) (p : Pg) : Prop where
  used : p.used = c.u
  leaf : p.leaf = c.l
  keys : Own H b 9 c.a1 c.n1 (p.keys.map GV.str)
  vals : Own H b 9 c.a2 c.n2 (p.vals.map GV.str)
  kids : Own H b 3 c.a3 c.n3 (p.kids.map (GV.int .i64))
  d12 : Dr c.a1 c.a2
  d13 : Dr c.a1 c.a3
  d23 : Dr c.a2 c.a3
theorem PC.own.keep {H H' : Hp} {b : Nat} {c : PC} {p : Pg} (h : c.own H b p) (hk : ∀ l, c.on l → H'[l]? = H[l]?) : c.own H' b p :=
  ⟨h.used, h.leaf, h.keys.keep fun l e => hk l ⟨0, .inl e⟩, h.vals.keep fun l e => hk l ⟨0, .inr (.inl e)⟩, h.kids.keep fun l e => hk l ⟨0, .inr (.inr e)⟩, h.d12, h.d13, h.d23⟩
section
variable {H : Hp} {Q : Post} {c : PC} {p : Pg}
theorem law0_CopyPage_new (h : c.at H p) (hQ : ∀ d : PC, ∀ H', H <+: H' → d.at H' p → d.own H' H.length p → (∀ l, d.on l → H.length ≤ l) → d.u = c.u → d.l = c.l → Q (.agg [.bool d.u, .bool d.l, .sl d.a1 d.n1 1, .sl d.a2 d.n2 1, .sl d.a3 d.n3 1]) H') :
    law0_CopyPage [.agg [.bool c.u, .bool c.l, .sl c.a1 c.n1 1, .sl c.a2 c.n2 1, .sl c.a3 c.n3 1]] H Q := by
  obtain ⟨hu, hl, hk, hv, hi⟩ := h
  have e1 := hk.len
  have e2 := hv.len
  have e3 := hi.len
  have l1 := hk.lim
  have l2 := hv.lim
  have l3 := hi.lim
  refine ⟨1, ?_⟩
  rw [law0_CopyPage_eq, chk_true, Nat.mul_one, rdN_of hk.cells]
  refine ap0_of (by unfold Lim; omega) (by simp [e1]) ?_
  have p1 := pre_pu H (.row true 9 (p.keys.map GV.str))
  rw [chk_true, Nat.mul_one, rdN_of (hv.mono p1).cells]
  refine ap0_of (by unfold Lim; omega) (by simp [e2]) ?_
  have p2 := p1.trans (pre_pu (H ++ [.row true 9 (p.keys.map GV.str)]) (.row true 9 (p.vals.map GV.str)))
  rw [chk_true, Nat.mul_one, rdN_of (hi.mono p2).cells]
  refine ap0_of (by unfold Lim; omega) (by simp [e3]) ?_
  have o1 : Own (((H ++ [Obj.row true 9 (p.keys.map GV.str)]) ++ [Obj.row true 9 (p.vals.map GV.str)]) ++ [Obj.row true 3 (p.kids.map (GV.int .i64))]) H.length 9 (some (H.length, 0)) c.n1 (p.keys.map GV.str) := .inr ⟨_, rfl, Nat.le_refl _, by rw [List.append_assoc, List.append_assoc]; simp, by simp [e1]⟩
  have o2 : Own (((H ++ [Obj.row true 9 (p.keys.map GV.str)]) ++ [Obj.row true 9 (p.vals.map GV.str)]) ++ [Obj.row true 3 (p.kids.map (GV.int .i64))]) H.length 9 (some ((H ++ [Obj.row true 9 (p.keys.map GV.str)]).length, 0)) c.n2 (p.vals.map GV.str) := .inr ⟨_, rfl, by simp, by rw [List.append_assoc]; simp, by simp [e2]⟩
  have o3 : Own (((H ++ [Obj.row true 9 (p.keys.map GV.str)]) ++ [Obj.row true 9 (p.vals.map GV.str)]) ++ [Obj.row true 3 (p.kids.map (GV.int .i64))]) H.length 3 (some (((H ++ [Obj.row true 9 (p.keys.map GV.str)]) ++ [Obj.row true 9 (p.vals.map GV.str)]).length, 0)) c.n3 (p.kids.map (GV.int .i64)) := .inr ⟨_, rfl, by simp, by simp, by simp [e3]⟩
  refine hQ ⟨c.u, c.l, some (H.length, 0), c.n1, some ((H ++ [Obj.row true 9 (p.keys.map GV.str)]).length, 0), c.n2, some (((H ++ [Obj.row true 9 (p.keys.map GV.str)]) ++ [Obj.row true 9 (p.vals.map GV.str)]).length, 0), c.n3⟩ _ (p2.trans (List.prefix_append _ _)) ⟨hu, hl, ⟨o1.cells, e1, l1⟩, ⟨o2.cells, e2, l2⟩, ⟨o3.cells, e3, l3⟩⟩ ⟨hu, hl, o1, o2, o3, ?_, ?_, ?_⟩ ?_ rfl rfl
  · intro l o o' q1 q2; simp at q1 q2; omega
  · intro l o o' q1 q2; simp at q1 q2; omega
  · intro l o o' q1 q2; simp at q1 q2; omega
  · rintro l ⟨o, q | q | q⟩ <;> simp at q <;> omega
end

section
variable {H : Hp} {Q : Post} {a : Pl} {n : Nat} {cs : List PC} {T : List Pg}
/-- a tree copied: in rows of one's own -/
theorem law0_CopyTree_spec (hT : Tr H a n cs T) (hn : n * 80 ≤ 140737488351232)
    (hQ : ∀ a' ds H', H <+: H' → OT H' H.length 34 a' n ds T → (∀ i (h : i < ds.length) (h' : i < T.length), (ds[i]).own H' H.length T[i]) → (∀ i j (hi : i < ds.length) (hj : j < ds.length), i ≠ j → ∀ l, (ds[i]).on l → ¬ (ds[j]).on l) → Q (.agg [.sl a' n 5]) H') :
    law0_CopyTree [.agg [.sl a n 5]] H Q := by
  have hlT := hT.lenT
  have loop : ∀ (f k : Nat) (a' : Pl) (ds : List PC) (H' : Hp), n - k < f → k ≤ n → H <+: H' → OT H' H.length 34 a' k ds (T.take k) → (∀ i (h : i < ds.length) (h' : i < T.length), (ds[i]).own H' H.length T[i]) →
      (∀ i j (hi : i < ds.length) (hj : j < ds.length), i ≠ j → ∀ l, (ds[i]).on l → ¬ (ds[j]).on l) → law0_CopyTree.l3 f a n none 0 a' k (k : Int) H' Q := by
    intro f
    induction f with
    | zero => intro k _ _ _ h; omega
    | succ f ih =>
      intro k a' ds H' hf hk hp ho hown hap
      rw [law0_CopyTree.l3_eq]
      by_cases hkn : k < n
      · obtain ⟨l, o, c, p, rfl, hc, hpp, hpc, g0, g1, g2, g3, g4⟩ := (hT.mono hp).get hkn
        have etN : tN (k : Int) = k := rfl
        rw [bite_t (by simp; omega), chk_true]
        refine chk_of (by simp; omega) ?_
        rw [pS_some, etN, rdPage_of g0 g1 g2 g3 g4]
        refine law0_CopyPage_new hpc fun d H2 p2 hd hdo hfr hu hl => ?_
        simp only [rA_agg, uC_cons, dB_bool, dL_sl, uN_nil]
        rw [chk_true]
        have ho2 := ho.mono p2
        have hlen := ho.len
        refine ho2.add (hp.trans p2) hd (fun l hl e => by have := hfr l hl; have := ho.own.lt' e; omega) (by unfold Lim; have := Nat.mul_le_mul_right 80 (show k + 1 ≤ n by omega); omega) fun a'' H3 o3 x3 f3 => ?_
        rw [wrap_succ (by omega)]
        have hTk : T.take k ++ [p] = T.take (k + 1) := by
          rw [List.take_add_one, hpp]; rfl
        rw [hTk] at o3
        have hpk : ∀ (h : k < T.length), T[k] = p := fun h => by rw [List.getElem?_eq_getElem h] at hpp; exact Option.some.inj hpp
        have keepA : ∀ i (h : i < ds.length) (l : Nat), (ds[i]).on l → H3[l]? = H'[l]? := fun i h l hl => by
          rw [x3.row l (ho2.onlt (List.getElem_mem h) hl) (ho2.off _ (List.getElem_mem h) l hl), pre_at p2 (ho.onlt (List.getElem_mem h) hl)]
        refine ih (k + 1) a'' _ H3 (by omega) (by omega) x3.pre o3 (fun i h1 h2 => ?_) (fun i j h1 h2 hne l hl1 hl2 => ?_)
        · rw [List.getElem_append]
          by_cases e : i < k
          · rw [dif_pos (by omega)]
            exact (hown i (by omega) h2).keep fun l hl => keepA i (by omega) l hl
          · have e' : i = k := by simp [hlen] at h1; omega
            subst e'
            rw [dif_neg (by omega)]
            simp only [List.getElem_singleton]
            rw [hpk h2]
            have hdo' : d.own H3 H'.length p := hdo.keep fun l hl => x3.row l (hd.lt hl) (fun e => by have := hfr l hl; have := ho.own.lt' e; omega)
            have hb : ∀ {t : TypeId} {x : Pl} {m : Nat} {es : List GV}, Own H3 H'.length t x m es → Own H3 H.length t x m es := fun h => by
              have := hp.length_le
              rcases h with h | ⟨q, q1, q2, q3⟩
              · exact .inl h
              · exact .inr ⟨q, q1, by omega, q3⟩
            exact ⟨hdo'.used, hdo'.leaf, hb hdo'.keys, hb hdo'.vals, hb hdo'.kids, hdo'.d12, hdo'.d13, hdo'.d23⟩
        · simp only [List.length_append, List.length_singleton] at h1 h2
          rw [List.getElem_append] at hl1 hl2
          by_cases e1 : i < k
          · rw [dif_pos (by omega)] at hl1
            by_cases e2 : j < k
            · rw [dif_pos (by omega)] at hl2
              exact hap i j (by omega) (by omega) hne l hl1 hl2
            · rw [dif_neg (by omega)] at hl2
              simp only [List.getElem_singleton] at hl2
              have := hfr l hl2
              have := ho.onlt (List.getElem_mem (by omega : i < ds.length)) hl1
              omega
          · rw [dif_neg (by omega)] at hl1
            simp only [List.getElem_singleton] at hl1
            by_cases e2 : j < k
            · rw [dif_pos (by omega)] at hl2
              have := hfr l hl1
              have := ho.onlt (List.getElem_mem (by omega : j < ds.length)) hl2
              omega
            · omega
      · obtain rfl : k = n := by omega
        rw [bite_f (by simp)]
        rw [List.take_of_length_le (by omega)] at ho
        exact hQ a' ds H' hp ho hown hap
  refine ⟨n + 2, ?_⟩
  rw [law0_CopyTree_eq]
  exact loop (n + 1) 0 none [] H (by omega) (Nat.zero_le _) (List.prefix_refl _) (OT.nil _ _ _) (fun i h => (by simp at h)) (fun i j h => (by simp at h))
/-- two trees -/
theorem law0_SameTree_spec {a2 : Pl} {n2 : Nat} {cs2 : List PC} {T2 : List Pg} (h1 : Tr H a n cs T) (h2 : Tr H a2 n2 cs2 T2) (hn : n ≤ 4611686018427387904) (hQ : ∀ b, (b = true ↔ T = T2) → Q (.g (.bool b)) H) : law0_SameTree [.agg [.sl a n 5], .agg [.sl a2 n2 5]] H Q := by
  have q1 := h1.lenT
  have q2 := h2.lenT
  refine ⟨n + 2, ?_⟩
  rw [law0_SameTree_eq]
  refine bite_of (fun e => hQ _ ⟨fun q => (by cases q), fun q => ?_⟩) (fun e => ?_)
  · subst q; simp at e; omega
  have hnn : n = n2 := by simp at e; omega
  subst hnn
  have loop : ∀ f k : Nat, n - k < f → k ≤ n → (∀ i (h : i < T.length) (h' : i < T2.length), i < k → T[i] = T2[i]) → law0_SameTree.l4 f a n a2 n (k : Int) H Q := by
    intro f
    induction f with
    | zero => intro k h; omega
    | succ f ih =>
      intro k hf hk he
      rw [law0_SameTree.l4_eq]
      by_cases hkn : k < n
      · obtain ⟨l, o, c, p, rfl, hc, hp, hpc, g0, g1, g2, g3, g4⟩ := h1.get hkn
        obtain ⟨l', o', c', p', rfl, hc', hp', hpc', g0', g1', g2', g3', g4'⟩ := h2.get hkn
        have etN : tN (k : Int) = k := rfl
        rw [bite_t (by simp; omega), chk_true]
        refine chk_of (by simp; omega) ?_
        rw [pS_some, etN, rdPage_of g0 g1 g2 g3 g4, chk_true]
        refine chk_of (by simp; omega) ?_
        rw [pS_some, rdPage_of g0' g1' g2' g3' g4']
        refine law0_SamePage_spec hpc hpc' fun b hb => ?_
        simp only [rG_g, dB_bool]
        have e1 : ∀ h : k < T.length, T[k] = p := fun h => by rw [List.getElem?_eq_getElem h] at hp; exact Option.some.inj hp
        have e2 : ∀ h : k < T2.length, T2[k] = p' := fun h => by rw [List.getElem?_eq_getElem h] at hp'; exact Option.some.inj hp'
        refine bite_of (fun eb => hQ _ ⟨fun q => (by cases q), fun q => ?_⟩) (fun eb => ?_)
        · have : p = p' := by rw [← e1 (by omega), ← e2 (by omega)]; congr 1
          rw [hb.2 this] at eb; cases eb
        · rw [wrap_succ (by omega)]
          refine ih (k + 1) (by omega) (by omega) fun i hi1 hi2 hik => ?_
          by_cases e : i < k
          · exact he i hi1 hi2 e
          · have e' : i = k := by omega
            subst e'
            rw [e1 hi1, e2 hi2]
            exact hb.1 (by cases b <;> simp_all)
      · rw [bite_f (by simp; omega)]
        exact hQ _ ⟨fun _ => List.ext_getElem (by omega) fun i hi1 hi2 => he i hi1 hi2 (by omega), fun _ => rfl⟩
  exact loop _ 0 (by omega) (Nat.zero_le _) (fun i _ _ h => by omega)
end
end Go.Am
