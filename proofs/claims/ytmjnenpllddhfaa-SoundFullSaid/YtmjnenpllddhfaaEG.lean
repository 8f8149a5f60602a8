import Derived.Test.YtmjnenpllddhfaaEF
set_option linter.unusedVariables false
set_option linter.unusedSimpArgs false
namespace Go.Am

/-- a tree whose rows are all one's own -/
structure CT (B H : Hp) (t : TypeId) (a : Pl) (n : Nat) (ds : List PC) (T : List Pg) : Prop where
  pre : B <+: H
  ot : OT H B.length t a n ds T
  own : ∀ i (h : i < ds.length) (h' : i < T.length), (ds[i]).own H B.length T[i]
  ap : ∀ i j (hi : i < ds.length) (hj : j < ds.length), i ≠ j → ∀ l, (ds[i]).on l → ¬ (ds[j]).on l
section
variable {B H H' : Hp} {t : TypeId} {a : Pl} {n : Nat} {ds : List PC} {T : List Pg}
theorem CT.mono (g : CT B H t a n ds T) (hp : H <+: H') : CT B H' t a n ds T :=
  ⟨g.pre.trans hp, g.ot.mono hp, fun i h h' => (g.own i h h').keep fun l hl => pre_at hp (g.ot.onlt (List.getElem_mem h) hl), g.ap⟩
/-- a page's row of keys turned -/
theorem CT.setRow (g : CT B H t a n ds T) {i : Nat} (hi : i < ds.length) (hi' : i < T.length) {l : Nat} (hon : (ds[i]).on l) (x : Obj) (hb : B.length ≤ l) (p : Pg)
    (hat : (ds[i]).at (H.set l x) p) (how : (ds[i]).own (H.set l x) B.length p) : CT B (H.set l x) t a n ds (T.set i p) := by
  have q1 := g.ot.len
  have q2 := g.ot.lenT
  have other : ∀ j (h : j < ds.length), j ≠ i → ∀ m, (ds[j]).on m → (H.set l x)[m]? = H[m]? := fun j h hne m hm => by
    rw [List.getElem?_set_ne]
    intro e; subst e
    exact g.ap i j hi h (Ne.symm hne) l hon hm
  refine ⟨pre_set g.pre hb x, ⟨g.ot.own.keep fun m e => ?_, q1, by simp [q2], fun j h1 h2 => ?_, g.ot.off⟩, fun j h1 h2 => ?_, g.ap⟩
  · rw [List.getElem?_set_ne]
    intro e'; subst e'
    exact g.ot.off _ (List.getElem_mem hi) l hon e
  · rw [List.getElem_set]
    by_cases e : i = j
    · subst e; rw [if_pos rfl]; exact hat
    · rw [if_neg e]
      simp at h2
      exact (g.ot.all j h1 h2).keep (other j h1 (Ne.symm e))
  · rw [List.getElem_set]
    by_cases e : i = j
    · subst e; rw [if_pos rfl]; exact how
    · rw [if_neg e]
      simp at h2
      exact (g.own j h1 h2).keep (other j h1 (Ne.symm e))
theorem CT.key (g : CT B H t a n ds T) {i j : Nat} (hi : i < ds.length) (hi' : i < T.length) (hj : j < (T[i]).keys.length) (s : ByteArray) {K : Hp → Prop}
    (hK : ∀ H', CT B H' t a n ds (T.set i { T[i] with keys := (T[i]).keys.set j s }) → K H') : ∃ l, (ds[i]).a1 = some (l, 0) ∧ wr H l j (.str s) K := by
  have ho := g.own i hi hi'
  have hat := g.ot.all i hi hi'
  rcases ho.keys with ⟨_, h, _⟩ | ⟨l, e, hb, hr, hl⟩
  · have := hat.keys.len; omega
  have hlt := (List.getElem?_eq_some_iff.1 hr).1
  have hon : (ds[i]).on l := ⟨0, .inl e⟩
  refine ⟨l, e, wr_row hr (by simpa using hj) ?_⟩
  rw [← List.map_set]
  have keep : ∀ {tt : TypeId} {x : Pl} {m : Nat} {es : List GV} (y : Obj), Own H B.length tt x m es → Dr (ds[i]).a1 x → Own (H.set l y) B.length tt x m es := fun y h hd => h.keep fun m e' => by
    rw [List.getElem?_set_ne]; intro q; subst q; exact hd l 0 0 e e'
  have how : (ds[i]).own (H.set l (.row true 9 (((T[i]).keys.set j s).map GV.str))) B.length { T[i] with keys := (T[i]).keys.set j s } :=
    ⟨ho.used, ho.leaf, .inr ⟨l, e, hb, List.getElem?_set_self hlt, by simpa using hl⟩, keep _ ho.vals ho.d12, keep _ ho.kids ho.d13, ho.d12, ho.d13, ho.d23⟩
  refine hK _ (g.setRow hi hi' hon _ hb _ ⟨hat.used, hat.leaf, ⟨how.keys.cells, ?_, hat.keys.lim⟩, ⟨how.vals.cells, hat.vals.len, hat.vals.lim⟩, ⟨how.kids.cells, hat.kids.len, hat.kids.lim⟩⟩ how)
  simpa using hat.keys.len
theorem CT.kid (g : CT B H t a n ds T) {i j : Nat} (hi : i < ds.length) (hi' : i < T.length) (hj : j < (T[i]).kids.length) (s : Int) {K : Hp → Prop}
    (hK : ∀ H', CT B H' t a n ds (T.set i { T[i] with kids := (T[i]).kids.set j s }) → K H') : ∃ l, (ds[i]).a3 = some (l, 0) ∧ wr H l j (.int .i64 s) K := by
  have ho := g.own i hi hi'
  have hat := g.ot.all i hi hi'
  rcases ho.kids with ⟨_, h, _⟩ | ⟨l, e, hb, hr, hl⟩
  · have := hat.kids.len; omega
  have hlt := (List.getElem?_eq_some_iff.1 hr).1
  have hon : (ds[i]).on l := ⟨0, .inr (.inr e)⟩
  refine ⟨l, e, wr_row hr (by simpa using hj) ?_⟩
  rw [← List.map_set]
  have keep : ∀ {tt : TypeId} {x : Pl} {m : Nat} {es : List GV} (y : Obj), Own H B.length tt x m es → Dr x (ds[i]).a3 → Own (H.set l y) B.length tt x m es := fun y h hd => h.keep fun m e' => by
    rw [List.getElem?_set_ne]; intro q; subst q; exact hd l 0 0 e' e
  have how : (ds[i]).own (H.set l (.row true 3 (((T[i]).kids.set j s).map (GV.int .i64)))) B.length { T[i] with kids := (T[i]).kids.set j s } :=
    ⟨ho.used, ho.leaf, keep _ ho.keys ho.d13, keep _ ho.vals ho.d23, .inr ⟨l, e, hb, List.getElem?_set_self hlt, by simpa using hl⟩, ho.d12, ho.d13, ho.d23⟩
  refine hK _ (g.setRow hi hi' hon _ hb _ ⟨hat.used, hat.leaf, ⟨how.keys.cells, hat.keys.len, hat.keys.lim⟩, ⟨how.vals.cells, hat.vals.len, hat.vals.lim⟩, ⟨how.kids.cells, ?_, hat.kids.lim⟩⟩ how)
  simpa using hat.kids.len
theorem CT.keyW (g : CT B H t a n ds T) {i j : Nat} (hi : i < ds.length) (hi' : i < T.length) (hj : j < (T[i]).keys.length) (s : ByteArray) {K : Hp → Prop}
    (hK : ∀ H', CT B H' t a n ds (T.set i { T[i] with keys := (T[i]).keys.set j s }) → K H') : pS (ds[i]).a1 fun n m => wr H n (m + tN (j : Int) * 1) (.str s) K := by
  obtain ⟨l, e, h⟩ := g.key hi hi' hj s hK
  have e1 : 0 + tN (j : Int) * 1 = j := by rw [Nat.zero_add, Nat.mul_one]; rfl
  rw [e, pS_some, e1]
  exact h
theorem CT.kidW (g : CT B H t a n ds T) {i j : Nat} (hi : i < ds.length) (hi' : i < T.length) (hj : j < (T[i]).kids.length) (s : Int) {K : Hp → Prop}
    (hK : ∀ H', CT B H' t a n ds (T.set i { T[i] with kids := (T[i]).kids.set j s }) → K H') : pS (ds[i]).a3 fun n m => wr H n (m + tN (j : Int) * 1) (.int .i64 s) K := by
  obtain ⟨l, e, h⟩ := g.kid hi hi' hj s hK
  have e1 : 0 + tN (j : Int) * 1 = j := by rw [Nat.zero_add, Nat.mul_one]; rfl
  rw [e, pS_some, e1]
  exact h
theorem law0_CopyTree_ct {Q : Post} {cs : List PC} (hT : Tr H a n cs T) (hn : n * 80 ≤ 140737488351232) (hQ : ∀ a' ds H', CT H H' 34 a' n ds T → Q (.agg [.sl a' n 5]) H') : law0_CopyTree [.agg [.sl a n 5]] H Q :=
  law0_CopyTree_spec hT hn fun a' ds H' p o1 o2 o3 => hQ a' ds H' ⟨p, o1, o2, o3⟩
end

def kv5 : KV := [(mkS [97], mkS []), (mkS [98], mkS []), (mkS [99], mkS []), (mkS [100], mkS []), (mkS [101], mkS [])]
theorem kv5_at (H : Hp) : Kv (H ++ [.row false 0 [(.str (mkS [97])), (.str (mkS [])), (.str (mkS [98])), (.str (mkS [])), (.str (mkS [99])), (.str (mkS [])), (.str (mkS [100])), (.str (mkS [])), (.str (mkS [101])), (.str (mkS []))]]) (some (H.length, 0)) 5 kv5 :=
  ⟨by simp [cells?, kvCells, kv5], rfl⟩
theorem h_new : heightD newT = 1 := by decide +kernel
theorem h_5 : heightD (buildD kv5) = 2 := by decide +kernel
theorem k_5 : ((buildD kv5)[0]?.map fun p => p.keys.length) = some 1 := by decide +kernel
def turned5 : List Pg := (buildD kv5).set 0 { ((buildD kv5)[0]?.getD noPg) with keys := ((buildD kv5)[0]?.getD noPg).keys.set 0 (mkS [101]) }
theorem h_t5 : heightD turned5 = 0 := by decide +kernel
theorem h_nil : heightD [] = 0 := rfl
theorem tr_nil (H : Hp) : Tr H none 0 [] [] := ⟨rfl, rfl, rfl, fun i h => (by simp at h)⟩

section
variable {H : Hp} {Q : Post}
set_option maxRecDepth 100000 in
theorem law10_awake_spec (hQ : ∀ H', H <+: H' → Q (.g (.bool true)) H') : law10_awake [] H Q := by
  refine ⟨1, ?_⟩
  rw [law10_awake_eq]
  refine sound_New_spec fun H1 p1 o1 => ?_
  simp only [rA_agg, uC_cons, dL_sl, uN_nil]
  rw [bite_f (by decide)]
  simp only [pu_def, ln_def]
  have p2 := pre_pu H1 (.row false 0 [(.str (mkS [97])), (.str (mkS [])), (.str (mkS [98])), (.str (mkS [])), (.str (mkS [99])), (.str (mkS [])), (.str (mkS [100])), (.str (mkS [])), (.str (mkS [101])), (.str (mkS []))])
  have hkv := kv5_at H1
  generalize H1 ++ [.row false 0 [(.str (mkS [97])), (.str (mkS [])), (.str (mkS [98])), (.str (mkS [])), (.str (mkS [99])), (.str (mkS [])), (.str (mkS [100])), (.str (mkS [])), (.str (mkS [101])), (.str (mkS []))]] = H2 at p2 hkv ⊢
  refine ref9_Build_spec hkv (by omega) fun H3 tp cs p3 o3 => ?_
  simp only [rA_agg, uC_cons, dL_sl, uN_nil]
  refine law0_CopyTree_ct o3.tr (by omega) fun c ds H4 g => ?_
  simp only [rA_agg, uC_cons, dL_sl, uN_nil]
  have hlD := g.ot.len
  have hlT := g.ot.lenT
  obtain ⟨l, o, d, p, ex, hd, hp, hpc, g0, g1, g2, g3, g4⟩ := g.ot.tr.get (i := 0) (by omega)
  have hd' : d = ds[0]'(by omega) := by rw [List.getElem?_eq_getElem (by omega)] at hd; exact (Option.some.inj hd).symm
  have hp' : p = (buildD kv5)[0]'(by omega) := by rw [List.getElem?_eq_getElem (by omega)] at hp; exact (Option.some.inj hp).symm
  have hk1 : p.keys.length = 1 := by have := k_5; rw [hp] at this; simpa using this
  subst ex
  rw [chk_true]
  refine chk_of (by decide) ?_
  have e0 : o + tN 0 * 5 + 2 = o + 0 * 5 + 2 := rfl
  rw [pS_some, e0, rd_of g2, dL_sl, chk_true]
  have hn1 : d.n1 = 1 := by rw [hpc.keys.len, hk1]
  refine chk_of (by rw [hn1]; decide) ?_
  rw [hd']
  refine g.keyW (i := 0) (j := 0) (by omega) (by omega) (by rw [← hp']; omega) (mkS [101]) fun H5 g5 => ?_
  have hT5 : (buildD kv5).set 0 { (buildD kv5)[0]'(by omega) with keys := ((buildD kv5)[0]'(by omega)).keys.set 0 (mkS [101]) } = turned5 := by
    unfold turned5
    rw [List.getElem?_eq_getElem (by omega)]; rfl
  rw [hT5] at g5
  have p35 := g5.pre
  refine law0_Num_spec ?_
  simp only [rG_g, dI_int]
  rw [bite_t (by decide)]
  refine ref9_New_spec fun H6 p6 o6 => ?_
  simp only [rA_agg, uC_cons, dL_sl, uN_nil]
  have p16 := p2.trans (p3.trans (p35.trans p6))
  refine law0_SameTree_spec (o1.tr.mono p16) o6.tr (by omega) fun b hb => ?_
  simp only [rG_g, dB_bool]
  rw [bite_t (hb.2 rfl)]
  refine sound_Sound_spec (o1.tr.mono p16) fun H7 p7 => ?_
  simp only [rG_g, dB_bool]
  rw [bite_t (by rw [h_new]; decide)]
  refine sound_Height_spec (o1.tr.mono (p16.trans p7)) fun H8 p8 => ?_
  simp only [rG_g, dI_int]
  rw [bite_t (by rw [h_new]; decide)]
  have p38 := p35.trans (p6.trans (p7.trans p8))
  refine sound_Sound_spec (o3.tr.mono p38) fun H9 p9 => ?_
  simp only [rG_g, dB_bool]
  rw [bite_t (by rw [h_5]; decide)]
  refine sound_Height_spec (o3.tr.mono (p38.trans p9)) fun H10 p10 => ?_
  simp only [rG_g, dI_int]
  rw [bite_t (by rw [h_5]; decide)]
  have p510 := p6.trans (p7.trans (p8.trans (p9.trans p10)))
  refine sound_Sound_spec (g5.ot.tr.mono p510) fun H11 p11 => ?_
  simp only [rG_g, dB_bool]
  rw [bite_t (by rw [h_t5]; decide)]
  refine sound_Height_spec (g5.ot.tr.mono (p510.trans p11)) fun H12 p12 => ?_
  simp only [rG_g, dI_int]
  rw [bite_t (by rw [h_t5]; decide)]
  refine sound_Sound_spec (tr_nil H12) fun H13 p13 => ?_
  simp only [rG_g, dB_bool]
  rw [h_nil]
  exact hQ H13 (p1.trans (p16.trans (p7.trans (p8.trans (p9.trans (p10.trans (p11.trans (p12.trans p13))))))))
theorem law10_Sounds_spec {a : Pl} {n : Nat} {cs : List PC} {T : List Pg} (hT : Tr H a n cs T) (hn : n * 80 ≤ 140737488351232) (hQ : ∀ H', Q (.g (.bool true)) H') : law10_Sounds [.agg [.sl a n 5]] H Q := by
  refine ⟨1, ?_⟩
  rw [law10_Sounds_eq]
  refine law0_CopyTree_ct hT hn fun x ds H1 g => ?_
  simp only [rA_agg, uC_cons, dL_sl, uN_nil]
  have X := g.ot.tr
  have p1 := g.pre
  refine sound_Sound_spec X fun H2 p2 => ?_
  simp only [rG_g, dB_bool]
  refine ref9_Sound_spec (hT.mono (p1.trans p2)) fun H3 p3 => ?_
  simp only [rG_g, dB_bool]
  rw [bite_f (by simp)]
  refine sound_Height_spec (X.mono (p2.trans p3)) fun H4 p4 => ?_
  simp only [rG_g, dI_int]
  refine ref9_Height_spec (hT.mono (p1.trans (p2.trans (p3.trans p4)))) fun H5 p5 => ?_
  simp only [rG_g, dI_int]
  rw [bite_f (by simp)]
  refine sound_New_spec fun H6 p6 o6 => ?_
  simp only [rA_agg, uC_cons, dL_sl, uN_nil]
  refine ref9_New_spec fun H7 p7 o7 => ?_
  simp only [rA_agg, uC_cons, dL_sl, uN_nil]
  refine law0_SameTree_spec (o6.tr.mono p7) o7.tr (by omega) fun b hb => ?_
  simp only [rG_g, dB_bool]
  rw [bite_f (by rw [hb.2 rfl]; rfl)]
  have p17 := p2.trans (p3.trans (p4.trans (p5.trans (p6.trans p7))))
  refine law0_SameTree_spec (X.mono p17) (hT.mono (p1.trans p17)) (by omega) fun b hb => ?_
  simp only [rG_g, dB_bool]
  rw [bite_t (hb.2 rfl)]
  refine law10_awake_spec fun H8 p8 => ?_
  simp only [rG_g, dB_bool]
  exact hQ _
end
end Go.Am
