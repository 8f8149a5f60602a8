import Derived.Test.YtfgkfhjlcbccaaaS64
set_option linter.unusedVariables false
set_option linter.unusedSimpArgs false
namespace Go.Am

def Dj (a b : Pl) : Prop := ∀ l, a = some (l, 0) → b ≠ some (l, 0)
theorem Dj.symm {a b : Pl} (h : Dj a b) : Dj b a := fun l h1 h2 => h l h2 h1
theorem Own.lt' {H : Hp} {b : Nat} {t : TypeId} {a : Pl} {n : Nat} {cs : List GV} (h : Own H b t a n cs) {l : Nat} (e : a = some (l, 0)) : l < H.length := by subst e; exact h.lt
theorem Own.after {H0 H H' : Hp} {b : Nat} {t : TypeId} {a a0 : Pl} {n : Nat} {cs : List GV} (h : Own H b t a n cs) (hd : Dj a0 a) (hx : Ex H0 a0 H H') : Own H' b t a n cs :=
  h.keep fun l e => hx.row l (h.lt' e) fun e0 => hd l e0 e
theorem Dj.fresh {H : Hp} {b : Nat} {t : TypeId} {a a' : Pl} {n : Nat} {cs : List GV} (h : Own H b t a n cs) (hf : ∀ l o, a' = some (l, o) → H.length ≤ l) : Dj a' a := fun l e1 e2 => by
  have := hf l 0 e1; have := h.lt' e2; omega
theorem Own.set {H : Hp} {b : Nat} {t : TypeId} {a : Pl} {n : Nat} {cs : List GV} (h : Own H b t a n cs) {l : Nat} (hd : a ≠ some (l, 0)) (x : Obj) : Own (H.set l x) b t a n cs :=
  h.keep fun l' e => by rw [List.getElem?_set_ne]; intro q; subst q; exact hd e

/-- a page in rows of one's own -/
structure PgOwn (H : Hp) (b : Nat) (u l : Bool) (a1 : Pl) (n1 : Nat) (a2 : Pl) (n2 : Nat) (a3 : Pl) (n3 : Nat) (p : Pg) : Prop where
  used : p.used = u
  leaf : p.leaf = l
  keys : Own H b 9 a1 n1 (p.keys.map GV.str)
  vals : Own H b 9 a2 n2 (p.vals.map GV.str)
  kids : Own H b 3 a3 n3 (p.kids.map (GV.int .i64))
  d12 : Dj a1 a2
  d13 : Dj a1 a3
  d23 : Dj a2 a3
  small : n1 ≤ 1000 ∧ n2 ≤ 1000 ∧ n3 ≤ 1000
theorem PgOwn.at {H : Hp} {b : Nat} {u l : Bool} {a1 : Pl} {n1 : Nat} {a2 : Pl} {n2 : Nat} {a3 : Pl} {n3 : Nat} {p : Pg} (h : PgOwn H b u l a1 n1 a2 n2 a3 n3 p) : PgAt H u l a1 n1 a2 n2 a3 n3 p := by
  obtain ⟨h1, h2, h3, h4, h5, _, _, _, s⟩ := h
  refine ⟨h1, h2, ⟨h3.cells, ?_, by omega⟩, ⟨h4.cells, ?_, by omega⟩, ⟨h5.cells, ?_, by omega⟩⟩
  · have := h3.len; simpa using this.symm
  · have := h4.len; simpa using this.symm
  · have := h5.len; simpa using this.symm
theorem Own.mono {H H' : Hp} (hp : H <+: H') {b : Nat} {t : TypeId} {a : Pl} {n : Nat} {cs : List GV} (h : Own H b t a n cs) : Own H' b t a n cs := h.keep fun l e => pre_at hp (h.lt' e)
theorem PgOwn.mono {H H' : Hp} (hp : H <+: H') {b : Nat} {u l : Bool} {a1 : Pl} {n1 : Nat} {a2 : Pl} {n2 : Nat} {a3 : Pl} {n3 : Nat} {p : Pg} (h : PgOwn H b u l a1 n1 a2 n2 a3 n3 p) : PgOwn H' b u l a1 n1 a2 n2 a3 n3 p :=
  ⟨h.used, h.leaf, h.keys.mono hp, h.vals.mono hp, h.kids.mono hp, h.d12, h.d13, h.d23, h.small⟩

def noPg : Pg := ⟨false, false, [], [], []⟩
theorem noPg_own (H : Hp) (b : Nat) : PgOwn H b false false none 0 none 0 none 0 noPg :=
  ⟨rfl, rfl, .inl ⟨rfl, rfl, rfl⟩, .inl ⟨rfl, rfl, rfl⟩, .inl ⟨rfl, rfl, rfl⟩, fun _ e => (by cases e), fun _ e => (by cases e), fun _ e => (by cases e), by omega⟩

/-- what Get and GetPage answer -/
def GetQ (s : ByteArray) (b : Nat) (Q : Post) (H : Hp) : Prop := ∀ u l a1 n1 a2 n2 a3 n3 p e H', H <+: H' → PgOwn H' b u l a1 n1 a2 n2 a3 n3 p →
  ((e = 0 ∧ MayP p ∧ text p = s) ∨ (e = 600 ∧ p = noPg ∧ ∀ p', MayP p' → text p' ≠ s)) → Q (.tup [.a [.bool u, .bool l, .sl a1 n1 1, .sl a2 n2 1, .sl a3 n3 1], .s (.int .i64 e)]) H'

structure GI (H0 H : Hp) (lt : Nat) (R : List UInt8) (a1 : Pl) (ks : List ByteArray) (a2 : Pl) (vs : List ByteArray) (a3 : Pl) (is : List Int) : Prop where
  pre : H0 <+: H
  row : H[lt]? = some (.row true 65 [.str (mkS R)])
  o1 : Own H H0.length 9 a1 ks.length (ks.map GV.str)
  o2 : Own H H0.length 9 a2 vs.length (vs.map GV.str)
  o3 : Own H H0.length 3 a3 is.length (is.map (GV.int .i64))
  d1 : a1 ≠ some (lt, 0)
  d2 : a2 ≠ some (lt, 0)
  d3 : a3 ≠ some (lt, 0)
  d12 : Dj a1 a2
  d13 : Dj a1 a3
  d23 : Dj a2 a3
  b : H0.length ≤ lt

section
variable {H0 H : Hp} {lt : Nat} {R : List UInt8} {a1 : Pl} {ks : List ByteArray} {a2 : Pl} {vs : List ByteArray} {a3 : Pl} {is : List Int}
theorem GI.turn (g : GI H0 H lt R a1 ks a2 vs a3 is) (R' : List UInt8) : GI H0 (H.set lt (.row true 65 [.str (mkS R')])) lt R' a1 ks a2 vs a3 is :=
  ⟨pre_set g.pre g.b _, List.getElem?_set_self (List.getElem?_eq_some_iff.1 g.row).1, g.o1.set g.d1 _, g.o2.set g.d2 _, g.o3.set g.d3 _, g.d1, g.d2, g.d3, g.d12, g.d13, g.d23, g.b⟩
theorem GI.in_ (g : GI H0 H lt R a1 ks a2 vs a3 is) : lt < H.length := (List.getElem?_eq_some_iff.1 g.row).1
theorem GI.key (g : GI H0 H lt R a1 ks a2 vs a3 is) (s : ByteArray) (hk : ks.length ≤ 100) {K : Pl → Nat → Hp → Prop} (hK : ∀ a' H', GI H0 H' lt R a' (ks ++ [s]) a2 vs a3 is → K a' (ks.length + 1) H') : ap H 9 1 16 a1 ks.length [.str s] 1 K := by
  refine ap_own g.pre g.o1 rfl (by unfold Lim; omega) fun a' H' h1 h2 h3 => hK a' H' ?_
  refine ⟨h2.pre, by rw [h2.row lt g.in_ g.d1]; exact g.row, by simpa using h1, g.o2.after g.d12 h2, g.o3.after g.d13 h2, fun e => ?_, g.d2, g.d3, Dj.fresh g.o2 h3, Dj.fresh g.o3 h3, g.d23, g.b⟩
  have := h3 lt 0 e; have := g.in_; omega
theorem GI.val (g : GI H0 H lt R a1 ks a2 vs a3 is) (s : ByteArray) (hk : vs.length ≤ 100) {K : Pl → Nat → Hp → Prop} (hK : ∀ a' H', GI H0 H' lt R a1 ks a' (vs ++ [s]) a3 is → K a' (vs.length + 1) H') : ap H 9 1 16 a2 vs.length [.str s] 1 K := by
  refine ap_own g.pre g.o2 rfl (by unfold Lim; omega) fun a' H' h1 h2 h3 => hK a' H' ?_
  refine ⟨h2.pre, by rw [h2.row lt g.in_ g.d2]; exact g.row, g.o1.after g.d12.symm h2, by simpa using h1, g.o3.after g.d23 h2, g.d1, fun e => ?_, g.d3, (Dj.fresh g.o1 h3).symm, g.d13, Dj.fresh g.o3 h3, g.b⟩
  have := h3 lt 0 e; have := g.in_; omega
theorem GI.kid (g : GI H0 H lt R a1 ks a2 vs a3 is) (s : Int) (hk : is.length ≤ 1000) {K : Pl → Nat → Hp → Prop} (hK : ∀ a' H', GI H0 H' lt R a1 ks a2 vs a' (is ++ [s]) → K a' (is.length + 1) H') : ap H 3 1 8 a3 is.length [.int .i64 s] 1 K := by
  refine ap_own g.pre g.o3 rfl (by unfold Lim; omega) fun a' H' h1 h2 h3 => hK a' H' ?_
  refine ⟨h2.pre, by rw [h2.row lt g.in_ g.d3]; exact g.row, g.o1.after g.d13.symm h2, g.o2.after g.d23.symm h2, by simpa using h1, g.d1, g.d2, fun e => ?_, g.d12, (Dj.fresh g.o1 h3).symm, (Dj.fresh g.o2 h3).symm, g.b⟩
  have := h3 lt 0 e; have := g.in_; omega
theorem GI.pg (g : GI H0 H lt R a1 ks a2 vs a3 is) (u l : Bool) (h1 : ks.length ≤ 1000) (h2 : vs.length ≤ 1000) (h3 : is.length ≤ 1000) : PgOwn H H0.length u l a1 ks.length a2 vs.length a3 is.length ⟨u, l, ks, vs, is⟩ :=
  ⟨rfl, rfl, g.o1, g.o2, g.o3, g.d12, g.d13, g.d23, h1, h2, h3⟩
end

section
variable {H0 : Hp} {Q : Post} {s : ByteArray}

/-- the end of both: is it that page's text? -/
theorem get_end {H : Hp} {u l : Bool} {a1 : Pl} {n1 : Nat} {a2 : Pl} {n2 : Nat} {a3 : Pl} {n3 : Nat} {p : Pg} (h : PgOwn H H0.length u l a1 n1 a2 n2 a3 n3 p) (hp : H0 <+: H) (hu : ∀ p', MayP p' → text p' = s → p = p') (hQ : GetQ s H0.length Q H0)
    {F : List FV → Hp → Post → Prop} (hF : ∀ Q' : Post, (¬ MayP p → ∀ H', H <+: H' → Q' (.tup [.s (.str (mkS [])), .s (.int .i64 600)]) H') → (MayP p → ∀ H', H <+: H' → Q' (.tup [.s (.str (text p)), .s (.int .i64 0)]) H') →
      F [.agg [.bool u, .bool l, .sl a1 n1 1, .sl a2 n2 1, .sl a3 n3 1]] H Q') :
    cl F [.agg [.bool u, .bool l, .sl a1 n1 1, .sl a2 n2 1, .sl a3 n3 1]] H fun r7 H8 => rT r7 fun c9 => uR c9 fun q10 c11 => rS q10 fun v12 => dS v12 fun s13 => uR c11 fun q14 c15 => rS q14 fun v16 => dI .i64 v16 fun i17 =>
      uE c15 (bite (!(eqI i17 0))
       (Q (.tup [(.a [(.bool false), (.bool false), (.sl none 0 1), (.sl none 0 1), (.sl none 0 1)]), (.s (.int .i64 600))]) H8)
       (bite (!(strEq s13 s))
        (Q (.tup [(.a [(.bool false), (.bool false), (.sl none 0 1), (.sl none 0 1), (.sl none 0 1)]), (.s (.int .i64 600))]) H8)
        (Q (.tup [(.a [(.bool u), (.bool l), (.sl a1 n1 1), (.sl a2 n2 1), (.sl a3 n3 1)]), (.s (.int .i64 0))]) H8))) := by
  refine hF _ (fun hn H' p' => ?_) (fun hm H' p' => ?_)
  · simp only [rT_tup, uR_cons, rS_s, dS_str, dI_int, uE_nil]
    rw [bite_t (by decide)]
    exact hQ _ _ _ _ _ _ _ _ _ _ _ (hp.trans p') (noPg_own _ _) (.inr ⟨rfl, rfl, fun p2 h1 h2 => hn (by rw [hu p2 h1 h2]; exact h1)⟩)
  · simp only [rT_tup, uR_cons, rS_s, dS_str, dI_int, uE_nil]
    rw [bite_f (by decide)]
    by_cases e : text p = s
    · rw [bite_f (by simpa using e)]
      exact hQ _ _ _ _ _ _ _ _ _ _ _ (hp.trans p') (h.mono p') (.inl ⟨rfl, hm, e⟩)
    · rw [bite_t (by simpa using e)]
      exact hQ _ _ _ _ _ _ _ _ _ _ _ (hp.trans p') (noPg_own _ _) (.inr ⟨rfl, rfl, fun p2 h1 h2 => e (by rw [hu p2 h1 h2]; exact h2)⟩)

theorem page_Get_l11 {lt : Nat} {a1 : Pl} {ks : List ByteArray} {a2 : Pl} {vs : List ByteArray} (lf : Bool) (n : Nat) (hk : ks.length ≤ 100) (hv : vs.length ≤ 100) (hn : n ≤ 4) (hQ : GetQ s H0.length Q H0) (pEnd : Pg)
    (hu : ∀ p', MayP p' → text p' = s → pEnd = p') :
    ∀ (f k : Nat) (H : Hp) (R : List UInt8) (a3 : Pl) (is : List Int), n + 1 - k < f → k ≤ n + 1 → is.length ≤ k → GI H0 H lt R a1 ks a2 vs a3 is →
      pEnd = ⟨true, lf, ks, vs, match lf with | true => is | false => takeK (n + 1 - k) R is⟩ →
      page_Get.l11 f s false false none 0 none 0 none 0 lt 0 true lf a1 ks.length a2 vs.length a3 is.length (n : Int) (k : Int) lt 0 H Q := by
  intro f
  induction f with
  | zero => intro k H R a3 is hf; omega
  | succ f ih =>
    intro k H R a3 is hf hk1 hi g he
    rw [page_Get.l11_eq]
    by_cases hkn : k ≤ n
    · rw [bite_t (by simp; omega)]
      cases lf with
      | true =>
        rw [bite_f (b := !true) rfl]
        have ho : PgOwn H H0.length true true a1 ks.length a2 vs.length a3 is.length pEnd := by rw [he]; exact g.pg true true (by omega) (by omega) (by omega)
        exact get_end ho g.pre hu hQ fun Q' h1 h2 => page_Put_spec ho.at h1 h2
      | false =>
        rw [bite_t (b := !false) rfl]
        refine page_taker_byte_spec g.row ?_
        simp only [rG_g, dI_int]
        rw [chk_true]
        refine (g.turn _).kid _ (by omega) fun a' H' g' => ?_
        rw [wrap_succ (by omega)]
        have := ih (k + 1) H' _ a' (is ++ [((tkB R).1 : Int)]) (by omega) (by omega) (by simp; omega) g' (by
          rw [he, show n + 1 - k = (n + 1 - (k + 1)) + 1 by omega]; rfl)
        simpa using this
    · rw [bite_f (by simp; omega)]
      have ho : PgOwn H H0.length true lf a1 ks.length a2 vs.length a3 is.length pEnd := by
        rw [he, show n + 1 - k = 0 by omega]
        have := g.pg true lf (by omega) (by omega) (by omega)
        cases lf <;> exact this
      exact get_end ho g.pre hu hQ fun Q' h1 h2 => page_Put_spec ho.at h1 h2

theorem page_Get_l5 {lt : Nat} (lf : Bool) (n : Nat) (hn : n ≤ 4) (hQ : GetQ s H0.length Q H0) (pEnd : Pg) (hu : ∀ p', MayP p' → text p' = s → pEnd = p') :
    ∀ (f k : Nat) (H : Hp) (R : List UInt8) (a1 : Pl) (ks : List ByteArray) (a2 : Pl) (vs : List ByteArray), n - k + n + 3 < f → k ≤ n → ks.length ≤ k → vs.length ≤ k → GI H0 H lt R a1 ks a2 vs none [] →
      pEnd = ⟨true, lf, (takeE lf (n - k) R ks vs).ks, (takeE lf (n - k) R ks vs).vs, match lf with | true => [] | false => takeK (n + 1) (takeE lf (n - k) R ks vs).R []⟩ →
      page_Get.l5 f s false false none 0 none 0 none 0 lt 0 true lf a1 ks.length a2 vs.length none 0 (n : Int) lt 0 (n : Int) (k : Int) H Q := by
  intro f
  induction f with
  | zero => intro k H R a1 ks a2 vs hf; omega
  | succ f ih =>
    intro k H R a1 ks a2 vs hf hkn hk hv g he
    rw [page_Get.l5_eq]
    by_cases hlt : k < n
    · rw [bite_t (by simp; omega)]
      refine page_taker_text_spec g.row ?_
      simp only [rG_g, dS_str]
      rw [chk_true]
      refine (g.turn _).key _ (by omega) fun a' H' g' => ?_
      cases lf with
      | true =>
        rw [bite_t rfl]
        refine page_taker_text_spec g'.row ?_
        simp only [rG_g, dS_str]
        rw [chk_true]
        refine (g'.turn _).val _ (by omega) fun a'' H'' g'' => ?_
        rw [wrap_succ (by omega)]
        have := ih (k + 1) H'' _ a' (ks ++ [mkS (tkT R).1]) a'' (vs ++ [mkS (tkT (tkT R).2).1]) (by omega) (by omega) (by simp; omega) (by simp; omega) g'' (by
          rw [he, show n - k = (n - (k + 1)) + 1 by omega]; rfl)
        simpa using this
      | false =>
        rw [bite_f rfl]
        rw [wrap_succ (by omega)]
        have := ih (k + 1) H' _ a' (ks ++ [mkS (tkT R).1]) a2 vs (by omega) (by omega) (by simp; omega) (by omega) g' (by
          rw [he, show n - k = (n - (k + 1)) + 1 by omega]; rfl)
        simpa using this
    · rw [bite_f (by simp; omega)]
      rw [show n - k = 0 by omega] at he
      exact page_Get_l11 lf n (by omega) (by omega) hn hQ pEnd hu f 0 H R none [] (by omega) (by omega) (by simp) g (by rw [he]; cases lf <;> rfl)

theorem page_Get_spec (hQ : GetQ s H0.length Q H0) : page_Get [.g (.str s)] H0 Q := by
  refine ⟨16, ?_⟩
  rw [page_Get_eq]
  have g0 : GI H0 (H0 ++ [.row true 65 [.str (mkS (bs s))]]) H0.length (bs s) none [] none [] none [] :=
    ⟨List.prefix_append _ _, by simp, .inl ⟨rfl, rfl, rfl⟩, .inl ⟨rfl, rfl, rfl⟩, .inl ⟨rfl, rfl, rfl⟩, by simp, by simp, by simp, fun _ e => (by cases e), fun _ e => (by cases e), fun _ e => (by cases e), Nat.le_refl _⟩
  simp only [mkS_bs] at g0
  have g0' := g0
  rw [← mkS_bs s] at g0'
  refine page_taker_byte_spec (L := bs s) (by simp) ?_
  simp only [rG_g, dI_int]
  have g1 := g0'.turn (tkB (bs s)).2
  refine page_taker_byte_spec (L := (tkB (bs s)).2) g1.row ?_
  simp only [rG_g, dI_int]
  have g2 := g1.turn (tkB (tkB (bs s)).2).2
  have hn : mnI ((tkB (tkB (bs s)).2).1 : Int) 4 = (pN (bs s) : Int) := by
    simp [mnI, pN]; split <;> omega
  have hl : eqI ((tkB (bs s)).1 : Int) 1 = pLeaf (bs s) := by
    simp only [eqI_def, pLeaf]
    rw [Bool.eq_iff_iff]; simp; omega
  have hn4 : pN (bs s) ≤ 4 := by unfold pN; omega
  rw [hn, hl]
  have := page_Get_l5 (H0 := H0) (Q := Q) (s := s) (lt := H0.length) (pLeaf (bs s)) (pN (bs s)) hn4 hQ (parse (bs s)) (fun p' h1 h2 => by
    rw [← h2]; exact parse_text h1) 15 0 _ _ none [] none [] (by omega) (Nat.zero_le _) (by simp) (by simp) g2 rfl
  simpa using this
end
end Go.Am
