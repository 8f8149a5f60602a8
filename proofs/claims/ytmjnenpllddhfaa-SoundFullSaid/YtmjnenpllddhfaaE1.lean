import Derived.Test.YtmjnenpllddhfaaS62
set_option linter.unusedVariables false
set_option linter.unusedSimpArgs false
namespace Go.Am

theorem getD_of_lt {α : Type} {l : List α} {i : Nat} (d : α) (h : i < l.length) : l[i]?.getD d = l[i] := by simp [h]
theorem set_same {α : Type} {l : List α} {i : Nat} {x : α} (h : l[i]? = some x) : l.set i x = l := by
  apply List.ext_getElem?
  intro j
  rw [List.getElem?_set]
  split
  · rename_i e; subst e; rw [h]; rw [if_pos (List.getElem?_eq_some_iff.1 h).1]
  · rfl

def Dj (a b : Pl) : Prop := ∀ l, a = some (l, 0) → b ≠ some (l, 0)
theorem Dj.symm {a b : Pl} (h : Dj a b) : Dj b a := fun l h1 h2 => h l h2 h1
theorem Own.lt' {H : Hp} {b : Nat} {t : TypeId} {a : Pl} {n : Nat} {cs : List GV} (h : Own H b t a n cs) {l : Nat} (e : a = some (l, 0)) : l < H.length := by subst e; exact h.lt
theorem Own.after {H0 H H' : Hp} {b : Nat} {t : TypeId} {a a0 : Pl} {n : Nat} {cs : List GV} (h : Own H b t a n cs) (hd : Dj a0 a) (hx : Ex H0 a0 H H') : Own H' b t a n cs :=
  h.keep fun l e => hx.row l (h.lt' e) fun e0 => hd l e0 e
theorem Dj.fresh {H : Hp} {b : Nat} {t : TypeId} {a a' : Pl} {n : Nat} {cs : List GV} (h : Own H b t a n cs) (hf : ∀ l o, a' = some (l, o) → H.length ≤ l) : Dj a' a := fun l e1 e2 => by
  have := hf l 0 e1; have := h.lt' e2; omega
theorem Own.set {H : Hp} {b : Nat} {t : TypeId} {a : Pl} {n : Nat} {cs : List GV} (h : Own H b t a n cs) {l : Nat} (hd : a ≠ some (l, 0)) (x : Obj) : Own (H.set l x) b t a n cs :=
  h.keep fun l' e => by rw [List.getElem?_set_ne]; intro q; subst q; exact hd e

/-- a page in rows of one's own -/
structure PgOwn (H : Hp) (b : Nat) (u l : Bool) (a1 : Pl) (n1 : Nat) (a2 : Pl) (n2 : Nat) (a3 : Pl) (n3 : Nat) (p : Pg) : Prop where
  used : p.used = u
  leaf : p.leaf = l
  keys : Own H b 9 a1 n1 (p.keys.map GV.str)
  vals : Own H b 9 a2 n2 (p.vals.map GV.str)
  kids : Own H b 3 a3 n3 (p.kids.map (GV.int .i64))
  d12 : Dj a1 a2
  d13 : Dj a1 a3
  d23 : Dj a2 a3
  small : n1 ≤ 1000 ∧ n2 ≤ 1000 ∧ n3 ≤ 1000
theorem PgOwn.at {H : Hp} {b : Nat} {u l : Bool} {a1 : Pl} {n1 : Nat} {a2 : Pl} {n2 : Nat} {a3 : Pl} {n3 : Nat} {p : Pg} (h : PgOwn H b u l a1 n1 a2 n2 a3 n3 p) : PgAt H u l a1 n1 a2 n2 a3 n3 p := by
  obtain ⟨h1, h2, h3, h4, h5, _, _, _, s⟩ := h
  refine ⟨h1, h2, ⟨h3.cells, ?_, by omega⟩, ⟨h4.cells, ?_, by omega⟩, ⟨h5.cells, ?_, by omega⟩⟩
  · have := h3.len; simpa using this.symm
  · have := h4.len; simpa using this.symm
  · have := h5.len; simpa using this.symm
theorem Own.mono {H H' : Hp} (hp : H <+: H') {b : Nat} {t : TypeId} {a : Pl} {n : Nat} {cs : List GV} (h : Own H b t a n cs) : Own H' b t a n cs := h.keep fun l e => pre_at hp (h.lt' e)
theorem PgOwn.mono {H H' : Hp} (hp : H <+: H') {b : Nat} {u l : Bool} {a1 : Pl} {n1 : Nat} {a2 : Pl} {n2 : Nat} {a3 : Pl} {n3 : Nat} {p : Pg} (h : PgOwn H b u l a1 n1 a2 n2 a3 n3 p) : PgOwn H' b u l a1 n1 a2 n2 a3 n3 p :=
  ⟨h.used, h.leaf, h.keys.mono hp, h.vals.mono hp, h.kids.mono hp, h.d12, h.d13, h.d23, h.small⟩

def noPg : Pg := ⟨false, false, [], [], []⟩
theorem noPg_own (H : Hp) (b : Nat) : PgOwn H b false false none 0 none 0 none 0 noPg :=
  ⟨rfl, rfl, .inl ⟨rfl, rfl, rfl⟩, .inl ⟨rfl, rfl, rfl⟩, .inl ⟨rfl, rfl, rfl⟩, fun _ e => (by cases e), fun _ e => (by cases e), fun _ e => (by cases e), by omega⟩

theorem noPg_at (H : Hp) : PgAt H false false none 0 none 0 none 0 noPg := (noPg_own H 0).at
theorem law0_Num_spec {n : Int} {H : Hp} {Q : Post} (hQ : Q (.g (.int .i64 n)) H) : law0_Num [.g (.int .i64 n)] H Q := ⟨1, by rw [law0_Num_eq]; exact hQ⟩

theorem list_eq_of {α : Type} {xs ys : List α} (h : xs.length = ys.length) (hk : ∀ i, (h1 : i < xs.length) → (h2 : i < ys.length) → xs[i] = ys[i]) : xs = ys := List.ext_getElem h fun i h1 h2 => hk i h1 h2

section
variable {H : Hp} {Q : Post} {a1 a2 : Pl} {n1 n2 : Nat}
theorem law0_SameTexts_spec {xs ys : List ByteArray} (h1 : Ss H a1 n1 xs) (h2 : Ss H a2 n2 ys) (hQ : ∀ b, (b = true ↔ xs = ys) → Q (.g (.bool b)) H) : law0_SameTexts [.g (.sl a1 n1 1), .g (.sl a2 n2 1)] H Q := by
  have e1 := h1.len
  have e2 := h2.len
  have l1 := h1.lim
  by_cases hl : xs.length = ys.length
  · have loop : ∀ f k : Nat, xs.length - k < f → k ≤ xs.length → (∀ i, (h1 : i < xs.length) → (h2 : i < ys.length) → i < k → xs[i] = ys[i]) → law0_SameTexts.l4 f a1 n1 a2 n2 (k : Int) H Q := by
      intro f
      induction f with
      | zero => intro k hf; omega
      | succ f ih =>
        intro k hf hk he
        rw [law0_SameTexts.l4_eq]
        by_cases hkn : k < xs.length
        · rw [bite_t (by simp; omega), chk_true, h1.rd k rfl hkn, chk_true]
          have hc : (ltI (k : Int) (nI n1)) = (ltI (k : Int) (nI n2)) := by rw [e1, e2, hl]
          rw [h2.rd k rfl (by omega)]
          by_cases hs : xs[k] = ys[k]
          · rw [bite_f (by simpa using hs), wrap_succ (by omega)]
            exact ih (k + 1) (by omega) (by omega) fun i q1 q2 hik => by
              by_cases e : i = k
              · subst e; exact hs
              · exact he i q1 q2 (by omega)
          · rw [bite_t (by simpa using hs)]
            exact hQ _ ⟨fun q => (by cases q), fun q => (hs (by simp [q])).elim⟩
        · rw [bite_f (by simp; omega)]
          exact hQ _ ⟨fun _ => list_eq_of hl fun i q1 q2 => he i q1 q2 (by omega), fun _ => rfl⟩
    refine ⟨xs.length + 2, ?_⟩
    rw [law0_SameTexts_eq, bite_f (by simp; omega)]
    exact loop _ 0 (by omega) (Nat.zero_le _) (fun i _ _ h => by omega)
  · refine ⟨1, ?_⟩
    rw [law0_SameTexts_eq, bite_t (by simp; omega)]
    exact hQ _ ⟨fun q => (by cases q), fun q => (hl (by rw [q])).elim⟩
theorem law0_SameInts_spec {xs ys : List Int} (h1 : Is H a1 n1 xs) (h2 : Is H a2 n2 ys) (hQ : ∀ b, (b = true ↔ xs = ys) → Q (.g (.bool b)) H) : law0_SameInts [.g (.sl a1 n1 1), .g (.sl a2 n2 1)] H Q := by
  have e1 := h1.len
  have e2 := h2.len
  have l1 := h1.lim
  by_cases hl : xs.length = ys.length
  · have loop : ∀ f k : Nat, xs.length - k < f → k ≤ xs.length → (∀ i, (h1 : i < xs.length) → (h2 : i < ys.length) → i < k → xs[i] = ys[i]) → law0_SameInts.l4 f a1 n1 a2 n2 (k : Int) H Q := by
      intro f
      induction f with
      | zero => intro k hf; omega
      | succ f ih =>
        intro k hf hk he
        rw [law0_SameInts.l4_eq]
        by_cases hkn : k < xs.length
        · rw [bite_t (by simp; omega), chk_true, h1.rd k rfl hkn, chk_true]
          rw [h2.rd k rfl (by omega)]
          by_cases hs : xs[k] = ys[k]
          · rw [bite_f (by simpa using hs), wrap_succ (by omega)]
            exact ih (k + 1) (by omega) (by omega) fun i q1 q2 hik => by
              by_cases e : i = k
              · subst e; exact hs
              · exact he i q1 q2 (by omega)
          · rw [bite_t (by simpa using hs)]
            exact hQ _ ⟨fun q => (by cases q), fun q => (hs (by simp [q])).elim⟩
        · rw [bite_f (by simp; omega)]
          exact hQ _ ⟨fun _ => list_eq_of hl fun i q1 q2 => he i q1 q2 (by omega), fun _ => rfl⟩
    refine ⟨xs.length + 2, ?_⟩
    rw [law0_SameInts_eq, bite_f (by simp; omega)]
    exact loop _ 0 (by omega) (Nat.zero_le _) (fun i _ _ h => by omega)
  · refine ⟨1, ?_⟩
    rw [law0_SameInts_eq, bite_t (by simp; omega)]
    exact hQ _ ⟨fun q => (by cases q), fun q => (hl (by rw [q])).elim⟩
end

section
variable {H : Hp} {Q : Post} {u l : Bool} {a1 : Pl} {n1 : Nat} {a2 : Pl} {n2 : Nat} {a3 : Pl} {n3 : Nat} {p : Pg} {u' l' : Bool} {a1' : Pl} {n1' : Nat} {a2' : Pl} {n2' : Nat} {a3' : Pl} {n3' : Nat} {q : Pg}
theorem law0_SamePage_spec (h1 : PgAt H u l a1 n1 a2 n2 a3 n3 p) (h2 : PgAt H u' l' a1' n1' a2' n2' a3' n3' q) (hQ : ∀ b, (b = true ↔ p = q) → Q (.g (.bool b)) H) :
    law0_SamePage [.agg [.bool u, .bool l, .sl a1 n1 1, .sl a2 n2 1, .sl a3 n3 1], .agg [.bool u', .bool l', .sl a1' n1' 1, .sl a2' n2' 1, .sl a3' n3' 1]] H Q := by
  refine ⟨1, ?_⟩
  rw [law0_SamePage_eq]
  refine bite_of (fun e1 => ?_) (fun e1 => hQ _ ⟨fun q => (by cases q), fun e => ?_⟩)
  rotate_left
  · rw [← h1.used, ← h2.used, e] at e1; simp at e1
  refine bite_of (fun e2 => ?_) (fun e2 => hQ _ ⟨fun q => (by cases q), fun e => ?_⟩)
  rotate_left
  · rw [← h1.leaf, ← h2.leaf, e] at e2; simp at e2
  refine law0_SameTexts_spec h1.keys h2.keys fun b3 hb3 => ?_
  simp only [rG_g, dB_bool]
  refine bite_of (fun e3 => ?_) (fun e3 => hQ _ ⟨fun q => (by cases q), fun e => ?_⟩)
  rotate_left
  · rw [hb3.2 (by rw [e])] at e3; cases e3
  refine law0_SameTexts_spec h1.vals h2.vals fun b4 hb4 => ?_
  simp only [rG_g, dB_bool]
  refine bite_of (fun e4 => ?_) (fun e4 => hQ _ ⟨fun q => (by cases q), fun e => ?_⟩)
  rotate_left
  · rw [hb4.2 (by rw [e])] at e4; cases e4
  refine law0_SameInts_spec h1.kids h2.kids fun b5 hb5 => ?_
  simp only [rG_g, dB_bool]
  refine hQ _ (hb5.trans ⟨fun e => ?_, fun e => by rw [e]⟩)
  have q1 := hb3.1 e3
  have q2 := hb4.1 e4
  have q3 := h1.used
  have q4 := h1.leaf
  have q5 := h2.used
  have q6 := h2.leaf
  simp at e1 e2
  cases p; cases q; simp_all

theorem law0_CopyPage_spec (h : PgAt H u l a1 n1 a2 n2 a3 n3 p) (hQ : ∀ a1 a2 a3 H', H <+: H' → PgAt H' u l a1 n1 a2 n2 a3 n3 p → (∀ m o, a1 = some (m, o) → o = 0 ∧ H.length ≤ m) → Q (.agg [.bool u, .bool l, .sl a1 n1 1, .sl a2 n2 1, .sl a3 n3 1]) H') :
    law0_CopyPage [.agg [.bool u, .bool l, .sl a1 n1 1, .sl a2 n2 1, .sl a3 n3 1]] H Q := by
  obtain ⟨hu, hl, hk, hv, hi⟩ := h
  have l1 := hk.lim
  have l2 := hv.lim
  have l3 := hi.lim
  have e1 := hk.len
  have e2 := hv.len
  have e3 := hi.len
  refine ⟨1, ?_⟩
  rw [law0_CopyPage_eq, chk_true, Nat.mul_one, rdN_of hk.cells]
  refine ap0_of (by unfold Lim; omega) (by simp [e1]) ?_
  have p1 := pre_pu H (.row true 9 (p.keys.map GV.str))
  rw [chk_true, Nat.mul_one, rdN_of (hv.mono p1).cells]
  refine ap0_of (by unfold Lim; omega) (by simp [e2]) ?_
  have p2 := p1.trans (pre_pu (H ++ [.row true 9 (p.keys.map GV.str)]) (.row true 9 (p.vals.map GV.str)))
  rw [chk_true, Nat.mul_one, rdN_of (hi.mono p2).cells]
  refine ap0_of (by unfold Lim; omega) (by simp [e3]) ?_
  refine hQ _ _ _ _ (p2.trans (List.prefix_append _ _)) ⟨hu, hl, ⟨?_, e1, l1⟩, ⟨?_, e2, l2⟩, ⟨?_, e3, l3⟩⟩ (fun m o e => by cases e; exact ⟨rfl, Nat.le_refl _⟩)
  · simp only [cells?, ln_def]
    rw [List.append_assoc, List.append_assoc, List.getElem?_append_right (Nat.le_refl _)]
    simp [e1]
    rw [List.take_of_length_le (by simp)]
  · simp only [cells?, ln_def]
    rw [List.append_assoc, List.getElem?_append_right (Nat.le_refl _)]
    simp [e2]
    rw [List.take_of_length_le (by simp)]
  · simp only [cells?, ln_def]
    rw [List.getElem?_append_right (Nat.le_refl _)]
    simp [e3]
    rw [List.take_of_length_le (by simp)]
end

/-! written over -/
theorem Own.wr {H0 H : Hp} {t : TypeId} {a : Pl} {n : Nat} {cs : List GV} {v : GV} {K : Hp → Prop} (h0 : H0 <+: H) (h : Own H H0.length t a n cs) (k : Nat) {i : Int} (hi : i = k) (hk : k < n)
    (hK : ∀ H', Own H' H0.length t a n (cs.set k v) → Ex H0 a H H' → K H') : chk (leI 0 i && ltI i (nI n)) (pS a fun n5 n6 => Am.wr H n5 (n6 + tN i * 1) v K) := by
  subst hi
  refine chk_of (by simp; omega) ?_
  rcases h with ⟨_, rfl, _⟩ | ⟨l, rfl, hb, hl, hn⟩
  · omega
  · simp only [pS_some, tN_def, Int.toNat_natCast, Nat.mul_one, Nat.zero_add]
    rw [wr_of hl (by omega)]
    refine hK _ (.inr ⟨l, rfl, hb, List.getElem?_set_self (List.getElem?_eq_some_iff.1 hl).1, by simpa using hn⟩) ⟨pre_set h0 hb _, by simp, fun l' _ hne => ?_⟩
    rw [List.getElem?_set_ne]
    intro e; subst e; exact hne rfl
theorem Ex.trans {H0 H H1 H2 : Hp} {a : Pl} (h : Ex H0 a H H1) (h' : Ex H0 a H1 H2) : Ex H0 a H H2 :=
  ⟨h'.pre, Nat.le_trans h.len h'.len, fun l hl hne => (h'.row l (Nat.lt_of_lt_of_le hl h.len) hne).trans (h.row l hl hne)⟩
theorem Ex.refl {H0 H : Hp} {a : Pl} (h : H0 <+: H) : Ex H0 a H H := ⟨h, Nat.le_refl _, fun _ _ _ => rfl⟩

section
variable {H0 H : Hp} {u l : Bool} {a1 : Pl} {n1 : Nat} {a2 : Pl} {n2 : Nat} {a3 : Pl} {n3 : Nat} {p : Pg}

theorem PgOwn.setKey (h : PgOwn H H0.length u l a1 n1 a2 n2 a3 n3 p) (h0 : H0 <+: H) (k : Nat) {i : Int} (hi : i = k) (hk : k < n1) (s : ByteArray) {K : Hp → Prop}
    (hK : ∀ H', H0 <+: H' → PgOwn H' H0.length u l a1 n1 a2 n2 a3 n3 { p with keys := p.keys.set k s } → K H') : chk (leI 0 i && ltI i (nI n1)) (pS a1 fun n5 n6 => Am.wr H n5 (n6 + tN i * 1) (.str s) K) :=
  h.keys.wr h0 k hi hk fun H' o x => hK H' x.pre ⟨h.used, h.leaf, by rw [List.map_set]; exact o, h.vals.after h.d12 x, h.kids.after h.d13 x, h.d12, h.d13, h.d23, h.small⟩
theorem PgOwn.setVal (h : PgOwn H H0.length u l a1 n1 a2 n2 a3 n3 p) (h0 : H0 <+: H) (k : Nat) {i : Int} (hi : i = k) (hk : k < n2) (s : ByteArray) {K : Hp → Prop}
    (hK : ∀ H', H0 <+: H' → PgOwn H' H0.length u l a1 n1 a2 n2 a3 n3 { p with vals := p.vals.set k s } → K H') : chk (leI 0 i && ltI i (nI n2)) (pS a2 fun n5 n6 => Am.wr H n5 (n6 + tN i * 1) (.str s) K) :=
  h.vals.wr h0 k hi hk fun H' o x => hK H' x.pre ⟨h.used, h.leaf, h.keys.after h.d12.symm x, by rw [List.map_set]; exact o, h.kids.after h.d23 x, h.d12, h.d13, h.d23, h.small⟩
theorem PgOwn.setKid (h : PgOwn H H0.length u l a1 n1 a2 n2 a3 n3 p) (h0 : H0 <+: H) (k : Nat) {i : Int} (hi : i = k) (hk : k < n3) (s : Int) {K : Hp → Prop}
    (hK : ∀ H', H0 <+: H' → PgOwn H' H0.length u l a1 n1 a2 n2 a3 n3 { p with kids := p.kids.set k s } → K H') : chk (leI 0 i && ltI i (nI n3)) (pS a3 fun n5 n6 => Am.wr H n5 (n6 + tN i * 1) (.int .i64 s) K) :=
  h.kids.wr h0 k hi hk fun H' o x => hK H' x.pre ⟨h.used, h.leaf, h.keys.after h.d13.symm x, h.vals.after h.d23.symm x, by rw [List.map_set]; exact o, h.d12, h.d13, h.d23, h.small⟩
theorem PgOwn.addKeys (h : PgOwn H H0.length u l a1 n1 a2 n2 a3 n3 p) (h0 : H0 <+: H) (xs : List ByteArray) {cs : List GV} {m : Nat} (hc : cs = xs.map GV.str) (hm : m = xs.length) (hn : n1 + m ≤ 1000) {K : Pl → Nat → Hp → Prop}
    (hK : ∀ a' H', H0 <+: H' → PgOwn H' H0.length u l a' (n1 + m) a2 n2 a3 n3 { p with keys := p.keys ++ xs } → K a' (n1 + m) H') : ap H 9 1 16 a1 n1 cs m K := by
  subst hc; subst hm
  refine ap_own h0 h.keys (by simp) (by unfold Lim; omega) fun a' H' o x f => hK a' H' x.pre ?_
  have := h.small
  exact ⟨h.used, h.leaf, by rw [List.map_append]; exact o, h.vals.after h.d12 x, h.kids.after h.d13 x, Dj.fresh h.vals f, Dj.fresh h.kids f, h.d23, by omega⟩
theorem PgOwn.addVals (h : PgOwn H H0.length u l a1 n1 a2 n2 a3 n3 p) (h0 : H0 <+: H) (xs : List ByteArray) {cs : List GV} {m : Nat} (hc : cs = xs.map GV.str) (hm : m = xs.length) (hn : n2 + m ≤ 1000) {K : Pl → Nat → Hp → Prop}
    (hK : ∀ a' H', H0 <+: H' → PgOwn H' H0.length u l a1 n1 a' (n2 + m) a3 n3 { p with vals := p.vals ++ xs } → K a' (n2 + m) H') : ap H 9 1 16 a2 n2 cs m K := by
  subst hc; subst hm
  refine ap_own h0 h.vals (by simp) (by unfold Lim; omega) fun a' H' o x f => hK a' H' x.pre ?_
  have := h.small
  exact ⟨h.used, h.leaf, h.keys.after h.d12.symm x, by rw [List.map_append]; exact o, h.kids.after h.d23 x, (Dj.fresh h.keys f).symm, h.d13, Dj.fresh h.kids f, by omega⟩
theorem PgOwn.addKids (h : PgOwn H H0.length u l a1 n1 a2 n2 a3 n3 p) (h0 : H0 <+: H) (xs : List Int) {cs : List GV} {m : Nat} (hc : cs = xs.map (GV.int .i64)) (hm : m = xs.length) (hn : n3 + m ≤ 1000) {K : Pl → Nat → Hp → Prop}
    (hK : ∀ a' H', H0 <+: H' → PgOwn H' H0.length u l a1 n1 a2 n2 a' (n3 + m) { p with kids := p.kids ++ xs } → K a' (n3 + m) H') : ap H 3 1 8 a3 n3 cs m K := by
  subst hc; subst hm
  refine ap_own h0 h.kids (by simp) (by unfold Lim; omega) fun a' H' o x f => hK a' H' x.pre ?_
  have := h.small
  exact ⟨h.used, h.leaf, h.keys.after h.d13.symm x, h.vals.after h.d23.symm x, by rw [List.map_append]; exact o, h.d12, (Dj.fresh h.keys f).symm, (Dj.fresh h.vals f).symm, by omega⟩
end

theorem law0_CopyPage_own {H : Hp} {Q : Post} {u l : Bool} {a1 : Pl} {n1 : Nat} {a2 : Pl} {n2 : Nat} {a3 : Pl} {n3 : Nat} {p : Pg} (h : PgAt H u l a1 n1 a2 n2 a3 n3 p) (hs : n1 ≤ 1000 ∧ n2 ≤ 1000 ∧ n3 ≤ 1000)
    (hQ : ∀ a1 a2 a3 H', H <+: H' → PgOwn H' H.length u l a1 n1 a2 n2 a3 n3 p → Q (.agg [.bool u, .bool l, .sl a1 n1 1, .sl a2 n2 1, .sl a3 n3 1]) H') :
    law0_CopyPage [.agg [.bool u, .bool l, .sl a1 n1 1, .sl a2 n2 1, .sl a3 n3 1]] H Q := by
  obtain ⟨hu, hl, hk, hv, hi⟩ := h
  have e1 := hk.len
  have e2 := hv.len
  have e3 := hi.len
  refine ⟨1, ?_⟩
  rw [law0_CopyPage_eq, chk_true, Nat.mul_one, rdN_of hk.cells]
  refine ap0_of (by unfold Lim; omega) (by simp [e1]) ?_
  have p1 := pre_pu H (.row true 9 (p.keys.map GV.str))
  rw [chk_true, Nat.mul_one, rdN_of (hv.mono p1).cells]
  refine ap0_of (by unfold Lim; omega) (by simp [e2]) ?_
  have p2 := p1.trans (pre_pu (H ++ [.row true 9 (p.keys.map GV.str)]) (.row true 9 (p.vals.map GV.str)))
  rw [chk_true, Nat.mul_one, rdN_of (hi.mono p2).cells]
  refine ap0_of (by unfold Lim; omega) (by simp [e3]) ?_
  refine hQ _ _ _ _ (p2.trans (List.prefix_append _ _)) ⟨hu, hl, .inr ⟨_, rfl, by simp, ?_, by simp [e1]⟩, .inr ⟨_, rfl, by simp, ?_, by simp [e2]⟩, .inr ⟨_, rfl, by simp, ?_, by simp [e3]⟩, fun m q1 q2 => ?_, fun m q1 q2 => ?_, fun m q1 q2 => ?_, hs⟩
  · rw [List.append_assoc, List.append_assoc]; simp
  · rw [List.append_assoc]; simp
  · simp
  · simp at q1 q2; omega
  · simp at q1 q2; omega
  · simp at q1 q2; omega


end Go.Am
