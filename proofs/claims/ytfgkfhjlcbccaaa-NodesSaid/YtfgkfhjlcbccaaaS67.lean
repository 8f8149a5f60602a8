import Derived.Test.YtfgkfhjlcbccaaaS66
set_option linter.unusedVariables false
set_option linter.unusedSimpArgs false
namespace Go.Am

theorem law0_Num_spec {n : Int} {H : Hp} {Q : Post} (hQ : Q (.g (.int .i64 n)) H) : law0_Num [.g (.int .i64 n)] H Q := ⟨1, by rw [law0_Num_eq]; exact hQ⟩

theorem list_eq_of {α : Type} {xs ys : List α} (h : xs.length = ys.length) (hk : ∀ i, (h1 : i < xs.length) → (h2 : i < ys.length) → xs[i] = ys[i]) : xs = ys := List.ext_getElem h fun i h1 h2 => hk i h1 h2

section
variable {H : Hp} {Q : Post} {a1 a2 : Pl} {n1 n2 : Nat}
theorem law0_SameTexts_spec {xs ys : List ByteArray} (h1 : Ss H a1 n1 xs) (h2 : Ss H a2 n2 ys) (hQ : ∀ b, (b = true ↔ xs = ys) → Q (.g (.bool b)) H) : law0_SameTexts [.g (.sl a1 n1 1), .g (.sl a2 n2 1)] H Q := by
  have e1 := h1.len
  have e2 := h2.len
  have l1 := h1.lim
  by_cases hl : xs.length = ys.length
  · have loop : ∀ f k : Nat, xs.length - k < f → k ≤ xs.length → (∀ i, (h1 : i < xs.length) → (h2 : i < ys.length) → i < k → xs[i] = ys[i]) → law0_SameTexts.l4 f a1 n1 a2 n2 (k : Int) H Q := by
      intro f
      induction f with
      | zero => intro k hf; omega
      | succ f ih =>
        intro k hf hk he
        rw [law0_SameTexts.l4_eq]
        by_cases hkn : k < xs.length
        · rw [bite_t (by simp; omega), chk_true, h1.rd k rfl hkn, chk_true]
          have hc : (ltI (k : Int) (nI n1)) = (ltI (k : Int) (nI n2)) := by rw [e1, e2, hl]
          rw [h2.rd k rfl (by omega)]
          by_cases hs : xs[k] = ys[k]
          · rw [bite_f (by simpa using hs), wrap_succ (by omega)]
            exact ih (k + 1) (by omega) (by omega) fun i q1 q2 hik => by
              by_cases e : i = k
              · subst e; exact hs
              · exact he i q1 q2 (by omega)
          · rw [bite_t (by simpa using hs)]
            exact hQ _ ⟨fun q => (by cases q), fun q => (hs (by simp [q])).elim⟩
        · rw [bite_f (by simp; omega)]
          exact hQ _ ⟨fun _ => list_eq_of hl fun i q1 q2 => he i q1 q2 (by omega), fun _ => rfl⟩
    refine ⟨xs.length + 2, ?_⟩
    rw [law0_SameTexts_eq, bite_f (by simp; omega)]
    exact loop _ 0 (by omega) (Nat.zero_le _) (fun i _ _ h => by omega)
  · refine ⟨1, ?_⟩
    rw [law0_SameTexts_eq, bite_t (by simp; omega)]
    exact hQ _ ⟨fun q => (by cases q), fun q => (hl (by rw [q])).elim⟩
theorem law0_SameInts_spec {xs ys : List Int} (h1 : Is H a1 n1 xs) (h2 : Is H a2 n2 ys) (hQ : ∀ b, (b = true ↔ xs = ys) → Q (.g (.bool b)) H) : law0_SameInts [.g (.sl a1 n1 1), .g (.sl a2 n2 1)] H Q := by
  have e1 := h1.len
  have e2 := h2.len
  have l1 := h1.lim
  by_cases hl : xs.length = ys.length
  · have loop : ∀ f k : Nat, xs.length - k < f → k ≤ xs.length → (∀ i, (h1 : i < xs.length) → (h2 : i < ys.length) → i < k → xs[i] = ys[i]) → law0_SameInts.l4 f a1 n1 a2 n2 (k : Int) H Q := by
      intro f
      induction f with
      | zero => intro k hf; omega
      | succ f ih =>
        intro k hf hk he
        rw [law0_SameInts.l4_eq]
        by_cases hkn : k < xs.length
        · rw [bite_t (by simp; omega), chk_true, h1.rd k rfl hkn, chk_true]
          rw [h2.rd k rfl (by omega)]
          by_cases hs : xs[k] = ys[k]
          · rw [bite_f (by simpa using hs), wrap_succ (by omega)]
            exact ih (k + 1) (by omega) (by omega) fun i q1 q2 hik => by
              by_cases e : i = k
              · subst e; exact hs
              · exact he i q1 q2 (by omega)
          · rw [bite_t (by simpa using hs)]
            exact hQ _ ⟨fun q => (by cases q), fun q => (hs (by simp [q])).elim⟩
        · rw [bite_f (by simp; omega)]
          exact hQ _ ⟨fun _ => list_eq_of hl fun i q1 q2 => he i q1 q2 (by omega), fun _ => rfl⟩
    refine ⟨xs.length + 2, ?_⟩
    rw [law0_SameInts_eq, bite_f (by simp; omega)]
    exact loop _ 0 (by omega) (Nat.zero_le _) (fun i _ _ h => by omega)
  · refine ⟨1, ?_⟩
    rw [law0_SameInts_eq, bite_t (by simp; omega)]
    exact hQ _ ⟨fun q => (by cases q), fun q => (hl (by rw [q])).elim⟩
end

section
variable {H : Hp} {Q : Post} {u l : Bool} {a1 : Pl} {n1 : Nat} {a2 : Pl} {n2 : Nat} {a3 : Pl} {n3 : Nat} {p : Pg} {u' l' : Bool} {a1' : Pl} {n1' : Nat} {a2' : Pl} {n2' : Nat} {a3' : Pl} {n3' : Nat} {q : Pg}
theorem law0_SamePage_spec (h1 : PgAt H u l a1 n1 a2 n2 a3 n3 p) (h2 : PgAt H u' l' a1' n1' a2' n2' a3' n3' q) (hQ : ∀ b, (b = true ↔ p = q) → Q (.g (.bool b)) H) :
    law0_SamePage [.agg [.bool u, .bool l, .sl a1 n1 1, .sl a2 n2 1, .sl a3 n3 1], .agg [.bool u', .bool l', .sl a1' n1' 1, .sl a2' n2' 1, .sl a3' n3' 1]] H Q := by
  refine ⟨1, ?_⟩
  rw [law0_SamePage_eq]
  refine bite_of (fun e1 => ?_) (fun e1 => hQ _ ⟨fun q => (by cases q), fun e => ?_⟩)
  rotate_left
  · rw [← h1.used, ← h2.used, e] at e1; simp at e1
  refine bite_of (fun e2 => ?_) (fun e2 => hQ _ ⟨fun q => (by cases q), fun e => ?_⟩)
  rotate_left
  · rw [← h1.leaf, ← h2.leaf, e] at e2; simp at e2
  refine law0_SameTexts_spec h1.keys h2.keys fun b3 hb3 => ?_
  simp only [rG_g, dB_bool]
  refine bite_of (fun e3 => ?_) (fun e3 => hQ _ ⟨fun q => (by cases q), fun e => ?_⟩)
  rotate_left
  · rw [hb3.2 (by rw [e])] at e3; cases e3
  refine law0_SameTexts_spec h1.vals h2.vals fun b4 hb4 => ?_
  simp only [rG_g, dB_bool]
  refine bite_of (fun e4 => ?_) (fun e4 => hQ _ ⟨fun q => (by cases q), fun e => ?_⟩)
  rotate_left
  · rw [hb4.2 (by rw [e])] at e4; cases e4
  refine law0_SameInts_spec h1.kids h2.kids fun b5 hb5 => ?_
  simp only [rG_g, dB_bool]
  refine hQ _ (hb5.trans ⟨fun e => ?_, fun e => by rw [e]⟩)
  have q1 := hb3.1 e3
  have q2 := hb4.1 e4
  have q3 := h1.used
  have q4 := h1.leaf
  have q5 := h2.used
  have q6 := h2.leaf
  simp at e1 e2
  cases p; cases q; simp_all

theorem law0_CopyPage_spec (h : PgAt H u l a1 n1 a2 n2 a3 n3 p) (hQ : ∀ a1 a2 a3 H', H <+: H' → PgAt H' u l a1 n1 a2 n2 a3 n3 p → (∀ m o, a1 = some (m, o) → o = 0 ∧ H.length ≤ m) → Q (.agg [.bool u, .bool l, .sl a1 n1 1, .sl a2 n2 1, .sl a3 n3 1]) H') :
    law0_CopyPage [.agg [.bool u, .bool l, .sl a1 n1 1, .sl a2 n2 1, .sl a3 n3 1]] H Q := by
  obtain ⟨hu, hl, hk, hv, hi⟩ := h
  have l1 := hk.lim
  have l2 := hv.lim
  have l3 := hi.lim
  have e1 := hk.len
  have e2 := hv.len
  have e3 := hi.len
  refine ⟨1, ?_⟩
  rw [law0_CopyPage_eq, chk_true, Nat.mul_one, rdN_of hk.cells]
  refine ap0_of (by unfold Lim; omega) (by simp [e1]) ?_
  have p1 := pre_pu H (.row true 9 (p.keys.map GV.str))
  rw [chk_true, Nat.mul_one, rdN_of (hv.mono p1).cells]
  refine ap0_of (by unfold Lim; omega) (by simp [e2]) ?_
  have p2 := p1.trans (pre_pu (H ++ [.row true 9 (p.keys.map GV.str)]) (.row true 9 (p.vals.map GV.str)))
  rw [chk_true, Nat.mul_one, rdN_of (hi.mono p2).cells]
  refine ap0_of (by unfold Lim; omega) (by simp [e3]) ?_
  refine hQ _ _ _ _ (p2.trans (List.prefix_append _ _)) ⟨hu, hl, ⟨?_, e1, l1⟩, ⟨?_, e2, l2⟩, ⟨?_, e3, l3⟩⟩ (fun m o e => by cases e; exact ⟨rfl, Nat.le_refl _⟩)
  · simp only [cells?, ln_def]
    rw [List.append_assoc, List.append_assoc, List.getElem?_append_right (Nat.le_refl _)]
    simp [e1]
    rw [List.take_of_length_le (by simp)]
  · simp only [cells?, ln_def]
    rw [List.append_assoc, List.getElem?_append_right (Nat.le_refl _)]
    simp [e2]
    rw [List.take_of_length_le (by simp)]
  · simp only [cells?, ln_def]
    rw [List.getElem?_append_right (Nat.le_refl _)]
    simp [e3]
    rw [List.take_of_length_le (by simp)]
end

/-! written over -/
theorem Own.wr {H0 H : Hp} {t : TypeId} {a : Pl} {n : Nat} {cs : List GV} {v : GV} {K : Hp → Prop} (h0 : H0 <+: H) (h : Own H H0.length t a n cs) (k : Nat) {i : Int} (hi : i = k) (hk : k < n)
    (hK : ∀ H', Own H' H0.length t a n (cs.set k v) → Ex H0 a H H' → K H') : chk (leI 0 i && ltI i (nI n)) (pS a fun n5 n6 => Am.wr H n5 (n6 + tN i * 1) v K) := by
  subst hi
  refine chk_of (by simp; omega) ?_
  rcases h with ⟨_, rfl, _⟩ | ⟨l, rfl, hb, hl, hn⟩
  · omega
  · simp only [pS_some, tN_def, Int.toNat_natCast, Nat.mul_one, Nat.zero_add]
    rw [wr_of hl (by omega)]
    refine hK _ (.inr ⟨l, rfl, hb, List.getElem?_set_self (List.getElem?_eq_some_iff.1 hl).1, by simpa using hn⟩) ⟨pre_set h0 hb _, by simp, fun l' _ hne => ?_⟩
    rw [List.getElem?_set_ne]
    intro e; subst e; exact hne rfl
theorem Ex.trans {H0 H H1 H2 : Hp} {a : Pl} (h : Ex H0 a H H1) (h' : Ex H0 a H1 H2) : Ex H0 a H H2 :=
  ⟨h'.pre, Nat.le_trans h.len h'.len, fun l hl hne => (h'.row l (Nat.lt_of_lt_of_le hl h.len) hne).trans (h.row l hl hne)⟩
theorem Ex.refl {H0 H : Hp} {a : Pl} (h : H0 <+: H) : Ex H0 a H H := ⟨h, Nat.le_refl _, fun _ _ _ => rfl⟩

section
variable {H0 : Hp} {Q : Post} {a : Pl} {n : Nat}
theorem law0_SpoilTexts_spec {H : Hp} {xs : List ByteArray} (h0 : H0 <+: H) (h : Own H H0.length 9 a n (xs.map GV.str)) (hn : n ≤ 1000) (hs : ∀ x ∈ xs, x.size ≤ 1000) (hQ : ∀ H', Ex H0 a H H' → Q (.tup []) H') : law0_SpoilTexts [.g (.sl a n 1)] H Q := by
  have loop : ∀ (f k : Nat) (H' : Hp) (ys : List ByteArray), n - k < f → Own H' H0.length 9 a n (ys.map GV.str) → Ex H0 a H H' → (∀ i, (hi : i < ys.length) → k ≤ i → ys[i].size ≤ 1000) → law0_SpoilTexts.l1 f a n (k : Int) H' Q := by
    intro f
    induction f with
    | zero => intro k H' ys hf; omega
    | succ f ih =>
      intro k H' ys hf ho hx hz
      rw [law0_SpoilTexts.l1_eq]
      have hlen : ys.length = n := by have := ho.len; simpa using this
      by_cases hkn : k < n
      · have hS : Ss H' a n ys := ⟨ho.cells, hlen.symm, by omega⟩
        have hzk := hz k (by omega) (Nat.le_refl _)
        rw [bite_t (by simp; omega), chk_true, hS.rd k rfl (by omega)]
        refine ⟨by simp; omega, ?_⟩
        dsimp only
        rw [chk_true]
        refine ho.wr hx.pre k rfl hkn fun H2 o2 x2 => ?_
        rw [wrap_succ (by omega)]
        rw [← List.map_set] at o2
        exact ih (k + 1) H2 _ (by omega) o2 (hx.trans x2) (fun i hi hki => by
          rw [List.getElem_set_ne (by omega)]
          exact hz i (by simpa using hi) (by omega))
      · rw [bite_f (by simp; omega)]
        exact hQ _ hx
  refine ⟨n + 2, ?_⟩
  rw [law0_SpoilTexts_eq]
  exact loop (n + 1) 0 H xs (by omega) h (Ex.refl h0) (fun i hi _ => hs _ (List.getElem_mem hi))
theorem law0_SpoilInts_spec {H : Hp} {xs : List Int} (h0 : H0 <+: H) (h : Own H H0.length 3 a n (xs.map (GV.int .i64))) (hn : n ≤ 1000) (hQ : ∀ H', Ex H0 a H H' → Q (.tup []) H') : law0_SpoilInts [.g (.sl a n 1)] H Q := by
  have loop : ∀ (f k : Nat) (H' : Hp) (ys : List Int), n - k < f → Own H' H0.length 3 a n (ys.map (GV.int .i64)) → Ex H0 a H H' → law0_SpoilInts.l1 f a n (k : Int) H' Q := by
    intro f
    induction f with
    | zero => intro k H' ys hf; omega
    | succ f ih =>
      intro k H' ys hf ho hx
      rw [law0_SpoilInts.l1_eq]
      have hlen : ys.length = n := by have := ho.len; simpa using this
      by_cases hkn : k < n
      · have hS : Is H' a n ys := ⟨ho.cells, hlen.symm, by omega⟩
        rw [bite_t (by simp; omega), chk_true, hS.rd k rfl (by omega), chk_true]
        refine ho.wr hx.pre k rfl hkn fun H2 o2 x2 => ?_
        rw [wrap_succ (by omega)]
        rw [← List.map_set] at o2
        exact ih (k + 1) H2 _ (by omega) o2 (hx.trans x2)
      · rw [bite_f (by simp; omega)]
        exact hQ _ hx
  refine ⟨n + 2, ?_⟩
  rw [law0_SpoilInts_eq]
  exact loop (n + 1) 0 H xs (by omega) h (Ex.refl h0)
theorem law0_SpoilPage_spec {H : Hp} {u l : Bool} {a1 : Pl} {n1 : Nat} {a2 : Pl} {n2 : Nat} {a3 : Pl} {n3 : Nat} {p : Pg} (h0 : H0 <+: H) (h : PgOwn H H0.length u l a1 n1 a2 n2 a3 n3 p) (hk : ∀ x ∈ p.keys, x.size ≤ 1000) (hv : ∀ x ∈ p.vals, x.size ≤ 1000)
    (hQ : ∀ r H', H0 <+: H' → Q r H') : law0_SpoilPage [.agg [.bool u, .bool l, .sl a1 n1 1, .sl a2 n2 1, .sl a3 n3 1]] H Q := by
  obtain ⟨_, _, o1, o2, o3, d12, d13, d23, s1, s2, s3⟩ := h
  refine ⟨1, ?_⟩
  rw [law0_SpoilPage_eq]
  refine law0_SpoilTexts_spec h0 o1 s1 hk fun H1 x1 => ?_
  refine law0_SpoilTexts_spec x1.pre (o2.after d12 x1) s2 hv fun H2 x2 => ?_
  refine law0_SpoilInts_spec x2.pre ((o3.after d13 x1).after d23 x2) s3 fun H3 x3 => ?_
  exact hQ _ _ x3.pre
end
end Go.Am
