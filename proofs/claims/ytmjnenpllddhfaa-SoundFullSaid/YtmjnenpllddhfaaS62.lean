import Derived.Test.YtmjnenpllddhfaaS61
set_option linter.unusedVariables false
set_option linter.unusedSimpArgs false
namespace Go.Am

/-- a page, as data -/
structure Pg where
  used : Bool
  leaf : Bool
  keys : List ByteArray
  vals : List ByteArray
  kids : List Int

structure PgAt (H : Hp) (u l : Bool) (a1 : Pl) (n1 : Nat) (a2 : Pl) (n2 : Nat) (a3 : Pl) (n3 : Nat) (p : Pg) : Prop where
  used : p.used = u
  leaf : p.leaf = l
  keys : Ss H a1 n1 p.keys
  vals : Ss H a2 n2 p.vals
  kids : Is H a3 n3 p.kids
theorem PgAt.mono {H H' : Hp} (hp : H <+: H') {u l : Bool} {a1 : Pl} {n1 : Nat} {a2 : Pl} {n2 : Nat} {a3 : Pl} {n3 : Nat} {p : Pg} (h : PgAt H u l a1 n1 a2 n2 a3 n3 p) : PgAt H' u l a1 n1 a2 n2 a3 n3 p :=
  ⟨h.used, h.leaf, h.keys.mono hp, h.vals.mono hp, h.kids.mono hp⟩

/-- may a page be, whatever the number of its keys? -/
structure FitsP (p : Pg) : Prop where
  used : p.used = true
  rising : Rising p.keys
  keys : ∀ k ∈ p.keys, 1 ≤ k.size ∧ k.size ≤ 6
  leaf : p.leaf = true → p.vals.length = p.keys.length ∧ p.kids = [] ∧ ∀ v ∈ p.vals, v.size ≤ 10
  inner : p.leaf = false → 1 ≤ p.keys.length ∧ p.vals = [] ∧ p.kids.length = p.keys.length + 1 ∧ (∀ k ∈ p.kids, 1 ≤ k ∧ k < 48) ∧ p.kids.Nodup
def MayP (p : Pg) : Prop := p.keys.length ≤ 4 ∧ FitsP p

section
variable {H : Hp} {Q : Post} {u l : Bool} {a1 : Pl} {n1 : Nat} {a2 : Pl} {n2 : Nat} {a3 : Pl} {n3 : Nat} {p : Pg}

theorem page_Fits_spec (h : PgAt H u l a1 n1 a2 n2 a3 n3 p) (hQ : ∀ b H', H <+: H' → (b = true ↔ FitsP p) → Q (.g (.bool b)) H') :
    page_Fits [.agg [.bool u, .bool l, .sl a1 n1 1, .sl a2 n2 1, .sl a3 n3 1]] H Q := by
  obtain ⟨hu, hl, hk, hv, hi⟩ := h
  have n1e := hk.len
  have n2e := hv.len
  have n3e := hi.len
  have l1 := hk.lim
  have l3 := hi.lim
  have EK : ∀ (s : ByteArray) (H : Hp) (Q : Post), Q (.g (.bool (decide (1 ≤ s.size) && decide (s.size ≤ 6)))) H → dynOf [(66, page_Key), (67, page_Value), (69, page_Kid)] 66 [.g (.str s)] H Q :=
    fun s H Q q => by rw [dynOf_hit]; exact page_Key_spec q
  have EV : ∀ (s : ByteArray) (H : Hp) (Q : Post), Q (.g (.bool (decide (s.size ≤ 10)))) H → dynOf [(66, page_Key), (67, page_Value), (69, page_Kid)] 67 [.g (.str s)] H Q :=
    fun s H Q q => by rw [dynOf_miss (by decide), dynOf_hit]; exact page_Value_spec q
  have EI : ∀ (s : Int) (H : Hp) (Q : Post), Q (.g (.bool (decide (1 ≤ s) && decide (s < 48)))) H → dynOf [(66, page_Key), (67, page_Value), (69, page_Kid)] 69 [.g (.int .i64 s)] H Q :=
    fun s H Q q => by rw [dynOf_miss (by decide), dynOf_miss (by decide), dynOf_hit]; exact page_Kid_spec q
  refine ⟨1, ?_⟩
  rw [page_Fits_eq]
  refine bite_of (fun e => hQ _ _ (List.prefix_refl _) ⟨fun q => (by cases q), fun q => ?_⟩) (fun e => ?_)
  · rw [← hu, q.used] at e; cases e
  refine page_rising_spec hk fun b hb => ?_
  simp only [rG_g, dB_bool]
  refine bite_of (fun e1 => hQ _ _ (List.prefix_refl _) ⟨fun q => (by cases q), fun q => ?_⟩) (fun e1 => ?_)
  · rw [hb.2 q.rising] at e1; cases e1
  refine page_all_string_spec EK hk fun b2 H2 p2 hb2 => ?_
  simp only [rG_g, dB_bool]
  have hkeys : (∀ k ∈ p.keys, 1 ≤ k.size ∧ k.size ≤ 6) ↔ ∀ s ∈ p.keys, (decide (1 ≤ s.size) && decide (s.size ≤ 6)) = true := by simp
  refine bite_of (fun e2 => hQ _ _ p2 ⟨fun q => (by cases q), fun q => ?_⟩) (fun e2 => ?_)
  · rw [hb2.2 (hkeys.1 q.keys)] at e2; cases e2
  have hR : Rising p.keys := hb.1 (by cases b <;> simp_all)
  have hK := hkeys.2 (hb2.1 (by cases b2 <;> simp_all))
  have hU : p.used = true := by rw [hu]; cases u <;> simp_all
  refine bite_of (fun e3 => ?_) (fun e3 => ?_)
  · have hL : p.leaf = true := by rw [hl]; exact e3
    refine bite_of (fun e4 => ?_) (fun e4 => hQ _ _ p2 ⟨fun q => (by cases q), fun q => ?_⟩)
    rotate_left
    · have := (q.leaf hL).1; simp at e4; omega
    refine bite_of (fun e5 => ?_) (fun e5 => hQ _ _ p2 ⟨fun q => (by cases q), fun q => ?_⟩)
    rotate_left
    · have := (q.leaf hL).2.1; simp [this] at n3e; simp at e5; omega
    refine page_all_string_spec EV (hv.mono p2) fun b3 H3 p3 hb3 => ?_
    simp only [rG_g, dB_bool]
    refine hQ _ _ (p2.trans p3) (hb3.trans ⟨fun q => ⟨hU, hR, hK, fun _ => ⟨?_, ?_, by simpa using q⟩, fun q => (by rw [hL] at q; cases q)⟩, fun q => by simpa using (q.leaf hL).2.2⟩)
    · simp at e4; omega
    · simp at e5; exact List.eq_nil_of_length_eq_zero (by omega)
  · have hL : p.leaf = false := by rw [hl]; exact e3
    refine bite_of (fun e4 => ?_) (fun e4 => hQ _ _ p2 ⟨fun q => (by cases q), fun q => ?_⟩)
    rotate_left
    · have := (q.inner hL).1; simp at e4; omega
    refine bite_of (fun e5 => ?_) (fun e5 => hQ _ _ p2 ⟨fun q => (by cases q), fun q => ?_⟩)
    rotate_left
    · have := (q.inner hL).2.1; simp [this] at n2e; simp at e5; omega
    refine bite_of (fun e6 => ?_) (fun e6 => hQ _ _ p2 ⟨fun q => (by cases q), fun q => ?_⟩)
    rotate_left
    · have := (q.inner hL).2.2.1; simp only [nI_def] at e6; rw [wrap_succ (by omega)] at e6; simp at e6; omega
    simp only [nI_def] at e6
    rw [wrap_succ (by omega)] at e6
    refine page_all_int_spec EI (hi.mono p2) fun b3 H3 p3 hb3 => ?_
    simp only [rG_g, dB_bool]
    refine bite_of (fun e7 => ?_) (fun e7 => hQ _ _ (p2.trans p3) ⟨fun q => (by cases q), fun q => ?_⟩)
    rotate_left
    · rw [hb3.2 (by simpa using (q.inner hL).2.2.2.1)] at e7; cases e7
    refine page_unlike_spec (hi.mono (p2.trans p3)) fun b4 H4 p4 hb4 => ?_
    simp only [rG_g, dB_bool]
    refine hQ _ _ ((p2.trans p3).trans p4) (hb4.trans ⟨fun q => ⟨hU, hR, hK, fun q => (by rw [hL] at q; cases q), fun _ => ⟨?_, ?_, ?_, by simpa using hb3.1 e7, q⟩⟩, fun q => (q.inner hL).2.2.2.2⟩)
    · simp at e4; omega
    · simp at e5; exact List.eq_nil_of_length_eq_zero (by omega)
    · simp at e6; omega

theorem page_May_spec (h : PgAt H u l a1 n1 a2 n2 a3 n3 p) (hQ : ∀ b H', H <+: H' → (b = true ↔ MayP p) → Q (.g (.bool b)) H') :
    page_May [.agg [.bool u, .bool l, .sl a1 n1 1, .sl a2 n2 1, .sl a3 n3 1]] H Q := by
  have n1e := h.keys.len
  refine ⟨1, ?_⟩
  rw [page_May_eq]
  refine bite_of (fun e => ?_) (fun e => hQ _ _ (List.prefix_refl _) ⟨fun q => (by cases q), fun q => ?_⟩)
  · refine page_Fits_spec h fun b H' hp hb => ?_
    simp only [rG_g, dB_bool]
    simp at e
    exact hQ _ _ hp (hb.trans ⟨fun q => ⟨by omega, q⟩, fun q => q.2⟩)
  · have := q.1; simp at e; omega

/-! the document's -/
theorem ref1_rising_spec {xs : List ByteArray} (h : Ss H a1 n1 xs) (hQ : ∀ b, (b = true ↔ (Rising xs ∧ ∀ k ∈ xs, 1 ≤ k.size ∧ k.size ≤ 6)) → Q (.g (.bool b)) H) : ref1_rising [.g (.sl a1 n1 1)] H Q := by
  have hn := h.len
  have hlim := h.lim
  have loop : ∀ m k : Nat, xs.length - k = m → k ≤ xs.length → (∀ i, (hi : i < xs.length) → i < k → 1 ≤ xs[i].size ∧ xs[i].size ≤ 6) → (∀ i, (hi : i + 1 < xs.length) → i + 1 < k → strLt (xs[i]'(by omega)) xs[i + 1] = true) →
      ∃ f, ref1_rising.l2 f a1 n1 (k : Int) H Q := by
    intro m
    induction m with
    | zero =>
      intro k hm hle h1 h2
      refine ⟨1, ?_⟩
      rw [ref1_rising.l2_eq, bite_f (by simp; omega)]
      exact hQ true ⟨fun _ => ⟨fun i hi => h2 i hi (by omega), fun s hs => by obtain ⟨i, hi, rfl⟩ := List.getElem_of_mem hs; exact h1 i hi (by omega)⟩, fun _ => rfl⟩
    | succ m ih =>
      intro k hm hle h1 h2
      have hkn : k < xs.length := by omega
      have hlt : ltI (k : Int) (nI n1) = true := by simp; omega
      by_cases c1 : xs[k].size < 1
      · refine ⟨1, ?_⟩
        rw [ref1_rising.l2_eq, bite_t hlt, chk_true, h.rd k rfl hkn, bite_t (by simp; omega)]
        exact hQ false ⟨fun q => (by cases q), fun q => by have := (q.2 _ (List.getElem_mem hkn)).1; omega⟩
      by_cases c2 : 6 < xs[k].size
      · refine ⟨1, ?_⟩
        rw [ref1_rising.l2_eq, bite_t hlt, chk_true, h.rd k rfl hkn, bite_f (by simp; omega), chk_true, h.rd k rfl hkn, bite_t (by simp; omega)]
        exact hQ false ⟨fun q => (by cases q), fun q => by have := (q.2 _ (List.getElem_mem hkn)).2; omega⟩
      have h1' : ∀ i, (hi : i < xs.length) → i < k + 1 → 1 ≤ xs[i].size ∧ xs[i].size ≤ 6 := fun i hi hik => by
        by_cases e : i = k
        · subst e; omega
        · exact h1 i hi (by omega)
      cases k with
      | zero =>
        obtain ⟨f, hf⟩ := ih 1 (by omega) (by omega) h1' (fun i hi h => by omega)
        refine ⟨f + 1, ?_⟩
        rw [ref1_rising.l2_eq, bite_t hlt, chk_true, h.rd 0 rfl hkn, bite_f (by simp; omega), chk_true, h.rd 0 rfl hkn, bite_f (by simp; omega), bite_f (by simp), wrap_succ (by omega)]
        exact hf
      | succ k =>
        cases hs : strLt (xs[k]'(by omega)) xs[k + 1] with
        | true =>
          obtain ⟨f, hf⟩ := ih (k + 1 + 1) (by omega) (by omega) h1' (fun i hi hik => by
            by_cases e : i = k
            · subst e; exact hs
            · exact h2 i hi (by omega))
          refine ⟨f + 1, ?_⟩
          rw [ref1_rising.l2_eq, bite_t hlt, chk_true, h.rd (k + 1) rfl hkn, bite_f (by simp; omega), chk_true, h.rd (k + 1) rfl hkn, bite_f (by simp; omega), bite_t (by simp <;> omega), chk_true, h.rd (k + 1) rfl hkn, chk_true,
            h.rd k (wrap_pred (by omega)) (by omega), bite_f (by rw [strLt_not] at hs; simpa using hs), wrap_succ (by omega)]
          exact hf
        | false =>
          refine ⟨1, ?_⟩
          rw [ref1_rising.l2_eq, bite_t hlt, chk_true, h.rd (k + 1) rfl hkn, bite_f (by simp; omega), chk_true, h.rd (k + 1) rfl hkn, bite_f (by simp; omega), bite_t (by simp <;> omega), chk_true, h.rd (k + 1) rfl hkn, chk_true,
            h.rd k (wrap_pred (by omega)) (by omega), bite_t (by rw [strLt_not] at hs; rw [strEq_def]; rw [Bool.not_eq_false'] at hs; exact hs)]
          exact hQ false ⟨fun q => (by cases q), fun q => by rw [q.1 k hkn] at hs; cases hs⟩
  obtain ⟨f, hf⟩ := loop _ 0 rfl (Nat.zero_le _) (fun i hi h => by omega) (fun i hi h => by omega)
  exact ⟨f + 1, by rw [ref1_rising_eq]; exact hf⟩

theorem ref1_PageWith_spec {most : Nat} (hmost : most ≤ 1000) (h : PgAt H u l a1 n1 a2 n2 a3 n3 p) (hQ : ∀ b, (b = true ↔ (p.keys.length ≤ most ∧ FitsP p)) → Q (.g (.bool b)) H) :
    ref1_PageWith [.agg [.bool u, .bool l, .sl a1 n1 1, .sl a2 n2 1, .sl a3 n3 1], .g (.int .i64 most)] H Q := by
  obtain ⟨hu, hl, hk, hv, hi⟩ := h
  have n1e := hk.len
  have n2e := hv.len
  have n3e := hi.len
  have l1 := hk.lim
  have l2 := hv.lim
  have l3 := hi.lim
  -- a leaf's values
  have leafs : p.leaf = true → (∀ b, (b = true ↔ (p.vals.length = p.keys.length ∧ p.kids = [] ∧ ∀ v ∈ p.vals, v.size ≤ 10)) → Q (.g (.bool b)) H) → ∀ m k : Nat, p.vals.length - k = m → k ≤ p.vals.length → (∀ i, (hi : i < p.vals.length) → i < k → (p.vals[i]).size ≤ 10) →
      ∃ f, ref1_PageWith.l5 f u l a1 n1 a2 n2 a3 n3 (k : Int) H Q := by
    intro hL hQ' m
    induction m with
    | zero =>
      intro k hm hle h1
      refine ⟨1, ?_⟩
      rw [ref1_PageWith.l5_eq, bite_f (by simp; omega)]
      have hall : ∀ v ∈ p.vals, v.size ≤ 10 := fun s hs => by obtain ⟨i, hi, rfl⟩ := List.getElem_of_mem hs; exact h1 i hi (by omega)
      refine bite_of (fun e => hQ' _ ?_) (fun e => hQ' _ ⟨fun q => (by cases q), fun q => ?_⟩)
      · simp at e ⊢
        refine ⟨fun q => ⟨by omega, List.eq_nil_of_length_eq_zero (by omega), hall⟩, fun q => ?_⟩
        have := q.2.1
        rw [this] at n3e; exact n3e
      · have := q.1; simp at e; omega
    | succ m ih =>
      intro k hm hle h1
      have hkn : k < p.vals.length := by omega
      have hlt : ltI (k : Int) (nI n2) = true := by simp; omega
      by_cases c1 : 10 < (p.vals[k]).size
      · refine ⟨1, ?_⟩
        rw [ref1_PageWith.l5_eq, bite_t hlt, chk_true, hv.rd k rfl hkn, bite_t (by simp; omega)]
        exact hQ' false ⟨fun q => (by cases q), fun q => by have := q.2.2 _ (List.getElem_mem hkn); omega⟩
      · obtain ⟨f, hf⟩ := ih (k + 1) (by omega) (by omega) (fun i hi hik => by
          by_cases e : i = k
          · subst e; omega
          · exact h1 i hi (by omega))
        refine ⟨f + 1, ?_⟩
        rw [ref1_PageWith.l5_eq, bite_t hlt, chk_true, hv.rd k rfl hkn, bite_f (by simp; omega), wrap_succ (by omega)]
        exact hf
  -- an inner page's kids
  have inners : p.leaf = false → (∀ b, (b = true ↔ (1 ≤ p.keys.length ∧ p.vals = [] ∧ p.kids.length = p.keys.length + 1 ∧ (∀ k ∈ p.kids, 1 ≤ k ∧ k < 48) ∧ p.kids.Nodup)) → Q (.g (.bool b)) H) → ∀ m k : Nat, p.kids.length - k = m → k ≤ p.kids.length →
      (∀ i, (hi : i < p.kids.length) → i < k → 1 ≤ p.kids[i] ∧ p.kids[i] < 48) → (∀ i j, (hj : j < p.kids.length) → (hij : i < j) → j < k → p.kids[i]'(by omega) ≠ p.kids[j]) →
      ∃ f, ref1_PageWith.l11 f u l a1 n1 a2 n2 a3 n3 (k : Int) H Q := by
    intro hL hQ' m
    induction m with
    | zero =>
      intro k hm hle h1 h2
      refine ⟨1, ?_⟩
      rw [ref1_PageWith.l11_eq, bite_f (by simp; omega)]
      have hall : ∀ v ∈ p.kids, 1 ≤ v ∧ v < 48 := fun s hs => by obtain ⟨i, hi, rfl⟩ := List.getElem_of_mem hs; exact h1 i hi (by omega)
      have hnd : p.kids.Nodup := by
        rw [List.Nodup, List.pairwise_iff_getElem]
        exact fun i j _ hj hij => h2 i j hj hij (by omega)
      refine bite_of (fun e => ?_) (fun e => hQ' _ ⟨fun q => (by cases q), fun q => ?_⟩)
      rotate_left
      · have := q.1; simp at e; omega
      refine bite_of (fun e2 => hQ' _ ?_) (fun e2 => hQ' _ ⟨fun q => (by cases q), fun q => ?_⟩)
      rotate_left
      · have := q.2.1; rw [this] at n2e; simp at e2 n2e; omega
      simp only [nI_def]
      rw [wrap_succ (by omega)]
      simp at e e2 ⊢
      exact ⟨fun q => ⟨by omega, List.eq_nil_of_length_eq_zero (by omega), by omega, hall, hnd⟩, fun q => by have := q.2.2.1; omega⟩
    | succ m ih =>
      intro k hm hle h1 h2
      have hkn : k < p.kids.length := by omega
      have hlt : ltI (k : Int) (nI n3) = true := by simp; omega
      by_cases c1 : p.kids[k] < 1
      · refine ⟨1, ?_⟩
        rw [ref1_PageWith.l11_eq, bite_t hlt, chk_true, hi.rd k rfl hkn, bite_t (by simpa using c1)]
        exact hQ' false ⟨fun q => (by cases q), fun q => by have := q.2.2.2.1 _ (List.getElem_mem hkn); omega⟩
      by_cases c2 : 48 ≤ p.kids[k]
      · refine ⟨1, ?_⟩
        rw [ref1_PageWith.l11_eq, bite_t hlt, chk_true, hi.rd k rfl hkn, bite_f (by simpa using c1), chk_true, hi.rd k rfl hkn, bite_t (by simpa using c2)]
        exact hQ' false ⟨fun q => (by cases q), fun q => by have := q.2.2.2.1 _ (List.getElem_mem hkn); omega⟩
      -- the inner loop
      have loop : ∀ m' j : Nat, k - j = m' → j ≤ k → (∀ i, (hi : i < j) → (hi2 : i < k) → p.kids[i]'(by omega) ≠ p.kids[k]) → ∃ f, ref1_PageWith.l16 f u l a1 n1 a2 n2 a3 n3 (k : Int) (j : Int) H Q := by
        intro m'
        induction m' with
        | zero =>
          intro j hj hjk h3
          obtain ⟨f, hf⟩ := ih (k + 1) (by omega) (by omega)
            (fun i hi hik => by
              by_cases e : i = k
              · subst e; omega
              · exact h1 i hi (by omega))
            (fun i j' hj' hij hjk' => by
              by_cases e : j' = k
              · subst e; exact h3 i (by omega) hij
              · exact h2 i j' hj' hij (by omega))
          refine ⟨f + 1, ?_⟩
          rw [ref1_PageWith.l16_eq, bite_f (by simp; omega), wrap_succ (by omega)]
          exact hf
        | succ m' ih' =>
          intro j hj hjk h3
          have hjn : j < p.kids.length := by omega
          by_cases e : p.kids[j] = p.kids[k]
          · refine ⟨1, ?_⟩
            rw [ref1_PageWith.l16_eq, bite_t (by simp; omega), chk_true, hi.rd j rfl hjn, chk_true, hi.rd k rfl hkn, bite_t (by simpa using e)]
            refine hQ' false ⟨fun q => (by cases q), fun q => ?_⟩
            exact ((List.pairwise_iff_getElem.1 q.2.2.2.2) j k hjn hkn (by omega) e).elim
          · obtain ⟨f, hf⟩ := ih' (j + 1) (by omega) (by omega) (fun i hi hi2 => by
              by_cases e' : i = j
              · subst e'; exact e
              · exact h3 i (by omega) hi2)
            refine ⟨f + 1, ?_⟩
            rw [ref1_PageWith.l16_eq, bite_t (by simp; omega), chk_true, hi.rd j rfl hjn, chk_true, hi.rd k rfl hkn, bite_f (by simpa using e), wrap_succ (by omega)]
            exact hf
      obtain ⟨f, hf⟩ := loop _ 0 rfl (Nat.zero_le _) (fun i hi => by omega)
      refine ⟨f + 1, ?_⟩
      rw [ref1_PageWith.l11_eq, bite_t hlt, chk_true, hi.rd k rfl hkn, bite_f (by simpa using c1), chk_true, hi.rd k rfl hkn, bite_f (by simpa using c2)]
      exact hf
  -- the function
  by_cases cu : u = true
  rotate_left
  · refine ⟨1, ?_⟩
    rw [ref1_PageWith_eq, bite_t (by cases u <;> simp_all)]
    exact hQ _ ⟨fun q => (by cases q), fun q => by have := q.2.used; rw [hu] at this; exact (cu this).elim⟩
  by_cases cr : Rising p.keys ∧ ∀ k ∈ p.keys, 1 ≤ k.size ∧ k.size ≤ 6
  rotate_left
  · refine ⟨1, ?_⟩
    rw [ref1_PageWith_eq, bite_f (by rw [cu]; rfl)]
    refine ref1_rising_spec hk fun b hb => ?_
    simp only [rG_g, dB_bool]
    rw [bite_t (by cases b with | false => rfl | true => exact (cr (hb.1 rfl)).elim)]
    exact hQ _ ⟨fun q => (by cases q), fun q => (cr ⟨q.2.rising, q.2.keys⟩).elim⟩
  by_cases cm : n1 ≤ most
  rotate_left
  · refine ⟨1, ?_⟩
    rw [ref1_PageWith_eq, bite_f (by rw [cu]; rfl)]
    refine ref1_rising_spec hk fun b hb => ?_
    simp only [rG_g, dB_bool]
    rw [bite_f (by rw [hb.2 cr]; rfl), bite_t (by simp; omega)]
    exact hQ _ ⟨fun q => (by cases q), fun q => by have := q.1; omega⟩
  cases hL : p.leaf with
  | true =>
    obtain ⟨f, hf⟩ := leafs hL (fun b hb => hQ b (hb.trans ⟨fun q => ⟨by omega, by rw [hu]; exact cu, cr.1, cr.2, fun _ => q, fun e => (by rw [hL] at e; cases e)⟩, fun q => q.2.leaf hL⟩)) _ 0 rfl (Nat.zero_le _) (fun i hi h => by omega)
    refine ⟨f + 1, ?_⟩
    rw [ref1_PageWith_eq, bite_f (by rw [cu]; rfl)]
    refine ref1_rising_spec hk fun b hb => ?_
    simp only [rG_g, dB_bool]
    rw [bite_f (by rw [hb.2 cr]; rfl), bite_f (by simp; omega), bite_t (by rw [← hl]; exact hL)]
    exact hf
  | false =>
    obtain ⟨f, hf⟩ := inners hL (fun b hb => hQ b (hb.trans ⟨fun q => ⟨by omega, by rw [hu]; exact cu, cr.1, cr.2, fun e => (by rw [hL] at e; cases e), fun _ => q⟩, fun q => q.2.inner hL⟩)) _ 0 rfl (Nat.zero_le _) (fun i hi h => by omega) (fun i j hj hij h => by omega)
    refine ⟨f + 1, ?_⟩
    rw [ref1_PageWith_eq, bite_f (by rw [cu]; rfl)]
    refine ref1_rising_spec hk fun b hb => ?_
    simp only [rG_g, dB_bool]
    rw [bite_f (by rw [hb.2 cr]; rfl), bite_f (by simp; omega), bite_f (by rw [← hl]; exact hL)]
    exact hf

theorem ref1_PageMay_spec (h : PgAt H u l a1 n1 a2 n2 a3 n3 p) (hQ : ∀ b, (b = true ↔ MayP p) → Q (.g (.bool b)) H) :
    ref1_PageMay [.agg [.bool u, .bool l, .sl a1 n1 1, .sl a2 n2 1, .sl a3 n3 1]] H Q := by
  refine ⟨1, ?_⟩
  rw [ref1_PageMay_eq]
  refine ref1_PageWith_spec (most := 4) (by omega) h fun b hb => ?_
  simp only [rG_g, dB_bool]
  exact hQ b hb
end
end Go.Am
