import Derived.Test.YtmjnenpllddhfaaAm1
set_option linter.unusedVariables false
set_option linter.unusedSimpArgs false
namespace Go.Am
variable {φ : List LI} {H : Hp} {w : World}

theorem cell_of {w : World} {b j : Nat} {c : Array Value} {t : TypeId} {fz : Nat × Nat} (h : w.heap[b]? = some (.cells c t fz)) : w.cell? ⟨b, j, none⟩ = c[j]? := cell_of_row w b j c t fz h

theorem RepH.lt (h : RepH φ H w) {l : Nat} {own : Bool} {t : TypeId} {cs : List GV} (hl : H[l]? = some (.row own t cs)) : l < φ.length := by
  rw [h.len]
  rcases Nat.lt_or_ge l H.length with h1 | h1
  · exact h1
  · simp [List.getElem?_eq_none h1] at hl

/-- a read cell -/
theorem RepH.get (h : RepH φ H w) {l o : Nat} {v : GV} (hv : gt H l o = some v) : ∃ i x, φ[l]? = some i ∧ w.cell? ⟨i.b, i.p + o, none⟩ = some x ∧ v.is φ x := by
  unfold gt at hv
  split at hv
  · rename_i own t cs hl
    obtain ⟨i, hi, h1, h2, h3, h4⟩ := h.row l own t cs hl
    cases own with
    | false => obtain ⟨x, hx, hvx⟩ := h4 o v hv; exact ⟨i, x, hi, hx, hvx⟩
    | true =>
      obtain ⟨hp, c, t', fz, hb, _, hs, hf, hle, his⟩ := h4
      obtain ⟨x, hx, hvx⟩ := his.get hv
      refine ⟨i, x, hi, ?_, hvx⟩
      rw [hp, Nat.zero_add, cell_of hb]
      rw [List.getElem?_take] at hx
      split at hx
      · simpa using hx
      · simp at hx
  · simp at hv

/-- cells one behind the other -/
theorem RepH.cells (h : RepH φ H w) {l o n : Nat} {cs : List GV} (hv : cells? H (some (l, o)) n = some cs) :
    ∃ i, φ[l]? = some i ∧ cs.length = n ∧ ∃ xs : List Value, Is2 φ cs xs ∧ ∀ j x, xs[j]? = some x → w.cell? ⟨i.b, i.p + o + j, none⟩ = some x := by
  unfold cells? at hv
  simp only at hv
  split at hv
  · rename_i own t ds hl
    split at hv
    · rename_i hle
      simp only [Option.some.injEq] at hv
      have hlen : cs.length = n := by rw [← hv]; simp; omega
      obtain ⟨i, hi, _⟩ := h.row l own t ds hl
      refine ⟨i, hi, hlen, ?_⟩
      have key : ∀ j v, cs[j]? = some v → ∃ x, w.cell? ⟨i.b, i.p + o + j, none⟩ = some x ∧ v.is φ x := by
        intro j v hj
        have : gt H l (o + j) = some v := by
          unfold gt; rw [hl]; simp only
          rw [← hv, List.getElem?_take] at hj
          split at hj
          · simpa using hj
          · simp at hj
        obtain ⟨i', x, hi', hx, hvx⟩ := h.get this
        rw [hi] at hi'; cases hi'
        exact ⟨x, by rw [Nat.add_assoc]; exact hx, hvx⟩
      clear hv hlen
      have : ∀ (cs : List GV) (d : Nat), (∀ j v, cs[j]? = some v → ∃ x, w.cell? ⟨i.b, i.p + o + (d + j), none⟩ = some x ∧ v.is φ x) →
          ∃ xs : List Value, Is2 φ cs xs ∧ ∀ j x, xs[j]? = some x → w.cell? ⟨i.b, i.p + o + (d + j), none⟩ = some x := by
        intro cs
        induction cs with
        | nil => intro d _; exact ⟨[], .nil, by simp⟩
        | cons c cs ih =>
          intro d hd
          obtain ⟨x, hx, hcx⟩ := hd 0 c (by simp)
          obtain ⟨xs, h1, h2⟩ := ih (d + 1) (fun j v hj => by have := hd (j + 1) v (by simpa using hj); rwa [show d + 1 + j = d + (j + 1) by omega])
          refine ⟨x :: xs, .cons hcx h1, ?_⟩
          intro j y hy
          cases j with
          | zero => simp at hy; subst hy; exact hx
          | succ j => have := h2 j y (by simpa using hy); rwa [show d + (j + 1) = d + 1 + j by omega]
      obtain ⟨xs, h1, h2⟩ := this cs 0 (by simpa using key)
      exact ⟨xs, h1, by simpa using h2⟩
    · simp at hv
  · simp at hv

/-- the same rows in a world in which their blocks are as they were -/
theorem RowOK.keep {w' : World} {own : Bool} {t : TypeId} {cs : List GV} {i : LI} (h : RowOK φ w own t cs i) (hb : w'.heap[i.b]? = w.heap[i.b]?) (hs : w.heap.size ≤ w'.heap.size) : RowOK φ w' own t cs i := by
  obtain ⟨h1, h2, h3, h4⟩ := h
  refine ⟨h1, h2, by omega, ?_⟩
  cases own with
  | true =>
    obtain ⟨hp, c, t', fz, hc, r⟩ := h4
    exact ⟨hp, c, t', fz, by rw [hb]; exact hc, r⟩
  | false =>
    intro j v hj
    obtain ⟨x, hx, hv⟩ := h4 j v hj
    exact ⟨x, by rw [World.cell?_of_block (w := w) (w' := w') hb]; exact hx, hv⟩
theorem RowOK.mono {φ' : List LI} (hp : φ <+: φ') {own : Bool} {t : TypeId} {cs : List GV} {i : LI} (h : RowOK φ w own t cs i) : RowOK φ' w own t cs i := by
  obtain ⟨h1, h2, h3, h4⟩ := h
  refine ⟨h1, h2, h3, ?_⟩
  cases own with
  | true =>
    obtain ⟨hp', c, t', fz, hc, ht', hs, hf, hle, his⟩ := h4
    exact ⟨hp', c, t', fz, hc, ht', hs, hf, hle, Is2.mono hp his⟩
  | false =>
    intro j v hj
    obtain ⟨x, hx, hv⟩ := h4 j v hj
    exact ⟨x, hx, GV.is.mono hp hv⟩

theorem RepH.blockLt (h : RepH φ H w) {b : Nat} (hb : rowB φ H b) : b < w.heap.size := by
  obtain ⟨l, own, t, cs, i, hl, hi, rfl⟩ := hb
  obtain ⟨i', hi', _, _, h3, _⟩ := h.row l own t cs hl
  rw [hi] at hi'; cases hi'; exact h3

theorem get_snoc {α : Type} {xs : List α} {x y : α} {l : Nat} (h : (xs ++ [x])[l]? = some y) : (l < xs.length ∧ xs[l]? = some y) ∨ (l = xs.length ∧ x = y) := by
  rcases Nat.lt_trichotomy l xs.length with h1 | h1 | h1
  · rw [List.getElem?_append_left h1] at h; exact .inl ⟨h1, h⟩
  · subst h1; simp at h; exact .inr ⟨rfl, h⟩
  · rw [List.getElem?_append_right (by omega)] at h
    have : l - xs.length = (l - xs.length - 1) + 1 := by omega
    rw [this] at h; simp at h

/-- one more row -/
theorem RepH.snoc (h : RepH φ H w) {w' : World} (hs : w.heap.size ≤ w'.heap.size) (hkb : ∀ b, rowB φ H b → w'.heap[b]? = w.heap[b]?) {own : Bool} {t : TypeId} {cs : List GV} {i : LI} (hi : RowOK (φ ++ [i]) w' own t cs i)
    (ha : own = true → 0 < i.s → ¬ rowB φ H i.b) (ha' : ¬ ownB φ H i.b) :
    RepH (φ ++ [i]) (H ++ [.row own t cs]) w' ∧ (∀ b, ownB (φ ++ [i]) (H ++ [.row own t cs]) b → ownB φ H b ∨ (own = true ∧ b = i.b ∧ 0 < i.s)) ∧ (∀ b, rowB (φ ++ [i]) (H ++ [.row own t cs]) b → rowB φ H b ∨ b = i.b) := by
  have hpre : φ <+: φ ++ [i] := List.prefix_append _ _
  have hφ : ∀ {l : Nat} {j : LI}, (φ ++ [i])[l]? = some j → (l < φ.length ∧ φ[l]? = some j) ∨ (l = φ.length ∧ i = j) := fun h => get_snoc h
  have hlen := h.len
  refine ⟨⟨by simp [hlen], ?_, ?_⟩, ?_, ?_⟩
  · intro l own' t' cs' hl
    rcases get_snoc hl with ⟨h1, h2⟩ | ⟨rfl, h2⟩
    · obtain ⟨i', hi', hr⟩ := h.row l own' t' cs' h2
      refine ⟨i', pre_get hpre hi', (hr.keep (hkb _ ⟨l, own', t', cs', i', h2, hi', rfl⟩) hs).mono hpre⟩
    · cases h2
      exact ⟨i, by rw [← hlen]; simp, hi⟩
  · intro l l' t1 cs1 own' t' cs' i1 i2 hl hl' hne hi1 hi2 hpos
    rcases get_snoc hl with ⟨h1, h2⟩ | ⟨e1, h2⟩ <;> rcases get_snoc hl' with ⟨h1', h2'⟩ | ⟨e1', h2'⟩
    · have a1 : φ[l]? = some i1 := by rcases hφ hi1 with ⟨_, q⟩ | ⟨q, _⟩; exact q; omega
      have a2 : φ[l']? = some i2 := by rcases hφ hi2 with ⟨_, q⟩ | ⟨q, _⟩; exact q; omega
      exact h.apart l l' t1 cs1 own' t' cs' i1 i2 h2 h2' hne a1 a2 hpos
    · have a1 : φ[l]? = some i1 := by rcases hφ hi1 with ⟨_, q⟩ | ⟨q, _⟩; exact q; omega
      have a2 : i = i2 := by rcases hφ hi2 with ⟨q, _⟩ | ⟨_, q⟩; omega; exact q
      subst a2
      intro e
      exact ha' ⟨l, t1, cs1, i1, h2, a1, e, hpos⟩
    · have a1 : i = i1 := by rcases hφ hi1 with ⟨q, _⟩ | ⟨_, q⟩; omega; exact q
      have a2 : φ[l']? = some i2 := by rcases hφ hi2 with ⟨_, q⟩ | ⟨q, _⟩; exact q; omega
      subst a1
      cases h2
      intro e
      exact ha rfl hpos ⟨l', own', t', cs', i2, h2', a2, e.symm⟩
    · omega
  · intro b ⟨l, t', cs', j, hl, hj, hb, hpos⟩
    rcases get_snoc hl with ⟨h1, h2⟩ | ⟨e1, h2⟩
    · rcases hφ hj with ⟨_, q⟩ | ⟨q, _⟩
      · exact .inl ⟨l, t', cs', j, h2, q, hb, hpos⟩
      · omega
    · cases h2
      rcases hφ hj with ⟨q, _⟩ | ⟨_, q⟩
      · omega
      · subst q; exact .inr ⟨rfl, hb.symm, hpos⟩
  · intro b ⟨l, o', t', cs', j, hl, hj, hb⟩
    rcases get_snoc hl with ⟨h1, h2⟩ | ⟨e1, h2⟩
    · rcases hφ hj with ⟨_, q⟩ | ⟨q, _⟩
      · exact .inl ⟨l, o', t', cs', j, h2, q, hb⟩
      · omega
    · cases h2
      rcases hφ hj with ⟨q, _⟩ | ⟨_, q⟩
      · omega
      · subst q; exact .inr hb.symm

/-- one more row, in a new block -/
theorem Back.snoc (h : RepH φ H w) {w' : World} (hk : Keeps (ownB φ H) w w') (hkb : ∀ b, rowB φ H b → w'.heap[b]? = w.heap[b]?) {own : Bool} {t : TypeId} {cs : List GV} {i : LI} (hi : RowOK (φ ++ [i]) w' own t cs i)
    (hnew : w.heap.size ≤ i.b) : Back φ H w (φ ++ [i]) (H ++ [.row own t cs]) w' := by
  have hb : ¬ rowB φ H i.b := fun q => by have := h.blockLt q; omega
  obtain ⟨h1, h2, h3⟩ := h.snoc hk.size hkb hi (fun _ _ => hb) (fun q => hb q.row)
  exact ⟨List.prefix_append _ _, h1, hk, fun b q => (h2 b q).imp_right fun q => by rw [q.2.1]; exact hnew, fun b q => (h3 b q).imp_right fun q => by rw [q]; exact hnew⟩

theorem keeps_alloc (own : Nat → Prop) (w : World) (o : Go.Obj) : Keeps own w (w.alloc o) :=
  ⟨rfl, rfl, rfl, by simp, fun b hb _ => heap_alloc_old w o b hb⟩
theorem keeps_drew (own : Nat → Prop) (w : World) : Keeps own w w.drew := ⟨rfl, rfl, rfl, Nat.le_refl _, fun _ _ _ => rfl⟩

/-- a new block -/
theorem Back.new (h : RepH φ H w) (t : TypeId) (cs : List GV) (c : Array Value) (fz : Nat × Nat) (hle : cs.length ≤ c.size) (his : Is2 φ cs (c.toList.take cs.length)) (hf : ∀ j, fz.1 ≤ j → j < fz.2 → c.size ≤ j) :
    Back φ H w (φ ++ [⟨w.heap.size, 0, true, cs.length, c.size⟩]) (H ++ [.row true t cs]) (w.alloc (.cells c t fz)) :=
  Back.snoc h (keeps_alloc _ _ _) (fun b hb => heap_alloc_old w _ b (h.blockLt hb))
    ⟨rfl, rfl, by simp, rfl, c, t, fz, heap_alloc_new w _, fun _ => rfl, rfl, hf, hle, Is2.mono (List.prefix_append _ _) his⟩ (Nat.le_refl _)

/-- a draw -/
theorem Back.drew (h : RepH φ H w) : Back φ H w φ H w.drew :=
  ⟨List.prefix_refl _, ⟨h.len, fun l own t cs hl => by obtain ⟨i, hi, hr⟩ := h.row l own t cs hl; exact ⟨i, hi, hr.keep rfl (Nat.le_refl _)⟩, h.apart⟩, keeps_drew _ _, fun _ h => .inl h, fun _ h => .inl h⟩

theorem set_get {α : Type} {xs : List α} {l l' : Nat} {x y : α} (h : (xs.set l x)[l']? = some y) : (l' = l ∧ y = x) ∨ (l' ≠ l ∧ xs[l']? = some y) := by
  rw [List.getElem?_set] at h
  split at h
  · split at h
    · rename_i e _; simp at h; exact .inl ⟨e.symm, h.symm⟩
    · simp at h
  · rename_i e; exact .inr ⟨fun q => e q.symm, h⟩

/-- a row is turned: its block alone is written -/
theorem Back.turn (h : RepH φ H w) {w' : World} {l : Nat} {t : TypeId} {cs cs' : List GV} {i : LI} (hl : H[l]? = some (.row true t cs)) (hi : φ[l]? = some i) (hpos : 0 < i.s)
    (hk : Keeps (fun b => b = i.b) w w') (hr : RowOK φ w' true t cs' i) : Back φ H w φ (H.set l (.row true t cs')) w' := by
  have hown : ownB φ H i.b := ⟨l, t, cs, i, hl, hi, rfl, hpos⟩
  refine ⟨List.prefix_refl _, ⟨by simp [h.len], ?_, ?_⟩, ⟨hk.os, hk.tape, hk.output, hk.size, fun b hb hn => hk.block b hb (fun e => hn (e ▸ hown))⟩, ?_, ?_⟩
  · intro l' own t' cs1 hl'
    rcases set_get hl' with ⟨rfl, e⟩ | ⟨hne, hl'⟩
    · cases e; exact ⟨i, hi, hr⟩
    · obtain ⟨i', hi', hr'⟩ := h.row l' own t' cs1 hl'
      refine ⟨i', hi', hr'.keep (hk.block _ (h.blockLt ⟨l', own, t', cs1, i', hl', hi', rfl⟩) (fun e => ?_)) hk.size⟩
      exact h.apart l l' t cs own t' cs1 i i' hl hl' (fun q => hne q.symm) hi hi' hpos e.symm
  · intro l1 l2 t1 cs1 own' t2 cs2 i1 i2 hl1 hl2 hne hi1 hi2 hp1
    have o1 : ∃ cs, H[l1]? = some (.row true t1 cs) := by
      rcases set_get hl1 with ⟨rfl, e⟩ | ⟨_, q⟩
      · cases e; exact ⟨cs, hl⟩
      · exact ⟨_, q⟩
    have o2 : ∃ cs, H[l2]? = some (.row own' t2 cs) := by
      rcases set_get hl2 with ⟨rfl, e⟩ | ⟨_, q⟩
      · cases e; exact ⟨cs, hl⟩
      · exact ⟨_, q⟩
    obtain ⟨_, o1⟩ := o1
    obtain ⟨_, o2⟩ := o2
    exact h.apart l1 l2 t1 _ own' t2 _ i1 i2 o1 o2 hne hi1 hi2 hp1
  · intro b ⟨l', t', cs1, j, hl', hj, hb, hp1⟩
    rcases set_get hl' with ⟨rfl, e⟩ | ⟨_, q⟩
    · cases e; rw [hi] at hj; cases hj; exact .inl (hb ▸ hown)
    · exact .inl ⟨l', t', cs1, j, q, hj, hb, hp1⟩
  · intro b ⟨l', o', t', cs1, j, hl', hj, hb⟩
    rcases set_get hl' with ⟨rfl, e⟩ | ⟨_, q⟩
    · cases e; rw [hi] at hj; cases hj; exact .inl (hb ▸ hown.row)
    · exact .inl ⟨l', o', t', cs1, j, q, hj, hb⟩

/-- a row goes: nobody may touch it any more -/
theorem Back.drop (h : RepH φ H w) (l : Nat) : Back φ H w φ (H.set l .dead) w := by
  have o : ∀ {l' : Nat} {own : Bool} {t : TypeId} {cs : List GV}, (H.set l .dead)[l']? = some (.row own t cs) → H[l']? = some (.row own t cs) := by
    intro l' own t cs hl'
    rcases set_get hl' with ⟨_, e⟩ | ⟨_, q⟩
    · cases e
    · exact q
  exact ⟨List.prefix_refl _, ⟨by simp [h.len], fun l' own t cs hl' => h.row l' own t cs (o hl'), fun l1 l2 t1 cs1 o' t2 cs2 i1 i2 a b => h.apart l1 l2 t1 cs1 o' t2 cs2 i1 i2 (o a) (o b)⟩,
    Keeps.refl _ _, fun b ⟨l', t', cs', j, a, c⟩ => .inl ⟨l', t', cs', j, o a, c⟩, fun b ⟨l', o', t', cs', j, a, c⟩ => .inl ⟨l', o', t', cs', j, o a, c⟩⟩

/-- a row's block passes to a new row -/
theorem Back.pass (h : RepH φ H w) {w' : World} {l : Nat} {t t' : TypeId} {cs cs' : List GV} {i i' : LI} (hl : H[l]? = some (.row true t cs)) (hi : φ[l]? = some i) (hpos : 0 < i.s) (hb : i'.b = i.b)
    (hk : Keeps (fun b => b = i.b) w w') (hr : RowOK (φ ++ [i']) w' true t' cs' i') : Back φ H w (φ ++ [i']) (H.set l .dead ++ [.row true t' cs']) w' := by
  have hown : ownB φ H i.b := ⟨l, t, cs, i, hl, hi, rfl, hpos⟩
  have hpre : φ <+: φ ++ [i'] := List.prefix_append _ _
  have hlen := h.len
  have hφ : ∀ {l : Nat} {j : LI}, (φ ++ [i'])[l]? = some j → (l < φ.length ∧ φ[l]? = some j) ∨ (l = φ.length ∧ i' = j) := fun h => get_snoc h
  have o : ∀ {l' : Nat} {own : Bool} {t : TypeId} {cs : List GV}, (H.set l .dead)[l']? = some (.row own t cs) → l' ≠ l ∧ H[l']? = some (.row own t cs) := by
    intro l' own t cs hl'
    rcases set_get hl' with ⟨_, e⟩ | ⟨n, q⟩
    · cases e
    · exact ⟨n, q⟩
  have hsl : (H.set l .dead).length = φ.length := by simp [hlen]
  refine ⟨hpre, ⟨by simp [hlen], ?_, ?_⟩, ⟨hk.os, hk.tape, hk.output, hk.size, fun b hb hn => hk.block b hb (fun e => hn (e ▸ hown))⟩, ?_, ?_⟩
  · intro l' own t1 cs1 hl'
    rcases get_snoc hl' with ⟨h1, h2⟩ | ⟨e1, h2⟩
    · obtain ⟨hne, h3⟩ := o h2
      obtain ⟨j, hj, hr'⟩ := h.row l' own t1 cs1 h3
      refine ⟨j, pre_get hpre hj, (hr'.keep (hk.block _ (h.blockLt ⟨l', own, t1, cs1, j, h3, hj, rfl⟩) (fun e => ?_)) hk.size).mono hpre⟩
      exact h.apart l l' t cs own t1 cs1 i j hl h3 (fun q => hne q.symm) hi hj hpos e.symm
    · cases h2
      exact ⟨i', by rw [e1, hsl]; simp, hr⟩
  · intro l1 l2 t1 cs1 own' t2 cs2 i1 i2 hl1 hl2 hne hi1 hi2 hp1
    rcases get_snoc hl1 with ⟨h1, h2⟩ | ⟨e1, h2⟩ <;> rcases get_snoc hl2 with ⟨h1', h2'⟩ | ⟨e1', h2'⟩
    · obtain ⟨n1, q1⟩ := o h2
      obtain ⟨n2, q2⟩ := o h2'
      have a1 : φ[l1]? = some i1 := by rcases hφ hi1 with ⟨_, q⟩ | ⟨q, _⟩; exact q; omega
      have a2 : φ[l2]? = some i2 := by rcases hφ hi2 with ⟨_, q⟩ | ⟨q, _⟩; exact q; omega
      exact h.apart l1 l2 t1 cs1 own' t2 cs2 i1 i2 q1 q2 hne a1 a2 hp1
    · obtain ⟨n1, q1⟩ := o h2
      have a1 : φ[l1]? = some i1 := by rcases hφ hi1 with ⟨_, q⟩ | ⟨q, _⟩; exact q; omega
      have a2 : i' = i2 := by rcases hφ hi2 with ⟨q, _⟩ | ⟨_, q⟩; omega; exact q
      subst a2
      rw [hb]
      intro e
      exact h.apart l1 l t1 cs1 true t cs i1 i q1 hl n1 a1 hi hp1 e
    · obtain ⟨n2, q2⟩ := o h2'
      have a2 : φ[l2]? = some i2 := by rcases hφ hi2 with ⟨_, q⟩ | ⟨q, _⟩; exact q; omega
      have a1 : i' = i1 := by rcases hφ hi1 with ⟨q, _⟩ | ⟨_, q⟩; omega; exact q
      subst a1
      rw [hb]
      exact h.apart l l2 t cs own' t2 cs2 i i2 hl q2 (fun q => n2 q.symm) hi a2 hpos
    · omega
  · intro b ⟨l', t1, cs1, j, hl', hj, hb', hp1⟩
    rcases get_snoc hl' with ⟨h1, h2⟩ | ⟨e1, h2⟩
    · rcases hφ hj with ⟨_, q⟩ | ⟨q, _⟩
      · exact .inl ⟨l', t1, cs1, j, (o h2).2, q, hb', hp1⟩
      · omega
    · rcases hφ hj with ⟨q, _⟩ | ⟨_, q⟩
      · omega
      · subst q; exact .inl (hb' ▸ hb ▸ hown)
  · intro b ⟨l', o', t1, cs1, j, hl', hj, hb'⟩
    rcases get_snoc hl' with ⟨h1, h2⟩ | ⟨e1, h2⟩
    · rcases hφ hj with ⟨_, q⟩ | ⟨q, _⟩
      · exact .inl ⟨l', o', t1, cs1, j, (o h2).2, q, hb'⟩
      · omega
    · rcases hφ hj with ⟨q, _⟩ | ⟨_, q⟩
      · omega
      · subst q; exact .inl (hb' ▸ hb ▸ hown.row)

end Go.Am
