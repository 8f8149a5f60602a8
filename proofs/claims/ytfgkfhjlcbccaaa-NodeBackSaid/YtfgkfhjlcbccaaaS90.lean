import Derived.Test.YtfgkfhjlcbccaaaF91
import Derived.Test.YtfgkfhjlcbccaaaS6B
set_option linter.unusedVariables false
set_option linter.unusedSimpArgs false
namespace Go.Am

/-! a key's place -/
def slotN (xs : List ByteArray) (key : ByteArray) : Nat := (xs.filter fun k => strLt k key).length
def slotB (xs : List ByteArray) (key : ByteArray) : Bool := decide (xs[slotN xs key]? = some key)
theorem slotN_le (xs : List ByteArray) (key : ByteArray) : slotN xs key ≤ xs.length := List.length_filter_le _ _
theorem slotN_succ {xs : List ByteArray} {key : ByteArray} {k : Nat} (hk : k < xs.length) : slotN (xs.take (k + 1)) key = slotN (xs.take k) key + (match strLt xs[k] key with | true => 1 | false => 0) := by
  unfold slotN
  rw [List.take_succ_eq_append_getElem hk, List.filter_append, List.length_append]
  cases h : strLt xs[k] key <;> simp [h]

section
variable {H : Hp} {Q : Post} {a : Pl} {n : Nat} {xs : List ByteArray} {key : ByteArray}
theorem slot_end (h : Ss H a n xs) (hQ : Q (.tup [.s (.int .i64 (slotN xs key)), .s (.bool (slotB xs key))]) H) :
    bite (ltI (slotN xs key : Int) (nI n))
     (chk true (chk ((leI 0 (slotN xs key : Int)) && (ltI (slotN xs key : Int) (nI n))) (pS a fun n4 n5 => rd H n4 (n5 + ((tN (slotN xs key : Int)) * 1)) fun v6 => dS v6 fun s7 => Q (.tup [(.s (.int .i64 (slotN xs key))), (.s (.bool (strEq s7 key)))]) H)))
     (Q (.tup [(.s (.int .i64 (slotN xs key))), (.s (.bool false))]) H) := by
  have hn := h.len
  refine bite_of (fun e => ?_) (fun e => ?_)
  · have hk : slotN xs key < xs.length := by simp at e; omega
    rw [chk_true, h.rd (slotN xs key) rfl hk, strEq_def]
    unfold slotB at hQ
    rw [List.getElem?_eq_getElem hk] at hQ
    simpa using hQ
  · have hk : xs.length ≤ slotN xs key := by simp at e; omega
    unfold slotB at hQ
    rw [List.getElem?_eq_none hk] at hQ
    simpa using hQ
theorem node_Slot_spec (h : Ss H a n xs) (hQ : Q (.tup [.s (.int .i64 (slotN xs key)), .s (.bool (slotB xs key))]) H) : node_Slot [.g (.sl a n 1), .g (.str key)] H Q := by
  have hn := h.len
  have hlim := h.lim
  have loop : ∀ f k : Nat, xs.length - k < f → k ≤ xs.length → node_Slot.l3 f a n key (slotN (xs.take k) key : Int) a n (nI n) (k : Int) H Q := by
    intro f
    induction f with
    | zero => intro k hf; omega
    | succ f ih =>
      intro k hf hk
      rw [node_Slot.l3_eq]
      by_cases hkn : k < xs.length
      · have hle := slotN_le (xs.take k) key
        have hsu := slotN_succ (key := key) hkn
        have i1 := ih (k + 1) (by omega) (by omega)
        rw [hsu] at i1
        rw [bite_t (by simp; omega), chk_true, h.rd k rfl hkn]
        refine bite_of (fun e => ?_) (fun e => ?_)
        · rw [e] at i1
          rw [wrap_succ (by simp at hle; omega), wrap_succ (by omega)]
          exact i1
        · rw [e] at i1
          rw [wrap_succ (by omega)]
          exact i1
      · rw [bite_f (by simp; omega), List.take_of_length_le (by omega)]
        exact slot_end h hQ
  refine ⟨xs.length + 2, ?_⟩
  rw [node_Slot_eq]
  have := loop (xs.length + 1) 0 (by omega) (Nat.zero_le _)
  exact this
theorem ref9_Slot_spec (h : Ss H a n xs) (hQ : Q (.tup [.s (.int .i64 (slotN xs key)), .s (.bool (slotB xs key))]) H) : ref9_Slot [.g (.sl a n 1), .g (.str key)] H Q := by
  have hn := h.len
  have hlim := h.lim
  have loop : ∀ f k : Nat, xs.length - k < f → k ≤ xs.length → ref9_Slot.l3 f a n key (slotN (xs.take k) key : Int) (k : Int) H Q := by
    intro f
    induction f with
    | zero => intro k hf; omega
    | succ f ih =>
      intro k hf hk
      rw [ref9_Slot.l3_eq]
      by_cases hkn : k < xs.length
      · have hle := slotN_le (xs.take k) key
        have hsu := slotN_succ (key := key) hkn
        have i1 := ih (k + 1) (by omega) (by omega)
        rw [hsu] at i1
        rw [bite_t (by simp; omega), chk_true, h.rd k rfl hkn]
        refine bite_of (fun e => ?_) (fun e => ?_)
        · rw [e] at i1
          rw [wrap_succ (by simp at hle; omega), wrap_succ (by omega)]
          exact i1
        · rw [e] at i1
          rw [wrap_succ (by omega)]
          exact i1
      · rw [bite_f (by simp; omega), List.take_of_length_le (by omega)]
        exact slot_end h hQ
  refine ⟨xs.length + 2, ?_⟩
  rw [ref9_Slot_eq]
  have := loop (xs.length + 1) 0 (by omega) (Nat.zero_le _)
  exact this
end

/-! rows of one's own, in part -/
/-- a slice in a row of one's own, whose number lies from lo on and below hi -/
def Mine (H : Hp) (lo hi : Nat) (t : TypeId) (a : Pl) (n : Nat) (cs : List GV) : Prop :=
  (a = none ∧ n = 0 ∧ cs = []) ∨ ∃ l o ds, a = some (l, o) ∧ lo ≤ l ∧ l < hi ∧ H[l]? = some (.row true t ds) ∧ o + n ≤ ds.length ∧ (ds.drop o).take n = cs
def Dr (a b : Pl) : Prop := ∀ l o o', a = some (l, o) → b ≠ some (l, o')
/-- the heap goes on: of what was there the rows from lo on and below hi alone have turned -/
structure Ch (lo hi : Nat) (H H' : Hp) : Prop where
  len : H.length ≤ H'.length
  row : ∀ l, l < H.length → ¬ (lo ≤ l ∧ l < hi) → H'[l]? = H[l]?
theorem Ch.trans {lo hi : Nat} {H H1 H2 : Hp} (h : Ch lo hi H H1) (h' : Ch lo hi H1 H2) : Ch lo hi H H2 :=
  ⟨Nat.le_trans h.len h'.len, fun l hl hn => (h'.row l (Nat.lt_of_lt_of_le hl h.len) hn).trans (h.row l hl hn)⟩
theorem Ch.refl (lo hi : Nat) (H : Hp) : Ch lo hi H H := ⟨Nat.le_refl _, fun _ _ _ => rfl⟩
theorem Ch.of_pre {lo hi : Nat} {H H' : Hp} (h : H <+: H') : Ch lo hi H H' := ⟨h.length_le, fun l hl _ => pre_at h hl⟩
theorem Ch.pre {lo hi : Nat} {H0 H H' : Hp} (h : Ch lo hi H H') (h0 : H0 <+: H) (hl : H0.length ≤ lo) : H0 <+: H' := by
  rw [List.prefix_iff_eq_take]
  apply List.ext_getElem?
  intro i
  rw [List.getElem?_take]
  split
  · rename_i hi
    rw [h.row i (Nat.lt_of_lt_of_le hi h0.length_le) (by omega), pre_at h0 hi]
  · rename_i hi
    exact List.getElem?_eq_none (by omega)

section
variable {H H' : Hp} {lo hi : Nat} {t : TypeId} {a : Pl} {n : Nat} {cs : List GV}
theorem Mine.keep (h : Mine H lo hi t a n cs) (hk : ∀ l o, a = some (l, o) → H'[l]? = H[l]?) : Mine H' lo hi t a n cs := by
  rcases h with h | ⟨l, o, ds, rfl, h1, h2, h3, h4, h5⟩
  · exact .inl h
  · exact .inr ⟨l, o, ds, rfl, h1, h2, by rw [hk l o rfl]; exact h3, h4, h5⟩
theorem Mine.lt (h : Mine H lo hi t a n cs) {l o : Nat} (e : a = some (l, o)) : l < H.length ∧ lo ≤ l ∧ l < hi := by
  rcases h with ⟨h, _⟩ | ⟨l', o', ds, e', h1, h2, h3, _⟩
  · rw [h] at e; cases e
  · rw [e'] at e; cases e; exact ⟨(List.getElem?_eq_some_iff.1 h3).1, h1, h2⟩
theorem Mine.mono (h : Mine H lo hi t a n cs) (hp : H <+: H') : Mine H' lo hi t a n cs := h.keep fun l o e => pre_at hp (h.lt e).1
theorem Mine.away {lo' hi' : Nat} (h : Mine H lo hi t a n cs) (hc : Ch lo' hi' H H') (hd : hi ≤ lo' ∨ hi' ≤ lo) : Mine H' lo hi t a n cs :=
  h.keep fun l o e => by have := h.lt e; exact hc.row l this.1 (by omega)
theorem Mine.cells (h : Mine H lo hi t a n cs) : cells? H a n = some cs := by
  rcases h with ⟨rfl, rfl, rfl⟩ | ⟨l, o, ds, rfl, h1, h2, h3, h4, h5⟩
  · rfl
  · simp only [cells?, h3]; rw [if_pos h4, h5]
theorem Mine.len (h : Mine H lo hi t a n cs) : cs.length = n := cells_len h.cells
theorem Own.mine {b : Nat} (h : Own H b t a n cs) : Mine H b H.length t a n cs := by
  rcases h with h | ⟨l, rfl, h1, h2, h3⟩
  · exact .inl h
  · exact .inr ⟨l, 0, cs, rfl, h1, (List.getElem?_eq_some_iff.1 h2).1, h2, by omega, by rw [List.drop_zero, ← h3, List.take_length]⟩
theorem Mine.wider {lo' hi' : Nat} (h : Mine H lo hi t a n cs) (h1 : lo' ≤ lo) (h2 : hi ≤ hi') : Mine H lo' hi' t a n cs := by
  rcases h with h | ⟨l, o, ds, rfl, q1, q2, q3, q4, q5⟩
  · exact .inl h
  · exact .inr ⟨l, o, ds, rfl, by omega, by omega, q3, q4, q5⟩
/-- a part of it -/
theorem Mine.part (h : Mine H lo hi t a n cs) (k m : Nat) (hm : k + m ≤ n) : Mine H lo hi t (shf a k) m ((cs.drop k).take m) := by
  rcases h with ⟨rfl, rfl, rfl⟩ | ⟨l, o, ds, rfl, q1, q2, q3, q4, q5⟩
  · exact .inl ⟨rfl, by omega, by simp⟩
  · refine .inr ⟨l, o + k, ds, rfl, q1, q2, q3, by omega, ?_⟩
    rw [← q5, List.drop_take, List.take_take, List.drop_drop, Nat.min_eq_left (by omega)]
theorem Dr.shf {b : Pl} (h : Dr a b) (k m : Nat) : Dr (shf a k) (shf b m) := by
  intro l o o' h1 h2
  cases a with
  | none => cases h1
  | some p =>
    cases b with
    | none => cases h2
    | some q =>
      obtain ⟨p1, p2⟩ := p
      obtain ⟨q1, q2⟩ := q
      simp at h1 h2
      exact h l p2 q2 (by rw [h1.1]) (by rw [h2.1])
theorem Mine.wr (h : Mine H lo hi t a n cs) (k : Nat) {i : Int} (hi' : i = k) (hk : k < n) {v : GV} {K : Hp → Prop}
    (hK : ∀ H', Mine H' lo hi t a n (cs.set k v) → Ch lo hi H H' → (∀ l, l < H.length → (∀ o, a ≠ some (l, o)) → H'[l]? = H[l]?) → K H') : chk (leI 0 i && ltI i (nI n)) (pS a fun n5 n6 => Am.wr H n5 (n6 + tN i * 1) v K) := by
  subst hi'
  refine chk_of (by simp; omega) ?_
  rcases h with ⟨_, rfl, _⟩ | ⟨l, o, ds, rfl, q1, q2, q3, q4, q5⟩
  · omega
  · simp only [pS_some, tN_def, Int.toNat_natCast, Nat.mul_one]
    rw [wr_of q3 (by omega)]
    have hl := (List.getElem?_eq_some_iff.1 q3).1
    refine hK _ (.inr ⟨l, o, _, rfl, q1, q2, List.getElem?_set_self hl, by simpa using q4, ?_⟩) ⟨by simp, fun l' _ hne => ?_⟩ (fun l' _ hne => ?_)
    · rw [← q5, List.drop_set, if_neg (by omega), List.take_set, show o + k - o = k by omega]
    · rw [List.getElem?_set_ne]; intro e; subst e; exact hne ⟨q1, q2⟩
    · rw [List.getElem?_set_ne]; intro e; subst e; exact hne o rfl
end

/-- a page in rows of one's own -/
structure PgM (H : Hp) (lo hi : Nat) (u l : Bool) (a1 : Pl) (n1 : Nat) (a2 : Pl) (n2 : Nat) (a3 : Pl) (n3 : Nat) (p : Pg) : Prop where
  used : p.used = u
  leaf : p.leaf = l
  keys : Mine H lo hi 9 a1 n1 (p.keys.map GV.str)
  vals : Mine H lo hi 9 a2 n2 (p.vals.map GV.str)
  kids : Mine H lo hi 3 a3 n3 (p.kids.map (GV.int .i64))
  d12 : Dr a1 a2
  d13 : Dr a1 a3
  d23 : Dr a2 a3
  small : n1 ≤ 1000 ∧ n2 ≤ 1000 ∧ n3 ≤ 1000
section
variable {H H' : Hp} {lo hi : Nat} {u l : Bool} {a1 : Pl} {n1 : Nat} {a2 : Pl} {n2 : Nat} {a3 : Pl} {n3 : Nat} {p : Pg}
theorem PgM.at (h : PgM H lo hi u l a1 n1 a2 n2 a3 n3 p) : PgAt H u l a1 n1 a2 n2 a3 n3 p := by
  obtain ⟨h1, h2, h3, h4, h5, _, _, _, s⟩ := h
  refine ⟨h1, h2, ⟨h3.cells, ?_, by omega⟩, ⟨h4.cells, ?_, by omega⟩, ⟨h5.cells, ?_, by omega⟩⟩
  · have := h3.len; simpa using this.symm
  · have := h4.len; simpa using this.symm
  · have := h5.len; simpa using this.symm
theorem PgM.mono (h : PgM H lo hi u l a1 n1 a2 n2 a3 n3 p) (hp : H <+: H') : PgM H' lo hi u l a1 n1 a2 n2 a3 n3 p :=
  ⟨h.used, h.leaf, h.keys.mono hp, h.vals.mono hp, h.kids.mono hp, h.d12, h.d13, h.d23, h.small⟩
theorem PgM.away {lo' hi' : Nat} (h : PgM H lo hi u l a1 n1 a2 n2 a3 n3 p) (hc : Ch lo' hi' H H') (hd : hi ≤ lo' ∨ hi' ≤ lo) : PgM H' lo hi u l a1 n1 a2 n2 a3 n3 p :=
  ⟨h.used, h.leaf, h.keys.away hc hd, h.vals.away hc hd, h.kids.away hc hd, h.d12, h.d13, h.d23, h.small⟩
theorem Own.dr {b : Nat} {t t' : TypeId} {a a' : Pl} {n n' : Nat} {cs cs' : List GV} (h : Own H b t a n cs) (h' : Own H b t' a' n' cs') (hd : Dj a a') : Dr a a' := by
  intro l o o' e e'
  rcases h with ⟨q, _⟩ | ⟨m, q, _⟩
  · rw [q] at e; cases e
  · rcases h' with ⟨q', _⟩ | ⟨m', q', _⟩
    · rw [q'] at e'; cases e'
    · rw [q] at e; rw [q'] at e'
      cases e; cases e'
      exact hd l q q'
theorem PgOwn.mine {b : Nat} (h : PgOwn H b u l a1 n1 a2 n2 a3 n3 p) : PgM H b H.length u l a1 n1 a2 n2 a3 n3 p :=
  ⟨h.used, h.leaf, h.keys.mine, h.vals.mine, h.kids.mine, h.keys.dr h.vals h.d12, h.keys.dr h.kids h.d13, h.vals.dr h.kids h.d23, h.small⟩
theorem noPg_mine (H : Hp) (lo hi : Nat) : PgM H lo hi false false none 0 none 0 none 0 noPg :=
  ⟨rfl, rfl, .inl ⟨rfl, rfl, rfl⟩, .inl ⟨rfl, rfl, rfl⟩, .inl ⟨rfl, rfl, rfl⟩, fun _ _ _ e => (by cases e), fun _ _ _ e => (by cases e), fun _ _ _ e => (by cases e), by omega⟩
end

section
variable {Q : Post} {lo hi : Nat} {a : Pl} {n : Nat}
theorem law0_SpoilTexts_m {H : Hp} {xs : List ByteArray} (h : Mine H lo hi 9 a n (xs.map GV.str)) (hn : n ≤ 1000) (hs : ∀ x ∈ xs, x.size ≤ 1000)
    (hQ : ∀ H', Ch lo hi H H' → (∀ l, l < H.length → (∀ o, a ≠ some (l, o)) → H'[l]? = H[l]?) → Q (.tup []) H') : law0_SpoilTexts [.g (.sl a n 1)] H Q := by
  have loop : ∀ (f k : Nat) (H' : Hp) (ys : List ByteArray), n - k < f → Mine H' lo hi 9 a n (ys.map GV.str) → Ch lo hi H H' → (∀ l, l < H.length → (∀ o, a ≠ some (l, o)) → H'[l]? = H[l]?) → (∀ i, (hi : i < ys.length) → k ≤ i → ys[i].size ≤ 1000) → law0_SpoilTexts.l1 f a n (k : Int) H' Q := by
    intro f
    induction f with
    | zero => intro k H' ys hf; omega
    | succ f ih =>
      intro k H' ys hf ho hx hr hz
      rw [law0_SpoilTexts.l1_eq]
      have hlen : ys.length = n := by have := ho.len; simpa using this
      by_cases hkn : k < n
      · have hS : Ss H' a n ys := ⟨ho.cells, hlen.symm, by omega⟩
        have hzk := hz k (by omega) (Nat.le_refl _)
        rw [bite_t (by simp; omega), chk_true, hS.rd k rfl (by omega)]
        refine ⟨by simp; omega, ?_⟩
        dsimp only
        rw [chk_true]
        refine ho.wr k rfl hkn fun H2 o2 x2 r2 => ?_
        rw [wrap_succ (by omega)]
        rw [← List.map_set] at o2
        exact ih (k + 1) H2 _ (by omega) o2 (hx.trans x2) (fun l hl hne => (r2 l (Nat.lt_of_lt_of_le hl hx.len) hne).trans (hr l hl hne)) (fun i hi hki => by
          rw [List.getElem_set_ne (by omega)]
          exact hz i (by simpa using hi) (by omega))
      · rw [bite_f (by simp; omega)]
        exact hQ _ hx hr
  refine ⟨n + 2, ?_⟩
  rw [law0_SpoilTexts_eq]
  exact loop (n + 1) 0 H xs (by omega) h (Ch.refl _ _ _) (fun _ _ _ => rfl) (fun i hi _ => hs _ (List.getElem_mem hi))
theorem law0_SpoilInts_m {H : Hp} {xs : List Int} (h : Mine H lo hi 3 a n (xs.map (GV.int .i64))) (hn : n ≤ 1000) (hQ : ∀ H', Ch lo hi H H' → Q (.tup []) H') : law0_SpoilInts [.g (.sl a n 1)] H Q := by
  have loop : ∀ (f k : Nat) (H' : Hp) (ys : List Int), n - k < f → Mine H' lo hi 3 a n (ys.map (GV.int .i64)) → Ch lo hi H H' → law0_SpoilInts.l1 f a n (k : Int) H' Q := by
    intro f
    induction f with
    | zero => intro k H' ys hf; omega
    | succ f ih =>
      intro k H' ys hf ho hx
      rw [law0_SpoilInts.l1_eq]
      have hlen : ys.length = n := by have := ho.len; simpa using this
      by_cases hkn : k < n
      · have hS : Is H' a n ys := ⟨ho.cells, hlen.symm, by omega⟩
        rw [bite_t (by simp; omega), chk_true, hS.rd k rfl (by omega), chk_true]
        refine ho.wr k rfl hkn fun H2 o2 x2 _ => ?_
        rw [wrap_succ (by omega)]
        rw [← List.map_set] at o2
        exact ih (k + 1) H2 _ (by omega) o2 (hx.trans x2)
      · rw [bite_f (by simp; omega)]
        exact hQ _ hx
  refine ⟨n + 2, ?_⟩
  rw [law0_SpoilInts_eq]
  exact loop (n + 1) 0 H xs (by omega) h (Ch.refl _ _ _)
theorem law0_SpoilPage_m {H : Hp} {u l : Bool} {a1 : Pl} {n1 : Nat} {a2 : Pl} {n2 : Nat} {a3 : Pl} {n3 : Nat} {p : Pg} (h : PgM H lo hi u l a1 n1 a2 n2 a3 n3 p) (hk : ∀ x ∈ p.keys, x.size ≤ 1000) (hv : ∀ x ∈ p.vals, x.size ≤ 1000)
    (hQ : ∀ r H', Ch lo hi H H' → Q r H') : law0_SpoilPage [.agg [.bool u, .bool l, .sl a1 n1 1, .sl a2 n2 1, .sl a3 n3 1]] H Q := by
  obtain ⟨_, _, o1, o2, o3, d12, d13, d23, s1, s2, s3⟩ := h
  refine ⟨1, ?_⟩
  rw [law0_SpoilPage_eq]
  refine law0_SpoilTexts_m o1 s1 hk fun H1 x1 r1 => ?_
  refine law0_SpoilTexts_m (o2.keep fun l o e => r1 l (o2.lt e).1 fun o' e' => d12 l o' o e' e) s2 hv fun H2 x2 r2 => ?_
  have q3 : Mine H1 lo hi 3 a3 n3 (p.kids.map (GV.int .i64)) := o3.keep fun l o e => r1 l (o3.lt e).1 fun o' e' => d13 l o' o e' e
  refine law0_SpoilInts_m (q3.keep fun l o e => r2 l (q3.lt e).1 fun o' e' => d23 l o' o e' e) s3 fun H3 x3 => ?_
  exact hQ _ _ (x1.trans (x2.trans x3))
end
end Go.Am
