import Derived.Test.YtmjnenpllddhfaaE1
set_option linter.unusedVariables false
set_option linter.unusedSimpArgs false
namespace Go.Am

/-! rows of one's own, in part -/
/-- a slice in a row of one's own, whose number lies from lo on and below hi -/
def Mine (H : Hp) (lo hi : Nat) (t : TypeId) (a : Pl) (n : Nat) (cs : List GV) : Prop :=
  (a = none ∧ n = 0 ∧ cs = []) ∨ ∃ l o ds, a = some (l, o) ∧ lo ≤ l ∧ l < hi ∧ H[l]? = some (.row true t ds) ∧ o + n ≤ ds.length ∧ (ds.drop o).take n = cs
def Dr (a b : Pl) : Prop := ∀ l o o', a = some (l, o) → b ≠ some (l, o')
/-- the heap goes on: of what was there the rows from lo on and below hi alone have turned -/
structure Ch (lo hi : Nat) (H H' : Hp) : Prop where
  len : H.length ≤ H'.length
  row : ∀ l, l < H.length → ¬ (lo ≤ l ∧ l < hi) → H'[l]? = H[l]?
theorem Ch.trans {lo hi : Nat} {H H1 H2 : Hp} (h : Ch lo hi H H1) (h' : Ch lo hi H1 H2) : Ch lo hi H H2 :=
  ⟨Nat.le_trans h.len h'.len, fun l hl hn => (h'.row l (Nat.lt_of_lt_of_le hl h.len) hn).trans (h.row l hl hn)⟩
theorem Ch.refl (lo hi : Nat) (H : Hp) : Ch lo hi H H := ⟨Nat.le_refl _, fun _ _ _ => rfl⟩
theorem Ch.of_pre {lo hi : Nat} {H H' : Hp} (h : H <+: H') : Ch lo hi H H' := ⟨h.length_le, fun l hl _ => pre_at h hl⟩
theorem Ch.pre {lo hi : Nat} {H0 H H' : Hp} (h : Ch lo hi H H') (h0 : H0 <+: H) (hl : H0.length ≤ lo) : H0 <+: H' := by
  rw [List.prefix_iff_eq_take]
  apply List.ext_getElem?
  intro i
  rw [List.getElem?_take]
  split
  · rename_i hi
    rw [h.row i (Nat.lt_of_lt_of_le hi h0.length_le) (by omega), pre_at h0 hi]
  · rename_i hi
    exact List.getElem?_eq_none (by omega)

section
variable {H H' : Hp} {lo hi : Nat} {t : TypeId} {a : Pl} {n : Nat} {cs : List GV}
theorem Mine.keep (h : Mine H lo hi t a n cs) (hk : ∀ l o, a = some (l, o) → H'[l]? = H[l]?) : Mine H' lo hi t a n cs := by
  rcases h with h | ⟨l, o, ds, rfl, h1, h2, h3, h4, h5⟩
  · exact .inl h
  · exact .inr ⟨l, o, ds, rfl, h1, h2, by rw [hk l o rfl]; exact h3, h4, h5⟩
theorem Mine.lt (h : Mine H lo hi t a n cs) {l o : Nat} (e : a = some (l, o)) : l < H.length ∧ lo ≤ l ∧ l < hi := by
  rcases h with ⟨h, _⟩ | ⟨l', o', ds, e', h1, h2, h3, _⟩
  · rw [h] at e; cases e
  · rw [e'] at e; cases e; exact ⟨(List.getElem?_eq_some_iff.1 h3).1, h1, h2⟩
theorem Mine.mono (h : Mine H lo hi t a n cs) (hp : H <+: H') : Mine H' lo hi t a n cs := h.keep fun l o e => pre_at hp (h.lt e).1
theorem Mine.away {lo' hi' : Nat} (h : Mine H lo hi t a n cs) (hc : Ch lo' hi' H H') (hd : hi ≤ lo' ∨ hi' ≤ lo) : Mine H' lo hi t a n cs :=
  h.keep fun l o e => by have := h.lt e; exact hc.row l this.1 (by omega)
theorem Mine.cells (h : Mine H lo hi t a n cs) : cells? H a n = some cs := by
  rcases h with ⟨rfl, rfl, rfl⟩ | ⟨l, o, ds, rfl, h1, h2, h3, h4, h5⟩
  · rfl
  · simp only [cells?, h3]; rw [if_pos h4, h5]
theorem Mine.len (h : Mine H lo hi t a n cs) : cs.length = n := cells_len h.cells
theorem Own.mine {b : Nat} (h : Own H b t a n cs) : Mine H b H.length t a n cs := by
  rcases h with h | ⟨l, rfl, h1, h2, h3⟩
  · exact .inl h
  · exact .inr ⟨l, 0, cs, rfl, h1, (List.getElem?_eq_some_iff.1 h2).1, h2, by omega, by rw [List.drop_zero, ← h3, List.take_length]⟩
theorem Mine.wider {lo' hi' : Nat} (h : Mine H lo hi t a n cs) (h1 : lo' ≤ lo) (h2 : hi ≤ hi') : Mine H lo' hi' t a n cs := by
  rcases h with h | ⟨l, o, ds, rfl, q1, q2, q3, q4, q5⟩
  · exact .inl h
  · exact .inr ⟨l, o, ds, rfl, by omega, by omega, q3, q4, q5⟩
/-- a part of it -/
theorem Mine.part (h : Mine H lo hi t a n cs) (k m : Nat) (hm : k + m ≤ n) : Mine H lo hi t (shf a k) m ((cs.drop k).take m) := by
  rcases h with ⟨rfl, rfl, rfl⟩ | ⟨l, o, ds, rfl, q1, q2, q3, q4, q5⟩
  · exact .inl ⟨rfl, by omega, by simp⟩
  · refine .inr ⟨l, o + k, ds, rfl, q1, q2, q3, by omega, ?_⟩
    rw [← q5, List.drop_take, List.take_take, List.drop_drop, Nat.min_eq_left (by omega)]
theorem Dr.shf {b : Pl} (h : Dr a b) (k m : Nat) : Dr (shf a k) (shf b m) := by
  intro l o o' h1 h2
  cases a with
  | none => cases h1
  | some p =>
    cases b with
    | none => cases h2
    | some q =>
      obtain ⟨p1, p2⟩ := p
      obtain ⟨q1, q2⟩ := q
      simp at h1 h2
      exact h l p2 q2 (by rw [h1.1]) (by rw [h2.1])
theorem Mine.wr (h : Mine H lo hi t a n cs) (k : Nat) {i : Int} (hi' : i = k) (hk : k < n) {v : GV} {K : Hp → Prop}
    (hK : ∀ H', Mine H' lo hi t a n (cs.set k v) → Ch lo hi H H' → (∀ l, l < H.length → (∀ o, a ≠ some (l, o)) → H'[l]? = H[l]?) → K H') : chk (leI 0 i && ltI i (nI n)) (pS a fun n5 n6 => Am.wr H n5 (n6 + tN i * 1) v K) := by
  subst hi'
  refine chk_of (by simp; omega) ?_
  rcases h with ⟨_, rfl, _⟩ | ⟨l, o, ds, rfl, q1, q2, q3, q4, q5⟩
  · omega
  · simp only [pS_some, tN_def, Int.toNat_natCast, Nat.mul_one]
    rw [wr_of q3 (by omega)]
    have hl := (List.getElem?_eq_some_iff.1 q3).1
    refine hK _ (.inr ⟨l, o, _, rfl, q1, q2, List.getElem?_set_self hl, by simpa using q4, ?_⟩) ⟨by simp, fun l' _ hne => ?_⟩ (fun l' _ hne => ?_)
    · rw [← q5, List.drop_set, if_neg (by omega), List.take_set, show o + k - o = k by omega]
    · rw [List.getElem?_set_ne]; intro e; subst e; exact hne ⟨q1, q2⟩
    · rw [List.getElem?_set_ne]; intro e; subst e; exact hne o rfl
end

/-- a page in rows of one's own -/
structure PgM (H : Hp) (lo hi : Nat) (u l : Bool) (a1 : Pl) (n1 : Nat) (a2 : Pl) (n2 : Nat) (a3 : Pl) (n3 : Nat) (p : Pg) : Prop where
  used : p.used = u
  leaf : p.leaf = l
  keys : Mine H lo hi 9 a1 n1 (p.keys.map GV.str)
  vals : Mine H lo hi 9 a2 n2 (p.vals.map GV.str)
  kids : Mine H lo hi 3 a3 n3 (p.kids.map (GV.int .i64))
  d12 : Dr a1 a2
  d13 : Dr a1 a3
  d23 : Dr a2 a3
  small : n1 ≤ 1000 ∧ n2 ≤ 1000 ∧ n3 ≤ 1000
section
variable {H H' : Hp} {lo hi : Nat} {u l : Bool} {a1 : Pl} {n1 : Nat} {a2 : Pl} {n2 : Nat} {a3 : Pl} {n3 : Nat} {p : Pg}
theorem PgM.at (h : PgM H lo hi u l a1 n1 a2 n2 a3 n3 p) : PgAt H u l a1 n1 a2 n2 a3 n3 p := by
  obtain ⟨h1, h2, h3, h4, h5, _, _, _, s⟩ := h
  refine ⟨h1, h2, ⟨h3.cells, ?_, by omega⟩, ⟨h4.cells, ?_, by omega⟩, ⟨h5.cells, ?_, by omega⟩⟩
  · have := h3.len; simpa using this.symm
  · have := h4.len; simpa using this.symm
  · have := h5.len; simpa using this.symm
theorem PgM.mono (h : PgM H lo hi u l a1 n1 a2 n2 a3 n3 p) (hp : H <+: H') : PgM H' lo hi u l a1 n1 a2 n2 a3 n3 p :=
  ⟨h.used, h.leaf, h.keys.mono hp, h.vals.mono hp, h.kids.mono hp, h.d12, h.d13, h.d23, h.small⟩
theorem PgM.away {lo' hi' : Nat} (h : PgM H lo hi u l a1 n1 a2 n2 a3 n3 p) (hc : Ch lo' hi' H H') (hd : hi ≤ lo' ∨ hi' ≤ lo) : PgM H' lo hi u l a1 n1 a2 n2 a3 n3 p :=
  ⟨h.used, h.leaf, h.keys.away hc hd, h.vals.away hc hd, h.kids.away hc hd, h.d12, h.d13, h.d23, h.small⟩
theorem Own.dr {b : Nat} {t t' : TypeId} {a a' : Pl} {n n' : Nat} {cs cs' : List GV} (h : Own H b t a n cs) (h' : Own H b t' a' n' cs') (hd : Dj a a') : Dr a a' := by
  intro l o o' e e'
  rcases h with ⟨q, _⟩ | ⟨m, q, _⟩
  · rw [q] at e; cases e
  · rcases h' with ⟨q', _⟩ | ⟨m', q', _⟩
    · rw [q'] at e'; cases e'
    · rw [q] at e; rw [q'] at e'
      cases e; cases e'
      exact hd l q q'
theorem PgOwn.mine {b : Nat} (h : PgOwn H b u l a1 n1 a2 n2 a3 n3 p) : PgM H b H.length u l a1 n1 a2 n2 a3 n3 p :=
  ⟨h.used, h.leaf, h.keys.mine, h.vals.mine, h.kids.mine, h.keys.dr h.vals h.d12, h.keys.dr h.kids h.d13, h.vals.dr h.kids h.d23, h.small⟩
theorem noPg_mine (H : Hp) (lo hi : Nat) : PgM H lo hi false false none 0 none 0 none 0 noPg :=
  ⟨rfl, rfl, .inl ⟨rfl, rfl, rfl⟩, .inl ⟨rfl, rfl, rfl⟩, .inl ⟨rfl, rfl, rfl⟩, fun _ _ _ e => (by cases e), fun _ _ _ e => (by cases e), fun _ _ _ e => (by cases e), by omega⟩
end


end Go.Am
