import Derived.Test.YtmjnenpllddhfaaEB
set_option linter.unusedVariables false
set_option linter.unusedSimpArgs false
namespace Go.Am

/-! rows that one writes (M), rows that stay (F), pages (P): apart -/
structure Sp (H : Hp) (M F : List Pl) (P : List PC) : Prop where
  mm : ∀ i j, i ≠ j → Dj (M.getD i none) (M.getD j none)
  mf : ∀ i, ∀ b ∈ F, Dj (M.getD i none) b
  mp : ∀ i, ∀ c ∈ P, ∀ l, c.on l → M.getD i none ≠ some (l, 0)
  lm : ∀ i l o, M.getD i none = some (l, o) → l < H.length
  lf : ∀ b ∈ F, ∀ l o, b = some (l, o) → l < H.length
  lp : ∀ c ∈ P, ∀ l, c.on l → l < H.length
section
variable {H H' : Hp} {M F : List Pl} {P : List PC} {B : Hp}
theorem getD_set (M : List Pl) (j : Nat) (a : Pl) (i : Nat) : (M.set j a).getD i none = a ∨ (M.set j a).getD i none = M.getD i none := by
  rw [List.getD_eq_getElem?_getD, List.getElem?_set]
  split
  · split
    · exact .inl rfl
    · right; rename_i e h; subst e; rw [List.getD_eq_getElem?_getD, List.getElem?_eq_none (by omega)]
  · right; rw [List.getD_eq_getElem?_getD]
theorem getD_set_self (M : List Pl) (j : Nat) (a : Pl) (i : Nat) (h : (M.set j a).getD i none ≠ M.getD i none) : i = j := by
  rw [List.getD_eq_getElem?_getD, List.getElem?_set, List.getD_eq_getElem?_getD] at h
  split at h
  · rename_i e; exact e.symm
  · exact (h rfl).elim
theorem Sp.grow (h : Sp H M F P) (hl : H.length ≤ H'.length) : Sp H' M F P :=
  ⟨h.mm, h.mf, h.mp, fun i l o e => Nat.lt_of_lt_of_le (h.lm i l o e) hl, fun b hb l o e => Nat.lt_of_lt_of_le (h.lf b hb l o e) hl, fun c hc l e => Nat.lt_of_lt_of_le (h.lp c hc l e) hl⟩
/-- one of them anew -/
theorem Sp.step (h : Sp H M F P) (hl : H.length ≤ H'.length) (j : Nat) {a : Pl} (f : ∀ l o, a = some (l, o) → H.length ≤ l ∧ l < H'.length) : Sp H' (M.set j a) F P := by
  refine ⟨fun i k hne l e1 e2 => ?_, fun i b hb l e1 e2 => ?_, fun i c hc l hl e => ?_, fun i l o e => ?_, fun b hb l o e => Nat.lt_of_lt_of_le (h.lf b hb l o e) hl, fun c hc l e => Nat.lt_of_lt_of_le (h.lp c hc l e) hl⟩
  · by_cases q1 : (M.set j a).getD i none = M.getD i none
    · by_cases q2 : (M.set j a).getD k none = M.getD k none
      · rw [q1] at e1; rw [q2] at e2; exact h.mm i k hne l e1 e2
      · rcases getD_set M j a k with q | q
        · rw [q] at e2; rw [q1] at e1
          have := f l 0 e2; have := h.lm i l 0 e1; omega
        · exact q2 q
    · by_cases q2 : (M.set j a).getD k none = M.getD k none
      · rcases getD_set M j a i with q | q
        · rw [q] at e1; rw [q2] at e2
          have := f l 0 e1; have := h.lm k l 0 e2; omega
        · exact q1 q
      · exact hne ((getD_set_self M j a i q1).trans (getD_set_self M j a k q2).symm)
  · rcases getD_set M j a i with q | q
    · rw [q] at e1; have := f l 0 e1; have := h.lf b hb l 0 e2; omega
    · rw [q] at e1; exact h.mf i b hb l e1 e2
  · rcases getD_set M j a i with q | q
    · rw [q] at e; have := f l 0 e; have := h.lp c hc l hl; omega
    · rw [q] at e; exact h.mp i c hc l hl e
  · rcases getD_set M j a i with q | q
    · rw [q] at e; exact (f l o e).2
    · rw [q] at e; exact Nat.lt_of_lt_of_le (h.lm i l o e) hl
end

/-! pages written -/
theorem pcells_set (cs : List PC) (i : Nat) (c : PC) (hi : i < cs.length) : (((((pcells cs).set (i * 5) (.bool c.u)).set (i * 5 + 1) (.bool c.l)).set (i * 5 + 1 + 1) (.sl c.a1 c.n1 1)).set (i * 5 + 1 + 1 + 1) (.sl c.a2 c.n2 1)).set (i * 5 + 1 + 1 + 1 + 1) (.sl c.a3 c.n3 1) = pcells (cs.set i c) := by
  induction cs generalizing i with
  | nil => simp at hi
  | cons d cs ih =>
    have e : pcells (d :: cs) = d.cells ++ pcells cs := rfl
    cases i with
    | zero => rw [e]; rfl
    | succ i =>
      have := ih i (by simpa using hi)
      rw [e]
      have s : ∀ (x : List GV) (k : Nat) (v : GV), (d.cells ++ x).set (i * 5 + 5 + k) v = d.cells ++ x.set (i * 5 + k) v := fun x k v => by
        rw [List.set_append_right _ _ (by simp; omega)]
        congr 2
        simp; omega
      have e5 : (i + 1) * 5 = i * 5 + 5 + 0 := by omega
      have q1 : (i + 1) * 5 + 1 = i * 5 + 5 + 1 := by omega
      have q2 : (i + 1) * 5 + 1 + 1 = i * 5 + 5 + (1 + 1) := by omega
      have q3 : (i + 1) * 5 + 1 + 1 + 1 = i * 5 + 5 + (1 + 1 + 1) := by omega
      have q4 : (i + 1) * 5 + 1 + 1 + 1 + 1 = i * 5 + 5 + (1 + 1 + 1 + 1) := by omega
      rw [q4, q3, q2, q1, e5, s, s, s, s, s]
      show d.cells ++ _ = d.cells ++ pcells (cs.set i c)
      rw [← this]
      rfl
theorem wr5 {H : Hp} {l : Nat} {t : TypeId} {cs : List PC} {i : Nat} {c : PC} {K : Hp → Prop} (h : H[l]? = some (.row true t (pcells cs))) (hi : i < cs.length) (hK : K (H.set l (.row true t (pcells (cs.set i c))))) :
    wr H l (i * 5) (.bool c.u) fun H1 => wr H1 l (i * 5 + 1) (.bool c.l) fun H2 => wr H2 l (i * 5 + 1 + 1) (.sl c.a1 c.n1 1) fun H3 => wr H3 l (i * 5 + 1 + 1 + 1) (.sl c.a2 c.n2 1) fun H4 => wr H4 l (i * 5 + 1 + 1 + 1 + 1) (.sl c.a3 c.n3 1) K := by
  have hl := (List.getElem?_eq_some_iff.1 h).1
  have hlen := pcells_length cs
  refine wr_row h (by omega) ?_
  refine wr_row (own := t) (cs := (pcells cs).set (i * 5) (.bool c.u)) (List.getElem?_set_self hl) (by simp; omega) ?_
  rw [List.set_set]
  refine wr_row (own := t) (cs := ((pcells cs).set (i * 5) (.bool c.u)).set (i * 5 + 1) (.bool c.l)) (List.getElem?_set_self hl) (by simp; omega) ?_
  rw [List.set_set]
  refine wr_row (own := t) (cs := (((pcells cs).set (i * 5) (.bool c.u)).set (i * 5 + 1) (.bool c.l)).set (i * 5 + 1 + 1) (.sl c.a1 c.n1 1)) (List.getElem?_set_self hl) (by simp; omega) ?_
  rw [List.set_set]
  refine wr_row (own := t) (cs := ((((pcells cs).set (i * 5) (.bool c.u)).set (i * 5 + 1) (.bool c.l)).set (i * 5 + 1 + 1) (.sl c.a1 c.n1 1)).set (i * 5 + 1 + 1 + 1) (.sl c.a2 c.n2 1)) (List.getElem?_set_self hl) (by simp; omega) ?_
  rw [List.set_set, pcells_set cs i c hi]
  exact hK
/-- a page of a row of one's own written -/
theorem OT.place {B H : Hp} {t : TypeId} {tp : Nat} {n : Nat} {cs : List PC} {T : List Pg} {i : Nat} {c : PC} {p : Pg} (h : OT H B.length t (some (tp, 0)) n cs T) (hi : i < n) (hc : c.at H p) (hoff : ∀ l, c.on l → l ≠ tp) :
    OT (H.set tp (.row true t (pcells (cs.set i c)))) B.length t (some (tp, 0)) n (cs.set i c) (T.set i p) := by
  have q1 := h.len
  have q2 := h.lenT
  rcases h.own with ⟨e, _⟩ | ⟨l, e, hb, hr, hl⟩
  · cases e
  cases e
  have hlt := (List.getElem?_eq_some_iff.1 hr).1
  have hoffT : ∀ d ∈ cs, ∀ l, d.on l → l ≠ tp := fun d hd l hl e => h.off d hd l hl (by rw [e])
  refine ⟨.inr ⟨tp, rfl, hb, List.getElem?_set_self hlt, by rw [pcells_length]; simp [q1]⟩, by simp [q1], by simp [q2], fun j h1 h2 => ?_, fun d hd l hl e => ?_⟩
  · rw [List.getElem_set, List.getElem_set]
    by_cases e : i = j
    · rw [if_pos e, if_pos e]
      exact hc.keep fun l hl => by rw [List.getElem?_set_ne (Ne.symm (hoff l hl))]
    · rw [if_neg e, if_neg e]
      simp at h1 h2
      exact (h.all j h1 h2).keep fun l hl => by rw [List.getElem?_set_ne (Ne.symm (hoffT _ (List.getElem_mem _) l hl))]
  · have e' : l = tp := by cases e; rfl
    rcases List.mem_or_eq_of_mem_set hd with q | q
    · exact hoffT d q l hl e'
    · subst q; exact hoff l hl e'
end Go.Am
