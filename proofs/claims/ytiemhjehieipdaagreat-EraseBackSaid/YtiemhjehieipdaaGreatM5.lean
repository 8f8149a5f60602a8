import Derived.Test.YtiemhjehieipdaaGreatM4
set_option linter.unusedVariables false
set_option linter.unusedSimpArgs false
namespace Go.Am

/-! a tree's outer row, cell by cell -/
theorem cells_part {H : Hp} {a : Pl} {n : Nat} {cs : List GV} (h : cells? H a n = some cs) (k m : Nat) (hm : k + m ≤ n) : cells? H (shf a k) m = some ((cs.drop k).take m) := by
  cases a with
  | none => simp [cells?] at h; obtain ⟨rfl, rfl⟩ := h; simp [cells?]; omega
  | some p =>
    obtain ⟨l, o⟩ := p
    unfold cells? at h
    simp only at h
    cases hr : H[l]? with
    | none => rw [hr] at h; cases h
    | some x =>
      rw [hr] at h
      cases x with
      | row own t ds =>
        simp only at h
        split at h
        · rename_i hle
          cases h
          simp only [shf_some, cells?, hr]
          rw [if_pos (by omega), List.drop_take, List.take_take, List.drop_drop, Nat.min_eq_left (by omega)]
        · cases h
      | _ => cases h
theorem Ss.part {H : Hp} {a : Pl} {n : Nat} {xs : List ByteArray} (h : Ss H a n xs) (k m : Nat) (hm : k + m ≤ n) : Ss H (shf a k) m ((xs.drop k).take m) := by
  have hn := h.len
  have hl := h.lim
  refine ⟨?_, by simp; omega, by omega⟩
  rw [cells_part h.cells k m hm, List.map_take, List.map_drop]
theorem pcells_set1 (cs : List PC) (i j : Nat) (v : GV) (c : PC) (hi : i < cs.length) (hj : j < 5) (hc : c.cells = (cs[i].cells).set j v) : (pcells cs).set (i * 5 + j) v = pcells (cs.set i c) := by
  induction cs generalizing i with
  | nil => simp at hi
  | cons d cs ih =>
    have e : pcells (d :: cs) = d.cells ++ pcells cs := rfl
    cases i with
    | zero =>
      rw [e, Nat.zero_mul, Nat.zero_add, List.set_append_left _ _ (by simpa using hj)]
      show _ = c.cells ++ pcells cs
      rw [hc]; rfl
    | succ i =>
      rw [e, List.set_append_right _ _ (by simp; omega)]
      show _ = d.cells ++ pcells (cs.set i c)
      rw [← ih i (by simpa using hi) (by simpa using hc)]
      congr 2
      simp; omega
section
variable {B H : Hp} {t : TypeId} {tp : Nat} {n : Nat} {cs : List PC} {T : List Pg} {i : Nat} {c : PC} {p : Pg}
theorem OT.at_row (h : OT H B.length t (some (tp, 0)) n cs T) : B.length ≤ tp ∧ H[tp]? = some (.row true t (pcells cs)) := by
  rcases h.own with ⟨e, _⟩ | ⟨l, e, hb, hr, hl⟩
  · cases e
  cases e
  exact ⟨hb, hr⟩
theorem OT.gt (h : OT H B.length t (some (tp, 0)) n cs T) (hi : i < cs.length) {j : Nat} (hj : j < 5) : Am.gt H tp (i * 5 + j) = (cs[i].cells)[j]? := by
  rw [gt_some h.at_row.2, pcells_get hi hj]
/-- one cell of a page written -/
theorem OT.cell (h : OT H B.length t (some (tp, 0)) n cs T) (hi : i < n) (hi' : i < cs.length) {j : Nat} (hj : j < 5) {v : GV} (hcell : c.cells = (cs[i].cells).set j v) (hc : c.at H p) (hoff : ∀ l, c.on l → l ≠ tp) {K : Hp → Prop}
    (hK : ∀ H', (∀ B', B' <+: H → B'.length ≤ tp → B' <+: H') → OT H' B.length t (some (tp, 0)) n (cs.set i c) (T.set i p) → K H') : wr H tp (i * 5 + j) v K := by
  obtain ⟨hb, hr⟩ := h.at_row
  refine wr_row hr (by rw [pcells_length]; omega) ?_
  rw [pcells_set1 cs i j v c hi' hj hcell]
  exact hK _ (fun B' hp hl => pre_set hp hl _) (h.place hi hc hoff)
theorem Tr.take {H : Hp} {a : Pl} {n : Nat} {cs : List PC} {T : List Pg} (h : Tr H a n cs T) {m : Nat} (hm : m ≤ n) : Tr H (shf a 0) m (cs.take m) (T.take m) := by
  have q1 := h.len
  have q2 := h.lenT
  refine ⟨?_, by simp [q1]; omega, by simp [q2]; omega, fun i h1 h2 => ?_⟩
  · have e : pcells (cs.take m) = (pcells cs).take (m * 5) := by
      have := pcells_append (cs.take m) (cs.drop m)
      rw [List.take_append_drop] at this
      rw [this, List.take_left' (by rw [pcells_length]; simp [q1]; omega)]
    rw [e, cells_part h.cells 0 (m * 5) (by omega), List.drop_zero]
  · simp at h1 h2
    rw [List.getElem_take, List.getElem_take]
    exact h.all i (by omega) (by omega)
end

/-! SoundForms -/
end Go.Am
namespace Go.Am

theorem sound_facts {T : List Pg} (h : 0 < heightD T) : ∃ st, T.length = 48 ∧ walkD T 49 0 1 (mkS []) (mkS []) ws0 = some st ∧ restD T st.met = true ∧ st.count ≤ 60 ∧ heightD T = st.deep := by
  unfold heightD at h ⊢
  by_cases hl : T.length = 48
  · rw [decide_eq_true hl] at h ⊢
    dsimp only at h ⊢
    cases hw : walkD T 49 0 1 (mkS []) (mkS []) ws0 with
    | none => rw [hw] at h; simp at h
    | some st =>
      rw [hw] at h
      dsimp only at h ⊢
      cases hr : restD T st.met && decide (st.count ≤ 60) with
      | false => rw [hr] at h; simp at h
      | true =>
        rw [Bool.and_eq_true, decide_eq_true_eq] at hr
        exact ⟨st, hl, rfl, hr.1, hr.2, rfl⟩
  · rw [decide_eq_false hl] at h; simp at h
theorem height_rest {T : List Pg} {st : WS} (h : walkD T 49 0 1 (mkS []) (mkS []) ws0 = some st) (hr : restD T st.met = false) : heightD T = 0 := by
  unfold heightD
  cases decide (T.length = 48) with
  | false => rfl
  | true => dsimp only; rw [h]; dsimp only; rw [hr]; rfl
theorem ws0_met (i : Nat) (h : i < 48) : ws0.met[i]? = some false := by
  show (List.replicate 48 false)[i]? = some false
  rw [List.getElem?_replicate, if_pos h]

theorem okD_met {p : Pg} {a : Nat} {lo hi : ByteArray} {st : WS} (h : okD p a lo hi st = true) : st.met[a]? = some false ∧ mayB_ p = true ∧ (0 < a → 2 ≤ p.keys.length) ∧ holdB lo hi p.keys = true := by
  unfold okD at h
  simp only [Bool.and_eq_true] at h
  obtain ⟨h1, h2, h3, h4⟩ := h
  refine ⟨?_, h2, fun ha => ?_, h4⟩
  · cases hq : st.met[a]? with
    | none => rw [hq] at h1; simp at h1
    | some b => rw [hq] at h1; simp at h1; rw [h1]
  · have : decide (0 < a) = true := decide_eq_true ha
    rw [this, Bool.true_and] at h3
    simp at h3; omega
theorem leafD_some {p : Pg} {deep : Nat} {st st' : WS} (h : leafD p deep st = some st') : st'.met = st.met ∧ st'.count = st.count + p.keys.length ∧ st'.deep = deep ∧ (st.deep = 0 ∨ st.deep = deep) := by
  unfold leafD at h
  split at h
  · rename_i e; cases h; exact ⟨rfl, rfl, rfl, .inl (of_decide_eq_true e)⟩
  · split at h
    · rename_i e; cases h; exact ⟨rfl, rfl, rfl, .inr (of_decide_eq_true e)⟩
    · cases h
/-- one step of a walk that goes well -/
theorem walkD_step {T : List Pg} {f a deep : Nat} {lo hi : ByteArray} {st st' : WS} (h : walkD T (f + 1) a deep lo hi st = some st') : ∃ p, T[a]? = some p ∧ okD p a lo hi st = true ∧
    ((p.leaf = true ∧ leafD p deep ⟨st.met.set a true, st.deep, st.count⟩ = some st') ∨ (p.leaf = false ∧ kidsD (fun k i s => walkD T f k.toNat (deep + 1) (loK p lo i) (hiK p hi i) s) p.kids 0 ⟨st.met.set a true, st.deep, st.count⟩ = some st')) := by
  cases hp : T[a]? with
  | none => unfold walkD at h; rw [hp] at h; cases h
  | some p =>
    rw [walkD_eq T f a deep lo hi st hp] at h
    refine ⟨p, rfl, ?_⟩
    cases hok : okD p a lo hi st with
    | false => rw [hok] at h; cases h
    | true =>
      rw [hok] at h
      dsimp only at h
      cases hl : p.leaf with
      | true => rw [hl] at h; exact ⟨rfl, .inl ⟨rfl, h⟩⟩
      | false => rw [hl] at h; exact ⟨rfl, .inr ⟨rfl, h⟩⟩
/-- kids that all go well -/
theorem kidsD_ind {rec : Int → Nat → WS → Option WS} {R : WS → WS → Prop} {P : List Int → WS → WS → Prop} (hnil : ∀ s, P [] s s) (hcons : ∀ k ks i s s1 s', rec k i s = some s1 → kidsD rec ks (i + 1) s1 = some s' → P ks s1 s' → P (k :: ks) s s') :
    ∀ (ks : List Int) (i : Nat) (s s' : WS), kidsD rec ks i s = some s' → P ks s s' := by
  intro ks
  induction ks with
  | nil => intro i s s' h; cases h; exact hnil s
  | cons k ks ih =>
    intro i s s' h
    rw [kidsD_cons] at h
    cases hr : rec k i s with
    | none => rw [hr] at h; cases h
    | some s1 => rw [hr] at h; exact hcons k ks i s s1 s' hr h (ih (i + 1) s1 s' h)
theorem kidsD_ind' {rec : Int → Nat → WS → Option WS} {P : List Int → WS → WS → Prop} (hnil : ∀ s, P [] s s) (hcons : ∀ k ks i s s1 s', rec k i s = some s1 → P ks s1 s' → P (k :: ks) s s') :
    ∀ (ks : List Int) (i : Nat) (s s' : WS), kidsD rec ks i s = some s' → P ks s s' :=
  kidsD_ind (R := fun _ _ => True) hnil fun k ks i s s1 s' h _ hp => hcons k ks i s s1 s' h hp

/-- pages that are met -/
theorem walkD_met (T : List Pg) : ∀ (f a deep : Nat) (lo hi : ByteArray) (st st' : WS), walkD T f a deep lo hi st = some st' → (∀ j : Nat, st.met[j]? = some true → st'.met[j]? = some true) ∧ st'.met[a]? = some true ∧
    (∀ j, st'.met[j]? = some true → st.met[j]? = some true ∨ ∃ p, T[j]? = some p ∧ mayB_ p = true ∧ (0 < j → 2 ≤ p.keys.length)) := by
  intro f
  induction f with
  | zero => intro _ _ _ _ _ _ h; cases h
  | succ f ih =>
    intro a deep lo hi st st' h
    obtain ⟨p, hp, hok, hcase⟩ := walkD_step h
    obtain ⟨hm, hmay, h2, _⟩ := okD_met hok
    have hlt : a < st.met.length := (List.getElem?_eq_some_iff.1 hm).1
    have set1 : ∀ j, st.met[j]? = some true → (st.met.set a true)[j]? = some true := fun j hj => by
      by_cases e : a = j
      · subst e; exact List.getElem?_set_self hlt
      · rw [List.getElem?_set_ne e]; exact hj
    have set2 : (st.met.set a true)[a]? = some true := List.getElem?_set_self hlt
    have set3 : ∀ j, (st.met.set a true)[j]? = some true → st.met[j]? = some true ∨ ∃ p, T[j]? = some p ∧ mayB_ p = true ∧ (0 < j → 2 ≤ p.keys.length) := fun j hj => by
      by_cases e : a = j
      · subst e; exact .inr ⟨p, hp, hmay, h2⟩
      · rw [List.getElem?_set_ne e] at hj; exact .inl hj
    rcases hcase with ⟨hl, hlf⟩ | ⟨hl, hk⟩
    · obtain ⟨e1, _⟩ := leafD_some hlf
      rw [e1]
      exact ⟨set1, set2, set3⟩
    · have key := kidsD_ind' (P := fun _ s s' => (∀ j, s.met[j]? = some true → s'.met[j]? = some true) ∧ (∀ j, s'.met[j]? = some true → s.met[j]? = some true ∨ ∃ p, T[j]? = some p ∧ mayB_ p = true ∧ (0 < j → 2 ≤ p.keys.length)))
        (fun s => ⟨fun j hj => hj, fun j hj => .inl hj⟩) (fun k ks i s s1 s' hr hP => by
          obtain ⟨q1, _, q3⟩ := ih _ _ _ _ _ _ hr
          refine ⟨fun j hj => hP.1 j (q1 j hj), fun j hj => ?_⟩
          rcases hP.2 j hj with q | q
          · exact q3 j q
          · exact .inr q) _ _ _ _ hk
      dsimp only at key
      refine ⟨fun j hj => key.1 j (set1 j hj), key.1 a set2, fun j hj => ?_⟩
      rcases key.2 j hj with q | q
      · exact set3 j q
      · exact .inr q

/-- a page that is not met may be another one -/
theorem walkD_same (T T' : List Pg) (i : Nat) (hT : ∀ j, j ≠ i → T'[j]? = T[j]?) : ∀ (f a deep : Nat) (lo hi : ByteArray) (st st' : WS), walkD T f a deep lo hi st = some st' → st'.met[i]? ≠ some true → walkD T' f a deep lo hi st = some st' := by
  intro f
  induction f with
  | zero => intro _ _ _ _ _ _ h; cases h
  | succ f ih =>
    intro a deep lo hi st st' h hi'
    obtain ⟨m1, m2, _⟩ := walkD_met T _ _ _ _ _ _ _ h
    obtain ⟨p, hp, hok, hcase⟩ := walkD_step h
    have ha : a ≠ i := fun e => hi' (by rw [← e]; exact m2)
    rw [walkD_eq T' f a deep lo hi st (by rw [hT a ha]; exact hp), hok]
    dsimp only
    rcases hcase with ⟨hl, hlf⟩ | ⟨hl, hk⟩
    · rw [hl]; exact hlf
    · rw [hl]
      dsimp only
      have key : ∀ (ks : List Int) (n : Nat) (s s' : WS), kidsD (fun k i s => walkD T f k.toNat (deep + 1) (loK p lo i) (hiK p hi i) s) ks n s = some s' → s'.met[i]? ≠ some true → kidsD (fun k i s => walkD T' f k.toNat (deep + 1) (loK p lo i) (hiK p hi i) s) ks n s = some s' := by
        intro ks
        induction ks with
        | nil => intro n s s' h _; exact h
        | cons k ks ihk =>
          intro n s s' h hne
          rw [kidsD_cons] at h ⊢
          cases hr : walkD T f k.toNat (deep + 1) (loK p lo n) (hiK p hi n) s with
          | none => rw [hr] at h; cases h
          | some s1 =>
            rw [hr] at h
            dsimp only at h
            have mono : ∀ j, s1.met[j]? = some true → s'.met[j]? = some true :=
              kidsD_ind' (rec := fun k i s => walkD T f k.toNat (deep + 1) (loK p lo i) (hiK p hi i) s) (P := fun _ s s' => ∀ j, s.met[j]? = some true → s'.met[j]? = some true) (fun s j hj => hj) (fun k ks i s s1 s' hr hP j hj => hP j ((walkD_met T _ _ _ _ _ _ _ hr).1 j hj)) _ _ _ _ h
            rw [ih _ _ _ _ _ _ hr (fun e => hne (mono i e))]
            exact ihk (n + 1) s1 s' h hne
      exact key _ _ _ _ hk hi'
end Go.Am
namespace Go.Am

theorem rest_at {T : List Pg} {met : List Bool} (h : restD T met = true) {i : Nat} (hi : i < T.length) {p : Pg} (hp : T[i]? = some p) : met[i]?.getD true = true ∨ nothingB p = true := by
  unfold restD at h
  rw [List.all_eq_true] at h
  have := h i (List.mem_range.2 hi)
  rw [hp, Option.getD_some, Bool.or_eq_true] at this
  exact this
theorem rest_false {T : List Pg} {met : List Bool} {i : Nat} (hi : i < T.length) {p : Pg} (hp : T[i]? = some p) (hm : met[i]? = some false) (hn : nothingB p = false) : restD T met = false := by
  unfold restD
  rw [List.all_eq_false]
  exact ⟨i, List.mem_range.2 hi, by rw [hm, hp, Option.getD_some, Option.getD_some, hn]; simp⟩
/-- a sound tree's pages -/
structure SF (T : List Pg) (st : WS) : Prop where
  len : T.length = 48
  walk : walkD T 49 0 1 (mkS []) (mkS []) ws0 = some st
  rest : restD T st.met = true
  count : st.count ≤ 60
  height : heightD T = st.deep
  metlen : st.met.length = 48
theorem SF.of {T : List Pg} (h : 0 < heightD T) : ∃ st, SF T st := by
  obtain ⟨st, h1, h2, h3, h4, h5⟩ := sound_facts h
  exact ⟨st, h1, h2, h3, h4, h5, (walkD_unmet T _ _ _ _ _ _ _ h2).2.1⟩
section
variable {T : List Pg} {st : WS}
theorem SF.used (s : SF T st) {i : Nat} {p : Pg} (hp : T[i]? = some p) (hu : p.used = true) : st.met[i]? = some true ∧ mayB_ p = true ∧ (0 < i → 2 ≤ p.keys.length) := by
  have hi : i < 48 := by have := (List.getElem?_eq_some_iff.1 hp).1; have := s.len; omega
  have hm : st.met[i]? = some true := by
    rcases rest_at s.rest (by rw [s.len]; exact hi) hp with h | h
    · rw [List.getElem?_eq_getElem (by rw [s.metlen]; exact hi)] at h ⊢
      simpa using h
    · unfold nothingB at h; rw [hu] at h; simp at h
  refine ⟨hm, ?_⟩
  rcases (walkD_met T _ _ _ _ _ _ _ s.walk).2.2 i hm with h | ⟨q, hq, h1, h2⟩
  · rw [ws0_met i hi] at h; cases h
  · rw [hp] at hq; cases hq; exact ⟨h1, h2⟩
theorem SF.free (s : SF T st) {i : Nat} {p : Pg} (hp : T[i]? = some p) (hm : st.met[i]? = some false) : p.used = false := by
  cases hu : p.used with
  | false => rfl
  | true => rw [(s.used hp hu).1] at hm; cases hm
/-- another page where none was met -/
theorem SF.more (s : SF T st) {i : Nat} (hi : i < 48) {p q : Pg} (hp : T[i]? = some p) (hu : p.used = false) (hq : nothingB q = false) : heightD (T.set i q) = 0 := by
  have hm : st.met[i]? = some false := by
    rw [List.getElem?_eq_getElem (by rw [s.metlen]; exact hi)]
    cases e : st.met[i]'(by rw [s.metlen]; exact hi) with
    | false => rfl
    | true =>
      have hm : st.met[i]? = some true := by rw [List.getElem?_eq_getElem (by rw [s.metlen]; exact hi), e]
      rcases (walkD_met T _ _ _ _ _ _ _ s.walk).2.2 i hm with h | ⟨q, hq, h1, _⟩
      · rw [ws0_met i hi] at h; cases h
      · rw [hp] at hq; cases hq
        have := ((mayB_iff p).1 h1).2.used
        rw [hu] at this; cases this
  refine height_rest (walkD_same T _ i (fun j hj => List.getElem?_set_ne (Ne.symm hj)) _ _ _ _ _ _ _ s.walk (by rw [hm]; simp)) ?_
  exact rest_false (p := q) (by simp [s.len]; exact hi) (List.getElem?_set_self (by rw [s.len]; exact hi)) hm hq
end

end Go.Am
namespace Go.Am

/-! the order of texts -/
section
variable {a b c : ByteArray}
theorem blt_tri (a b : ByteArray) : (blt a b = true ∧ a ≠ b ∧ blt b a = false) ∨ (a = b ∧ blt a b = false ∧ blt b a = false) ∨ (blt b a = true ∧ a ≠ b ∧ blt a b = false) := by
  unfold blt
  rcases less_tri (bs a) (bs b) with ⟨h1, h2, h3⟩ | ⟨h1, h2, h3⟩ | ⟨h1, h2, h3⟩
  · exact .inl ⟨h1, fun e => h2 (by rw [e]), h3⟩
  · exact .inr (.inl ⟨bs_inj h1, h2, h3⟩)
  · exact .inr (.inr ⟨h1, fun e => h2 (by rw [e]), h3⟩)
theorem blt_irr (a : ByteArray) : blt a a = false := by
  rcases blt_tri a a with h | h | h
  · exact (h.2.1 rfl).elim
  · exact h.2.1
  · exact (h.2.1 rfl).elim
theorem blt_asy (h : blt a b = true) : blt b a = false := by
  rcases blt_tri a b with q | q | q
  · exact q.2.2
  · exact q.2.2
  · rw [q.2.2] at h; cases h
theorem le_blt (h1 : blt b a = false) (h2 : blt b c = true) : blt a c = true := by
  rcases blt_tri a b with q | q | q
  · exact blt_trans q.1 h2
  · rw [q.1]; exact h2
  · rw [q.1] at h1; cases h1
theorem blt_le (h1 : blt a b = true) (h2 : blt c b = false) : blt a c = true := by
  rcases blt_tri b c with q | q | q
  · exact blt_trans h1 q.1
  · rw [← q.1]; exact h1
  · rw [q.1] at h2; cases h2
theorem le_le (h1 : blt b a = false) (h2 : blt c b = false) : blt c a = false := by
  cases e : blt c a with
  | false => rfl
  | true => rw [blt_le e h1] at h2; cases h2
theorem blt_ne (h : blt a b = true) : a ≠ b := fun e => by rw [e, blt_irr] at h; cases h
theorem blt_mk (a : ByteArray) : blt a (mkS []) = false := by
  unfold blt
  rw [bs_mkS]
  cases bs a <;> rfl
end

/-! the entries of a tree, in their order -/
def allD (T : List Pg) : Nat → Nat → KV
  | 0, _ => []
  | f + 1, a => match T[a]? with
    | none => []
    | some p => p.keys.zip p.vals ++ p.kids.flatMap fun k => allD T f k.toNat
theorem allD_leaf {T : List Pg} {f a : Nat} {p : Pg} (hp : T[a]? = some p) (hk : p.kids = []) : allD T (f + 1) a = p.keys.zip p.vals := by
  rw [allD, hp]; dsimp only; rw [hk]; simp
theorem allD_inner {T : List Pg} {f a : Nat} {p : Pg} (hp : T[a]? = some p) (hv : p.vals = []) : allD T (f + 1) a = p.kids.flatMap fun k => allD T f k.toNat := by
  rw [allD, hp]; dsimp only; rw [hv]; simp
def Asc (ps : KV) : Prop := ps.Pairwise fun x y => blt x.1 y.1 = true
def Win (lo hi : ByteArray) (ps : KV) : Prop := ∀ x ∈ ps, blt x.1 lo = false ∧ (hi.size = 0 ∨ blt x.1 hi = true)
def KVok (ps : KV) : Prop := ∀ x ∈ ps, (1 ≤ x.1.size ∧ x.1.size ≤ 6) ∧ x.2.size ≤ 10
theorem rising_pw {ks : List ByteArray} (h : Rising ks) : ks.Pairwise fun a b => blt a b = true := by
  rw [List.pairwise_iff_getElem]
  intro i j hi hj hij
  obtain ⟨d, rfl⟩ : ∃ d, j = i + d + 1 := ⟨j - i - 1, by omega⟩
  exact rising_lt h i d hj
theorem zip_asc {ks vs : List ByteArray} (h : Rising ks) (hl : vs.length = ks.length) : Asc (ks.zip vs) := by
  have := rising_pw h
  rw [← List.map_fst_zip (l₁ := ks) (l₂ := vs) (by omega), List.pairwise_map] at this
  exact this
theorem holdB_at {lo hi : ByteArray} {ks : List ByteArray} (h : holdB lo hi ks = true) {k : ByteArray} (hk : k ∈ ks) : blt k lo = false ∧ (hi.size = 0 ∨ blt k hi = true) := by
  unfold holdB at h
  rw [List.all_eq_true] at h
  have := h k hk
  simp only [Bool.and_eq_true, Bool.not_eq_true', Bool.or_eq_true, decide_eq_true_eq] at this
  exact this
theorem zip_mem {ks vs : List ByteArray} {x : ByteArray × ByteArray} (h : x ∈ ks.zip vs) : x.1 ∈ ks ∧ x.2 ∈ vs := ⟨(List.of_mem_zip h).1, (List.of_mem_zip h).2⟩

theorem loK_at {p : Pg} {lo : ByteArray} {i : Nat} (h : i < p.keys.length) : loK p lo (i + 1) = p.keys[i] := by
  unfold loK; rw [decide_eq_true (by omega)]; simp [h]
theorem hiK_at {p : Pg} {hi : ByteArray} {i : Nat} (h : i < p.keys.length) : hiK p hi i = p.keys[i] := by
  unfold hiK; rw [List.getElem?_eq_getElem h]; rfl
theorem hiK_end {p : Pg} {hi : ByteArray} {i : Nat} (h : p.keys.length ≤ i) : hiK p hi i = hi := by
  unfold hiK; rw [List.getElem?_eq_none h]; rfl
/-- what a walk that goes well says of the entries -/
def AllOf (T : List Pg) (f : Nat) : Prop := ∀ (a deep : Nat) (lo hi : ByteArray) (st st' : WS), walkD T f a deep lo hi st = some st' →
    Asc (allD T f a) ∧ Win lo hi (allD T f a) ∧ KVok (allD T f a) ∧ st'.count = st.count + (allD T f a).length
theorem kidsD_all {T : List Pg} {f : Nat} (ih : AllOf T f) {p : Pg} {lo hi : ByteArray} {deep : Nat} (hfit : FitsP p) (hh : holdB lo hi p.keys = true) :
    ∀ (ks : List Int) (i : Nat), i + ks.length = p.keys.length + 1 → ∀ (s s' : WS), kidsD (fun k i s => walkD T f k.toNat (deep + 1) (loK p lo i) (hiK p hi i) s) ks i s = some s' →
          Asc (ks.flatMap fun k => allD T f k.toNat) ∧ Win (loK p lo i) hi (ks.flatMap fun k => allD T f k.toNat) ∧ KVok (ks.flatMap fun k => allD T f k.toNat) ∧ s'.count = s.count + (ks.flatMap fun k => allD T f k.toNat).length := by
  have hkey : ∀ k ∈ p.keys, 1 ≤ k.size ∧ k.size ≤ 6 := hfit.keys
  intro ks
  induction ks with
  | nil => intro i _ s s' h; cases h; exact ⟨List.Pairwise.nil, fun x hx => (by simp at hx), fun x hx => (by simp at hx), rfl⟩
  | cons k ks ihk =>
    intro i hi' s s' h
    rw [kidsD_cons] at h
    cases hr : walkD T f k.toNat (deep + 1) (loK p lo i) (hiK p hi i) s with
    | none => rw [hr] at h; cases h
    | some s1 =>
      rw [hr] at h
      dsimp only at h
      obtain ⟨a1, a2, a3, a4⟩ := ih _ _ _ _ _ _ hr
      obtain ⟨b1, b2, b3, b4⟩ := ihk (i + 1) (by simp at hi'; omega) s1 s' h
      rw [List.flatMap_cons]
      simp only [List.length_cons] at hi'
      have hne : ∀ y, y ∈ ks.flatMap (fun k => allD T f k.toNat) → i < p.keys.length := fun y hy => by
        have : ks ≠ [] := fun e => by rw [e] at hy; simp at hy
        have := List.length_pos_iff.2 this
        omega
      refine ⟨List.pairwise_append.2 ⟨a1, b1, fun x hx y hy => ?_⟩, fun x hx => ?_, fun x hx => ?_, by rw [b4, a4, List.length_append]; omega⟩
      · have hi1 := hne y hy
        have ax := (a2 x hx).2
        have by_ := (b2 y hy).1
        rw [loK_at hi1] at by_
        rw [hiK_at hi1] at ax
        have := (hkey _ (List.getElem_mem hi1)).1
        rcases ax with q | q
        · omega
        · exact blt_le q by_
      · rcases List.mem_append.1 hx with q | q
        · obtain ⟨x1, x2⟩ := a2 x q
          refine ⟨x1, ?_⟩
          rcases Nat.lt_or_ge i p.keys.length with hi1 | hi1
          · rw [hiK_at hi1] at x2
            have hk1 := (hkey _ (List.getElem_mem hi1)).1
            rcases x2 with x2 | x2
            · omega
            · rcases (holdB_at hh (List.getElem_mem hi1)).2 with z | z
              · exact .inl z
              · exact .inr (blt_trans x2 z)
          · rw [hiK_end hi1] at x2; exact x2
        · have hi1 := hne x q
          obtain ⟨x1, x2⟩ := b2 x q
          refine ⟨?_, x2⟩
          rw [loK_at hi1] at x1
          rcases Nat.eq_zero_or_pos i with e | e
          · subst e
            have : loK p lo 0 = lo := rfl
            rw [this]
            exact le_le (holdB_at hh (List.getElem_mem hi1)).1 x1
          · obtain ⟨j, rfl⟩ : ∃ j, i = j + 1 := ⟨i - 1, by omega⟩
            rw [loK_at (show j < p.keys.length by omega)]
            exact le_le (blt_asy (rising_lt hfit.rising j 0 (by omega))) x1
      · rcases List.mem_append.1 hx with q | q
        · exact a3 x q
        · exact b3 x q
theorem walkD_all (T : List Pg) : ∀ f, AllOf T f := by
  intro f
  induction f with
  | zero => intro _ _ _ _ _ _ h; cases h
  | succ f ih =>
    intro a deep lo hi st st' h
    obtain ⟨p, hp, hok, hcase⟩ := walkD_step h
    obtain ⟨hm, hmay, h2, hh⟩ := okD_met hok
    have hfit := ((mayB_iff p).1 hmay).2
    have hkey : ∀ k ∈ p.keys, 1 ≤ k.size ∧ k.size ≤ 6 := hfit.keys
    rcases hcase with ⟨hl, hlf⟩ | ⟨hl, hk⟩
    · obtain ⟨e1, e2, _⟩ := leafD_some hlf
      obtain ⟨v1, v2, v3⟩ := hfit.leaf hl
      rw [allD_leaf hp v2]
      refine ⟨zip_asc hfit.rising v1, fun x hx => holdB_at hh (zip_mem hx).1, fun x hx => ⟨hkey _ (zip_mem hx).1, v3 _ (zip_mem hx).2⟩, ?_⟩
      rw [e2, List.length_zip, v1, Nat.min_self]
    · obtain ⟨k1, k2, k3, k4, k5⟩ := hfit.inner hl
      rw [allD_inner hp k2]
      have := kidsD_all ih hfit hh p.kids 0 (by omega) _ _ hk
      exact this

/-! sums over the pages met -/
def wt (g : Pg → Nat) : List Pg → List Bool → Nat
  | p :: T, b :: met => (match b with | true => g p | false => 0) + wt g T met
  | _, _ => 0
theorem wt_set (g : Pg → Nat) : ∀ {T : List Pg} {met : List Bool} {i : Nat} {p : Pg}, T[i]? = some p → met[i]? = some false → wt g T (met.set i true) = wt g T met + g p
  | [], _, i, p, h, _ => by simp at h
  | _ :: _, [], i, p, _, h => by simp at h
  | q :: T, b :: met, 0, p, h1, h2 => by
    simp at h1 h2; subst h1; subst h2
    simp only [List.set_cons_zero, wt]; omega
  | q :: T, b :: met, i + 1, p, h1, h2 => by
    simp only [List.getElem?_cons_succ] at h1 h2
    simp only [List.set_cons_succ, wt]
    have := wt_set g h1 h2
    omega
theorem wt_none (g : Pg → Nat) : ∀ (T : List Pg) (n : Nat), wt g T (List.replicate n false) = 0
  | [], n => by cases n <;> rfl
  | p :: T, 0 => rfl
  | p :: T, n + 1 => by simp only [List.replicate_succ, wt]; rw [wt_none g T n]
/-- all that are used are met -/
def usedSum (g : Pg → Nat) (T : List Pg) : Nat := (T.map fun (p : Pg) => match p.used with | true => g p | false => 0).sum
theorem wt_used (g : Pg → Nat) : ∀ {T : List Pg} {met : List Bool}, met.length = T.length → (∀ (i : Nat) (p : Pg), T[i]? = some p → met[i]? = some p.used) → wt g T met = usedSum g T
  | [], [], _, _ => rfl
  | [], _ :: _, h, _ => by simp at h
  | _ :: _, [], h, _ => by simp at h
  | p :: T, b :: met, hl, h => by
    have h0 := h 0 p rfl
    simp at h0
    subst h0
    have ih := wt_used g (T := T) (met := met) (by simpa using hl) fun i q hq => by have := h (i + 1) q (by simpa using hq); simpa using this
    unfold wt usedSum
    rw [List.map_cons, List.sum_cons, ih]
    rfl
def gK (p : Pg) : Nat := match p.leaf with | true => p.keys.length | false => 0
def gL (p : Pg) : Nat := match p.leaf with | true => 1 | false => 0
theorem walkD_sum (T : List Pg) : ∀ (f a deep : Nat) (lo hi : ByteArray) (st st' : WS), walkD T f a deep lo hi st = some st' → st'.count + wt gK T st.met = st.count + wt gK T st'.met := by
  intro f
  induction f with
  | zero => intro _ _ _ _ _ _ h; cases h
  | succ f ih =>
    intro a deep lo hi st st' h
    obtain ⟨p, hp, hok, hcase⟩ := walkD_step h
    obtain ⟨hm, hmay, h2, hh⟩ := okD_met hok
    have hw := wt_set gK hp hm
    rcases hcase with ⟨hl, hlf⟩ | ⟨hl, hk⟩
    · obtain ⟨e1, e2, _⟩ := leafD_some hlf
      rw [e1, e2]
      dsimp only at *
      have : gK p = p.keys.length := by unfold gK; rw [hl]
      omega
    · have : gK p = 0 := by unfold gK; rw [hl]
      have key := kidsD_ind' (P := fun _ s s' => s'.count + wt gK T s.met = s.count + wt gK T s'.met) (fun s => rfl) (fun k ks i s s1 s' hr hP => by
        have := ih _ _ _ _ _ _ hr
        omega) _ _ _ _ hk
      dsimp only at key
      omega
theorem walkD_high (T : List Pg) : ∀ (f a deep : Nat) (lo hi : ByteArray) (st st' : WS), walkD T f a deep lo hi st = some st' → 1 ≤ deep → (st.deep = 0 ∨ st.deep = st'.deep) ∧ deep ≤ st'.deep ∧
    (0 < a → wt gL T st.met + 3 ^ (st'.deep - deep) ≤ wt gL T st'.met ∧ st.count + 2 * 3 ^ (st'.deep - deep) ≤ st'.count) ∧
    ((st'.deep = deep ∧ wt gL T st'.met = wt gL T st.met + 1) ∨ (deep < st'.deep ∧ wt gL T st.met + 2 * 3 ^ (st'.deep - (deep + 1)) ≤ wt gL T st'.met ∧ st.count + 4 * 3 ^ (st'.deep - (deep + 1)) ≤ st'.count)) := by
  intro f
  induction f with
  | zero => intro _ _ _ _ _ _ h; cases h
  | succ f ih =>
    intro a deep lo hi st st' h hd
    obtain ⟨p, hp, hok, hcase⟩ := walkD_step h
    obtain ⟨hm, hmay, h2, hh⟩ := okD_met hok
    have hw := wt_set gL hp hm
    rcases hcase with ⟨hl, hlf⟩ | ⟨hl, hk⟩
    · obtain ⟨e1, e2, e3, e4⟩ := leafD_some hlf
      have hg : gL p = 1 := by unfold gL; rw [hl]
      rw [e1, e2, e3]
      dsimp only at *
      rw [Nat.sub_self, Nat.pow_zero]
      exact ⟨e4, Nat.le_refl _, fun h0 => ⟨by omega, by have := h2 h0; omega⟩, .inl ⟨rfl, by omega⟩⟩
    · have hg : gL p = 0 := by unfold gL; rw [hl]
      obtain ⟨k1, k2, k3, k4, k5⟩ := ((mayB_iff p).1 hmay).2.inner hl
      have key : ∀ (ks : List Int), (∀ k ∈ ks, 1 ≤ k) → ∀ (i : Nat) (s s' : WS), kidsD (fun k i s => walkD T f k.toNat (deep + 1) (loK p lo i) (hiK p hi i) s) ks i s = some s' →
          (s.deep = 0 ∨ s.deep = s'.deep) ∧ (ks ≠ [] → deep + 1 ≤ s'.deep) ∧ wt gL T s.met + ks.length * 3 ^ (s'.deep - (deep + 1)) ≤ wt gL T s'.met ∧ s.count + 2 * (ks.length * 3 ^ (s'.deep - (deep + 1))) ≤ s'.count := by
        intro ks
        induction ks with
        | nil => intro _ i s s' h; cases h; exact ⟨.inr rfl, fun h => (h rfl).elim, by simp, by simp⟩
        | cons k ks ihk =>
          intro hks i s s' h
          rw [kidsD_cons] at h
          cases hr : walkD T f k.toNat (deep + 1) (loK p lo i) (hiK p hi i) s with
          | none => rw [hr] at h; cases h
          | some s1 =>
            rw [hr] at h
            dsimp only at h
            obtain ⟨q1, q2, q3, _⟩ := ih _ _ _ _ _ _ hr (by omega)
            obtain ⟨q4, q5⟩ := q3 (by have := hks k (by simp); omega)
            obtain ⟨r1, r2, r3, r4⟩ := ihk (fun k' hk' => hks k' (by simp [hk'])) (i + 1) s1 s' h
            have e : s1.deep = s'.deep := by rcases r1 with r | r; omega; exact r
            rw [e] at q1 q2 q4 q5
            simp only [List.length_cons, Nat.add_mul, Nat.one_mul]
            generalize 3 ^ (s'.deep - (deep + 1)) = X at *
            generalize ks.length * X = Y at *
            exact ⟨q1, fun _ => q2, by omega, by omega⟩
      obtain ⟨c1, c2, c3, c4⟩ := key p.kids (fun k hk => (k4 k hk).1) _ _ _ hk
      have hdeep := c2 (fun e => by rw [e] at k3; simp at k3)
      dsimp only at *
      obtain ⟨X, hX⟩ : ∃ X, 3 ^ (st'.deep - (deep + 1)) = X := ⟨_, rfl⟩
      have hX3 : 3 ^ (st'.deep - deep) = X * 3 := by rw [← hX, ← Nat.pow_succ]; congr 1; omega
      rw [hX] at c3 c4 ⊢
      rw [hX3]
      have m2 : 2 * X ≤ p.kids.length * X := Nat.mul_le_mul_right X (by omega)
      refine ⟨c1, by omega, fun h0 => ?_, .inr ⟨by omega, by omega, by omega⟩⟩
      have m3 : 3 * X ≤ p.kids.length * X := Nat.mul_le_mul_right X (by have := h2 h0; omega)
      exact ⟨by omega, by omega⟩

/-- the entries of a sound tree -/
def entD (T : List Pg) : KV := allD T 49 0
section
variable {T : List Pg} {st : WS}
theorem SF.ents (s : SF T st) : Asc (entD T) ∧ KVok (entD T) ∧ (entD T).length = st.count ∧ (entD T).length ≤ 60 := by
  obtain ⟨h1, _, h3, h4⟩ := walkD_all T _ _ _ _ _ _ _ s.walk
  have h00 : ws0.count = 0 := rfl
  have := s.count
  unfold entD
  exact ⟨h1, h3, by omega, by omega⟩
theorem SF.metU (s : SF T st) {i : Nat} {p : Pg} (hp : T[i]? = some p) : st.met[i]? = some p.used := by
  have hi : i < 48 := by have := (List.getElem?_eq_some_iff.1 hp).1; have := s.len; omega
  cases hu : p.used with
  | true => exact (s.used hp hu).1
  | false =>
    rw [List.getElem?_eq_getElem (by rw [s.metlen]; exact hi)]
    cases e : st.met[i]'(by rw [s.metlen]; exact hi) with
    | false => rfl
    | true =>
      have hm : st.met[i]? = some true := by rw [List.getElem?_eq_getElem (by rw [s.metlen]; exact hi), e]
      rcases (walkD_met T _ _ _ _ _ _ _ s.walk).2.2 i hm with h | ⟨q, hq, h1, _⟩
      · rw [ws0_met i hi] at h; cases h
      · rw [hp] at hq; cases hq
        have := ((mayB_iff p).1 h1).2.used
        rw [hu] at this; cases this
/-- how many entries, leaves a sound tree has -/
theorem SF.sums (s : SF T st) : usedSum gK T = (entD T).length ∧ (heightD T = 1 ↔ usedSum gL T = 1) ∧ 1 ≤ heightD T ∧ heightD T ≤ 4 := by
  have e0 : ∀ g, wt g T ws0.met = 0 := fun g => wt_none g T 48
  have eU : ∀ g, wt g T st.met = usedSum g T := fun g => wt_used g (by rw [s.metlen, s.len]) fun i p hp => s.metU hp
  have h1 := walkD_sum T _ _ _ _ _ _ _ s.walk
  obtain ⟨_, h2, _, h3⟩ := walkD_high T _ _ _ _ _ _ _ s.walk (Nat.le_refl _)
  rw [e0, eU] at h1 h3
  have h00 : ws0.count = 0 := rfl
  have hc := s.ents.2.2.1
  have hc2 := s.count
  rw [s.height]
  refine ⟨by omega, ?_, by omega, ?_⟩
  · rcases h3 with ⟨q1, q2⟩ | ⟨q1, q2, q3⟩
    · constructor <;> intro <;> omega
    · have : 1 ≤ 3 ^ (st.deep - 2) := Nat.pow_pos (by omega)
      simp only [Nat.reduceAdd] at q2 q3
      constructor <;> intro <;> omega
  · rcases h3 with ⟨q1, q2⟩ | ⟨q1, q2, q3⟩
    · omega
    · simp only [Nat.reduceAdd] at q2 q3
      rcases Nat.lt_or_ge st.deep 5 with h | h
      · omega
      · have : 3 ^ 3 ≤ 3 ^ (st.deep - 2) := Nat.pow_le_pow_right (by omega) (by omega)
        omega
end
end Go.Am
namespace Go.Am

/-! trees, by what stands below a page -/
/-- kids with the keys between them -/
def KidsR (R : Nat → List Nat → KV → Prop) : List Int → List ByteArray → List Nat → KV → Prop
  | [], _, _, _ => False
  | k :: ks, ss, P, ps => match ss with
    | [] => ks = [] ∧ R k.toNat P ps
    | s :: ss => ∃ P1 ps1 P2 ps2, R k.toNat P1 ps1 ∧ KidsR R ks ss P2 ps2 ∧ P = P1 ++ P2 ∧ ps = ps1 ++ ps2 ∧ (∀ x ∈ ps1, blt x.1 s = true) ∧ (∀ y ∈ ps2, blt y.1 s = false)
/-- a subtree: its height, its root's number, its pages' numbers, its entries -/
def Sub (T : List Pg) : Nat → Nat → List Nat → KV → Prop
  | 0, _, _, _ => False
  | d + 1, a, P, ps => ∃ p, T[a]? = some p ∧ MayP p ∧
      ((d = 0 ∧ p.leaf = true ∧ P = [a] ∧ ps = p.keys.zip p.vals) ∨
       (p.leaf = false ∧ ∃ P', P = a :: P' ∧ KidsR (fun k P ps => Sub T d k P ps ∧ ∃ q, T[k]? = some q ∧ 2 ≤ q.keys.length) p.kids p.keys P' ps))
/-- one that is no root -/
def SubB (T : List Pg) (d k : Nat) (P : List Nat) (ps : KV) : Prop := Sub T d k P ps ∧ ∃ q, T[k]? = some q ∧ 2 ≤ q.keys.length
theorem KidsR.imp {R R' : Nat → List Nat → KV → Prop} : ∀ {ks : List Int} {ss : List ByteArray} {P : List Nat} {ps : KV}, (∀ k P' ps', R k P' ps' → (∀ i ∈ P', i ∈ P) → R' k P' ps') → KidsR R ks ss P ps → KidsR R' ks ss P ps
  | [], _, _, _, _, h => h.elim
  | k :: ks, [], P, ps, f, h => ⟨h.1, f _ _ _ h.2 fun i hi => hi⟩
  | k :: ks, s :: ss, P, ps, f, ⟨P1, ps1, P2, ps2, h1, h2, e1, e2, h3, h4⟩ => by
    subst e1
    exact ⟨P1, ps1, P2, ps2, f _ _ _ h1 fun i hi => List.mem_append.2 (.inl hi), KidsR.imp (fun k P' ps' h hs => f k P' ps' h fun i hi => List.mem_append.2 (.inr (hs i hi))) h2, rfl, e2, h3, h4⟩
theorem KidsR.len {R : Nat → List Nat → KV → Prop} : ∀ {ks : List Int} {ss : List ByteArray} {P : List Nat} {ps : KV}, KidsR R ks ss P ps → ks.length = ss.length + 1
  | [], _, _, _, h => h.elim
  | k :: ks, [], P, ps, h => by rw [h.1]; rfl
  | k :: ks, s :: ss, P, ps, ⟨P1, ps1, P2, ps2, h1, h2, _⟩ => by simp [KidsR.len h2]
theorem Sub.head {T : List Pg} {d a : Nat} {P : List Nat} {ps : KV} (h : Sub T d a P ps) : a ∈ P := by
  cases d with
  | zero => exact h.elim
  | succ d =>
    obtain ⟨p, _, _, ⟨_, _, e, _⟩ | ⟨_, P', e, _⟩⟩ := h <;> simp [e]
/-- the pages stand as they stood -/
theorem Sub.keep {T T' : List Pg} : ∀ {d a : Nat} {P : List Nat} {ps : KV}, Sub T d a P ps → (∀ i ∈ P, T'[i]? = T[i]?) → Sub T' d a P ps
  | 0, _, _, _, h, _ => h.elim
  | d + 1, a, P, ps, h, hk => by
    have ha := hk a h.head
    obtain ⟨p, hp, hm, h⟩ := h
    refine ⟨p, by rw [ha]; exact hp, hm, ?_⟩
    rcases h with h | ⟨h1, P', e, h2⟩
    · exact .inl h
    · subst e
      refine .inr ⟨h1, P', rfl, h2.imp fun k Q qs ⟨q1, q, q2, q3⟩ hs => ⟨Sub.keep q1 fun i hi => hk i (by simp [hs i hi]), q, ?_, q3⟩⟩
      rw [hk k (by simp [hs k q1.head])]; exact q2
theorem SubB.keep {T T' : List Pg} {d a : Nat} {P : List Nat} {ps : KV} (h : SubB T d a P ps) (hk : ∀ i ∈ P, T'[i]? = T[i]?) : SubB T' d a P ps := by
  obtain ⟨h1, q, h2, h3⟩ := h
  exact ⟨h1.keep hk, q, by rw [hk a h1.head]; exact h2, h3⟩

theorem KidsR.allD {T : List Pg} {f : Nat} {R : Nat → List Nat → KV → Prop} (hR : ∀ k P ps, R k P ps → Am.allD T f k = ps) : ∀ {ks : List Int} {ss : List ByteArray} {P : List Nat} {ps : KV}, KidsR R ks ss P ps → (ks.flatMap fun k => Am.allD T f k.toNat) = ps
  | [], _, _, _, h => h.elim
  | k :: ks, [], P, ps, h => by rw [h.1]; simp [hR _ _ _ h.2]
  | k :: ks, s :: ss, P, ps, ⟨P1, ps1, P2, ps2, h1, h2, _, e2, _⟩ => by rw [List.flatMap_cons, hR _ _ _ h1, KidsR.allD hR h2, e2]
theorem Sub.allD {T : List Pg} : ∀ {d f a : Nat} {P : List Nat} {ps : KV}, Sub T d a P ps → d ≤ f → Am.allD T f a = ps
  | 0, _, _, _, _, h, _ => h.elim
  | d + 1, 0, _, _, _, _, hf => by omega
  | d + 1, f + 1, a, P, ps, h, hf => by
    obtain ⟨p, hp, hm, ⟨_, hl, _, e⟩ | ⟨hl, P', _, hk⟩⟩ := h
    · rw [allD_leaf hp (hm.2.leaf hl).2.1, e]
    · rw [allD_inner hp (hm.2.inner hl).2.1]
      exact KidsR.allD (fun k P ps h => Sub.allD h.1 (by omega)) hk

theorem kids_asc {R : Nat → List Nat → KV → Prop} (hR : ∀ k P ps, R k P ps → Asc ps ∧ KVok ps) : ∀ {ks : List Int} {ss : List ByteArray} {P : List Nat} {ps : KV}, KidsR R ks ss P ps → Asc ps ∧ KVok ps
  | [], _, _, _, h => h.elim
  | k :: ks, [], P, ps, h => hR _ _ _ h.2
  | k :: ks, s :: ss, P, ps, ⟨P1, ps1, P2, ps2, h1, h2, _, e2, h3, h4⟩ => by
    obtain ⟨a1, a2⟩ := hR _ _ _ h1
    obtain ⟨b1, b2⟩ := kids_asc hR h2
    subst e2
    exact ⟨List.pairwise_append.2 ⟨a1, b1, fun x hx y hy => blt_le (h3 x hx) (h4 y hy)⟩, fun x hx => (List.mem_append.1 hx).elim (a2 x) (b2 x)⟩
theorem Sub.asc {T : List Pg} : ∀ {d a : Nat} {P : List Nat} {ps : KV}, Sub T d a P ps → Asc ps ∧ KVok ps
  | 0, _, _, _, h => h.elim
  | d + 1, a, P, ps, h => by
    obtain ⟨p, hp, hm, ⟨_, hl, _, e⟩ | ⟨hl, P', _, hk⟩⟩ := h
    · obtain ⟨v1, v2, v3⟩ := hm.2.leaf hl
      subst e
      exact ⟨zip_asc hm.2.rising v1, fun x hx => ⟨hm.2.keys _ (zip_mem hx).1, v3 _ (zip_mem hx).2⟩⟩
    · exact kids_asc (fun k P ps h => Sub.asc h.1) hk
theorem kids_size {R : Nat → List Nat → KV → Prop} {m : Nat} (hR : ∀ k P ps, R k P ps → m ≤ ps.length) : ∀ {ks : List Int} {ss : List ByteArray} {P : List Nat} {ps : KV}, KidsR R ks ss P ps → ks.length * m ≤ ps.length
  | [], _, _, _, h => h.elim
  | k :: ks, [], P, ps, h => by rw [h.1]; have := hR _ _ _ h.2; simpa using this
  | k :: ks, s :: ss, P, ps, ⟨P1, ps1, P2, ps2, h1, h2, _, e2, h3, h4⟩ => by
    have := hR _ _ _ h1
    have := kids_size hR h2
    subst e2
    rw [List.length_cons, List.length_append, Nat.add_mul]
    omega
theorem SubB.size {T : List Pg} : ∀ {d a : Nat} {P : List Nat} {ps : KV}, SubB T d a P ps → 2 * d ≤ ps.length
  | 0, _, _, _, h => by omega
  | d + 1, a, P, ps, ⟨h, q, hq, h2⟩ => by
    obtain ⟨p, hp, hm, ⟨hd, hl, _, e⟩ | ⟨hl, P', _, hk⟩⟩ := h
    · rw [hp] at hq; cases hq
      have := (hm.2.leaf hl).1
      subst e; subst hd
      rw [List.length_zip]; omega
    · rw [hp] at hq; cases hq
      have hlen := hk.len
      have := kids_size (m := 2 * d) (fun k P ps h => SubB.size h) hk
      have hd : 1 ≤ d := by
        cases d with
        | zero => cases hks : q.kids with
          | nil => rw [hks] at hlen; simp at hlen
          | cons k ks =>
            rw [hks] at hk
            cases hs : q.keys with
            | nil => rw [hs] at h2; simp at h2
            | cons s ss => rw [hs] at hk; obtain ⟨_, _, _, _, h1, _⟩ := hk; exact h1.1.elim
        | succ d => omega
      have : 2 * (2 * d) ≤ q.kids.length * (2 * d) := Nat.mul_le_mul_right _ (by omega)
      omega
theorem SubB.ne {T : List Pg} {d a : Nat} {P : List Nat} {ps : KV} (h : SubB T d a P ps) : ps ≠ [] := by
  intro e
  have := h.size
  subst e
  cases d with
  | zero => exact h.1.elim
  | succ d => simp at this

/-- pages of a list that are met -/
def metAll (met : List Bool) (P : List Nat) : List Bool := P.foldl (fun m i => m.set i true) met
theorem metAll_out {P : List Nat} : ∀ {met : List Bool} {i : Nat}, i ∉ P → (metAll met P)[i]? = met[i]? := by
  unfold metAll
  induction P with
  | nil => intro met i _; rfl
  | cons j P ih =>
    intro met i h
    simp only [List.foldl_cons]
    rw [ih (fun q => h (by simp [q])), List.getElem?_set_ne (fun e => h (by simp [e]))]
theorem metAll_in {P : List Nat} : ∀ {met : List Bool} {i : Nat}, i ∈ P → i < met.length → (metAll met P)[i]? = some true := by
  unfold metAll
  induction P with
  | nil => intro met i h; simp at h
  | cons j P ih =>
    intro met i h hl
    simp only [List.foldl_cons]
    by_cases hi : i ∈ P
    · exact ih hi (by simpa using hl)
    · have : i = j := by simpa [hi] using h
      subst this
      have := metAll_out (met := met.set i true) hi
      unfold metAll at this
      rw [this, List.getElem?_set_self hl]
theorem metAll_append (met : List Bool) (P Q : List Nat) : metAll met (P ++ Q) = metAll (metAll met P) Q := by unfold metAll; rw [List.foldl_append]
theorem metAll_cons (met : List Bool) (a : Nat) (P : List Nat) : metAll met (a :: P) = metAll (met.set a true) P := rfl

theorem kids_hold {R : Nat → List Nat → KV → Prop} (hR : ∀ k P ps, R k P ps → ps ≠ []) {lo hi : ByteArray} : ∀ {ks : List Int} {ss : List ByteArray} {P : List Nat} {ps : KV}, KidsR R ks ss P ps → ps ≠ [] ∧ (Win lo hi ps → ∀ s ∈ ss, blt s lo = false ∧ (hi.size = 0 ∨ blt s hi = true))
  | [], _, _, _, h => h.elim
  | k :: ks, [], P, ps, h => ⟨hR _ _ _ h.2, fun _ s hs => by simp at hs⟩
  | k :: ks, s :: ss, P, ps, ⟨P1, ps1, P2, ps2, h1, h2, _, e2, h3, h4⟩ => by
    have n1 := hR _ _ _ h1
    obtain ⟨n2, ih⟩ := kids_hold hR (lo := lo) (hi := hi) h2
    subst e2
    refine ⟨by simp [n1], fun w s' hs => ?_⟩
    obtain ⟨x, hx⟩ := List.exists_mem_of_ne_nil _ n1
    obtain ⟨y, hy⟩ := List.exists_mem_of_ne_nil _ n2
    have wx := w x (List.mem_append.2 (.inl hx))
    have wy := w y (List.mem_append.2 (.inr hy))
    rcases List.mem_cons.1 hs with e | e
    · subst e
      refine ⟨?_, ?_⟩
      · exact le_le wx.1 (blt_asy (h3 x hx))
      · rcases wy.2 with q | q
        · exact .inl q
        · exact .inr (le_blt (h4 y hy) q)
    · exact ih (fun z hz => w z (List.mem_append.2 (.inr hz))) s' e
theorem holdB_of {lo hi : ByteArray} {ks : List ByteArray} (h : ∀ s ∈ ks, blt s lo = false ∧ (hi.size = 0 ∨ blt s hi = true)) : holdB lo hi ks = true := by
  unfold holdB
  rw [List.all_eq_true]
  intro k hk
  obtain ⟨h1, h2⟩ := h k hk
  rw [h1]
  rcases h2 with q | q
  · rw [decide_eq_true q]; rfl
  · rw [q]; simp

/-- such a tree is walked well -/
theorem Sub.walk (T : List Pg) : ∀ (d f a : Nat) (P : List Nat) (ps : KV) (deep : Nat) (lo hi : ByteArray) (st : WS), Sub T d a P ps → d ≤ f → (0 < a → ∃ q, T[a]? = some q ∧ 2 ≤ q.keys.length) → P.Nodup → (∀ i ∈ P, st.met[i]? = some false) → Win lo hi ps →
    (st.deep = 0 ∨ st.deep + 1 = deep + d) → 1 ≤ deep → walkD T f a deep lo hi st = some ⟨metAll st.met P, deep + d - 1, st.count + ps.length⟩
  | 0, _, _, _, _, _, _, _, _, h, _, _, _, _, _, _, _ => h.elim
  | d + 1, 0, _, _, _, _, _, _, _, _, hf, _, _, _, _, _, _ => by omega
  | d + 1, f + 1, a, P, ps, deep, lo, hi, st, h, hf, ha, hnd, hm, hw, hdp, hd1 => by
    have hma := hm a h.head
    obtain ⟨p, hp, hmay, hcase⟩ := h
    have hbig : (decide (0 < a) && decide (p.keys.length < 2)) = false := by
      rw [Bool.and_eq_false_iff, decide_eq_false_iff_not, decide_eq_false_iff_not]
      rcases Nat.eq_zero_or_pos a with e | e
      · exact .inl (by omega)
      · obtain ⟨q, hq, h2⟩ := ha e
        rw [hp] at hq; cases hq
        exact .inr (by omega)
    have hok : holdB lo hi p.keys = true → okD p a lo hi st = true := fun hh => by
      unfold okD
      rw [hma, (mayB_iff p).2 hmay, hbig, hh]; rfl
    rw [walkD_eq T f a deep lo hi st hp]
    rcases hcase with ⟨e0, hl, e1, e2⟩ | ⟨hl, P', e1, hk⟩
    · subst e0; subst e1; subst e2
      have v1 := (hmay.2.leaf hl).1
      have hh : holdB lo hi p.keys = true := holdB_of fun s hs => by
        obtain ⟨i, hi', e⟩ := List.getElem_of_mem hs
        have : (p.keys.zip p.vals)[i]'(by rw [List.length_zip]; omega) ∈ p.keys.zip p.vals := List.getElem_mem _
        have := hw _ this
        rw [List.getElem_zip, e] at this
        exact this
      rw [hok hh]
      dsimp only
      rw [hl]
      dsimp only
      unfold leafD
      dsimp only
      have hz : (p.keys.zip p.vals).length = p.keys.length := by rw [List.length_zip]; omega
      rw [hz]
      rcases hdp with q | q
      · rw [decide_eq_true q]; rfl
      · have q' : st.deep = deep := by omega
        rw [decide_eq_false (by omega), decide_eq_true q']; rfl
    · subst e1
      have hh : holdB lo hi p.keys = true := holdB_of ((kids_hold (fun k P ps h => SubB.ne h) hk).2 hw)
      rw [hok hh]
      dsimp only
      rw [hl]
      dsimp only
      have hlen := hk.len
      obtain ⟨k1, k2, k3, k4, k5⟩ := hmay.2.inner hl
      rw [List.nodup_cons] at hnd
      have loop : ∀ (ks : List Int) (i : Nat) (ss : List ByteArray) (P : List Nat) (ps : KV) (s : WS), (∀ k ∈ ks, 1 ≤ k) → p.keys.drop i = ss → i + ss.length = p.keys.length → KidsR (fun k P ps => Sub T d k P ps ∧ ∃ q, T[k]? = some q ∧ 2 ≤ q.keys.length) ks ss P ps →
          P.Nodup → (∀ i ∈ P, s.met[i]? = some false) → Win (loK p lo i) hi ps → (s.deep = 0 ∨ s.deep = deep + d) →
          kidsD (fun k i s => walkD T f k.toNat (deep + 1) (loK p lo i) (hiK p hi i) s) ks i s = some ⟨metAll s.met P, deep + d, s.count + ps.length⟩ := by
        intro ks
        induction ks with
        | nil => intro i ss P ps s _ _ _ h; exact h.elim
        | cons k ks ihk =>
          intro i ss P ps s hk1 hss hlen' hR hnd hm hw hdp
          have hk0 := hk1 k (by simp)
          cases ss with
          | nil =>
            obtain ⟨e, hs⟩ := hR
            subst e
            have hend : p.keys.length ≤ i := by simp at hlen'; omega
            rw [kidsD_cons]
            have := Sub.walk T d f k.toNat P ps (deep + 1) (loK p lo i) (hiK p hi i) s hs.1 (by omega) (fun _ => hs.2) hnd hm (by rw [hiK_end hend]; exact hw) (by rcases hdp with q | q; exact .inl q; exact .inr (by omega)) (by omega)
            rw [this]
            dsimp only
            have e : deep + 1 + d - 1 = deep + d := by omega
            rw [e]; rfl
          | cons s0 ss =>
            obtain ⟨P1, ps1, P2, ps2, h1, h2, e1, e2, h3, h4⟩ := hR
            subst e1; subst e2
            simp only [List.length_cons] at hlen'
            have hi1 : i < p.keys.length := by omega
            have hs0 : p.keys[i] = s0 := by
              rw [List.drop_eq_getElem_cons hi1] at hss
              exact (List.cons.inj hss).1
            have hss' : p.keys.drop (i + 1) = ss := by
              rw [List.drop_eq_getElem_cons hi1] at hss
              exact (List.cons.inj hss).2
            rw [kidsD_cons]
            rw [List.nodup_append] at hnd
            obtain ⟨d1, d2, d3⟩ := hnd
            have hw1 : Win (loK p lo i) (hiK p hi i) ps1 := fun x hx => ⟨(hw x (List.mem_append.2 (.inl hx))).1, .inr (by rw [hiK_at hi1, hs0]; exact h3 x hx)⟩
            have := Sub.walk T d f k.toNat P1 ps1 (deep + 1) (loK p lo i) (hiK p hi i) s h1.1 (by omega) (fun _ => h1.2) d1 (fun j hj => hm j (List.mem_append.2 (.inl hj))) hw1 (by rcases hdp with q | q; exact .inl q; exact .inr (by omega)) (by omega)
            rw [this]
            dsimp only
            have e : deep + 1 + d - 1 = deep + d := by omega
            rw [e]
            have := ihk (i + 1) ss P2 ps2 ⟨metAll s.met P1, deep + d, s.count + ps1.length⟩ (fun k' hk' => hk1 k' (by simp [hk'])) hss' (by omega) h2 d2 (fun j hj => by
                dsimp only
                rw [metAll_out (fun q => d3 j q j hj rfl)]
                exact hm j (List.mem_append.2 (.inr hj)))
              (fun y hy => ⟨by rw [loK_at hi1, hs0]; exact h4 y hy, (hw y (List.mem_append.2 (.inr hy))).2⟩) (.inr rfl)
            rw [this]
            dsimp only
            rw [metAll_append, List.length_append, Nat.add_assoc]
      have := loop p.kids 0 p.keys P' ps ⟨st.met.set a true, st.deep, st.count⟩ (fun k hk => (k4 k hk).1) rfl (by omega) hk hnd.2 (fun j hj => by
          dsimp only
          rw [List.getElem?_set_ne (fun e => hnd.1 (by rw [e]; exact hj))]
          exact hm j (by simp [hj])) hw (by dsimp only; rcases hdp with q | q; exact .inl q; exact .inr (by omega))
      rw [this, metAll_cons]
      dsimp only
      congr 2
end Go.Am
namespace Go.Am

/-- a walk that goes well: what stands below -/
theorem walkD_sub (T : List Pg) : ∀ (f a deep : Nat) (lo hi : ByteArray) (st st' : WS), walkD T f a deep lo hi st = some st' → 1 ≤ deep →
    ∃ d P, st'.deep + 1 = deep + d ∧ Sub T d a P (allD T f a) ∧ st'.met = metAll st.met P ∧ P.Nodup ∧ (∀ i ∈ P, st.met[i]? = some false) := by
  intro f
  induction f with
  | zero => intro _ _ _ _ _ _ h; cases h
  | succ f ih =>
    intro a deep lo hi st st' h hd1
    obtain ⟨p, hp, hok, hcase⟩ := walkD_step h
    obtain ⟨hm, hmay, h2, hh⟩ := okD_met hok
    have hM := (mayB_iff p).1 hmay
    have hfit := hM.2
    have hlt := (List.getElem?_eq_some_iff.1 hm).1
    rcases hcase with ⟨hl, hlf⟩ | ⟨hl, hk⟩
    · obtain ⟨e1, e2, e3, _⟩ := leafD_some hlf
      refine ⟨1, [a], by omega, ⟨p, hp, hM, .inl ⟨rfl, hl, rfl, allD_leaf hp (hfit.leaf hl).2.1⟩⟩, by rw [e1]; rfl, by simp, fun i hi => by rw [List.mem_singleton.1 hi]; exact hm⟩
    · obtain ⟨k1, k2, k3, k4, k5⟩ := hfit.inner hl
      have loop : ∀ (ks : List Int) (i : Nat) (ss : List ByteArray) (s s' : WS), (∀ k ∈ ks, 1 ≤ k) → p.keys.drop i = ss → i + ss.length = p.keys.length → ks.length = ss.length + 1 →
          kidsD (fun k i s => walkD T f k.toNat (deep + 1) (loK p lo i) (hiK p hi i) s) ks i s = some s' →
          ∃ d P, s'.deep + 1 = deep + 1 + d ∧ KidsR (SubB T d) ks ss P (ks.flatMap fun k => allD T f k.toNat) ∧ s'.met = metAll s.met P ∧ P.Nodup ∧ (∀ i ∈ P, s.met[i]? = some false) ∧ (s.deep = 0 ∨ s.deep = s'.deep) := by
        intro ks
        induction ks with
        | nil => intro i ss s s' _ _ _ h; simp at h
        | cons k ks ihk =>
          intro i ss s s' hk1 hss hlen hkl h
          have hk0 := hk1 k (by simp)
          rw [kidsD_cons] at h
          cases hr : walkD T f k.toNat (deep + 1) (loK p lo i) (hiK p hi i) s with
          | none => rw [hr] at h; cases h
          | some s1 =>
            rw [hr] at h
            dsimp only at h
            obtain ⟨d1, P1, e1, S1, m1, n1, u1⟩ := ih _ _ _ _ _ _ hr (by omega)
            obtain ⟨q1, _⟩ := walkD_high T _ _ _ _ _ _ _ hr (by omega)
            have B1 : SubB T d1 k.toNat P1 (allD T f k.toNat) := by
              obtain ⟨q, hq, hqo, _⟩ := walkD_step (f := f - 1) (by
                cases f with
                | zero => cases hr
                | succ f => exact hr)
              exact ⟨S1, q, hq, (okD_met hqo).2.2.1 (by omega)⟩
            cases ss with
            | nil =>
              have : ks = [] := by simpa using hkl
              subst this
              cases h
              exact ⟨d1, P1, e1, ⟨rfl, by simpa using B1⟩, m1, n1, u1, q1⟩
            | cons s0 ss =>
              simp only [List.length_cons] at hlen hkl
              have hi1 : i < p.keys.length := by omega
              have hs0 : p.keys[i] = s0 := by
                rw [List.drop_eq_getElem_cons hi1] at hss
                exact (List.cons.inj hss).1
              have hss' : p.keys.drop (i + 1) = ss := by
                rw [List.drop_eq_getElem_cons hi1] at hss
                exact (List.cons.inj hss).2
              obtain ⟨d2, P2, e2, K2, m2, n2, u2, z2⟩ := ihk (i + 1) ss s1 s' (fun k' hk' => hk1 k' (by simp [hk'])) hss' (by omega) (by omega) h
              have hd12 : d1 = d2 := by rcases z2 with z | z <;> omega
              subst hd12
              have w1 := (walkD_all T f _ _ _ _ _ _ hr).2.1
              have w2 := (kidsD_all (walkD_all T f) hfit hh ks (i + 1) (by omega) _ _ h).2.1
              rw [loK_at hi1, hs0] at w2
              rw [hiK_at hi1, hs0] at w1
              have hsz : 1 ≤ s0.size := by rw [← hs0]; exact (hfit.keys _ (List.getElem_mem hi1)).1
              have u2' : ∀ j ∈ P2, j ∉ P1 := fun j hj q => by
                have := u2 j hj
                have hjl := (List.getElem?_eq_some_iff.1 (u1 j q)).1
                rw [m1, metAll_in q hjl] at this
                cases this
              refine ⟨d1, P1 ++ P2, e2, ⟨P1, _, P2, _, B1, K2, rfl, by rw [List.flatMap_cons], fun x hx => ?_, fun y hy => (w2 y hy).1⟩, by rw [m2, m1, metAll_append], ?_, fun j hj => ?_, ?_⟩
              · rcases (w1 x hx).2 with z | z
                · omega
                · exact z
              · rw [List.nodup_append]
                exact ⟨n1, n2, fun j hj j' hj' e => u2' j' hj' (by rw [← e]; exact hj)⟩
              · rcases List.mem_append.1 hj with q | q
                · exact u1 j q
                · have := u2 j q
                  rw [m1, metAll_out (u2' j q)] at this
                  exact this
              · rcases q1 with q | q
                · exact .inl q
                · rcases z2 with z | z
                  · omega
                  · exact .inr (by omega)
      obtain ⟨d, P, e, K, m, n, u, _⟩ := loop p.kids 0 p.keys _ _ (fun k hk => (k4 k hk).1) rfl (by omega) k3 hk
      dsimp only at m u
      have haP : a ∉ P := fun q => by
        have := u a q
        rw [List.getElem?_set_self hlt] at this
        cases this
      refine ⟨d + 1, a :: P, by omega, ⟨p, hp, hM, .inr ⟨hl, P, rfl, by rw [allD_inner hp k2]; exact K⟩⟩, by rw [m, metAll_cons], List.nodup_cons.2 ⟨haP, n⟩, fun j hj => ?_⟩
      rcases List.mem_cons.1 hj with q | q
      · rw [q]; exact hm
      · have := u j q
        rw [List.getElem?_set_ne (fun z => haP (by rw [z]; exact q))] at this
        exact this

theorem Sub.inT {T : List Pg} : ∀ {d a : Nat} {P : List Nat} {ps : KV}, Sub T d a P ps → ∀ i ∈ P, i < T.length
  | 0, _, _, _, h => h.elim
  | d + 1, a, P, ps, h => by
    obtain ⟨p, hp, hm, h⟩ := h
    have ha := (List.getElem?_eq_some_iff.1 hp).1
    rcases h with ⟨_, _, e, _⟩ | ⟨_, P', e, h2⟩
    · subst e; intro i hi; rw [List.mem_singleton.1 hi]; exact ha
    · subst e
      intro i hi
      rcases List.mem_cons.1 hi with q | q
      · rw [q]; exact ha
      · have key : ∀ {ks : List Int} {ss : List ByteArray} {P : List Nat} {ps : KV}, KidsR (SubB T d) ks ss P ps → ∀ i ∈ P, i < T.length := by
          intro ks
          induction ks with
          | nil => intro _ _ _ h; exact h.elim
          | cons k ks ih =>
            intro ss P ps h i hi
            cases ss with
            | nil => exact Sub.inT h.2.1 i hi
            | cons s ss =>
              obtain ⟨P1, ps1, P2, ps2, h1, h2, e1, _⟩ := h
              subst e1
              rcases List.mem_append.1 hi with q | q
              · exact Sub.inT h1.1 i q
              · exact ih h2 i q
        exact key h2 i q
theorem Sub.low {T : List Pg} {d a : Nat} {P : List Nat} {ps : KV} (h : Sub T d a P ps) : 2 * d ≤ ps.length + 2 := by
  cases d with
  | zero => exact h.elim
  | succ d =>
    obtain ⟨p, hp, hm, ⟨e0, _, _, _⟩ | ⟨_, P', _, hk⟩⟩ := h
    · subst e0; omega
    · have := kids_size (m := 2 * d) (fun k P ps h => SubB.size h) hk
      have hl := hk.len
      have : 1 * (2 * d) ≤ p.kids.length * (2 * d) := Nat.mul_le_mul_right _ (by omega)
      omega

/-- a whole tree: its height, the numbers of its pages, its entries -/
structure Whole (T : List Pg) (d : Nat) (P : List Nat) (ps : KV) : Prop where
  len : T.length = 48
  sub : Sub T d 0 P ps
  nodup : P.Nodup
  rest : ∀ (i : Nat) p, T[i]? = some p → i ∉ P → nothingB p = true
  count : ps.length ≤ 60
section
variable {T : List Pg} {d : Nat} {P : List Nat} {ps : KV}
theorem Whole.pos (w : Whole T d P ps) : 1 ≤ d := by
  cases d with
  | zero => exact w.sub.elim
  | succ d => omega
theorem Whole.sound (w : Whole T d P ps) : heightD T = d ∧ entD T = ps := by
  have hd := w.sub.low
  have hc := w.count
  have h1 := w.pos
  have hw := Sub.walk T d 49 0 P ps 1 (mkS []) (mkS []) ws0 w.sub (by omega) (fun h => by omega) w.nodup (fun i hi => ws0_met i (by have := w.sub.inT i hi; rw [w.len] at this; exact this))
    (fun x _ => ⟨blt_mk _, .inl rfl⟩) (.inl rfl) (Nat.le_refl _)
  refine ⟨?_, w.sub.allD (by omega)⟩
  unfold heightD
  rw [decide_eq_true w.len]
  dsimp only
  rw [hw]
  dsimp only
  have hr : restD T (metAll ws0.met P) = true := by
    unfold restD
    rw [List.all_eq_true]
    intro i hi
    have hi := List.mem_range.1 hi
    have hi48 : i < 48 := by rw [w.len] at hi; exact hi
    by_cases hp : i ∈ P
    · rw [metAll_in hp (by show i < (List.replicate 48 false).length; simpa using hi48)]; rfl
    · rw [w.rest i (T[i]?.getD noPg) (by rw [List.getElem?_eq_getElem hi]; rfl) hp]; simp
  have h0 : ws0.count = 0 := rfl
  rw [hr, h0, Nat.zero_add, decide_eq_true hc]
  show 1 + d - 1 = d
  omega
theorem Whole.pos' (w : Whole T d P ps) : 0 < heightD T := by rw [w.sound.1]; exact w.pos
theorem SF.whole {st : WS} (s : SF T st) : ∃ P, Whole T (heightD T) P (entD T) := by
  obtain ⟨d, P, e, S, m, n, u⟩ := walkD_sub T _ _ _ _ _ _ _ s.walk (Nat.le_refl _)
  have hd : d = heightD T := by rw [s.height]; omega
  subst hd
  refine ⟨P, s.len, S, n, fun i p hp hi => ?_, s.ents.2.2.2⟩
  have hlt := (List.getElem?_eq_some_iff.1 hp).1
  have hi48 : i < 48 := by rw [s.len] at hlt; exact hlt
  have hm : st.met[i]? = some false := by rw [m, metAll_out hi, ws0_met i hi48]
  rcases rest_at s.rest hlt hp with h | h
  · rw [hm] at h; simp at h
  · exact h
theorem whole_of (h : 0 < heightD T) : ∃ P, Whole T (heightD T) P (entD T) := by
  obtain ⟨st, s⟩ := SF.of h
  exact s.whole
end
end Go.Am
namespace Go.Am

/-! a key among keys that rise; an entry among entries -/
def slotN (ks : List ByteArray) (key : ByteArray) : Nat := ks.countP fun s => blt s key
def slotB (ks : List ByteArray) (key : ByteArray) : Bool := decide (ks[slotN ks key]? = some key)
def kidN (ks : List ByteArray) (key : ByteArray) : Nat := slotN ks key + (match slotB ks key with | true => 1 | false => 0)
def findK : KV → ByteArray → Option ByteArray
  | [], _ => none
  | x :: ps, key => match decide (x.1 = key) with | true => some x.2 | false => findK ps key
abbrev Pw (ks : List ByteArray) : Prop := ks.Pairwise fun a b => blt a b = true
section
variable {s key : ByteArray} {ks : List ByteArray}
theorem slotN_nil : slotN [] key = 0 := rfl
theorem slotB_nil : slotB [] key = false := by simp [slotB]
theorem slot_lt (h : blt s key = true) : slotN (s :: ks) key = slotN ks key + 1 ∧ slotB (s :: ks) key = slotB ks key := by
  have e : slotN (s :: ks) key = slotN ks key + 1 := by unfold slotN; rw [List.countP_cons_of_pos (by simpa using h)]
  refine ⟨e, ?_⟩
  unfold slotB
  rw [e, List.getElem?_cons_succ]
theorem slotN_zero (h : ∀ t ∈ ks, blt t key = false) : slotN ks key = 0 := by
  unfold slotN
  rw [List.countP_eq_zero]
  intro t ht
  rw [h t ht]; simp
theorem slot_ge (pw : Pw (s :: ks)) (h : blt s key = false) : slotN (s :: ks) key = 0 ∧ slotB (s :: ks) key = decide (s = key) := by
  have e : slotN (s :: ks) key = 0 := slotN_zero fun t ht => by
    rcases List.mem_cons.1 ht with q | q
    · rw [q]; exact h
    · exact le_le h (blt_asy ((List.pairwise_cons.1 pw).1 t q))
  refine ⟨e, ?_⟩
  unfold slotB
  rw [e]; simp
theorem kidN_above (h : ∀ t ∈ ks, blt key t = true) : kidN ks key = 0 := by
  have e : slotN ks key = 0 := slotN_zero fun t ht => blt_asy (h t ht)
  have e2 : slotB ks key = false := by
    unfold slotB
    rw [e, decide_eq_false_iff_not]
    intro q
    have := h key (List.mem_of_getElem? q)
    rw [blt_irr] at this; cases this
  unfold kidN
  rw [e, e2]; rfl
theorem findK_cons (x : ByteArray × ByteArray) (ps : KV) (key : ByteArray) : findK (x :: ps) key = match decide (x.1 = key) with | true => some x.2 | false => findK ps key := rfl
theorem findK_none {ps : KV} (h : ∀ x ∈ ps, x.1 ≠ key) : findK ps key = none := by
  induction ps with
  | nil => rfl
  | cons x ps ih =>
    unfold findK
    rw [decide_eq_false (h x (by simp))]
    exact ih fun y hy => h y (by simp [hy])
theorem findK_append {ps qs : KV} : findK (ps ++ qs) key = match findK ps key with | some v => some v | none => findK qs key := by
  induction ps with
  | nil => rfl
  | cons x ps ih =>
    show (match decide (x.1 = key) with | true => some x.2 | false => findK (ps ++ qs) key) = match (match decide (x.1 = key) with | true => some x.2 | false => findK ps key) with | some v => some v | none => findK qs key
    cases decide (x.1 = key) with
    | true => rfl
    | false => exact ih
theorem findK_left {ps qs : KV} (h : ∀ x ∈ qs, x.1 ≠ key) : findK (ps ++ qs) key = findK ps key := by
  rw [findK_append, findK_none h]
  cases findK ps key <;> rfl
theorem findK_right {ps qs : KV} (h : ∀ x ∈ ps, x.1 ≠ key) : findK (ps ++ qs) key = findK qs key := by
  rw [findK_append, findK_none h]
theorem findK_zip : ∀ {ks vs : List ByteArray}, Pw ks → vs.length = ks.length → findK (ks.zip vs) key = match slotB ks key with | true => vs[slotN ks key]? | false => none
  | [], vs, _, _ => by rw [slotB_nil]; rfl
  | s :: ks, [], _, h => by simp at h
  | s :: ks, v :: vs, pw, h => by
    have pw' := (List.pairwise_cons.1 pw).2
    have hgt := (List.pairwise_cons.1 pw).1
    rw [List.zip_cons_cons]
    unfold findK
    dsimp only
    cases e : blt s key with
    | true =>
      rw [(slot_lt e).1, (slot_lt e).2, decide_eq_false (blt_ne e)]
      dsimp only
      rw [findK_zip pw' (by simpa using h)]
      rfl
    | false =>
      rw [(slot_ge pw e).1, (slot_ge pw e).2]
      by_cases q : s = key
      · rw [decide_eq_true q]; rfl
      · rw [decide_eq_false q]
        dsimp only
        refine findK_none fun x hx hxk => ?_
        have := hgt x.1 (zip_mem hx).1
        rw [hxk, e] at this
        cases this
theorem kids_find {R : Nat → List Nat → KV → Prop} : ∀ {ks : List Int} {ss : List ByteArray} {P : List Nat} {ps : KV}, KidsR R ks ss P ps → Pw ss →
    ∃ k P1 ps1, ks[kidN ss key]? = some k ∧ R k.toNat P1 ps1 ∧ findK ps key = findK ps1 key
  | [], _, _, _, h, _ => h.elim
  | k :: ks, [], P, ps, h, _ => ⟨k, P, ps, by unfold kidN; rw [slotB_nil]; rfl, h.2, rfl⟩
  | k :: ks, s :: ss, P, ps, ⟨P1, ps1, P2, ps2, h1, h2, e1, e2, h3, h4⟩, pw => by
    have pw' := (List.pairwise_cons.1 pw).2
    have hgt := (List.pairwise_cons.1 pw).1
    subst e2
    have right : kidN (s :: ss) key = kidN ss key + 1 → blt key s = false → ∃ k' P' ps', (k :: ks)[kidN (s :: ss) key]? = some k' ∧ R k'.toNat P' ps' ∧ findK (ps1 ++ ps2) key = findK ps' key := fun e q => by
      obtain ⟨k', P', ps', q1, q2, q3⟩ := kids_find h2 pw'
      refine ⟨k', P', ps', by rw [e, List.getElem?_cons_succ]; exact q1, q2, ?_⟩
      rw [findK_right fun x hx e => ?_]
      · exact q3
      · have := h3 x hx
        rw [e, q] at this; cases this
    cases e : blt s key with
    | true => exact right (by unfold kidN; rw [(slot_lt e).1, (slot_lt e).2]; omega) (blt_asy e)
    | false =>
      by_cases q : s = key
      · refine right ?_ (by rw [q, blt_irr])
        have : kidN ss key = 0 := kidN_above fun t ht => by rw [← q]; exact hgt t ht
        rw [this]
        unfold kidN
        rw [(slot_ge pw e).1, (slot_ge pw e).2, decide_eq_true q]
      · have hks : blt key s = true := by
          rcases blt_tri s key with z | z | z
          · rw [z.1] at e; cases e
          · exact (q z.1).elim
          · exact z.1
        refine ⟨k, P1, ps1, ?_, h1, findK_left fun y hy e => ?_⟩
        · have : kidN (s :: ss) key = 0 := by
            unfold kidN
            rw [(slot_ge pw e).1, (slot_ge pw e).2, decide_eq_false q]; rfl
          rw [this]; rfl
        · have := h4 y hy
          rw [e, hks] at this; cases this
end
theorem findK_some {ps : KV} {key v : ByteArray} (h : findK ps key = some v) : (key, v) ∈ ps := by
  induction ps with
  | nil => cases h
  | cons y ps ih =>
    unfold findK at h
    by_cases e : y.1 = key
    · rw [decide_eq_true e] at h
      cases h
      subst e
      simp
    · rw [decide_eq_false e] at h
      simp [ih h]
theorem findK_is {ps : KV} {key : ByteArray} : (findK ps key).isSome = ps.any fun x => decide (x.1 = key) := by
  induction ps with
  | nil => rfl
  | cons y ps ih =>
    unfold findK
    rw [List.any_cons, ← ih]
    cases decide (y.1 = key) <;> rfl
end Go.Am
namespace Go.Am

theorem pw_rising {ks : List ByteArray} (h : Pw ks) : Rising ks := by
  intro i hi
  have := List.pairwise_iff_getElem.1 h i (i + 1) (by omega) hi (by omega)
  rw [blt_eq]; exact this
/-! a page over its kids -/
def PageSub (T : List Pg) (d : Nat) (p : Pg) (P : List Nat) (e : KV) : Prop :=
  MayP p ∧ ((d = 0 ∧ p.leaf = true ∧ P = [] ∧ e = p.keys.zip p.vals) ∨ (p.leaf = false ∧ KidsR (SubB T d) p.kids p.keys P e))
theorem PageSub.sub {T : List Pg} {d a : Nat} {p : Pg} {P : List Nat} {e : KV} (h : PageSub T d p P e) (hp : T[a]? = some p) : Sub T (d + 1) a (a :: P) e := by
  obtain ⟨hm, ⟨e0, hl, e1, e2⟩ | ⟨hl, hk⟩⟩ := h
  · subst e1; exact ⟨p, hp, hm, .inl ⟨e0, hl, rfl, e2⟩⟩
  · exact ⟨p, hp, hm, .inr ⟨hl, P, rfl, hk⟩⟩
theorem PageSub.keep {T T' : List Pg} {d : Nat} {p : Pg} {P : List Nat} {e : KV} (h : PageSub T d p P e) (hk : ∀ i ∈ P, T'[i]? = T[i]?) : PageSub T' d p P e := by
  obtain ⟨hm, h | ⟨hl, h⟩⟩ := h
  · exact ⟨hm, .inl h⟩
  · exact ⟨hm, .inr ⟨hl, h.imp fun k Q qs hs hin => hs.keep fun i hi => hk i (hin i hi)⟩⟩
/-- a level: pages with their least keys -/
def LV (T : List Pg) (d : Nat) : Lvl → List Nat → KV → Prop
  | [], P, e => P = [] ∧ e = []
  | (p, s) :: xs, P, e => ∃ P1 e1 P2 e2, P = P1 ++ P2 ∧ e = e1 ++ e2 ∧ PageSub T d p P1 e1 ∧ 2 ≤ p.keys.length ∧ (∃ y r, e1 = y :: r ∧ y.1 = s) ∧ LV T d xs P2 e2
theorem LV.append {T : List Pg} {d : Nat} : ∀ {xs ys : Lvl} {P Q : List Nat} {e f : KV}, LV T d xs P e → LV T d ys Q f → LV T d (xs ++ ys) (P ++ Q) (e ++ f)
  | [], ys, P, Q, e, f, ⟨h1, h2⟩, h => by subst h1; subst h2; exact h
  | (p, s) :: xs, ys, P, Q, e, f, ⟨P1, e1, P2, e2, h1, h2, h3, h4, h5, h6⟩, h => by
    subst h1; subst h2
    exact ⟨P1, e1, P2 ++ Q, e2 ++ f, by rw [List.append_assoc], by rw [List.append_assoc], h3, h4, h5, LV.append h6 h⟩
theorem LV.split {T : List Pg} {d : Nat} : ∀ {xs ys : Lvl} {P : List Nat} {e : KV}, LV T d (xs ++ ys) P e → ∃ P1 e1 P2 e2, P = P1 ++ P2 ∧ e = e1 ++ e2 ∧ LV T d xs P1 e1 ∧ LV T d ys P2 e2
  | [], ys, P, e, h => ⟨[], [], P, e, rfl, rfl, ⟨rfl, rfl⟩, h⟩
  | (p, s) :: xs, ys, P, e, ⟨P1, e1, P2, e2, h1, h2, h3, h4, h5, h6⟩ => by
    obtain ⟨Q1, f1, Q2, f2, g1, g2, g3, g4⟩ := LV.split h6
    exact ⟨P1 ++ Q1, e1 ++ f1, Q2, f2, by rw [h1, g1, List.append_assoc], by rw [h2, g2, List.append_assoc], ⟨P1, e1, Q1, f1, rfl, rfl, h3, h4, h5, g3⟩, g4⟩
theorem LV.keep {T T' : List Pg} {d : Nat} : ∀ {xs : Lvl} {P : List Nat} {e : KV}, LV T d xs P e → (∀ i ∈ P, T'[i]? = T[i]?) → LV T' d xs P e
  | [], P, e, h, _ => h
  | (p, s) :: xs, P, e, ⟨P1, e1, P2, e2, h1, h2, h3, h4, h5, h6⟩, hk => by
    subst h1
    exact ⟨P1, e1, P2, e2, rfl, h2, h3.keep fun i hi => hk i (List.mem_append.2 (.inl hi)), h4, h5, LV.keep h6 fun i hi => hk i (List.mem_append.2 (.inr hi))⟩
def kidsAt (base m : Nat) : List Int := (List.range m).map fun j => ((base + j : Nat) : Int)
theorem kidsAt_succ (base m : Nat) : kidsAt base (m + 1) = (base : Int) :: kidsAt (base + 1) m := by
  unfold kidsAt
  rw [List.range_succ_eq_map, List.map_cons, List.map_map]
  congr 1
  apply List.map_congr_left
  intro j _
  simp only [Function.comp]
  congr 1
  omega
/-- pages that stand one behind the other, as kids -/
theorem LV.kids {T : List Pg} {d next : Nat} : ∀ {xs : Lvl} {base : Nat} {P : List Nat} {e : KV}, xs ≠ [] → LV T d xs P e → (∀ j (h : j < xs.length), T[base + j]? = some (xs[j]).1) → Asc e → P.Nodup → (∀ i ∈ P, i < next) → next ≤ base →
    ∃ P', KidsR (SubB T (d + 1)) (kidsAt base xs.length) (xs.tail.map (·.2)) P' e ∧ P'.Nodup ∧ ∀ i, i ∈ P' ↔ i ∈ P ∨ (base ≤ i ∧ i < base + xs.length)
  | [], _, _, _, h, _, _, _, _, _, _ => (h rfl).elim
  | (p, s) :: xs, base, P, e, _, ⟨P1, e1, P2, e2, h1, h2, h3, h4, h5, h6⟩, hT, ha, hnd, hlt, hnb => by
    subst h1; subst h2
    obtain ⟨a1, a2, a3⟩ := List.pairwise_append.1 ha
    obtain ⟨d1, d2, d3⟩ := List.nodup_append.1 hnd
    have hp : T[base]? = some p := by have := hT 0 (by simp); simpa using this
    have hB : SubB T (d + 1) base (base :: P1) e1 := ⟨h3.sub hp, p, hp, h4⟩
    have hb1 : base ∉ P1 := fun q => by have := hlt base (List.mem_append.2 (.inl q)); omega
    cases xs with
    | nil =>
      obtain ⟨q1, q2⟩ := h6
      subst q1; subst q2
      refine ⟨base :: P1, ?_, List.nodup_cons.2 ⟨hb1, d1⟩, fun i => ?_⟩
      · show KidsR _ (kidsAt base (0 + 1)) [] _ _
        rw [kidsAt_succ]
        exact ⟨rfl, by simpa using hB⟩
      · rw [List.mem_cons, List.append_nil]
        show i = base ∨ i ∈ P1 ↔ i ∈ P1 ∨ (base ≤ i ∧ i < base + 1)
        constructor
        · rintro (q | q)
          · exact .inr (by omega)
          · exact .inl q
        · rintro (q | q)
          · exact .inr q
          · exact .inl (by omega)
    | cons x xs =>
      obtain ⟨P', k1, k2, k3⟩ := LV.kids (next := next) (base := base + 1) (by simp) h6 (fun j hj => by
        have := hT (j + 1) (by simp at hj ⊢; omega)
        rw [← Nat.add_assoc, Nat.add_right_comm] at this
        simpa using this) a2 d2 (fun i hi => hlt i (List.mem_append.2 (.inr hi))) (by omega)
      have hm : ∀ i, i ∈ P' → i ∉ base :: P1 := fun i hi q => by
        rcases (k3 i).1 hi with z | z
        · rcases List.mem_cons.1 q with y | y
          · subst y; have := hlt i (List.mem_append.2 (.inr z)); omega
          · exact d3 i y i z rfl
        · rcases List.mem_cons.1 q with y | y
          · omega
          · have := hlt i (List.mem_append.2 (.inl y)); omega
      refine ⟨(base :: P1) ++ P', ?_, ?_, fun i => ?_⟩
      · show KidsR _ (kidsAt base ((x :: xs).length + 1)) ((x :: xs).map (·.2)) _ _
        rw [kidsAt_succ, List.map_cons]
        obtain ⟨x1, x2⟩ := x
        obtain ⟨Q1, f1, Q2, f2, g1, g2, g3, g4, ⟨y, r, g5, g6⟩, g7⟩ := h6
        refine ⟨base :: P1, e1, P', e2, by simpa using hB, k1, rfl, rfl, fun z hz => ?_, fun z hz => ?_⟩
        · show blt z.1 x2 = true
          rw [← g6]
          exact a3 z hz y (by rw [g2, g5]; simp)
        · show blt z.1 x2 = false
          rw [← g6]
          rw [g2, g5, List.cons_append] at hz a2
          rcases List.mem_cons.1 hz with q | q
          · rw [q]; exact blt_irr _
          · exact blt_asy ((List.pairwise_cons.1 a2).1 z q)
      · exact List.nodup_append.2 ⟨List.nodup_cons.2 ⟨hb1, d1⟩, k2, fun i hi j hj e => hm j hj (by rw [← e]; exact hi)⟩
      · rw [List.mem_append, k3, List.mem_cons, List.mem_append]
        simp only [List.length_cons]
        constructor
        · rintro ((q | q) | (q | q))
          · exact .inr (by omega)
          · exact .inl (.inl q)
          · exact .inl (.inr q)
          · exact .inr (by omega)
        · rintro ((q | q) | q)
          · exact .inl (.inr q)
          · exact .inr (.inl q)
          · rcases Nat.eq_or_lt_of_le q.1 with z | z
            · exact .inl (.inl z.symm)
            · exact .inr (.inr (by omega))

/-! pages placed -/
/-! cuts -/
end Go.Am
namespace Go.Am
/-! 82: cryostat/node.Slot -/
def node_Slot.cx : Cx := ⟨tys, [], [(3, [0, 1, 6, 9, 10, 11])], [], [], noDyn, [.tmp 4, .tmp 5]⟩
def node_Slot : Sm := fun xs H Q => ∃ k, callK (node_Slot.cx) Go.Proofs.Tryz.f82 k xs H Q
def node_Slot.l3 (k : Nat) (xx0 : Pl) (nx1 : Nat) (sx2 : ByteArray) (ix3 : Int) (xx4 : Pl) (nx5 : Nat) (ix6 : Int) (ix7 : Int) (H : Hp) (Q : Post) : Prop := loopK (node_Slot.cx) Go.Proofs.Tryz.f82 3 k ((.g (.sl xx0 nx1 1)) :: (.g (.str sx2)) :: B 4 ((.g (.int .i64 ix3)) :: .bad :: .bad :: (.g (.sl xx4 nx5 1)) :: (.g (.int .i64 ix6)) :: (.g (.int .i64 ix7)) :: B 22 ([]))) H Q
theorem node_Slot_eq (k : Nat) (z0 : Pl) (z0n : Nat) (z1 : ByteArray) (H : Hp) (Q : Post) : callK (node_Slot.cx) Go.Proofs.Tryz.f82 (k + 1) [.g (.sl z0 z0n 1), .g (.str z1)] H Q = (
 node_Slot.l3 k z0 z0n z1 0 z0 z0n (nI z0n) 0 H Q) := by kernel_rfl
theorem node_Slot.l3_eq (k : Nat) (xx0 : Pl) (nx1 : Nat) (sx2 : ByteArray) (ix3 : Int) (xx4 : Pl) (nx5 : Nat) (ix6 : Int) (ix7 : Int) (H : Hp) (Q : Post) : node_Slot.l3 (k + 1) xx0 nx1 sx2 ix3 xx4 nx5 ix6 ix7 H Q = (
 bite (ltI ix7 ix6)
 (chk true (chk ((leI 0 ix7) && (ltI ix7 (nI nx5))) (pS xx4 fun n0 n1 =>
  rd H n0 (n1 + ((tN ix7) * 1)) fun v2 =>
  dS v2 fun s3 =>
  bite (strLt s3 sx2)
  (node_Slot.l3 k xx0 nx1 sx2 (wrapI .i64 (ix3 + 1)) xx4 nx5 ix6 (wrapI .i64 (ix7 + 1)) H Q)
  (node_Slot.l3 k xx0 nx1 sx2 ix3 xx4 nx5 ix6 (wrapI .i64 (ix7 + 1)) H Q))))
 (bite (ltI ix3 (nI nx1))
  (chk true (chk ((leI 0 ix3) && (ltI ix3 (nI nx1))) (pS xx0 fun n4 n5 =>
   rd H n4 (n5 + ((tN ix3) * 1)) fun v6 =>
   dS v6 fun s7 =>
   Q (.tup [(.s (.int .i64 ix3)), (.s (.bool (strEq s7 sx2)))]) H)))
  (Q (.tup [(.s (.int .i64 ix3)), (.s (.bool false))]) H))) := by kernel_rfl
theorem node_Slot_ok : Sound Go.Proofs.Tryz.prog 82 (node_Slot) := prog_ok.sound (cx := node_Slot.cx) rfl (EnvOK.nil _) (noDyn_ok _) Go.Proofs.Tryz.func82 rfl

/-! 81: cryostat/find.Kid -/
def find_Kid.cx : Cx := ⟨tys, [], [], [], [(82, node_Slot)], noDyn, [.tmp 4]⟩
def find_Kid : Sm := fun xs H Q => ∃ k, callK (find_Kid.cx) Go.Proofs.Tryz.f81 k xs H Q
theorem find_Kid_eq (k : Nat) (z0 : Pl) (z1 : ByteArray) (H : Hp) (Q : Post) : callK (find_Kid.cx) Go.Proofs.Tryz.f81 (k + 1) [.g (.ptr z0), .g (.str z1)] H Q = (
 pS z0 fun n0 n1 =>
 rd H n0 (n1 + 2) fun v2 =>
 dL 1 v2 fun x3 n4 =>
 cl node_Slot [(.g (.sl x3 n4 1)), (.g (.str z1))] H fun r5 H6 =>
 rT r5 fun c7 =>
 uR c7 fun q8 c9 =>
 rS q8 fun v10 =>
 dI .i64 v10 fun i11 =>
 uR c9 fun q12 c13 =>
 rS q12 fun v14 =>
 dB v14 fun b15 =>
 uE c13 (bite b15
 (Q (.g (.int .i64 (wrapI .i64 (i11 + 1)))) H6)
 (Q (.g (.int .i64 i11)) H6))) := by kernel_rfl
theorem find_Kid_ok : Sound Go.Proofs.Tryz.prog 81 (find_Kid) := prog_ok.sound (cx := find_Kid.cx) rfl (EnvOK.cons ((node_Slot_ok).c ⟨_, Go.Proofs.Tryz.func82, by kernel_rfl, by kernel_rfl⟩) (EnvOK.nil _)) (noDyn_ok _) Go.Proofs.Tryz.func81 rfl

/-! 50: cryostat/find.Find -/
def find_Find.cx : Cx := ⟨tys, [], [(4, [1, 2, 7])], [], [(36, sound_Sound), (81, find_Kid), (82, node_Slot)], noDyn, [.tmp 4, .tmp 5, .tmp 6]⟩
def find_Find : Sm := fun xs H Q => ∃ k, callK (find_Find.cx) Go.Proofs.Tryz.f50 k xs H Q
def find_Find.l4 (k : Nat) (sx0 : ByteArray) (xx1 : Pl) (nx2 : Nat) (nx3 : Nat) (nx4 : Nat) (H : Hp) (Q : Post) : Prop := loopK (find_Find.cx) Go.Proofs.Tryz.f50 4 k (.bad :: (.g (.str sx0)) :: (.bx [(.sl xx1 nx2 5)]) :: B 4 ((.g (.ptr (some (nx3, nx4)))) :: B 43 ([]))) H Q
theorem find_Find_eq (k : Nat) (z0 : Pl) (z0n : Nat) (z1 : ByteArray) (H : Hp) (Q : Post) : callK (find_Find.cx) Go.Proofs.Tryz.f50 (k + 1) [.agg [.sl z0 z0n 5], .g (.str z1)] H Q = (
 cl sound_Sound [(.agg [(.sl z0 z0n 5)])] H fun r0 H1 =>
 rG r0 fun v2 =>
 dB v2 fun b3 =>
 bite (!b3)
 (Q (.tup [(.s (.str (mkS []))), (.s (.bool false)), (.s (.int .i64 1100))]) H1)
 (chk true (chk ((leI 0 0) && (ltI 0 (nI z0n))) (pS z0 fun n4 n5 =>
  find_Find.l4 k z1 z0 z0n n4 (n5 + ((tN 0) * 5)) H1 Q)))) := by kernel_rfl
theorem find_Find.l4_eq (k : Nat) (sx0 : ByteArray) (xx1 : Pl) (nx2 : Nat) (nx3 : Nat) (nx4 : Nat) (H : Hp) (Q : Post) : find_Find.l4 (k + 1) sx0 xx1 nx2 nx3 nx4 H Q = (
 rd H nx3 (nx4 + 1) fun v0 =>
 dB v0 fun b1 =>
 bite (!b1)
 (rd H nx3 (nx4 + 4) fun v2 =>
  dL 1 v2 fun x3 n4 =>
  cl find_Kid [(.g (.ptr (some (nx3, nx4)))), (.g (.str sx0))] H fun r5 H6 =>
  rG r5 fun v7 =>
  dI .i64 v7 fun i8 =>
  rd H6 nx3 (nx4 + 4) fun v9 =>
  dL 1 v9 fun x10 n11 =>
  eqv (.g (.sl x3 n4 1)) (.g (.sl x10 n11 1)) (chk true (chk ((leI 0 i8) && (ltI i8 (nI n4))) (pS x3 fun n12 n13 =>
  rd H6 n12 (n13 + ((tN i8) * 1)) fun v14 =>
  dI .i64 v14 fun i15 =>
  chk true (chk ((leI 0 i15) && (ltI i15 (nI nx2))) (pS xx1 fun n16 n17 =>
  find_Find.l4 k sx0 xx1 nx2 n16 (n17 + ((tN i15) * 5)) H6 Q))))))
 (rd H nx3 (nx4 + 2) fun v18 =>
  dL 1 v18 fun x19 n20 =>
  cl node_Slot [(.g (.sl x19 n20 1)), (.g (.str sx0))] H fun r21 H22 =>
  rT r21 fun c23 =>
  uR c23 fun q24 c25 =>
  rS q24 fun v26 =>
  dI .i64 v26 fun i27 =>
  uR c25 fun q28 c29 =>
  rS q28 fun v30 =>
  dB v30 fun b31 =>
  uE c29 (bite (!b31)
  (Q (.tup [(.s (.str (mkS []))), (.s (.bool false)), (.s (.int .i64 0))]) H22)
  (rd H22 nx3 (nx4 + 3) fun v32 =>
   dL 1 v32 fun x33 n34 =>
   chk true (chk ((leI 0 i27) && (ltI i27 (nI n34))) (pS x33 fun n35 n36 =>
   rd H22 n35 (n36 + ((tN i27) * 1)) fun v37 =>
   dS v37 fun s38 =>
   Q (.tup [(.s (.str s38)), (.s (.bool true)), (.s (.int .i64 0))]) H22)))))) := by kernel_rfl
theorem find_Find_ok : Sound Go.Proofs.Tryz.prog 50 (find_Find) := prog_ok.sound (cx := find_Find.cx) rfl (EnvOK.cons ((sound_Sound_ok).c ⟨_, Go.Proofs.Tryz.func36, by kernel_rfl, by kernel_rfl⟩) (EnvOK.cons ((find_Kid_ok).c ⟨_, Go.Proofs.Tryz.func81, by kernel_rfl, by kernel_rfl⟩) (EnvOK.cons ((node_Slot_ok).c ⟨_, Go.Proofs.Tryz.func82, by kernel_rfl, by kernel_rfl⟩) (EnvOK.nil _)))) (noDyn_ok _) Go.Proofs.Tryz.func50 rfl

/-! 33: cryostat/cryostatref9.Find -/
def ref9_Find.cx : Cx := ⟨tys, [], [(5, [1, 7, 9])], [], [(26, ref9_All)], noDyn, [.tmp 4, .tmp 5, .tmp 6]⟩
def ref9_Find : Sm := fun xs H Q => ∃ k, callK (ref9_Find.cx) Go.Proofs.Tryz.f33 k xs H Q
def ref9_Find.l5 (k : Nat) (sx0 : ByteArray) (xx1 : Pl) (nx2 : Nat) (ix3 : Int) (H : Hp) (Q : Post) : Prop := loopK (ref9_Find.cx) Go.Proofs.Tryz.f33 5 k (.bad :: (.g (.str sx0)) :: B 5 ((.g (.sl xx1 nx2 2)) :: .bad :: (.g (.int .i64 ix3)) :: B 25 ([]))) H Q
theorem ref9_Find_eq (k : Nat) (z0 : Pl) (z0n : Nat) (z1 : ByteArray) (H : Hp) (Q : Post) : callK (ref9_Find.cx) Go.Proofs.Tryz.f33 (k + 1) [.agg [.sl z0 z0n 5], .g (.str z1)] H Q = (
 cl ref9_All [(.agg [(.sl z0 z0n 5)])] H fun r0 H1 =>
 rT r0 fun c2 =>
 uR c2 fun q3 c4 =>
 rS q3 fun v5 =>
 dL 2 v5 fun x6 n7 =>
 uR c4 fun q8 c9 =>
 rS q8 fun v10 =>
 dI .i64 v10 fun i11 =>
 uE c9 (bite (!(eqI i11 0))
 (Q (.tup [(.s (.str (mkS []))), (.s (.bool false)), (.s (.int .i64 1100))]) H1)
 (ref9_Find.l5 k z1 x6 n7 0 H1 Q))) := by kernel_rfl
theorem ref9_Find.l5_eq (k : Nat) (sx0 : ByteArray) (xx1 : Pl) (nx2 : Nat) (ix3 : Int) (H : Hp) (Q : Post) : ref9_Find.l5 (k + 1) sx0 xx1 nx2 ix3 H Q = (
 bite (ltI ix3 (nI nx2))
 (chk true (chk ((leI 0 ix3) && (ltI ix3 (nI nx2))) (pS xx1 fun n0 n1 =>
  rd H n0 ((n1 + ((tN ix3) * 2)) + 0) fun v2 =>
  dS v2 fun s3 =>
  bite (strEq s3 sx0)
  (chk true (chk ((leI 0 ix3) && (ltI ix3 (nI nx2))) (pS xx1 fun n4 n5 =>
   rd H n4 ((n5 + ((tN ix3) * 2)) + 1) fun v6 =>
   dS v6 fun s7 =>
   Q (.tup [(.s (.str s7)), (.s (.bool true)), (.s (.int .i64 0))]) H)))
  (ref9_Find.l5 k sx0 xx1 nx2 (wrapI .i64 (ix3 + 1)) H Q))))
 (Q (.tup [(.s (.str (mkS []))), (.s (.bool false)), (.s (.int .i64 0))]) H)) := by kernel_rfl
theorem ref9_Find_ok : Sound Go.Proofs.Tryz.prog 33 (ref9_Find) := prog_ok.sound (cx := ref9_Find.cx) rfl (EnvOK.cons ((ref9_All_ok).c ⟨_, Go.Proofs.Tryz.func26, by kernel_rfl, by kernel_rfl⟩) (EnvOK.nil _)) (noDyn_ok _) Go.Proofs.Tryz.func33 rfl

/-! 27: cryostat/cryostatlaw0.SamePairs -/
def law0_SamePairs.cx : Cx := ⟨tys, [], [(4, [0, 1, 5])], [], [], noDyn, [.tmp 4]⟩
def law0_SamePairs : Sm := fun xs H Q => ∃ k, callK (law0_SamePairs.cx) Go.Proofs.Tryz.f27 k xs H Q
def law0_SamePairs.l4 (k : Nat) (xx0 : Pl) (nx1 : Nat) (xx2 : Pl) (nx3 : Nat) (ix4 : Int) (H : Hp) (Q : Post) : Prop := loopK (law0_SamePairs.cx) Go.Proofs.Tryz.f27 4 k ((.g (.sl xx0 nx1 2)) :: (.g (.sl xx2 nx3 2)) :: B 3 ((.g (.int .i64 ix4)) :: B 20 ([]))) H Q
theorem law0_SamePairs_eq (k : Nat) (z0 : Pl) (z0n : Nat) (z1 : Pl) (z1n : Nat) (H : Hp) (Q : Post) : callK (law0_SamePairs.cx) Go.Proofs.Tryz.f27 (k + 1) [.g (.sl z0 z0n 2), .g (.sl z1 z1n 2)] H Q = (
 bite (!(eqI (nI z0n) (nI z1n)))
 (Q (.g (.bool false)) H)
 (law0_SamePairs.l4 k z0 z0n z1 z1n 0 H Q)) := by kernel_rfl
theorem law0_SamePairs.l4_eq (k : Nat) (xx0 : Pl) (nx1 : Nat) (xx2 : Pl) (nx3 : Nat) (ix4 : Int) (H : Hp) (Q : Post) : law0_SamePairs.l4 (k + 1) xx0 nx1 xx2 nx3 ix4 H Q = (
 bite (ltI ix4 (nI nx1))
 (chk true (chk ((leI 0 ix4) && (ltI ix4 (nI nx1))) (pS xx0 fun n0 n1 =>
  rd H n0 (n1 + ((tN ix4) * 2)) fun v2 =>
  dS v2 fun s3 =>
  rd H n0 ((n1 + ((tN ix4) * 2)) + 1) fun v4 =>
  dS v4 fun s5 =>
  chk true (chk ((leI 0 ix4) && (ltI ix4 (nI nx3))) (pS xx2 fun n6 n7 =>
  rd H n6 (n7 + ((tN ix4) * 2)) fun v8 =>
  dS v8 fun s9 =>
  rd H n6 ((n7 + ((tN ix4) * 2)) + 1) fun v10 =>
  dS v10 fun s11 =>
  bite (!((strEq s3 s9) && ((strEq s5 s11) && true)))
  (Q (.g (.bool false)) H)
  (law0_SamePairs.l4 k xx0 nx1 xx2 nx3 (wrapI .i64 (ix4 + 1)) H Q))))))
 (Q (.g (.bool true)) H)) := by kernel_rfl
theorem law0_SamePairs_ok : Sound Go.Proofs.Tryz.prog 27 (law0_SamePairs) := prog_ok.sound (cx := law0_SamePairs.cx) rfl (EnvOK.nil _) (noDyn_ok _) Go.Proofs.Tryz.func27 rfl

end Go.Am
namespace Go.Am

/-! a tree whose walk goes well, without the walk's state -/
def WfT (T : List Pg) : Nat → Nat → Prop
  | 0, _ => False
  | f + 1, a => ∃ p, T[a]? = some p ∧ MayP p ∧ ∀ k ∈ p.kids, WfT T f k.toNat
theorem walkD_good (T : List Pg) : ∀ (f a deep : Nat) (lo hi : ByteArray) (st st' : WS), walkD T f a deep lo hi st = some st' → WfT T f a := by
  intro f
  induction f with
  | zero => intro _ _ _ _ _ _ h; cases h
  | succ f ih =>
    intro a deep lo hi st st' h
    obtain ⟨p, hp, hok, hcase⟩ := walkD_step h
    obtain ⟨_, hmay, _, _⟩ := okD_met hok
    have hm := (mayB_iff p).1 hmay
    refine ⟨p, hp, hm, fun k hk => ?_⟩
    rcases hcase with ⟨hl, _⟩ | ⟨_, hks⟩
    · rw [(hm.2.leaf hl).2.1] at hk; simp at hk
    · have key := kidsD_ind' (P := fun ks _ _ => ∀ k ∈ ks, WfT T f k.toNat) (fun _ k hk => (by simp at hk)) (fun k ks i s s1 s' hr hP k' hk' => by
        rcases List.mem_cons.1 hk' with e | e
        · rw [e]; exact ih _ _ _ _ _ _ hr
        · exact hP k' e) _ _ _ _ hks
      exact key k hk
theorem SF.good {T : List Pg} {st : WS} (s : SF T st) : WfT T 49 0 := walkD_good T _ _ _ _ _ _ _ s.walk
theorem WfT_vals {p : Pg} (h : MayP p) : p.vals.length ≤ p.keys.length ∧ (p.keys.zip p.vals).length = p.vals.length := by
  have : p.vals.length ≤ p.keys.length := by
    cases hl : p.leaf with
    | true => have := (h.2.leaf hl).1; omega
    | false => have := (h.2.inner hl).2.1; rw [this]; simp
  exact ⟨this, by rw [List.length_zip]; omega⟩
theorem flat_len {T : List Pg} {f : Nat} (ks : List Int) (i : Nat) (hi : i < ks.length) : (ks.drop i).flatMap (fun k => allD T f k.toNat) = allD T f (ks[i]).toNat ++ (ks.drop (i + 1)).flatMap (fun k => allD T f k.toNat) := by
  rw [List.drop_eq_getElem_cons hi, List.flatMap_cons]
theorem allD_eq {T : List Pg} {f a : Nat} {p : Pg} (hp : T[a]? = some p) : allD T (f + 1) a = p.keys.zip p.vals ++ p.kids.flatMap fun k => allD T f k.toNat := by rw [allD, hp]
theorem take_zip {α : Type} (l : List α) (i : Nat) (hi : i < l.length) : l.take (i + 1) = l.take i ++ [l[i]] := by rw [List.take_succ_eq_append_getElem hi]

section
variable {H0 : Hp} {x : Pl} {cs : List PC} {T : List Pg}
/-- append a pair -/
theorem ap_kv' {H0 H : Hp} {a : Pl} {n : Nat} {ps : KV} {K : Pl → Nat → Hp → Prop} (h0 : H0 <+: H) (h : Own H H0.length tKV a (n * 2) (kvCells ps)) (hl : ps.length = n) (x y : ByteArray) (hn : n ≤ 100000)
    (hK : ∀ a' H', H0 <+: H' → Own H' H0.length tKV a' ((n + 1) * 2) (kvCells (ps ++ [(x, y)])) → (ps ++ [(x, y)]).length = n + 1 → Ex H0 a H H' → (∀ l o, a' = some (l, o) → H.length ≤ l ∧ o = 0) → K a' (n + 1) H') : ap H tKV 2 32 a n [.str x, .str y] 1 K :=
  ap_z (by omega) h0 h (by rfl) (by unfold Lim; omega) fun a' H' o e f => hK a' H' e.pre (by rw [kvCells_append']; exact o) (by simp [hl]) e f
where
  kvCells_append' : ∀ {ps qs : KV}, kvCells (ps ++ qs) = kvCells ps ++ kvCells qs := by intro ps qs; simp [kvCells]
set_option maxRecDepth 100000 in
theorem ref9_all_main (hT : Tr H0 x 48 cs T) : ∀ (f at_ : Nat) (H : Hp) (Q : Post) (a : Pl) (n : Nat) (ps : KV), WfT T f at_ → at_ < 48 → H0 <+: H → Own H H0.length tKV a (n * 2) (kvCells ps) → ps.length = n → n + (allD T f at_).length ≤ 1000 →
    (∀ a' m H', H0 <+: H' → Own H' H0.length tKV a' (m * 2) (kvCells (ps ++ allD T f at_)) → (ps ++ allD T f at_).length = m → Q (.g (.sl a' m 2)) H') →
    ref9_all.at f [.agg [.sl x 48 5], .g (.int .i64 (at_ : Int)), .g (.sl a n 2)] H Q := by
  intro f
  induction f with
  | zero => intro _ _ _ _ _ _ h; exact h.elim
  | succ f ih =>
    intro at_ H Q a n ps hg hat h0 hO hl hb hQ
    obtain ⟨p, hp, hm, hkids⟩ := hg
    obtain ⟨l, o, c, p', rfl, hc, hp', hpc, g0, g1, g2, g3, g4⟩ := hT.get hat
    rw [hp] at hp'; cases hp'
    obtain ⟨hv1, hv2⟩ := WfT_vals hm
    rw [allD_eq hp] at hb hQ
    rw [List.length_append, hv2] at hb
    have hn1 := hpc.keys.len
    have hn2 := hpc.vals.len
    have hn3 := hpc.kids.len
    have hl3 := hpc.kids.lim
    have hl2 := hpc.vals.lim
    have k48 : ∀ k ∈ p.kids, 1 ≤ k ∧ k < 48 := fun k hk => by
      cases hlf : p.leaf with
      | true => rw [(hm.2.leaf hlf).2.1] at hk; simp at hk
      | false => exact (hm.2.inner hlf).2.2.2.1 k hk
    -- the kids
    have l7 : ∀ (F i : Nat) (H : Hp) (a : Pl) (n : Nat) (qs : KV), p.kids.length - i < F → i ≤ p.kids.length → H0 <+: H → Own H H0.length tKV a (n * 2) (kvCells qs) → qs.length = n → n + ((p.kids.drop i).flatMap fun k => allD T f k.toNat).length ≤ 1000 →
        qs ++ ((p.kids.drop i).flatMap fun k => allD T f k.toNat) = ps ++ (p.keys.zip p.vals ++ p.kids.flatMap fun k => allD T f k.toNat) →
        ref9_all.l7 (ref9_all.at f) F a n (some (l, o)) 48 c.u c.l c.a1 c.n1 c.a2 c.n2 c.a3 c.n3 (i : Int) H Q := by
      intro F
      induction F with
      | zero => intro i _ _ _ _ h; omega
      | succ F ihF =>
        intro i H a n qs hF hi h0 hO hl hb he
        rw [ref9_all.l7_eq]
        by_cases hik : i < p.kids.length
        · rw [flat_len p.kids i hik] at hb he
          rw [List.length_append] at hb
          have hmem := List.getElem_mem hik
          have hk := k48 _ hmem
          have ek : p.kids[i] = ((p.kids[i].toNat : Nat) : Int) := by omega
          rw [bite_t (by simp; omega), chk_true, (hpc.mono h0).kids.rd i rfl hik]
          generalize hkk : p.kids[i] = kk at *
          rw [ek]
          refine ih kk.toNat H _ a n qs (hkids kk hmem) (by omega) h0 hO hl (by omega) fun a' m H' h0' hO' hl' => ?_
          simp only [rG_g, dL_sl]
          rw [wrap_succ (by omega)]
          exact ihF (i + 1) H' a' m _ (by omega) (by omega) h0' hO' hl' (by rw [← hl', List.length_append, hl]; omega) (by rw [List.append_assoc]; exact he)
        · rw [bite_f (by simp; omega)]
          rw [List.drop_of_length_le (by omega), List.flatMap_nil, List.append_nil] at he
          subst he
          exact hQ a n H h0 hO hl
    -- the values
    have l3 : ∀ (F i : Nat) (H : Hp) (a : Pl) (n : Nat), p.vals.length - i + p.kids.length + 2 < F → i ≤ p.vals.length → H0 <+: H → Own H H0.length tKV a (n * 2) (kvCells (ps ++ (p.keys.zip p.vals).take i)) → (ps ++ (p.keys.zip p.vals).take i).length = n →
        ref9_all.l3 (ref9_all.at f) F a n (some (l, o)) 48 c.u c.l c.a1 c.n1 c.a2 c.n2 c.a3 c.n3 (i : Int) H Q := by
      intro F
      induction F with
      | zero => intro i _ _ _ h; omega
      | succ F ihF =>
        intro i H a n hF hi h0 hO hl'
        rw [ref9_all.l3_eq]
        have hnn : n = ps.length + i := by rw [← hl', List.length_append, List.length_take, hv2]; omega
        by_cases hik : i < p.vals.length
        · rw [bite_t (by simp; omega), chk_true, (hpc.mono h0).keys.rd i rfl (by omega), chk_true, (hpc.mono h0).vals.rd i rfl hik, chk_true]
          refine ap_kv' h0 hO hl' _ _ (by omega) fun a' H' h0' hO' hl2 _ _ => ?_
          rw [wrap_succ (by omega)]
          have e : (p.keys.zip p.vals)[i]'(by omega) = (p.keys[i]'(by omega), p.vals[i]) := by simp
          have e2 : ps ++ (p.keys.zip p.vals).take (i + 1) = ps ++ (p.keys.zip p.vals).take i ++ [(p.keys[i]'(by omega), p.vals[i])] := by
            rw [take_zip _ i (by omega), e, List.append_assoc]
          exact ihF (i + 1) H' a' (n + 1) (by omega) (by omega) h0' (by rw [e2]; exact hO') (by rw [e2]; exact hl2)
        · rw [bite_f (by simp; omega)]
          have e : (p.keys.zip p.vals).take i = p.keys.zip p.vals := List.take_of_length_le (by omega)
          rw [e] at hO hl'
          refine l7 F 0 H a n _ (by omega) (by omega) h0 hO hl' ?_ (by rw [List.drop_zero, List.append_assoc])
          rw [List.drop_zero]
          omega
    refine ⟨p.vals.length + p.kids.length + 4, ?_⟩
    rw [ref9_all_eq, chk_true]
    refine chk_of (by simp; omega) ?_
    have etN : tN (at_ : Int) = at_ := rfl
    rw [pS_some, etN, rdPage_of (gt_pre h0 g0) (gt_pre h0 g1) (gt_pre h0 g2) (gt_pre h0 g3) (gt_pre h0 g4)]
    exact l3 _ 0 H a n (by omega) (by omega) h0 (by simpa using hO) (by simpa using hl)
end

def allE (T : List Pg) : KV := match decide (0 < heightD T) with | true => entD T | false => []
def errE (e : Int) (T : List Pg) : Int := match decide (0 < heightD T) with | true => 0 | false => e
theorem allE_len (T : List Pg) : (allE T).length ≤ 60 := by
  unfold allE
  by_cases h : 0 < heightD T
  · rw [decide_eq_true h]
    obtain ⟨st, s⟩ := SF.of h
    exact s.ents.2.2.2
  · rw [decide_eq_false h]; simp
section
variable {H : Hp} {Q : Post} {x : Pl} {n : Nat} {cs : List PC} {T : List Pg}
theorem ref9_All_spec (hT : Tr H x n cs T) (hQ : ∀ a m H', H <+: H' → Own H' H.length tKV a (m * 2) (kvCells (allE T)) → (allE T).length = m → Q (.tup [.s (.sl a m 2), .s (.int .i64 (errE 1400 T))]) H') : ref9_All [.agg [.sl x n 5]] H Q := by
  refine ⟨1, ?_⟩
  rw [ref9_All_eq]
  refine ref9_Sound_spec hT fun H1 p1 => ?_
  simp only [rG_g, dB_bool]
  unfold allE errE at hQ
  by_cases h : 0 < heightD T
  · rw [decide_eq_true h] at hQ ⊢
    rw [bite_f (by decide)]
    obtain ⟨st, s⟩ := SF.of h
    have hn : n = 48 := by have := hT.lenT; have := s.len; omega
    subst hn
    refine ⟨49, ?_⟩
    refine ref9_all_main (hT.mono p1) 49 0 H1 _ none 0 [] s.good (by omega) (List.prefix_refl _) (.inl ⟨rfl, rfl, rfl⟩) rfl (by have := s.ents.2.2.2; unfold entD at this; omega) fun a m H' p' hO hl => ?_
    simp only [rG_g, dL_sl]
    exact hQ a m H' (p1.trans p') (hO.base (pre_len p1)) hl
  · rw [decide_eq_false h] at hQ ⊢
    rw [bite_t (by decide)]
    exact hQ none 0 H1 p1 (.inl ⟨rfl, rfl, rfl⟩) rfl
end
end Go.Am
namespace Go.Am

theorem kvCells_append {ps qs : KV} : kvCells (ps ++ qs) = kvCells ps ++ kvCells qs := by simp [kvCells]
/-- entries gathered at a place; B: the heap ahead of the place -/
structure SJ (B H : Hp) (t : TypeId) (ps : KV) : Prop where
  pre : B <+: H
  out : ∃ a n, H[B.length]? = some (.row true t [.sl a n 2]) ∧ Own H (B.length + 1) tKV a (n * 2) (kvCells ps) ∧ ps.length = n
section
variable {B H : Hp} {t : TypeId} {ps : KV} {lf lt : Nat} {lo hi : ByteArray} {Q : Post}
theorem SJ.add (g : SJ B H t ps) (k v : ByteArray) (hn : ps.length ≤ 1000) {K : Hp → Prop} (hK : ∀ H', SJ B H' t (ps ++ [(k, v)]) → K H') :
    rd H B.length 0 fun c => dL 2 c fun x n => chk true (ap H tKV 2 32 x n [.str k, .str v] 1 fun x n H => wr H B.length 0 (.sl x n 2) fun H => K H) := by
  obtain ⟨a, n, hrow, hO, hl⟩ := g.out
  have hlt := (List.getElem?_eq_some_iff.1 hrow).1
  rw [rd_of (v := .sl a n 2) (by rw [gt_some hrow]; rfl), dL_sl, chk_true]
  have hb : (H.take (B.length + 1)).length = B.length + 1 := by rw [List.length_take]; omega
  refine ap_z (H0 := H.take (B.length + 1)) (by omega) (List.take_prefix _ _) (by rw [hb]; exact hO) rfl (by unfold Lim; omega) fun a' H' o e f => ?_
  rw [hb] at o
  have hrow' : H'[B.length]? = some (.row true t [.sl a n 2]) := by
    rw [pre_at e.pre (by omega), List.getElem?_take, if_pos (by omega)]; exact hrow
  rw [wr_of hrow' (by simp)]
  have hB : B <+: H' := by
    refine List.IsPrefix.trans ?_ e.pre
    exact List.prefix_take_iff.2 ⟨g.pre, by omega⟩
  refine hK _ ⟨pre_set hB (Nat.le_refl _) _, a', n + 1, ?_, ?_, by simp [hl]⟩
  · rw [List.getElem?_set_self (List.getElem?_eq_some_iff.1 hrow').1]; rfl
  · rw [kvCells_append]
    exact Own.keep o fun l e' => by rw [List.getElem?_set_ne (by have := (f l 0 e').1; omega)]
end

section
variable {H0 B : Hp} {x : Pl} {cs : List PC} {T : List Pg} {t : TypeId} {lp lf lt gf : Nat} {lo hi : ByteArray} {E : Nat → Sm}
end

section
variable {H : Hp} {Q : Post} {x : Pl} {n : Nat} {cs : List PC} {T : List Pg} {lo hi : ByteArray}
end
end Go.Am
namespace Go.Am

theorem kvCells_drop : ∀ (ps : KV) (k : Nat), kvCells (ps.drop k) = (kvCells ps).drop (k * 2)
  | [], k => by simp [kvCells]
  | x :: ps, 0 => by simp
  | x :: ps, k + 1 => by
    rw [List.drop_succ_cons, kvCells_drop ps k]
    have e : (k + 1) * 2 = k * 2 + 1 + 1 := by omega
    rw [e]; rfl
theorem kvCells_take : ∀ (ps : KV) (k : Nat), kvCells (ps.take k) = (kvCells ps).take (k * 2)
  | [], k => by simp [kvCells]
  | x :: ps, 0 => by simp [kvCells]
  | x :: ps, k + 1 => by
    have e : (k + 1) * 2 = k * 2 + 1 + 1 := by omega
    rw [List.take_succ_cons, e]
    show GV.str x.1 :: GV.str x.2 :: kvCells (ps.take k) = _
    rw [kvCells_take ps k]; rfl
theorem Kv.part {H : Hp} {a : Pl} {n : Nat} {ps : KV} (h : Kv H a n ps) (k m : Nat) (hm : k + m ≤ n) : Kv H (shf a (k * 2)) m ((ps.drop k).take m) := by
  refine ⟨?_, by rw [List.length_take, List.length_drop, h.len]; omega⟩
  rw [kvCells_take, kvCells_drop]
  exact cells_part h.cells (k * 2) (m * 2) (by omega)

section
variable {H : Hp} {Q : Post}
theorem law0_SamePairs_spec {a1 a2 : Pl} {n1 n2 : Nat} {xs ys : KV} (h1 : Kv H a1 n1 xs) (h2 : Kv H a2 n2 ys) (hn : n1 ≤ 100000) (hQ : ∀ b, (b = true ↔ xs = ys) → Q (.g (.bool b)) H) : law0_SamePairs [.g (.sl a1 n1 2), .g (.sl a2 n2 2)] H Q := by
  have l1 := h1.len
  have l2 := h2.len
  refine ⟨n1 + 2, ?_⟩
  rw [law0_SamePairs_eq]
  refine bite_of (fun e => hQ false ⟨fun q => (by cases q), fun q => ?_⟩) (fun e => ?_)
  · subst q
    simp at e; omega
  have hnn : n1 = n2 := by simp at e; omega
  have loop : ∀ (F i : Nat), n1 - i < F → i ≤ n1 → (∀ j (h : j < xs.length) (h' : j < ys.length), j < i → xs[j] = ys[j]) → law0_SamePairs.l4 F a1 n1 a2 n2 (i : Int) H Q := by
    intro F
    induction F with
    | zero => intro i h; omega
    | succ F ih =>
      intro i hF hi he
      rw [law0_SamePairs.l4_eq]
      by_cases hik : i < n1
      · obtain ⟨l, o, ea, q1, q2⟩ := h1.get (i := i) (by omega)
        obtain ⟨l', o', ea', q1', q2'⟩ := h2.get (i := i) (by omega)
        subst ea; subst ea'
        have etN : tN (i : Int) = i := rfl
        rw [bite_t (by simp; omega), chk_true]
        refine chk_of (by simp; omega) ?_
        rw [pS_some, etN, rd_of q1, dS_str, rd_of q2, dS_str, chk_true]
        refine chk_of (by simp; omega) ?_
        rw [pS_some, rd_of q1', dS_str, rd_of q2', dS_str]
        refine bite_of (fun e => hQ false ⟨fun q => (by cases q), fun q => ?_⟩) (fun e => ?_)
        · subst q; simp at e
        · rw [wrap_succ (by omega)]
          refine ih (i + 1) (by omega) (by omega) fun j h h' hj => ?_
          by_cases ej : j = i
          · subst ej
            simp at e
            exact Prod.ext e.1 e.2
          · exact he j h h' (by omega)
      · rw [bite_f (by simp; omega)]
        refine hQ true ⟨fun _ => ?_, fun _ => rfl⟩
        exact List.ext_getElem (by omega) fun j h h' => he j h h' (by omega)
  exact loop _ 0 (by omega) (Nat.zero_le _) (fun j _ _ h => by omega)
end

/-! the tree that awakes -/
def kvA : KV := [(mkS [97], mkS [49]), (mkS [98], mkS []), (mkS [99], mkS [51]), (mkS [100], mkS []), (mkS [101], mkS [53])]
theorem hA : 0 < heightD (buildD kvA) := by decide +kernel
theorem eA : errE 1400 (buildD kvA) = 0 := by decide +kernel
theorem allA : allE (buildD kvA) = kvA := by decide +kernel
theorem kvA_at (H : Hp) : Kv (H ++ [.row false 1000003 [(.str (mkS [97])), (.str (mkS [49])), (.str (mkS [98])), (.str (mkS [])), (.str (mkS [99])), (.str (mkS [51])), (.str (mkS [100])), (.str (mkS [])), (.str (mkS [101])), (.str (mkS [53]))]]) (some (H.length, 0)) 5 kvA :=
  ⟨by simp [cells?, kvCells, kvA], rfl⟩
section
variable {H : Hp} {Q : Post}
theorem err_cases (T : List Pg) (e : Int) : (heightD T = 0 ∧ errE e T = e ∧ allE T = []) ∨ (0 < heightD T ∧ errE e T = 0 ∧ allE T = entD T) := by
  unfold errE allE
  rcases Nat.eq_zero_or_pos (heightD T) with h | h
  · rw [decide_eq_false (by omega)]; exact .inl ⟨h, rfl, rfl⟩
  · rw [decide_eq_true h]; exact .inr ⟨h, rfl, rfl⟩
end
end Go.Am
namespace Go.Am

section
variable {H : Hp} {Q : Post} {key : ByteArray} {ks : List ByteArray}
theorem slotN_take (i : Nat) (hi : i < ks.length) : slotN (ks.take (i + 1)) key = slotN (ks.take i) key + (match blt ks[i] key with | true => 1 | false => 0) := by
  unfold slotN
  rw [List.take_succ_eq_append_getElem hi, List.countP_append]
  congr 1
theorem slotN_le : slotN ks key ≤ ks.length := List.countP_le_length
theorem node_Slot_spec {a : Pl} {n : Nat} (h : Ss H a n ks) (hQ : Q (.tup [.s (.int .i64 (slotN ks key : Int)), .s (.bool (slotB ks key))]) H) : node_Slot [.g (.sl a n 1), .g (.str key)] H Q := by
  have hn := h.len
  have hlim := h.lim
  refine ⟨n + 2, ?_⟩
  rw [node_Slot_eq]
  have loop : ∀ (F i : Nat), n - i < F → i ≤ n → node_Slot.l3 F a n key (slotN (ks.take i) key : Int) a n (nI n) (i : Int) H Q := by
    intro F
    induction F with
    | zero => intro i h; omega
    | succ F ih =>
      intro i hF hi
      rw [node_Slot.l3_eq]
      by_cases hik : i < n
      · have hle : slotN (ks.take i) key ≤ i := Nat.le_trans slotN_le (List.length_take_le _ _)
        rw [bite_t (by simp; omega), chk_true, h.rd i rfl (by omega), blt_eq, wrap_succ (by omega), wrap_succ (by omega)]
        have := ih (i + 1) (by omega) (by omega)
        rw [slotN_take i (by omega)] at this
        refine bite_of (fun e => ?_) (fun e => ?_)
        · rw [e] at this; exact this
        · rw [e] at this; exact this
      · rw [bite_f (by simp; omega), List.take_of_length_le (by omega)]
        have hle := slotN_le (ks := ks) (key := key)
        refine bite_of (fun e => ?_) (fun e => ?_)
        · have hlt : slotN ks key < ks.length := by simp at e; omega
          rw [chk_true, h.rd (slotN ks key) rfl hlt]
          have : slotB ks key = strEq ks[slotN ks key] key := by
            unfold slotB; rw [List.getElem?_eq_getElem hlt, strEq_def]; simp
          rw [this] at hQ
          exact hQ
        · have : slotB ks key = false := by
            unfold slotB
            rw [List.getElem?_eq_none (by simp at e; omega)]; simp
          rw [this] at hQ
          exact hQ
  exact loop _ 0 (by omega) (Nat.zero_le _)
theorem find_Kid_spec {l o n : Nat} {a : Pl} (hg : gt H l (o + 2) = some (.sl a n 1)) (h : Ss H a n ks) (hQ : Q (.g (.int .i64 (kidN ks key : Int))) H) : find_Kid [.g (.ptr (some (l, o))), .g (.str key)] H Q := by
  have hn := h.len
  have hlim := h.lim
  have hle := slotN_le (ks := ks) (key := key)
  refine ⟨1, ?_⟩
  rw [find_Kid_eq, pS_some, rd_of hg, dL_sl]
  refine node_Slot_spec h ?_
  simp only [rT_tup, uR_cons, rS_s, dI_int, dB_bool, uE_nil]
  unfold kidN at hQ
  refine bite_of (fun e => ?_) (fun e => ?_)
  · rw [e] at hQ
    rw [wrap_succ (by omega)]
    exact hQ
  · rw [e] at hQ; exact hQ
end

section
variable {H : Hp} {Q : Post} {x : Pl} {n : Nat} {cs : List PC} {T : List Pg} {key : ByteArray}

def findE (T : List Pg) (key : ByteArray) : Option ByteArray := findK (allE T) key
set_option maxRecDepth 100000 in
theorem find_Find_spec (hT : Tr H x n cs T) (hQ : ∀ H', H <+: H' → Q (.tup [.s (.str ((findE T key).getD (mkS []))), .s (.bool (findE T key).isSome), .s (.int .i64 (errE 1100 T))]) H') : find_Find [.agg [.sl x n 5], .g (.str key)] H Q := by
  refine ⟨60, ?_⟩
  rw [find_Find_eq]
  refine sound_Sound_spec hT fun H1 p1 => ?_
  simp only [rG_g, dB_bool]
  unfold findE at hQ
  rcases err_cases T 1100 with ⟨e0, e1, e2⟩ | ⟨e0, e1, e2⟩
  · rw [e1, e2] at hQ
    rw [decide_eq_false (by omega), bite_t (by decide)]
    exact hQ H1 p1
  rw [e1, e2] at hQ
  rw [decide_eq_true e0, bite_f (by decide)]
  obtain ⟨P, w⟩ := whole_of e0
  have hT1 := hT.mono p1
  have hn : n = 48 := by have := hT.lenT; have := w.len; omega
  subst hn
  obtain ⟨l, o, c0, p0, rfl, _⟩ := hT1.get (i := 0) (by omega)
  rw [chk_true]
  refine chk_of (by simp) ?_
  rw [pS_some]
  have loop : ∀ (d F a : Nat) (P : List Nat) (ps : KV), Sub T d a P ps → d < F → findK (entD T) key = findK ps key → find_Find.l4 F key (some (l, o)) 48 l (o + a * 5) H1 Q := by
    intro d
    induction d with
    | zero => intro F a P ps h; exact h.elim
    | succ d ih =>
      intro F a P ps h hF he
      obtain ⟨F, rfl⟩ : ∃ F', F = F' + 1 := ⟨F - 1, by omega⟩
      have hlt := h.inT a h.head
      obtain ⟨p, hp, hm, hcase⟩ := h
      obtain ⟨l', o', c, p', ee, hc, hp', hpc, g0, g1, g2, g3, g4⟩ := hT1.get (i := a) (by rw [w.len] at hlt; exact hlt)
      cases ee
      rw [hp] at hp'; cases hp'
      have hpl : p.leaf = c.l := hpc.leaf
      have hpw := rising_pw hm.2.rising
      rw [find_Find.l4_eq, rd_of (v := .bool c.l) (by exact g1), dB_bool]
      rcases hcase with ⟨_, hl, _, e⟩ | ⟨hl, P', _, hk⟩
      · rw [bite_f (by rw [← hpl, hl]; rfl), rd_of (v := .sl c.a1 c.n1 1) (by exact g2), dL_sl]
        refine node_Slot_spec hpc.keys ?_
        simp only [rT_tup, uR_cons, rS_s, dI_int, dB_bool, uE_nil]
        have v1 := (hm.2.leaf hl).1
        rw [e, findK_zip hpw v1] at he
        refine bite_of (fun eb => ?_) (fun eb => ?_)
        · have eb' : slotB p.keys key = false := by simpa using eb
          rw [eb'] at he
          rw [he] at hQ
          exact hQ H1 p1
        · have eb' : slotB p.keys key = true := by simpa using eb
          rw [eb'] at he
          have hs : slotN p.keys key < p.vals.length := by
            unfold slotB at eb'
            have := (List.getElem?_eq_some_iff.1 (of_decide_eq_true eb')).1
            omega
          rw [rd_of (v := .sl c.a2 c.n2 1) (by exact g3), dL_sl, chk_true, hpc.vals.rd (slotN p.keys key) rfl hs]
          dsimp only at he
          rw [List.getElem?_eq_getElem hs] at he
          rw [he] at hQ
          exact hQ H1 p1
      · rw [bite_t (by rw [← hpl, hl]; rfl), rd_of (v := .sl c.a3 c.n3 1) (by exact g4), dL_sl]
        refine find_Kid_spec (by exact g2) hpc.keys ?_
        simp only [rG_g, dI_int]
        obtain ⟨k, P1, ps1, hk1, hk2, hk3⟩ := kids_find (key := key) hk hpw
        have hkl := (List.getElem?_eq_some_iff.1 hk1).1
        rw [rd_of (v := .sl c.a3 c.n3 1) (by exact g4), dL_sl]
        refine ⟨rfl, ?_⟩
        rw [chk_true, hpc.kids.rd (kidN p.keys key) rfl hkl]
        have hke : p.kids[kidN p.keys key] = k := by rw [List.getElem?_eq_getElem hkl] at hk1; exact Option.some.inj hk1
        have hk48 := (hm.2.inner hl).2.2.2.1 k (by rw [← hke]; exact List.getElem_mem _)
        rw [hke, chk_true]
        refine chk_of (by simp; omega) ?_
        rw [pS_some]
        exact ih F k.toNat P1 ps1 hk2.1 (by omega) (he.trans hk3)
  have hd := w.sub.low
  have hc := w.count
  have := loop (heightD T) 59 0 P (entD T) w.sub (by omega) rfl
  exact this
set_option maxRecDepth 100000 in
theorem ref9_Find_spec (hT : Tr H x n cs T) (hQ : ∀ H', H <+: H' → Q (.tup [.s (.str ((findE T key).getD (mkS []))), .s (.bool (findE T key).isSome), .s (.int .i64 (errE 1100 T))]) H') : ref9_Find [.agg [.sl x n 5], .g (.str key)] H Q := by
  refine ⟨70, ?_⟩
  rw [ref9_Find_eq]
  refine ref9_All_spec hT fun a m H1 p1 o1 l1 => ?_
  simp only [rT_tup, uR_cons, rS_s, dL_sl, dI_int, uE_nil]
  have hl := allE_len T
  unfold findE at hQ
  rcases err_cases T 1400 with ⟨e0, e1, e2⟩ | ⟨e0, e1, e2⟩
  · have e3 : errE 1100 T = 1100 := by unfold errE; rw [decide_eq_false (by omega)]
    rw [e1, bite_t (by decide)]
    rw [e2, e3] at hQ
    exact hQ H1 p1
  have e3 : errE 1100 T = 0 := by unfold errE; rw [decide_eq_true e0]
  rw [e3] at hQ
  rw [e1, bite_f (by decide)]
  have k1 := o1.kv l1
  have loop : ∀ (F i : Nat), m - i < F → i ≤ m → findK ((allE T).drop i) key = findK (allE T) key → ref9_Find.l5 F key a m (i : Int) H1 Q := by
    intro F
    induction F with
    | zero => intro i h; omega
    | succ F ih =>
      intro i hF hi he
      rw [ref9_Find.l5_eq]
      by_cases hik : i < m
      · obtain ⟨l, o, rfl, q1, q2⟩ := k1.get (i := i) (by omega)
        have etN : tN (i : Int) = i := rfl
        rw [bite_t (by simp; omega), chk_true]
        refine chk_of (by simp; omega) ?_
        rw [pS_some, etN, Nat.add_zero, rd_of q1, dS_str]
        rw [List.drop_eq_getElem_cons (by omega)] at he
        rw [findK_cons] at he
        refine bite_of (fun e => ?_) (fun e => ?_)
        · rw [decide_eq_true (by simpa using e)] at he
          rw [chk_true]
          refine chk_of (by simp; omega) ?_
          rw [pS_some, rd_of q2, dS_str]
          dsimp only at he
          rw [← he] at hQ
          exact hQ H1 p1
        · rw [decide_eq_false (by simpa using e)] at he
          rw [wrap_succ (by omega)]
          exact ih (i + 1) (by omega) (by omega) he
      · rw [bite_f (by simp; omega)]
        rw [List.drop_of_length_le (by omega)] at he
        rw [← he] at hQ
        exact hQ H1 p1
  exact loop 69 0 (by omega) (by omega) rfl
end
end Go.Am
namespace Go.Am

/-! keys by numbers -/
section
variable {H : Hp} {Q : Post}
/-! every entry is found -/
/-! every second one -/
end
end Go.Am
namespace Go.Am

/-! an entry put among entries -/
def insK : KV → ByteArray → ByteArray → KV
  | [], k, v => [(k, v)]
  | x :: ps, k, v => match decide (x.1 = k) with
    | true => (k, v) :: ps
    | false => match blt x.1 k with
      | true => x :: insK ps k v
      | false => (k, v) :: x :: ps
theorem not_blt {a b : ByteArray} (h : blt a b = false) (hne : a ≠ b) : blt b a = true := by
  rcases blt_tri a b with z | z | z
  · rw [z.1] at h; cases h
  · exact (hne z.1).elim
  · exact z.1
/-- entries cut at a key -/
theorem insK_split : ∀ {ps : KV} (k v : ByteArray), Asc ps → ∃ L M R, ps = L ++ M ++ R ∧ insK ps k v = L ++ (k, v) :: R ∧ (M = [] ∨ ∃ v0, M = [(k, v0)]) ∧ (∀ x ∈ L, blt x.1 k = true) ∧ (∀ x ∈ R, blt k x.1 = true)
  | [], k, v, _ => ⟨[], [], [], rfl, rfl, .inl rfl, fun x h => by simp at h, fun x h => by simp at h⟩
  | x :: ps, k, v, h => by
    obtain ⟨h1, h2⟩ := List.pairwise_cons.1 h
    unfold insK
    by_cases e : x.1 = k
    · rw [decide_eq_true e]
      obtain ⟨a, b⟩ := x
      dsimp only at e h1
      subst e
      exact ⟨[], [(a, b)], ps, rfl, rfl, .inr ⟨b, rfl⟩, fun x h => by simp at h, h1⟩
    · rw [decide_eq_false e]
      dsimp only
      cases hb : blt x.1 k with
      | true =>
        obtain ⟨L, M, R, q1, q2, q3, q4, q5⟩ := insK_split k v h2
        dsimp only
        refine ⟨x :: L, M, R, by rw [q1]; rfl, by rw [q2]; rfl, q3, fun y hy => ?_, q5⟩
        rcases List.mem_cons.1 hy with q | q
        · rw [q]; exact hb
        · exact q4 y q
      | false =>
        have hk := not_blt hb e
        refine ⟨[], [], x :: ps, rfl, rfl, .inl rfl, fun y h => by simp at h, fun y hy => ?_⟩
        rcases List.mem_cons.1 hy with q | q
        · rw [q]; exact hk
        · exact blt_trans hk (h1 y q)
theorem insK_left {l r : KV} {k v : ByteArray} (h : ∀ x ∈ l, blt x.1 k = true) : insK (l ++ r) k v = l ++ insK r k v := by
  induction l with
  | nil => rfl
  | cons x l ih =>
    have hx := h x (by simp)
    rw [List.cons_append]
    show (match decide (x.1 = k) with | true => (k, v) :: (l ++ r) | false => match blt x.1 k with | true => x :: insK (l ++ r) k v | false => (k, v) :: x :: (l ++ r)) = _
    rw [decide_eq_false (blt_ne hx), hx]
    dsimp only
    rw [ih fun y hy => h y (by simp [hy])]; rfl
theorem insK_mid {l r : KV} {k v v0 : ByteArray} (h : ∀ x ∈ l, blt x.1 k = true) : insK (l ++ (k, v0) :: r) k v = l ++ (k, v) :: r := by
  rw [insK_left h]
  show l ++ (match decide (k = k) with | true => (k, v) :: r | false => _) = _
  rw [decide_eq_true rfl]
theorem insK_new {l r : KV} {k v : ByteArray} (h : ∀ x ∈ l, blt x.1 k = true) (hr : ∀ x ∈ r, blt k x.1 = true) : insK (l ++ r) k v = l ++ (k, v) :: r := by
  rw [insK_left h]
  congr 1
  cases r with
  | nil => rfl
  | cons x r =>
    have hx := hr x (by simp)
    show (match decide (x.1 = k) with | true => (k, v) :: r | false => match blt x.1 k with | true => x :: insK r k v | false => (k, v) :: x :: r) = _
    rw [decide_eq_false (Ne.symm (blt_ne hx)), blt_asy hx]
theorem insK_mem {ps : KV} {k v : ByteArray} {x : ByteArray × ByteArray} : x ∈ insK ps k v → x = (k, v) ∨ x ∈ ps := by
  induction ps with
  | nil => intro h; simp [insK] at h; exact .inl h
  | cons y ps ih =>
    unfold insK
    by_cases e : y.1 = k
    · rw [decide_eq_true e]
      intro h
      rcases List.mem_cons.1 h with q | q
      · exact .inl q
      · exact .inr (by simp [q])
    · rw [decide_eq_false e]
      dsimp only
      cases blt y.1 k with
      | true =>
        intro h
        rcases List.mem_cons.1 h with q | q
        · exact .inr (by simp [q])
        · rcases ih q with z | z
          · exact .inl z
          · exact .inr (by simp [z])
      | false =>
        intro h
        rcases List.mem_cons.1 h with q | q
        · exact .inl q
        · exact .inr q
theorem insK_find {ps : KV} (h : Asc ps) (k v k' : ByteArray) : findK (insK ps k v) k' = match decide (k = k') with | true => some v | false => findK ps k' := by
  obtain ⟨L, M, R, q1, q2, q3, q4, q5⟩ := insK_split k v h
  rw [q2]
  by_cases e : k = k'
  · subst e
    rw [decide_eq_true rfl, findK_right fun x hx => blt_ne (q4 x hx), findK_cons, decide_eq_true rfl]
  · rw [decide_eq_false e, q1]
    dsimp only
    rw [findK_append, findK_cons, decide_eq_false e, List.append_assoc, findK_append]
    dsimp only
    cases findK L k' with
    | some w => rfl
    | none =>
      dsimp only
      rcases q3 with rfl | ⟨v0, rfl⟩
      · rfl
      · rw [List.singleton_append, findK_cons, decide_eq_false e]
theorem insK_len {ps : KV} (h : Asc ps) (k v : ByteArray) : (insK ps k v).length = ps.length + (match (findK ps k).isNone with | true => 1 | false => 0) := by
  obtain ⟨L, M, R, q1, q2, q3, q4, q5⟩ := insK_split k v h
  rw [q2, q1, List.append_assoc, findK_right fun x hx => blt_ne (q4 x hx)]
  rcases q3 with rfl | ⟨v0, rfl⟩
  · rw [List.nil_append, findK_none fun x hx => Ne.symm (blt_ne (q5 x hx))]
    simp; omega
  · rw [List.singleton_append, findK_cons, decide_eq_true rfl]
    simp

/-! a value of a tree turned -/
theorem slotB_of_mem {ks : List ByteArray} {key : ByteArray} (pw : Pw ks) (h : key ∈ ks) : slotB ks key = true := by
  induction ks with
  | nil => simp at h
  | cons s ks ih =>
    obtain ⟨h1, h2⟩ := List.pairwise_cons.1 pw
    rcases List.mem_cons.1 h with e | e
    · subst e
      rw [(slot_ge pw (blt_irr _)).2, decide_eq_true rfl]
    · rw [(slot_lt (h1 key e)).2]
      exact ih h2 e
theorem slot_at {ks : List ByteArray} {key : ByteArray} (h : slotB ks key = true) : ∃ hs : slotN ks key < ks.length, ks[slotN ks key] = key := by
  unfold slotB at h
  exact List.getElem?_eq_some_iff.1 (of_decide_eq_true h)
theorem zip_set {ks vs : List ByteArray} {s : Nat} (hs : s < ks.length) (hl : vs.length = ks.length) (v : ByteArray) : ks.zip (vs.set s v) = (ks.zip vs).take s ++ (ks[s], v) :: (ks.zip vs).drop (s + 1) := by
  have e : ks.zip (vs.set s v) = (ks.zip vs).set s (ks[s], v) := by
    apply List.ext_getElem
    · simp
    · intro i h1 h2
      rw [List.getElem_zip, List.getElem_set, List.getElem_set]
      by_cases q : s = i
      · subst q; rw [if_pos rfl, if_pos rfl]
      · rw [if_neg q, if_neg q, List.getElem_zip]
  rw [e, List.set_eq_take_append_cons_drop, if_pos (by rw [List.length_zip]; omega)]
theorem zip_cut {ks vs : List ByteArray} {s : Nat} (hs : s < ks.length) (hl : vs.length = ks.length) : ks.zip vs = (ks.zip vs).take s ++ (ks[s], vs[s]'(by omega)) :: (ks.zip vs).drop (s + 1) := by
  have hz : s < (ks.zip vs).length := by rw [List.length_zip]; omega
  have e : (ks.zip vs)[s] = (ks[s], vs[s]'(by omega)) := List.getElem_zip
  rw [← e, ← List.drop_eq_getElem_cons hz, List.take_append_drop]
def setP (p : Pg) (key v : ByteArray) : Pg := { p with vals := p.vals.set (slotN p.keys key) v }
theorem setP_may {p : Pg} {key v : ByteArray} (h : MayP p) (hv : v.size ≤ 10) : MayP (setP p key v) := by
  refine ⟨h.1, ⟨h.2.used, h.2.rising, h.2.keys, fun hl => ?_, fun hl => ?_⟩⟩
  · obtain ⟨q1, q2, q3⟩ := h.2.leaf hl
    refine ⟨by show (p.vals.set _ v).length = _; rw [List.length_set]; exact q1, q2, fun w hw => ?_⟩
    rcases List.mem_or_eq_of_mem_set hw with z | z
    · exact q3 w z
    · rw [z]; exact hv
  · obtain ⟨q1, q2, q3⟩ := h.2.inner hl
    exact ⟨q1, by show p.vals.set _ v = []; rw [q2]; rfl, q3⟩
theorem Sub.setVal {T : List Pg} {key v : ByteArray} {i : Nat} {p : Pg} (hi : T[i]? = some p) (hl : p.leaf = true) (hs : slotB p.keys key = true) (hv : v.size ≤ 10) :
    ∀ {d a : Nat} {P : List Nat} {ps : KV}, Sub T d a P ps → P.Nodup → i ∈ P → ∃ L v0 R, ps = L ++ (key, v0) :: R ∧ Sub (T.set i (setP p key v)) d a P (L ++ (key, v) :: R)
  | 0, _, _, _, h, _, _ => h.elim
  | d + 1, a, P, ps, h, hnd, hiP => by
    have hlt := (List.getElem?_eq_some_iff.1 hi).1
    obtain ⟨q, hq, hm, ⟨e0, hql, e1, e2⟩ | ⟨hql, P', e1, hk⟩⟩ := h
    · subst e1
      obtain rfl : i = a := List.mem_singleton.1 hiP
      rw [hi] at hq
      obtain rfl := Option.some.inj hq
      obtain ⟨v1, _, _⟩ := hm.2.leaf hl
      obtain ⟨hsl, hse⟩ := slot_at hs
      have c1 := zip_cut hsl v1
      have c2 := zip_set hsl v1 v
      rw [hse] at c1 c2
      exact ⟨_, _, _, e2.trans c1, setP p key v, List.getElem?_set_self hlt, setP_may hm hv, .inl ⟨e0, hl, rfl, c2.symm⟩⟩
    · subst e1
      rw [List.nodup_cons] at hnd
      have hia : i ≠ a := fun e => by subst e; rw [hi] at hq; obtain rfl := Option.some.inj hq; rw [hl] at hql; cases hql
      have hiP' : i ∈ P' := by rcases List.mem_cons.1 hiP with e | e; exact (hia e).elim; exact e
      have big : ∀ {k : Nat}, (∃ q, T[k]? = some q ∧ 2 ≤ q.keys.length) → ∃ q, (T.set i (setP p key v))[k]? = some q ∧ 2 ≤ q.keys.length := fun {k} ⟨q, h1, h2⟩ => by
        by_cases e : i = k
        · subst e
          rw [hi] at h1
          obtain rfl := Option.some.inj h1
          exact ⟨_, List.getElem?_set_self hlt, h2⟩
        · exact ⟨q, by rw [List.getElem?_set_ne e]; exact h1, h2⟩
      have kids : ∀ {ks : List Int} {ss : List ByteArray} {P : List Nat} {ps : KV}, KidsR (SubB T d) ks ss P ps → P.Nodup → i ∈ P → ∃ L v0 R, ps = L ++ (key, v0) :: R ∧ KidsR (SubB (T.set i (setP p key v)) d) ks ss P (L ++ (key, v) :: R) := by
        intro ks
        induction ks with
        | nil => intro _ _ _ h; exact h.elim
        | cons k ks ih =>
          intro ss P ps h hnd hiP
          cases ss with
          | nil =>
            obtain ⟨L, v0, R, q1, q2⟩ := Sub.setVal hi hl hs hv h.2.1 hnd hiP
            exact ⟨L, v0, R, q1, h.1, q2, big h.2.2⟩
          | cons s ss =>
            obtain ⟨P1, ps1, P2, ps2, h1, h2, e1, e2, h3, h4⟩ := h
            subst e1; subst e2
            obtain ⟨d1, d2, d3⟩ := List.nodup_append.1 hnd
            have swap : ∀ {L R : KV} {v0 : ByteArray} {x}, x ∈ L ++ (key, v) :: R → ∃ y ∈ L ++ (key, v0) :: R, y.1 = x.1 := fun {L R v0 x} hx => by
              rcases List.mem_append.1 hx with z | z
              · exact ⟨x, List.mem_append.2 (.inl z), rfl⟩
              · rcases List.mem_cons.1 z with z | z
                · exact ⟨(key, v0), by simp, by rw [z]⟩
                · exact ⟨x, by simp [z], rfl⟩
            rcases List.mem_append.1 hiP with z | z
            · obtain ⟨L, v0, R, q1, q2⟩ := Sub.setVal hi hl hs hv h1.1 d1 z
              subst q1
              refine ⟨L, v0, R ++ ps2, by simp, P1, _, P2, ps2, ⟨q2, big h1.2⟩, h2.imp fun k Q qs hs' hin => hs'.keep fun j hj => List.getElem?_set_ne fun e => d3 i z j (hin j hj) e, rfl, by simp, fun x hx => ?_, h4⟩
              obtain ⟨y, hy, e⟩ := swap (v0 := v0) hx
              rw [← e]; exact h3 y hy
            · obtain ⟨L, v0, R, q1, q2⟩ := ih h2 d2 z
              subst q1
              refine ⟨ps1 ++ L, v0, R, by simp, P1, ps1, P2, _, h1.keep fun j hj => List.getElem?_set_ne fun e => d3 j hj i z e.symm, q2, rfl, by simp, h3, fun x hx => ?_⟩
              obtain ⟨y, hy, e⟩ := swap (v0 := v0) hx
              rw [← e]; exact h4 y hy
      obtain ⟨L, v0, R, q1, q2⟩ := kids hk hnd.2 hiP'
      exact ⟨L, v0, R, q1, q, by rw [List.getElem?_set_ne hia]; exact hq, hm, .inr ⟨hql, P', rfl, q2⟩⟩
section
variable {T : List Pg} {d : Nat} {P : List Nat} {ps : KV} {i : Nat} {p : Pg} {key v : ByteArray}
theorem Whole.leafIn (w : Whole T d P ps) (hi : T[i]? = some p) (hl : p.leaf = true) : i ∈ P := Decidable.byContradiction fun h => by
  have := w.rest i p hi h
  unfold nothingB at this
  rw [hl] at this; simp at this
theorem Whole.setVal (w : Whole T d P ps) (hi : T[i]? = some p) (hl : p.leaf = true) (hs : slotB p.keys key = true) (hv : v.size ≤ 10) : Whole (T.set i (setP p key v)) d P (insK ps key v) ∧ (findK ps key).isSome = true := by
  have hiP := w.leafIn hi hl
  obtain ⟨L, v0, R, e1, e2⟩ := Sub.setVal hi hl hs hv w.sub w.nodup hiP
  have ha := w.sub.asc.1
  rw [e1] at ha
  have hL : ∀ x ∈ L, blt x.1 key = true := fun x hx => (List.pairwise_append.1 ha).2.2 x hx (key, v0) (by simp)
  have hp : insK ps key v = L ++ (key, v) :: R := by rw [e1, insK_mid hL]
  have hc := w.count
  refine ⟨⟨by rw [List.length_set]; exact w.len, by rw [hp]; exact e2, w.nodup, fun j q hq hj => ?_, ?_⟩, ?_⟩
  · rw [List.getElem?_set_ne (fun e => hj (by rw [← e]; exact hiP))] at hq
    exact w.rest j q hq hj
  · rw [hp]; rw [e1] at hc; simpa using hc
  · rw [e1, findK_right fun x hx => blt_ne (hL x hx), findK_cons, decide_eq_true rfl]; rfl
end
end Go.Am
namespace Go.Am
end Go.Am
namespace Go.Am

section
variable {B H H' : Hp} {t : TypeId} {a : Pl} {n : Nat} {ds : List PC} {T : List Pg} {Q : Post}
theorem CT.val (g : CT B H t a n ds T) {i j : Nat} (hi : i < ds.length) (hi' : i < T.length) (hj : j < (T[i]).vals.length) (s : ByteArray) {K : Hp → Prop}
    (hK : ∀ H', CT B H' t a n ds (T.set i { T[i] with vals := (T[i]).vals.set j s }) → K H') : ∃ l, (ds[i]).a2 = some (l, 0) ∧ wr H l j (.str s) K := by
  have ho := g.own i hi hi'
  have hat := g.ot.all i hi hi'
  rcases ho.vals with ⟨_, h, _⟩ | ⟨l, e, hb, hr, hl⟩
  · have := hat.vals.len; omega
  have hlt := (List.getElem?_eq_some_iff.1 hr).1
  have hon : (ds[i]).on l := ⟨0, .inr (.inl e)⟩
  refine ⟨l, e, wr_row hr (by simpa using hj) ?_⟩
  rw [← List.map_set]
  have keep : ∀ {tt : TypeId} {x : Pl} {m : Nat} {es : List GV} (y : Obj), Own H B.length tt x m es → (∀ o, x ≠ some (l, o)) → Own (H.set l y) B.length tt x m es := fun y h hd => h.keep fun m e' => by
    rw [List.getElem?_set_ne]; intro q; subst q; exact hd 0 e'
  have how : (ds[i]).own (H.set l (.row true tS (((T[i]).vals.set j s).map GV.str))) B.length { T[i] with vals := (T[i]).vals.set j s } :=
    ⟨ho.used, ho.leaf, keep _ ho.keys (fun o e' => ho.d12 l o 0 e' e), .inr ⟨l, e, hb, List.getElem?_set_self hlt, by simpa using hl⟩, keep _ ho.kids (fun o e' => ho.d23 l 0 o e e'), ho.d12, ho.d13, ho.d23⟩
  refine hK _ (g.setRow hi hi' hon _ hb _ ⟨hat.used, hat.leaf, ⟨how.keys.cells, hat.keys.len, hat.keys.lim⟩, ⟨how.vals.cells, ?_, hat.vals.lim⟩, ⟨how.kids.cells, hat.kids.len, hat.kids.lim⟩⟩ how)
  simpa using hat.vals.len

/-- a page behind the others -/
theorem CT.add (g : CT B H t a n ds T) {d : PC} {p : Pg} {H2 : Hp} (p2 : H <+: H2) (hd : d.at H2 p) (hdo : d.own H2 H.length p) (hfr : ∀ l, d.on l → H.length ≤ l) (hl : (n + 1) * 80 ≤ Lim) {K : Pl → Nat → Hp → Prop}
    (hK : ∀ a' H', CT B H' t a' (n + 1) (ds ++ [d]) (T ++ [p]) → K a' (n + 1) H') : Am.ap H2 t 5 80 a n [.bool d.u, .bool d.l, .sl d.a1 d.n1 1, .sl d.a2 d.n2 1, .sl d.a3 d.n3 1] 1 K := by
  have ho := g.ot
  have ho2 := ho.mono p2
  have hlen := ho.len
  have hlenT := ho.lenT
  have hp := g.pre
  refine ho2.add (hp.trans p2) hd (fun l hl e => by have := hfr l hl; have := ho.own.lt' e; omega) hl fun a'' H3 o3 x3 f3 => ?_
  have keepA : ∀ i (h : i < ds.length) (l : Nat), (ds[i]).on l → H3[l]? = H[l]? := fun i h l hl => by
    rw [x3.row l (ho2.onlt (List.getElem_mem h) hl) (ho2.off _ (List.getElem_mem h) l hl), pre_at p2 (ho.onlt (List.getElem_mem h) hl)]
  refine hK a'' H3 ⟨x3.pre, o3, fun i h1 h2 => ?_, fun i j h1 h2 hne l hl1 hl2 => ?_⟩
  · rw [List.getElem_append, List.getElem_append]
    by_cases e : i < n
    · rw [dif_pos (by omega), dif_pos (by omega)]
      exact (g.own i (by omega) (by omega)).keep fun l hl => keepA i (by omega) l hl
    · have e' : i = n := by simp [hlen] at h1; omega
      subst e'
      rw [dif_neg (by omega), dif_neg (by omega)]
      simp only [List.getElem_singleton]
      have hdo' : d.own H3 H.length p := hdo.keep fun l hl => x3.row l (hd.lt hl) (fun e => by have := hfr l hl; have := ho.own.lt' e; omega)
      have hb : ∀ {t : TypeId} {x : Pl} {m : Nat} {es : List GV}, Own H3 H.length t x m es → Own H3 B.length t x m es := fun h => h.base hp.length_le
      exact ⟨hdo'.used, hdo'.leaf, hb hdo'.keys, hb hdo'.vals, hb hdo'.kids, hdo'.d12, hdo'.d13, hdo'.d23⟩
  · simp only [List.length_append, List.length_singleton] at h1 h2
    rw [List.getElem_append] at hl1 hl2
    by_cases e1 : i < n
    · rw [dif_pos (by omega)] at hl1
      by_cases e2 : j < n
      · rw [dif_pos (by omega)] at hl2
        exact g.ap i j (by omega) (by omega) hne l hl1 hl2
      · rw [dif_neg (by omega)] at hl2
        simp only [List.getElem_singleton] at hl2
        have := hfr l hl2
        have := ho.onlt (List.getElem_mem (by omega : i < ds.length)) hl1
        omega
    · rw [dif_neg (by omega)] at hl1
      simp only [List.getElem_singleton] at hl1
      by_cases e2 : j < n
      · rw [dif_pos (by omega)] at hl2
        have := hfr l hl1
        have := ho.onlt (List.getElem_mem (by omega : j < ds.length)) hl2
        omega
      · omega
theorem CT.nil (H : Hp) (t : TypeId) : CT H H t none 0 [] [] := ⟨List.prefix_refl _, OT.nil _ _ _, fun i h => (by simp at h), fun i j h => (by simp at h)⟩

/-! the document's copy of a tree -/
end
end Go.Am
namespace Go.Am

section
variable {H : Hp} {Q : Post} {key v : ByteArray} {ks : List ByteArray}
/-- why nothing may be inserted (0: it may) -/
def formE (T : List Pg) (key v : ByteArray) : Bool := decide (0 < heightD T) && (decide (1 ≤ key.size) && (decide (key.size ≤ 6) && decide (v.size ≤ 10)))
def insE (T : List Pg) (key v : ByteArray) : Int := match formE T key v with
  | false => 1200
  | true => match (findK (entD T) key).isNone && decide (60 ≤ (entD T).length) with | true => 1201 | false => 0
end
end Go.Am
namespace Go.Am

/-- a row of bytes of one's own -/
def OwnB (H : Hp) (b : Nat) (a : Pl) (L : List UInt8) : Prop := Own H b tU8 a L.length (u8s L)
theorem OwnB.txt {H : Hp} {b : Nat} {a : Pl} {L : List UInt8} {K : ByteArray → Prop} (h : OwnB H b a L) : (rdN H a L.length fun c => txt c K) = K (mkS L) := by
  rw [rdN_of h.cells, txt_u8s]

def szd (s : ByteArray) : List UInt8 := bof s.size :: bs s
@[simp] theorem szd_length (s : ByteArray) : (szd s).length = s.size + 1 := by simp [szd]
/-- a page's text -/
def entL (p : Pg) (i : Nat) : List UInt8 := szd (p.keys[i]?.getD ⟨#[]⟩) ++ (match p.leaf with | true => szd (p.vals[i]?.getD ⟨#[]⟩) | false => [])
def ents (p : Pg) (k : Nat) : List UInt8 := (List.range k).flatMap (entL p)
def hdr (p : Pg) : List UInt8 := [match p.leaf with | true => 1 | false => 2, bof p.keys.length]
def textL (p : Pg) : List UInt8 := hdr p ++ ents p p.keys.length ++ p.kids.map bof
def text (p : Pg) : ByteArray := mkS (textL p)
section
variable {H : Hp} {Q : Post} {u l : Bool} {a1 : Pl} {n1 : Nat} {a2 : Pl} {n2 : Nat} {a3 : Pl} {n3 : Nat} {p : Pg}

theorem kids_le (hm : MayP p) : p.kids.length ≤ 5 := by
  have hm1 := hm.1
  cases hL : p.leaf with
  | true => rw [(hm.2.leaf hL).2.1]; simp
  | false => have := (hm.2.inner hL).2.2.1; omega
end
end Go.Am
namespace Go.Am

def tkB : List UInt8 → Nat × List UInt8
  | [] => (0, [])
  | b :: r => (b.toNat, r)
def tkT (L : List UInt8) : List UInt8 × List UInt8 := ((tkB L).2.take (tkB L).1, (tkB L).2.drop (tkB L).1)
section
variable {H : Hp} {Q : Post} {l : Nat} {L : List UInt8}
end

/-! the parse -/
structure Pa where
  ks : List ByteArray
  vs : List ByteArray
  R : List UInt8
def takeE (leaf : Bool) : Nat → List UInt8 → List ByteArray → List ByteArray → Pa
  | 0, R, ks, vs => ⟨ks, vs, R⟩
  | n + 1, R, ks, vs => match leaf with
    | true => takeE leaf n (tkT (tkT R).2).2 (ks ++ [mkS (tkT R).1]) (vs ++ [mkS (tkT (tkT R).2).1])
    | false => takeE leaf n (tkT R).2 (ks ++ [mkS (tkT R).1]) vs
def takeK : Nat → List UInt8 → List Int → List Int
  | 0, _, ks => ks
  | n + 1, R, ks => takeK n (tkB R).2 (ks ++ [((tkB R).1 : Int)])
def pLeaf (L : List UInt8) : Bool := (tkB L).1 == 1
def pN (L : List UInt8) : Nat := min (tkB (tkB L).2).1 4
def pE (L : List UInt8) : Pa := takeE (pLeaf L) (pN L) (tkB (tkB L).2).2 [] []
def parse (L : List UInt8) : Pg := ⟨true, pLeaf L, (pE L).ks, (pE L).vs, match pLeaf L with | true => [] | false => takeK (pN L + 1) (pE L).R []⟩

end Go.Am
namespace Go.Am

structure GI (H0 H : Hp) (lt : Nat) (R : List UInt8) (a1 : Pl) (ks : List ByteArray) (a2 : Pl) (vs : List ByteArray) (a3 : Pl) (is : List Int) : Prop where
  pre : H0 <+: H
  row : H[lt]? = some (.row true tTaker [.str (mkS R)])
  o1 : Own H H0.length tS a1 ks.length (ks.map GV.str)
  o2 : Own H H0.length tS a2 vs.length (vs.map GV.str)
  o3 : Own H H0.length tI a3 is.length (is.map (GV.int .i64))
  d1 : a1 ≠ some (lt, 0)
  d2 : a2 ≠ some (lt, 0)
  d3 : a3 ≠ some (lt, 0)
  d12 : Dj a1 a2
  d13 : Dj a1 a3
  d23 : Dj a2 a3
  b : H0.length ≤ lt

section
variable {H0 H : Hp} {lt : Nat} {R : List UInt8} {a1 : Pl} {ks : List ByteArray} {a2 : Pl} {vs : List ByteArray} {a3 : Pl} {is : List Int}
theorem GI.turn (g : GI H0 H lt R a1 ks a2 vs a3 is) (R' : List UInt8) : GI H0 (H.set lt (.row true tTaker [.str (mkS R')])) lt R' a1 ks a2 vs a3 is :=
  ⟨pre_set g.pre g.b _, List.getElem?_set_self (List.getElem?_eq_some_iff.1 g.row).1, g.o1.set g.d1 _, g.o2.set g.d2 _, g.o3.set g.d3 _, g.d1, g.d2, g.d3, g.d12, g.d13, g.d23, g.b⟩
theorem GI.in_ (g : GI H0 H lt R a1 ks a2 vs a3 is) : lt < H.length := (List.getElem?_eq_some_iff.1 g.row).1
theorem GI.key (g : GI H0 H lt R a1 ks a2 vs a3 is) (s : ByteArray) (hk : ks.length ≤ 100) {K : Pl → Nat → Hp → Prop} (hK : ∀ a' H', GI H0 H' lt R a' (ks ++ [s]) a2 vs a3 is → K a' (ks.length + 1) H') : ap H tS 1 16 a1 ks.length [.str s] 1 K := by
  refine ap_own g.pre g.o1 rfl (by unfold Lim; omega) fun a' H' h1 h2 h3 => hK a' H' ?_
  refine ⟨h2.pre, by rw [h2.row lt g.in_ g.d1]; exact g.row, by simpa using h1, g.o2.after g.d12 h2, g.o3.after g.d13 h2, fun e => ?_, g.d2, g.d3, Dj.fresh g.o2 h3, Dj.fresh g.o3 h3, g.d23, g.b⟩
  have := h3 lt 0 e; have := g.in_; omega
theorem GI.val (g : GI H0 H lt R a1 ks a2 vs a3 is) (s : ByteArray) (hk : vs.length ≤ 100) {K : Pl → Nat → Hp → Prop} (hK : ∀ a' H', GI H0 H' lt R a1 ks a' (vs ++ [s]) a3 is → K a' (vs.length + 1) H') : ap H tS 1 16 a2 vs.length [.str s] 1 K := by
  refine ap_own g.pre g.o2 rfl (by unfold Lim; omega) fun a' H' h1 h2 h3 => hK a' H' ?_
  refine ⟨h2.pre, by rw [h2.row lt g.in_ g.d2]; exact g.row, g.o1.after g.d12.symm h2, by simpa using h1, g.o3.after g.d23 h2, g.d1, fun e => ?_, g.d3, (Dj.fresh g.o1 h3).symm, g.d13, Dj.fresh g.o3 h3, g.b⟩
  have := h3 lt 0 e; have := g.in_; omega
theorem GI.kid (g : GI H0 H lt R a1 ks a2 vs a3 is) (s : Int) (hk : is.length ≤ 1000) {K : Pl → Nat → Hp → Prop} (hK : ∀ a' H', GI H0 H' lt R a1 ks a2 vs a' (is ++ [s]) → K a' (is.length + 1) H') : ap H tI 1 8 a3 is.length [.int .i64 s] 1 K := by
  refine ap_own g.pre g.o3 rfl (by unfold Lim; omega) fun a' H' h1 h2 h3 => hK a' H' ?_
  refine ⟨h2.pre, by rw [h2.row lt g.in_ g.d3]; exact g.row, g.o1.after g.d13.symm h2, g.o2.after g.d23.symm h2, by simpa using h1, g.d1, g.d2, fun e => ?_, g.d12, (Dj.fresh g.o1 h3).symm, (Dj.fresh g.o2 h3).symm, g.b⟩
  have := h3 lt 0 e; have := g.in_; omega
theorem GI.pg (g : GI H0 H lt R a1 ks a2 vs a3 is) (u l : Bool) (h1 : ks.length ≤ 1000) (h2 : vs.length ≤ 1000) (h3 : is.length ≤ 1000) : PgOwn H H0.length u l a1 ks.length a2 vs.length a3 is.length ⟨u, l, ks, vs, is⟩ :=
  ⟨rfl, rfl, g.o1, g.o2, g.o3, g.d12, g.d13, g.d23, h1, h2, h3⟩
end

section
variable {H0 : Hp} {Q : Post} {s : ByteArray}

end
end Go.Am
namespace Go.Am

/-! images -/
abbrev IM := List (Int × ByteArray)
def imCells (xs : IM) : List GV := xs.flatMap fun x => [.int .i64 x.1, .str x.2]
theorem imCells_get {ps : IM} {i : Nat} (hi : i < ps.length) : (imCells ps)[i * 2]? = some (.int .i64 ps[i].1) ∧ (imCells ps)[i * 2 + 1]? = some (.str ps[i].2) := by
  unfold imCells
  induction ps generalizing i with
  | nil => simp at hi
  | cons c cs ih =>
    simp only [List.flatMap_cons]
    cases i with
    | zero => simp
    | succ i =>
      have := ih (i := i) (by simpa using hi)
      rw [List.getElem?_append_right (by simp; omega), List.getElem?_append_right (by simp; omega)]
      have e1 : (i + 1) * 2 - [GV.int .i64 c.1, GV.str c.2].length = i * 2 := by simp; omega
      have e2 : (i + 1) * 2 + 1 - [GV.int .i64 c.1, GV.str c.2].length = i * 2 + 1 := by simp; omega
      rw [e1, e2]
      simpa using this
structure Im (H : Hp) (a : Pl) (n : Nat) (ps : IM) : Prop where
  cells : cells? H a (n * 2) = some (imCells ps)
  len : ps.length = n
theorem Im.mono {H H' : Hp} (hp : H <+: H') {a : Pl} {n : Nat} {ps : IM} (h : Im H a n ps) : Im H' a n ps := ⟨cells_mono hp h.cells, h.len⟩
theorem Im.get {H : Hp} {a : Pl} {n : Nat} {ps : IM} (h : Im H a n ps) {i : Nat} (hi : i < ps.length) : ∃ l o, a = some (l, o) ∧ gt H l (o + i * 2) = some (.int .i64 ps[i].1) ∧ gt H l (o + i * 2 + 1) = some (.str ps[i].2) := by
  have hc := h.cells
  have hl := h.len
  cases a with
  | none => simp [cells?] at hc; omega
  | some q =>
    obtain ⟨l, o⟩ := q
    obtain ⟨k1, k2⟩ := imCells_get hi
    refine ⟨l, o, rfl, ?_, ?_⟩
    · rw [cells_get hc (by omega), k1]
    · rw [Nat.add_assoc, cells_get hc (by omega), k2]
/-- a page's text, empty where it may not be -/
def ptext (p : Pg) : ByteArray := match mayB_ p with
  | true => text p
  | false => mkS []
def ptx (T : List Pg) (i : Nat) : ByteArray := ptext (T[i]?.getD noPg)
def imgs (T : List Pg) (k : Nat) : IM := (List.range k).map fun i : Nat => ((i : Int), ptx T i)
@[simp] theorem imgs_length (T : List Pg) (k : Nat) : (imgs T k).length = k := by simp [imgs]
/-- texts laid over texts -/
def lay (L : List ByteArray) (ys : IM) : List ByteArray := ys.foldl (fun L y => L.set y.1.toNat y.2) L
@[simp] theorem lay_length (ys : IM) : ∀ L : List ByteArray, (lay L ys).length = L.length := by
  induction ys with
  | nil => intro L; rfl
  | cons y ys ih => intro L; show (lay (L.set _ _) ys).length = _; rw [ih]; simp
/-! facts -/
theorem nothing_no {p : Pg} (h : nothingB p = true) : p = noPg := by
  obtain ⟨u, l, ks, vs, is⟩ := p
  simp only [nothingB, Bool.and_eq_true, Bool.not_eq_true', List.isEmpty_iff] at h
  obtain ⟨rfl, rfl, rfl, rfl, rfl⟩ := h
  rfl
/-- each page of a sound tree may be, or is none -/
theorem SF.page {T : List Pg} {st : WS} (s : SF T st) {i : Nat} {p : Pg} (hp : T[i]? = some p) : mayB_ p = true ∧ p.used = true ∨ p = noPg := by
  cases hu : p.used with
  | true => exact .inl ⟨(s.used hp hu).2.1, rfl⟩
  | false =>
    refine .inr ?_
    obtain ⟨hi, _⟩ := List.getElem?_eq_some_iff.1 hp
    rcases rest_at s.rest hi hp with q | q
    · exfalso
      have hl := s.len
      have hm : st.met[i]? = some true := by
        rw [List.getElem?_eq_getElem (by rw [s.metlen]; omega)] at q ⊢
        simpa using q
      rcases (walkD_met T _ _ _ _ _ _ _ s.walk).2.2 i hm with h | ⟨r, hr, h1, h2⟩
      · rw [ws0_met i (by omega)] at h; cases h
      · rw [hp] at hr; cases hr
        rw [((mayB_iff _).1 h1).2.used] at hu; cases hu
    · exact nothing_no q
end Go.Am
namespace Go.Am

section
variable {H : Hp} {Q : Post} {x : Pl} {n : Nat} {cs : List PC} {T : List Pg}
/-! pagers -/
end
end Go.Am
namespace Go.Am

theorem PgOwn.pc {H : Hp} {b : Nat} {u l : Bool} {a1 : Pl} {n1 : Nat} {a2 : Pl} {n2 : Nat} {a3 : Pl} {n3 : Nat} {p : Pg} (h : PgOwn H b u l a1 n1 a2 n2 a3 n3 p) : (⟨u, l, a1, n1, a2, n2, a3, n3⟩ : PC).own H b p :=
  ⟨h.used, h.leaf, h.keys, h.vals, h.kids, fun l o o' e1 e2 => h.d12 l (h.keys.zero e1) (h.vals.zero e2), fun l o o' e1 e2 => h.d13 l (h.keys.zero e1) (h.kids.zero e2), fun l o o' e1 e2 => h.d23 l (h.vals.zero e1) (h.kids.zero e2)⟩
theorem Own.ge {H : Hp} {b : Nat} {t : TypeId} {a : Pl} {n : Nat} {cs : List GV} (h : Own H b t a n cs) {l o : Nat} (e : a = some (l, o)) : b ≤ l := by
  rcases h with ⟨q, _⟩ | ⟨m, q, hb, _⟩
  · rw [q] at e; cases e
  · rw [q] at e; cases e; exact hb
theorem PgOwn.fresh {H : Hp} {b : Nat} {u l : Bool} {a1 : Pl} {n1 : Nat} {a2 : Pl} {n2 : Nat} {a3 : Pl} {n3 : Nat} {p : Pg} (h : PgOwn H b u l a1 n1 a2 n2 a3 n3 p) : ∀ m, (⟨u, l, a1, n1, a2, n2, a3, n3⟩ : PC).on m → b ≤ m := by
  rintro m ⟨o, e | e | e⟩
  · exact h.keys.ge e
  · exact h.vals.ge e
  · exact h.kids.ge e

section
variable {H : Hp} {Q : Post} {x : Pl} {n : Nat} {L : List ByteArray} {z0 z1 z2 z3 : Int}
end
end Go.Am
namespace Go.Am

section
variable {T : List Pg}
def txs (T : List Pg) : List ByteArray := (List.range 48).map (ptx T)
@[simp] theorem txs_length : (txs T).length = 48 := by simp [txs]
theorem sound_pages (h : 0 < heightD T) : ∀ p ∈ T, mayB_ p = true ∨ p = noPg := fun p hp => by
  obtain ⟨st, s⟩ := SF.of h
  obtain ⟨i, hi, e⟩ := List.getElem_of_mem hp
  rcases s.page (List.getElem?_eq_some_iff.2 ⟨hi, e⟩) with q | q
  · exact .inl q.1
  · exact .inr q
end

section
variable {H : Hp} {Q : Post}
end
end Go.Am
namespace Go.Am

section
variable {H : Hp} {Q : Post}
end
end Go.Am
namespace Go.Am
/-! 101: slices.Clone[[]string,string] -/
def slices_Clone__string_string.cx : Cx := ⟨tys, [], [], [], [], noDyn, [.tmp 2]⟩
def slices_Clone__string_string : Sm := fun xs H Q => ∃ k, callK (slices_Clone__string_string.cx) Go.Proofs.Tryz.f101 k xs H Q
theorem slices_Clone__string_string_eq (k : Nat) (z0 : Pl) (z0n : Nat) (H : Hp) (Q : Post) : callK (slices_Clone__string_string.cx) Go.Proofs.Tryz.f101 (k + 1) [.g (.sl z0 z0n 1)] H Q = (
 bite (isNone z0)
 (Q (.g (.sl none 0 1)) H)
 (chk true (rdN H z0 (z0n * 1) fun c0 =>
  ap0 H 9 1 16 c0 z0n fun H1 =>
  Q (.g (.sl (some ((ln H), 0)) z0n 1)) H1))) := by kernel_rfl
theorem slices_Clone__string_string_ok : Sound Go.Proofs.Tryz.prog 101 (slices_Clone__string_string) := prog_ok.sound (cx := slices_Clone__string_string.cx) rfl (EnvOK.nil _) (noDyn_ok _) Go.Proofs.Tryz.func101 rfl

/-! 102: slices.Clone[[]int,int] -/
def slices_Clone__int_int.cx : Cx := ⟨tys, [], [], [], [], noDyn, [.tmp 2]⟩
def slices_Clone__int_int : Sm := fun xs H Q => ∃ k, callK (slices_Clone__int_int.cx) Go.Proofs.Tryz.f102 k xs H Q
theorem slices_Clone__int_int_eq (k : Nat) (z0 : Pl) (z0n : Nat) (H : Hp) (Q : Post) : callK (slices_Clone__int_int.cx) Go.Proofs.Tryz.f102 (k + 1) [.g (.sl z0 z0n 1)] H Q = (
 bite (isNone z0)
 (Q (.g (.sl none 0 1)) H)
 (chk true (rdN H z0 (z0n * 1) fun c0 =>
  ap0 H 3 1 8 c0 z0n fun H1 =>
  Q (.g (.sl (some ((ln H), 0)) z0n 1)) H1))) := by kernel_rfl
theorem slices_Clone__int_int_ok : Sound Go.Proofs.Tryz.prog 102 (slices_Clone__int_int) := prog_ok.sound (cx := slices_Clone__int_int.cx) rfl (EnvOK.nil _) (noDyn_ok _) Go.Proofs.Tryz.func102 rfl

/-! 83: cryostat/page.Copy -/
def page_Copy.cx : Cx := ⟨tys, [], [], [], [(101, slices_Clone__string_string), (102, slices_Clone__int_int)], noDyn, [.cell 2 75]⟩
def page_Copy : Sm := fun xs H Q => ∃ k, callK (page_Copy.cx) Go.Proofs.Tryz.f83 k xs H Q
theorem page_Copy_eq (k : Nat) (z0 : Bool) (z1 : Bool) (z2 : Pl) (z2n : Nat) (z3 : Pl) (z3n : Nat) (z4 : Pl) (z4n : Nat) (H : Hp) (Q : Post) : callK (page_Copy.cx) Go.Proofs.Tryz.f83 (k + 1) [.agg [.bool z0, .bool z1, .sl z2 z2n 1, .sl z3 z3n 1, .sl z4 z4n 1]] H Q = (
 cl slices_Clone__string_string [(.g (.sl z2 z2n 1))] H fun r0 H1 =>
 rG r0 fun v2 =>
 dL 1 v2 fun x3 n4 =>
 cl slices_Clone__string_string [(.g (.sl z3 z3n 1))] H1 fun r5 H6 =>
 rG r5 fun v7 =>
 dL 1 v7 fun x8 n9 =>
 cl slices_Clone__int_int [(.g (.sl z4 z4n 1))] H6 fun r10 H11 =>
 rG r10 fun v12 =>
 dL 1 v12 fun x13 n14 =>
 Q (.agg [(.bool z0), (.bool z1), (.sl x3 n4 1), (.sl x8 n9 1), (.sl x13 n14 1)]) H11) := by kernel_rfl
theorem page_Copy_ok : Sound Go.Proofs.Tryz.prog 83 (page_Copy) := prog_ok.sound (cx := page_Copy.cx) rfl (EnvOK.cons ((slices_Clone__string_string_ok).c ⟨_, Go.Proofs.Tryz.func101, by kernel_rfl, by kernel_rfl⟩) (EnvOK.cons ((slices_Clone__int_int_ok).c ⟨_, Go.Proofs.Tryz.func102, by kernel_rfl, by kernel_rfl⟩) (EnvOK.nil _))) (noDyn_ok _) Go.Proofs.Tryz.func83 rfl

/-! 52: cryostat/sound.Copy -/
def sound_Copy.cx : Cx := ⟨tys, [], [(3, [2, 3, 8, 9, 10])], [], [(83, page_Copy)], noDyn, [.cell 2 24]⟩
def sound_Copy : Sm := fun xs H Q => ∃ k, callK (sound_Copy.cx) Go.Proofs.Tryz.f52 k xs H Q
def sound_Copy.l3 (k : Nat) (ax0 : Pl) (nx1 : Nat) (ax2 : Pl) (nx3 : Nat) (xx4 : Pl) (nx5 : Nat) (ix6 : Int) (ix7 : Int) (H : Hp) (Q : Post) : Prop := loopK (sound_Copy.cx) Go.Proofs.Tryz.f52 3 k (.bad :: .bad :: (.bx [(.sl ax0 nx1 5)]) :: (.bx [(.sl ax2 nx3 5)]) :: B 4 ((.g (.sl xx4 nx5 5)) :: (.g (.int .i64 ix6)) :: (.g (.int .i64 ix7)) :: B 12 ([]))) H Q
theorem sound_Copy_eq (k : Nat) (z0 : Pl) (z0n : Nat) (H : Hp) (Q : Post) : callK (sound_Copy.cx) Go.Proofs.Tryz.f52 (k + 1) [.agg [.sl z0 z0n 5]] H Q = (
 sound_Copy.l3 k none 0 none 0 z0 z0n (nI z0n) 0 H Q) := by kernel_rfl
theorem sound_Copy.l3_eq (k : Nat) (ax0 : Pl) (nx1 : Nat) (ax2 : Pl) (nx3 : Nat) (xx4 : Pl) (nx5 : Nat) (ix6 : Int) (ix7 : Int) (H : Hp) (Q : Post) : sound_Copy.l3 (k + 1) ax0 nx1 ax2 nx3 xx4 nx5 ix6 ix7 H Q = (
 bite (ltI ix7 ix6)
 (chk true (chk ((leI 0 ix7) && (ltI ix7 (nI nx5))) (pS xx4 fun n0 n1 =>
  rd H n0 (n1 + ((tN ix7) * 5)) fun v2 =>
  dB v2 fun b3 =>
  rd H n0 ((n1 + ((tN ix7) * 5)) + 1) fun v4 =>
  dB v4 fun b5 =>
  rd H n0 (((n1 + ((tN ix7) * 5)) + 1) + 1) fun v6 =>
  dL 1 v6 fun x7 n8 =>
  rd H n0 ((((n1 + ((tN ix7) * 5)) + 1) + 1) + 1) fun v9 =>
  dL 1 v9 fun x10 n11 =>
  rd H n0 (((((n1 + ((tN ix7) * 5)) + 1) + 1) + 1) + 1) fun v12 =>
  dL 1 v12 fun x13 n14 =>
  cl page_Copy [(.agg [(.bool b3), (.bool b5), (.sl x7 n8 1), (.sl x10 n11 1), (.sl x13 n14 1)])] H fun r15 H16 =>
  rA r15 fun c17 =>
  uC c17 fun v18 c19 =>
  dB v18 fun b20 =>
  uC c19 fun v21 c22 =>
  dB v21 fun b23 =>
  uC c22 fun v24 c25 =>
  dL 1 v24 fun x26 n27 =>
  uC c25 fun v28 c29 =>
  dL 1 v28 fun x30 n31 =>
  uC c29 fun v32 c33 =>
  dL 1 v32 fun x34 n35 =>
  uN c33 (chk true (ap H16 75 5 80 ax2 nx3 [(.bool b20), (.bool b23), (.sl x26 n27 1), (.sl x30 n31 1), (.sl x34 n35 1)] 1 fun x36 n37 H38 =>
  sound_Copy.l3 k ax0 nx1 x36 n37 xx4 nx5 ix6 (wrapI .i64 (ix7 + 1)) H38 Q)))))
 (Q (.agg [(.sl ax2 nx3 5)]) H)) := by kernel_rfl
theorem sound_Copy_ok : Sound Go.Proofs.Tryz.prog 52 (sound_Copy) := prog_ok.sound (cx := sound_Copy.cx) rfl (EnvOK.cons ((page_Copy_ok).c ⟨_, Go.Proofs.Tryz.func83, by kernel_rfl, by kernel_rfl⟩) (EnvOK.nil _)) (noDyn_ok _) Go.Proofs.Tryz.func52 rfl

/-! 94: slices.Delete[[]string,string] -/
def slices_Delete__string_string.cx : Cx := ⟨tys, [], [], [], [], noDyn, [.tmp 6]⟩
def slices_Delete__string_string : Sm := fun xs H Q => ∃ k, callK (slices_Delete__string_string.cx) Go.Proofs.Tryz.f94 k xs H Q
theorem slices_Delete__string_string_eq (k : Nat) (z0 : Pl) (z0n : Nat) (z1 : Int) (z2 : Int) (H : Hp) (Q : Post) : callK (slices_Delete__string_string.cx) Go.Proofs.Tryz.f94 (k + 1) [.g (.sl z0 z0n 1), .g (.int .i64 z1), .g (.int .i64 z2)] H Q = (
 chk true (chk (leI 0 (nI z0n)) (chk (leI 0 z2) (chk (leI 0 z1) (chk ((leN (tN z1) (tN z2)) && ((leN (tN z2) (tN (nI z0n))) && ((leN (tN (nI z0n)) z0n) && (ends H z0 ((tN (nI z0n)) * 1))))) (bite (eqI z1 z2)
 (Q (.g (.sl z0 z0n 1)) H)
 (chk true (chk (leI 0 z1) (chk ((leN 0 (tN z1)) && ((leN (tN z1) z0n) || (room H z0 ((tN z1) * 1)))) (chk true (chk (leI 0 z2) (chk (leN (tN z2) z0n) (chk true (rdN H (shf z0 ((tN z2) * 1)) ((z0n - (tN z2)) * 1) fun c0 =>
  chk true (ap H 9 1 16 (shf z0 0) ((tN z1) - 0) c0 (z0n - (tN z2)) fun x1 n2 H3 =>
  chk true (chk (leI 0 (nI z0n)) (chk (leI 0 (nI n2)) (chk ((leN (tN (nI n2)) (tN (nI z0n))) && ((leN (tN (nI z0n)) n2) || (room H3 x1 ((tN (nI z0n)) * 1)))) (chk true (clr H3 (shf x1 ((tN (nI n2)) * 1)) ((tN (nI z0n)) - (tN (nI n2))) [(.str (mkS []))] fun H4 =>
  Q (.g (.sl x1 n2 1)) H4)))))))))))))))))))) := by kernel_rfl
theorem slices_Delete__string_string_ok : Sound Go.Proofs.Tryz.prog 94 (slices_Delete__string_string) := prog_ok.sound (cx := slices_Delete__string_string.cx) rfl (EnvOK.nil _) (noDyn_ok _) Go.Proofs.Tryz.func94 rfl

/-! 111: cryostat/node.Both -/
def node_Both.cx : Cx := ⟨tys, [], [], [(4, [5, 6, 7])], [(83, page_Copy)], noDyn, [.cell 6 75]⟩
def node_Both : Sm := fun xs H Q => ∃ k, callK (node_Both.cx) Go.Proofs.Tryz.f111 k xs H Q
def node_Both.l4 (k : Nat) (bx0 : Bool) (bx1 : Bool) (xx2 : Pl) (nx3 : Nat) (xx4 : Pl) (nx5 : Nat) (xx6 : Pl) (nx7 : Nat) (bx8 : Bool) (bx9 : Bool) (ax10 : Pl) (nx11 : Nat) (ax12 : Pl) (nx13 : Nat) (ax14 : Pl) (nx15 : Nat) (bx16 : Bool) (bx17 : Bool) (xx18 : Pl) (nx19 : Nat) (xx20 : Pl) (nx21 : Nat) (xx22 : Pl) (nx23 : Nat) (H : Hp) (Q : Post) : Prop := loopK (node_Both.cx) Go.Proofs.Tryz.f111 4 k (B 5 ((.bx [(.bool bx0), (.bool bx1), (.sl xx2 nx3 1), (.sl xx4 nx5 1), (.sl xx6 nx7 1)]) :: (.bx [(.bool bx8), (.bool bx9), (.sl ax10 nx11 1), (.sl ax12 nx13 1), (.sl ax14 nx15 1)]) :: (.bx [(.bool bx16), (.bool bx17), (.sl xx18 nx19 1), (.sl xx20 nx21 1), (.sl xx22 nx23 1)]) :: B 30 ([]))) H Q
theorem node_Both_eq (k : Nat) (z0 : Bool) (z1 : Bool) (z2 : Pl) (z2n : Nat) (z3 : Pl) (z3n : Nat) (z4 : Pl) (z4n : Nat) (z5 : ByteArray) (z6 : Bool) (z7 : Bool) (z8 : Pl) (z8n : Nat) (z9 : Pl) (z9n : Nat) (z10 : Pl) (z10n : Nat) (H : Hp) (Q : Post) : callK (node_Both.cx) Go.Proofs.Tryz.f111 (k + 1) [.agg [.bool z0, .bool z1, .sl z2 z2n 1, .sl z3 z3n 1, .sl z4 z4n 1], .g (.str z5), .agg [.bool z6, .bool z7, .sl z8 z8n 1, .sl z9 z9n 1, .sl z10 z10n 1]] H Q = (
 cl page_Copy [(.agg [(.bool z0), (.bool z1), (.sl z2 z2n 1), (.sl z3 z3n 1), (.sl z4 z4n 1)])] H fun r0 H1 =>
 rA r0 fun c2 =>
 uC c2 fun v3 c4 =>
 dB v3 fun b5 =>
 uC c4 fun v6 c7 =>
 dB v6 fun b8 =>
 uC c7 fun v9 c10 =>
 dL 1 v9 fun x11 n12 =>
 uC c10 fun v13 c14 =>
 dL 1 v13 fun x15 n16 =>
 uC c14 fun v17 c18 =>
 dL 1 v17 fun x19 n20 =>
 uN c18 (bite (!z1)
 (chk true (ap H1 9 1 16 x11 n12 [(.str z5)] 1 fun x21 n22 H23 =>
  node_Both.l4 k z6 z7 z8 z8n z9 z9n z10 z10n false false none 0 none 0 none 0 b5 b8 x21 n22 x15 n16 x19 n20 H23 Q))
 (node_Both.l4 k z6 z7 z8 z8n z9 z9n z10 z10n false false none 0 none 0 none 0 b5 b8 x11 n12 x15 n16 x19 n20 H1 Q))) := by kernel_rfl
theorem node_Both.l4_eq (k : Nat) (bx0 : Bool) (bx1 : Bool) (xx2 : Pl) (nx3 : Nat) (xx4 : Pl) (nx5 : Nat) (xx6 : Pl) (nx7 : Nat) (bx8 : Bool) (bx9 : Bool) (ax10 : Pl) (nx11 : Nat) (ax12 : Pl) (nx13 : Nat) (ax14 : Pl) (nx15 : Nat) (bx16 : Bool) (bx17 : Bool) (xx18 : Pl) (nx19 : Nat) (xx20 : Pl) (nx21 : Nat) (xx22 : Pl) (nx23 : Nat) (H : Hp) (Q : Post) : node_Both.l4 (k + 1) bx0 bx1 xx2 nx3 xx4 nx5 xx6 nx7 bx8 bx9 ax10 nx11 ax12 nx13 ax14 nx15 bx16 bx17 xx18 nx19 xx20 nx21 xx22 nx23 H Q = (
 chk true (rdN H xx2 (nx3 * 1) fun c0 =>
 chk true (ap H 9 1 16 xx18 nx19 c0 nx3 fun x1 n2 H3 =>
 chk true (rdN H3 xx4 (nx5 * 1) fun c4 =>
 chk true (ap H3 9 1 16 xx20 nx21 c4 nx5 fun x5 n6 H7 =>
 chk true (rdN H7 xx6 (nx7 * 1) fun c8 =>
 chk true (ap H7 3 1 8 xx22 nx23 c8 nx7 fun x9 n10 H11 =>
 Q (.agg [(.bool bx16), (.bool bx17), (.sl x1 n2 1), (.sl x5 n6 1), (.sl x9 n10 1)]) H11))))))) := by kernel_rfl
theorem node_Both_ok : Sound Go.Proofs.Tryz.prog 111 (node_Both) := prog_ok.sound (cx := node_Both.cx) rfl (EnvOK.cons ((page_Copy_ok).c ⟨_, Go.Proofs.Tryz.func83, by kernel_rfl, by kernel_rfl⟩) (EnvOK.nil _)) (noDyn_ok _) Go.Proofs.Tryz.func111 rfl

/-! 125: slices.Clip[[]string,string] -/
def slices_Clip__string_string.cx : Cx := ⟨tys, [], [], [], [], noDyn, [.tmp 2]⟩
def slices_Clip__string_string : Sm := fun xs H Q => ∃ k, callK (slices_Clip__string_string.cx) Go.Proofs.Tryz.f125 k xs H Q
theorem slices_Clip__string_string_eq (k : Nat) (z0 : Pl) (z0n : Nat) (H : Hp) (Q : Post) : callK (slices_Clip__string_string.cx) Go.Proofs.Tryz.f125 (k + 1) [.g (.sl z0 z0n 1)] H Q = (
 chk true (chk (leI 0 (nI z0n)) (chk (leI 0 (nI z0n)) (chk ((leN 0 (tN (nI z0n))) && ((leN (tN (nI z0n)) (tN (nI z0n))) && ((leN (tN (nI z0n)) z0n) && (ends H z0 ((tN (nI z0n)) * 1))))) (Q (.g (.sl (shf z0 0) ((tN (nI z0n)) - 0) 1)) H))))) := by kernel_rfl
theorem slices_Clip__string_string_ok : Sound Go.Proofs.Tryz.prog 125 (slices_Clip__string_string) := prog_ok.sound (cx := slices_Clip__string_string.cx) rfl (EnvOK.nil _) (noDyn_ok _) Go.Proofs.Tryz.func125 rfl

/-! 126: slices.Clip[[]int,int] -/
def slices_Clip__int_int.cx : Cx := ⟨tys, [], [], [], [], noDyn, [.tmp 2]⟩
def slices_Clip__int_int : Sm := fun xs H Q => ∃ k, callK (slices_Clip__int_int.cx) Go.Proofs.Tryz.f126 k xs H Q
theorem slices_Clip__int_int_eq (k : Nat) (z0 : Pl) (z0n : Nat) (H : Hp) (Q : Post) : callK (slices_Clip__int_int.cx) Go.Proofs.Tryz.f126 (k + 1) [.g (.sl z0 z0n 1)] H Q = (
 chk true (chk (leI 0 (nI z0n)) (chk (leI 0 (nI z0n)) (chk ((leN 0 (tN (nI z0n))) && ((leN (tN (nI z0n)) (tN (nI z0n))) && ((leN (tN (nI z0n)) z0n) && (ends H z0 ((tN (nI z0n)) * 1))))) (Q (.g (.sl (shf z0 0) ((tN (nI z0n)) - 0) 1)) H))))) := by kernel_rfl
theorem slices_Clip__int_int_ok : Sound Go.Proofs.Tryz.prog 126 (slices_Clip__int_int) := prog_ok.sound (cx := slices_Clip__int_int.cx) rfl (EnvOK.nil _) (noDyn_ok _) Go.Proofs.Tryz.func126 rfl

/-! 109: cryostat/node.Join -/
def node_Join.cx : Cx := ⟨tys, [], [], [], [(65, page_May), (111, node_Both), (125, slices_Clip__string_string), (126, slices_Clip__int_int)], noDyn, [.cell 6 75, .tmp 7]⟩
def node_Join : Sm := fun xs H Q => ∃ k, callK (node_Join.cx) Go.Proofs.Tryz.f109 k xs H Q
theorem node_Join_eq (k : Nat) (z0 : Bool) (z1 : Bool) (z2 : Pl) (z2n : Nat) (z3 : Pl) (z3n : Nat) (z4 : Pl) (z4n : Nat) (z5 : ByteArray) (z6 : Bool) (z7 : Bool) (z8 : Pl) (z8n : Nat) (z9 : Pl) (z9n : Nat) (z10 : Pl) (z10n : Nat) (H : Hp) (Q : Post) : callK (node_Join.cx) Go.Proofs.Tryz.f109 (k + 1) [.agg [.bool z0, .bool z1, .sl z2 z2n 1, .sl z3 z3n 1, .sl z4 z4n 1], .g (.str z5), .agg [.bool z6, .bool z7, .sl z8 z8n 1, .sl z9 z9n 1, .sl z10 z10n 1]] H Q = (
 cl page_May [(.agg [(.bool z0), (.bool z1), (.sl z2 z2n 1), (.sl z3 z3n 1), (.sl z4 z4n 1)])] H fun r0 H1 =>
 rG r0 fun v2 =>
 dB v2 fun b3 =>
 bite (!b3)
 (Q (.tup [(.a [(.bool false), (.bool false), (.sl none 0 1), (.sl none 0 1), (.sl none 0 1)]), (.s (.int .i64 900))]) H1)
 (cl page_May [(.agg [(.bool z6), (.bool z7), (.sl z8 z8n 1), (.sl z9 z9n 1), (.sl z10 z10n 1)])] H1 fun r4 H5 =>
  rG r4 fun v6 =>
  dB v6 fun b7 =>
  bite (!b7)
  (Q (.tup [(.a [(.bool false), (.bool false), (.sl none 0 1), (.sl none 0 1), (.sl none 0 1)]), (.s (.int .i64 900))]) H5)
  (bite (!(eqB z1 z7))
   (Q (.tup [(.a [(.bool false), (.bool false), (.sl none 0 1), (.sl none 0 1), (.sl none 0 1)]), (.s (.int .i64 900))]) H5)
   (cl node_Both [(.agg [(.bool z0), (.bool z1), (.sl z2 z2n 1), (.sl z3 z3n 1), (.sl z4 z4n 1)]), (.g (.str z5)), (.agg [(.bool z6), (.bool z7), (.sl z8 z8n 1), (.sl z9 z9n 1), (.sl z10 z10n 1)])] H5 fun r8 H9 =>
    rA r8 fun c10 =>
    uC c10 fun v11 c12 =>
    dB v11 fun b13 =>
    uC c12 fun v14 c15 =>
    dB v14 fun b16 =>
    uC c15 fun v17 c18 =>
    dL 1 v17 fun x19 n20 =>
    uC c18 fun v21 c22 =>
    dL 1 v21 fun x23 n24 =>
    uC c22 fun v25 c26 =>
    dL 1 v25 fun x27 n28 =>
    uN c26 (cl page_May [(.agg [(.bool b13), (.bool b16), (.sl x19 n20 1), (.sl x23 n24 1), (.sl x27 n28 1)])] H9 fun r29 H30 =>
    rG r29 fun v31 =>
    dB v31 fun b32 =>
    bite (!b32)
    (Q (.tup [(.a [(.bool false), (.bool false), (.sl none 0 1), (.sl none 0 1), (.sl none 0 1)]), (.s (.int .i64 900))]) H30)
    (cl slices_Clip__string_string [(.g (.sl x19 n20 1))] H30 fun r33 H34 =>
     rG r33 fun v35 =>
     dL 1 v35 fun x36 n37 =>
     cl slices_Clip__string_string [(.g (.sl x23 n24 1))] H34 fun r38 H39 =>
     rG r38 fun v40 =>
     dL 1 v40 fun x41 n42 =>
     cl slices_Clip__int_int [(.g (.sl x27 n28 1))] H39 fun r43 H44 =>
     rG r43 fun v45 =>
     dL 1 v45 fun x46 n47 =>
     Q (.tup [(.a [(.bool b13), (.bool b16), (.sl x36 n37 1), (.sl x41 n42 1), (.sl x46 n47 1)]), (.s (.int .i64 0))]) H44)))))) := by kernel_rfl
theorem node_Join_ok : Sound Go.Proofs.Tryz.prog 109 (node_Join) := prog_ok.sound (cx := node_Join.cx) rfl (EnvOK.cons ((page_May_ok).c ⟨_, Go.Proofs.Tryz.func65, by kernel_rfl, by kernel_rfl⟩) (EnvOK.cons ((node_Both_ok).c ⟨_, Go.Proofs.Tryz.func111, by kernel_rfl, by kernel_rfl⟩) (EnvOK.cons ((slices_Clip__string_string_ok).c ⟨_, Go.Proofs.Tryz.func125, by kernel_rfl, by kernel_rfl⟩) (EnvOK.cons ((slices_Clip__int_int_ok).c ⟨_, Go.Proofs.Tryz.func126, by kernel_rfl, by kernel_rfl⟩) (EnvOK.nil _))))) (noDyn_ok _) Go.Proofs.Tryz.func109 rfl

/-! 110: slices.Delete[[]int,int] -/
def slices_Delete__int_int.cx : Cx := ⟨tys, [], [], [], [], noDyn, [.tmp 6]⟩
def slices_Delete__int_int : Sm := fun xs H Q => ∃ k, callK (slices_Delete__int_int.cx) Go.Proofs.Tryz.f110 k xs H Q
theorem slices_Delete__int_int_eq (k : Nat) (z0 : Pl) (z0n : Nat) (z1 : Int) (z2 : Int) (H : Hp) (Q : Post) : callK (slices_Delete__int_int.cx) Go.Proofs.Tryz.f110 (k + 1) [.g (.sl z0 z0n 1), .g (.int .i64 z1), .g (.int .i64 z2)] H Q = (
 chk true (chk (leI 0 (nI z0n)) (chk (leI 0 z2) (chk (leI 0 z1) (chk ((leN (tN z1) (tN z2)) && ((leN (tN z2) (tN (nI z0n))) && ((leN (tN (nI z0n)) z0n) && (ends H z0 ((tN (nI z0n)) * 1))))) (bite (eqI z1 z2)
 (Q (.g (.sl z0 z0n 1)) H)
 (chk true (chk (leI 0 z1) (chk ((leN 0 (tN z1)) && ((leN (tN z1) z0n) || (room H z0 ((tN z1) * 1)))) (chk true (chk (leI 0 z2) (chk (leN (tN z2) z0n) (chk true (rdN H (shf z0 ((tN z2) * 1)) ((z0n - (tN z2)) * 1) fun c0 =>
  chk true (ap H 3 1 8 (shf z0 0) ((tN z1) - 0) c0 (z0n - (tN z2)) fun x1 n2 H3 =>
  chk true (chk (leI 0 (nI z0n)) (chk (leI 0 (nI n2)) (chk ((leN (tN (nI n2)) (tN (nI z0n))) && ((leN (tN (nI z0n)) n2) || (room H3 x1 ((tN (nI z0n)) * 1)))) (chk true (clr H3 (shf x1 ((tN (nI n2)) * 1)) ((tN (nI z0n)) - (tN (nI n2))) [(.int .i64 0)] fun H4 =>
  Q (.g (.sl x1 n2 1)) H4)))))))))))))))))))) := by kernel_rfl
theorem slices_Delete__int_int_ok : Sound Go.Proofs.Tryz.prog 110 (slices_Delete__int_int) := prog_ok.sound (cx := slices_Delete__int_int.cx) rfl (EnvOK.nil _) (noDyn_ok _) Go.Proofs.Tryz.func110 rfl

/-! 112: cryostat/node.Cut -/
def node_Cut.cx : Cx := ⟨tys, [], [], [], [(83, page_Copy)], noDyn, [.cell 4 75, .tmp 5, .cell 6 75]⟩
def node_Cut : Sm := fun xs H Q => ∃ k, callK (node_Cut.cx) Go.Proofs.Tryz.f112 k xs H Q
theorem node_Cut_eq (k : Nat) (z0 : Bool) (z1 : Bool) (z2 : Pl) (z2n : Nat) (z3 : Pl) (z3n : Nat) (z4 : Pl) (z4n : Nat) (z5 : Int) (H : Hp) (Q : Post) : callK (node_Cut.cx) Go.Proofs.Tryz.f112 (k + 1) [.agg [.bool z0, .bool z1, .sl z2 z2n 1, .sl z3 z3n 1, .sl z4 z4n 1], .g (.int .i64 z5)] H Q = (
 chk true (chk ((leI 0 z5) && (ltI z5 (nI z2n))) (pS z2 fun n0 n1 =>
 rd H n0 (n1 + ((tN z5) * 1)) fun v2 =>
 dS v2 fun s3 =>
 cl page_Copy [(.agg [(.bool z0), (.bool z1), (.sl z2 z2n 1), (.sl z3 z3n 1), (.sl z4 z4n 1)])] H fun r4 H5 =>
 rA r4 fun c6 =>
 uC c6 fun v7 c8 =>
 dB v7 fun b9 =>
 uC c8 fun v10 c11 =>
 dB v10 fun b12 =>
 uC c11 fun v13 c14 =>
 dL 1 v13 fun x15 n16 =>
 uC c14 fun v17 c18 =>
 dL 1 v17 fun x19 n20 =>
 uC c18 fun v21 c22 =>
 dL 1 v21 fun x23 n24 =>
 uN c22 (rd H5 n0 (n1 + ((tN z5) * 1)) fun v25 =>
 dS v25 fun s26 =>
 eqv (.g (.str s3)) (.g (.str s26)) (cl page_Copy [(.agg [(.bool z0), (.bool z1), (.sl z2 z2n 1), (.sl z3 z3n 1), (.sl z4 z4n 1)])] H5 fun r27 H28 =>
 rA r27 fun c29 =>
 uC c29 fun v30 c31 =>
 dB v30 fun b32 =>
 uC c31 fun v33 c34 =>
 dB v33 fun b35 =>
 uC c34 fun v36 c37 =>
 dL 1 v36 fun x38 n39 =>
 uC c37 fun v40 c41 =>
 dL 1 v40 fun x42 n43 =>
 uC c41 fun v44 c45 =>
 dL 1 v44 fun x46 n47 =>
 uN c45 (rd H28 n0 (n1 + ((tN z5) * 1)) fun v48 =>
 dS v48 fun s49 =>
 eqv (.g (.str s3)) (.g (.str s49)) (chk true (chk (leI 0 z5) (chk ((leN 0 (tN z5)) && ((leN (tN z5) n16) || (room H28 x15 ((tN z5) * 1)))) (bite z1
 (chk true (chk (leI 0 z5) (chk ((leN 0 (tN z5)) && ((leN (tN z5) n20) || (room H28 x19 ((tN z5) * 1)))) (chk true (chk (leI 0 z5) (chk (leN (tN z5) n39) (chk true (chk (leI 0 z5) (chk (leN (tN z5) n43) (Q (.tup [(.a [(.bool b9), (.bool b12), (.sl (shf x15 0) ((tN z5) - 0) 1), (.sl (shf x19 0) ((tN z5) - 0) 1), (.sl x23 n24 1)]), (.s (.str s3)), (.a [(.bool b32), (.bool b35), (.sl (shf x38 ((tN z5) * 1)) (n39 - (tN z5)) 1), (.sl (shf x42 ((tN z5) * 1)) (n43 - (tN z5)) 1), (.sl x46 n47 1)])]) H28))))))))))
 (chk true (chk (leI 0 (wrapI .i64 (z5 + 1))) (chk ((leN 0 (tN (wrapI .i64 (z5 + 1)))) && ((leN (tN (wrapI .i64 (z5 + 1))) n24) || (room H28 x23 ((tN (wrapI .i64 (z5 + 1))) * 1)))) (chk true (chk (leI 0 (wrapI .i64 (z5 + 1))) (chk (leN (tN (wrapI .i64 (z5 + 1))) n39) (chk true (chk (leI 0 (wrapI .i64 (z5 + 1))) (chk (leN (tN (wrapI .i64 (z5 + 1))) n47) (Q (.tup [(.a [(.bool b9), (.bool b12), (.sl (shf x15 0) ((tN z5) - 0) 1), (.sl x19 n20 1), (.sl (shf x23 0) ((tN (wrapI .i64 (z5 + 1))) - 0) 1)]), (.s (.str s3)), (.a [(.bool b32), (.bool b35), (.sl (shf x38 ((tN (wrapI .i64 (z5 + 1))) * 1)) (n39 - (tN (wrapI .i64 (z5 + 1)))) 1), (.sl x42 n43 1), (.sl (shf x46 ((tN (wrapI .i64 (z5 + 1))) * 1)) (n47 - (tN (wrapI .i64 (z5 + 1)))) 1)])]) H28)))))))))))))))))))) := by kernel_rfl
theorem node_Cut_ok : Sound Go.Proofs.Tryz.prog 112 (node_Cut) := prog_ok.sound (cx := node_Cut.cx) rfl (EnvOK.cons ((page_Copy_ok).c ⟨_, Go.Proofs.Tryz.func83, by kernel_rfl, by kernel_rfl⟩) (EnvOK.nil _)) (noDyn_ok _) Go.Proofs.Tryz.func112 rfl

/-! 95: (*cryostat/erase.eraser).mend -/
def erase_eraser_mend.cx : Cx := ⟨tys, [], [], [], [(109, node_Join), (94, slices_Delete__string_string), (110, slices_Delete__int_int), (111, node_Both), (112, node_Cut)], noDyn, []⟩
def erase_eraser_mend : Sm := fun xs H Q => ∃ k, callK (erase_eraser_mend.cx) Go.Proofs.Tryz.f95 k xs H Q
theorem erase_eraser_mend_eq (k : Nat) (z0 : Pl) (z1 : Pl) (z2 : Int) (H : Hp) (Q : Post) : callK (erase_eraser_mend.cx) Go.Proofs.Tryz.f95 (k + 1) [.g (.ptr z0), .g (.ptr z1), .g (.int .i64 z2)] H Q = (
 pS z1 fun n0 n1 =>
 rd H n0 (n1 + 4) fun v2 =>
 dL 1 v2 fun x3 n4 =>
 chk true (chk ((leI 0 z2) && (ltI z2 (nI n4))) (pS x3 fun n5 n6 =>
 rd H n5 (n6 + ((tN z2) * 1)) fun v7 =>
 dI .i64 v7 fun i8 =>
 pS z1 fun n9 n10 =>
 rd H n9 (n10 + 4) fun v11 =>
 dL 1 v11 fun x12 n13 =>
 chk true (chk ((leI 0 (wrapI .i64 (z2 + 1))) && (ltI (wrapI .i64 (z2 + 1)) (nI n13))) (pS x12 fun n14 n15 =>
 rd H n14 (n15 + ((tN (wrapI .i64 (z2 + 1))) * 1)) fun v16 =>
 dI .i64 v16 fun i17 =>
 pS z0 fun n18 n19 =>
 rd H n18 (n19 + 0) fun v20 =>
 dL 5 v20 fun x21 n22 =>
 chk true (chk ((leI 0 i8) && (ltI i8 (nI n22))) (pS x21 fun n23 n24 =>
 rd H n23 (n24 + ((tN i8) * 5)) fun v25 =>
 dB v25 fun b26 =>
 rd H n23 ((n24 + ((tN i8) * 5)) + 1) fun v27 =>
 dB v27 fun b28 =>
 rd H n23 (((n24 + ((tN i8) * 5)) + 1) + 1) fun v29 =>
 dL 1 v29 fun x30 n31 =>
 rd H n23 ((((n24 + ((tN i8) * 5)) + 1) + 1) + 1) fun v32 =>
 dL 1 v32 fun x33 n34 =>
 rd H n23 (((((n24 + ((tN i8) * 5)) + 1) + 1) + 1) + 1) fun v35 =>
 dL 1 v35 fun x36 n37 =>
 pS z1 fun n38 n39 =>
 rd H n38 (n39 + 2) fun v40 =>
 dL 1 v40 fun x41 n42 =>
 chk true (chk ((leI 0 z2) && (ltI z2 (nI n42))) (pS x41 fun n43 n44 =>
 rd H n43 (n44 + ((tN z2) * 1)) fun v45 =>
 dS v45 fun s46 =>
 pS z0 fun n47 n48 =>
 rd H n47 (n48 + 0) fun v49 =>
 dL 5 v49 fun x50 n51 =>
 chk true (chk ((leI 0 i17) && (ltI i17 (nI n51))) (pS x50 fun n52 n53 =>
 rd H n52 (n53 + ((tN i17) * 5)) fun v54 =>
 dB v54 fun b55 =>
 rd H n52 ((n53 + ((tN i17) * 5)) + 1) fun v56 =>
 dB v56 fun b57 =>
 rd H n52 (((n53 + ((tN i17) * 5)) + 1) + 1) fun v58 =>
 dL 1 v58 fun x59 n60 =>
 rd H n52 ((((n53 + ((tN i17) * 5)) + 1) + 1) + 1) fun v61 =>
 dL 1 v61 fun x62 n63 =>
 rd H n52 (((((n53 + ((tN i17) * 5)) + 1) + 1) + 1) + 1) fun v64 =>
 dL 1 v64 fun x65 n66 =>
 cl node_Join [(.agg [(.bool b26), (.bool b28), (.sl x30 n31 1), (.sl x33 n34 1), (.sl x36 n37 1)]), (.g (.str s46)), (.agg [(.bool b55), (.bool b57), (.sl x59 n60 1), (.sl x62 n63 1), (.sl x65 n66 1)])] H fun r67 H68 =>
 rT r67 fun c69 =>
 uR c69 fun q70 c71 =>
 rC q70 fun c72 =>
 uC c72 fun v73 c74 =>
 dB v73 fun b75 =>
 uC c74 fun v76 c77 =>
 dB v76 fun b78 =>
 uC c77 fun v79 c80 =>
 dL 1 v79 fun x81 n82 =>
 uC c80 fun v83 c84 =>
 dL 1 v83 fun x85 n86 =>
 uC c84 fun v87 c88 =>
 dL 1 v87 fun x89 n90 =>
 uN c88 (uR c71 fun q91 c92 =>
 rS q91 fun v93 =>
 dI .i64 v93 fun i94 =>
 uE c92 (bite (eqI i94 0)
 (pS z0 fun n95 n96 =>
  rd H68 n95 (n96 + 0) fun v97 =>
  dL 5 v97 fun x98 n99 =>
  pS z0 fun n100 n101 =>
  rd H68 n100 (n101 + 0) fun v102 =>
  dL 5 v102 fun x103 n104 =>
  chk true (chk ((leI 0 i8) && (ltI i8 (nI n99))) (pS x98 fun n105 n106 =>
  wr H68 n105 (n106 + ((tN i8) * 5)) (.bool b75) fun H107 =>
  wr H107 n105 ((n106 + ((tN i8) * 5)) + 1) (.bool b78) fun H108 =>
  wr H108 n105 (((n106 + ((tN i8) * 5)) + 1) + 1) (.sl x81 n82 1) fun H109 =>
  wr H109 n105 ((((n106 + ((tN i8) * 5)) + 1) + 1) + 1) (.sl x85 n86 1) fun H110 =>
  wr H110 n105 (((((n106 + ((tN i8) * 5)) + 1) + 1) + 1) + 1) (.sl x89 n90 1) fun H111 =>
  chk true (chk ((leI 0 i17) && (ltI i17 (nI n104))) (pS x103 fun n112 n113 =>
  wr H111 n112 (n113 + ((tN i17) * 5)) (.bool false) fun H114 =>
  wr H114 n112 ((n113 + ((tN i17) * 5)) + 1) (.bool false) fun H115 =>
  wr H115 n112 (((n113 + ((tN i17) * 5)) + 1) + 1) (.sl none 0 1) fun H116 =>
  wr H116 n112 ((((n113 + ((tN i17) * 5)) + 1) + 1) + 1) (.sl none 0 1) fun H117 =>
  wr H117 n112 (((((n113 + ((tN i17) * 5)) + 1) + 1) + 1) + 1) (.sl none 0 1) fun H118 =>
  pS z1 fun n119 n120 =>
  rd H118 n119 (n120 + 2) fun v121 =>
  dL 1 v121 fun x122 n123 =>
  pS z1 fun n124 n125 =>
  rd H118 n124 (n125 + 4) fun v126 =>
  dL 1 v126 fun x127 n128 =>
  cl slices_Delete__string_string [(.g (.sl x122 n123 1)), (.g (.int .i64 z2)), (.g (.int .i64 (wrapI .i64 (z2 + 1))))] H118 fun r129 H130 =>
  rG r129 fun v131 =>
  dL 1 v131 fun x132 n133 =>
  rd H130 n124 (n125 + 4) fun v134 =>
  dL 1 v134 fun x135 n136 =>
  eqv (.g (.sl x127 n128 1)) (.g (.sl x135 n136 1)) (cl slices_Delete__int_int [(.g (.sl x127 n128 1)), (.g (.int .i64 (wrapI .i64 (z2 + 1)))), (.g (.int .i64 (wrapI .i64 (z2 + 2))))] H130 fun r137 H138 =>
  rG r137 fun v139 =>
  dL 1 v139 fun x140 n141 =>
  pS z1 fun n142 n143 =>
  wr H138 n142 (n143 + 2) (.sl x132 n133 1) fun H144 =>
  pS z1 fun n145 n146 =>
  wr H144 n145 (n146 + 4) (.sl x140 n141 1) fun H147 =>
  Q (.tup []) H147))))))
 (pS z0 fun n148 n149 =>
  rd H68 n148 (n149 + 0) fun v150 =>
  dL 5 v150 fun x151 n152 =>
  chk true (chk ((leI 0 i8) && (ltI i8 (nI n152))) (pS x151 fun n153 n154 =>
  rd H68 n153 (n154 + ((tN i8) * 5)) fun v155 =>
  dB v155 fun b156 =>
  rd H68 n153 ((n154 + ((tN i8) * 5)) + 1) fun v157 =>
  dB v157 fun b158 =>
  rd H68 n153 (((n154 + ((tN i8) * 5)) + 1) + 1) fun v159 =>
  dL 1 v159 fun x160 n161 =>
  rd H68 n153 ((((n154 + ((tN i8) * 5)) + 1) + 1) + 1) fun v162 =>
  dL 1 v162 fun x163 n164 =>
  rd H68 n153 (((((n154 + ((tN i8) * 5)) + 1) + 1) + 1) + 1) fun v165 =>
  dL 1 v165 fun x166 n167 =>
  pS z1 fun n168 n169 =>
  rd H68 n168 (n169 + 2) fun v170 =>
  dL 1 v170 fun x171 n172 =>
  chk true (chk ((leI 0 z2) && (ltI z2 (nI n172))) (pS x171 fun n173 n174 =>
  rd H68 n173 (n174 + ((tN z2) * 1)) fun v175 =>
  dS v175 fun s176 =>
  pS z0 fun n177 n178 =>
  rd H68 n177 (n178 + 0) fun v179 =>
  dL 5 v179 fun x180 n181 =>
  chk true (chk ((leI 0 i17) && (ltI i17 (nI n181))) (pS x180 fun n182 n183 =>
  rd H68 n182 (n183 + ((tN i17) * 5)) fun v184 =>
  dB v184 fun b185 =>
  rd H68 n182 ((n183 + ((tN i17) * 5)) + 1) fun v186 =>
  dB v186 fun b187 =>
  rd H68 n182 (((n183 + ((tN i17) * 5)) + 1) + 1) fun v188 =>
  dL 1 v188 fun x189 n190 =>
  rd H68 n182 ((((n183 + ((tN i17) * 5)) + 1) + 1) + 1) fun v191 =>
  dL 1 v191 fun x192 n193 =>
  rd H68 n182 (((((n183 + ((tN i17) * 5)) + 1) + 1) + 1) + 1) fun v194 =>
  dL 1 v194 fun x195 n196 =>
  cl node_Both [(.agg [(.bool b156), (.bool b158), (.sl x160 n161 1), (.sl x163 n164 1), (.sl x166 n167 1)]), (.g (.str s176)), (.agg [(.bool b185), (.bool b187), (.sl x189 n190 1), (.sl x192 n193 1), (.sl x195 n196 1)])] H68 fun r197 H198 =>
  rA r197 fun c199 =>
  uC c199 fun v200 c201 =>
  dB v200 fun b202 =>
  uC c201 fun v203 c204 =>
  dB v203 fun b205 =>
  uC c204 fun v206 c207 =>
  dL 1 v206 fun x208 n209 =>
  uC c207 fun v210 c211 =>
  dL 1 v210 fun x212 n213 =>
  uC c211 fun v214 c215 =>
  dL 1 v214 fun x216 n217 =>
  uN c215 (pS z0 fun n218 n219 =>
  rd H198 n218 (n219 + 0) fun v220 =>
  dL 5 v220 fun x221 n222 =>
  pS z1 fun n223 n224 =>
  rd H198 n223 (n224 + 2) fun v225 =>
  dL 1 v225 fun x226 n227 =>
  pS z0 fun n228 n229 =>
  rd H198 n228 (n229 + 0) fun v230 =>
  dL 5 v230 fun x231 n232 =>
  cl node_Cut [(.agg [(.bool b202), (.bool b205), (.sl x208 n209 1), (.sl x212 n213 1), (.sl x216 n217 1)]), (.g (.int .i64 (wrapI .i64 (Int.tdiv (nI n209) 2))))] H198 fun r233 H234 =>
  rT r233 fun c235 =>
  uR c235 fun q236 c237 =>
  rC q236 fun c238 =>
  uC c238 fun v239 c240 =>
  dB v239 fun b241 =>
  uC c240 fun v242 c243 =>
  dB v242 fun b244 =>
  uC c243 fun v245 c246 =>
  dL 1 v245 fun x247 n248 =>
  uC c246 fun v249 c250 =>
  dL 1 v249 fun x251 n252 =>
  uC c250 fun v253 c254 =>
  dL 1 v253 fun x255 n256 =>
  uN c254 (uR c237 fun q257 c258 =>
  rS q257 fun v259 =>
  dS v259 fun s260 =>
  uR c258 fun q261 c262 =>
  rC q261 fun c263 =>
  uC c263 fun v264 c265 =>
  dB v264 fun b266 =>
  uC c265 fun v267 c268 =>
  dB v267 fun b269 =>
  uC c268 fun v270 c271 =>
  dL 1 v270 fun x272 n273 =>
  uC c271 fun v274 c275 =>
  dL 1 v274 fun x276 n277 =>
  uC c275 fun v278 c279 =>
  dL 1 v278 fun x280 n281 =>
  uN c279 (uE c262 (rd H234 n228 (n229 + 0) fun v282 =>
  dL 5 v282 fun x283 n284 =>
  eqv (.g (.sl x231 n232 5)) (.g (.sl x283 n284 5)) (rd H234 n223 (n224 + 2) fun v285 =>
  dL 1 v285 fun x286 n287 =>
  eqv (.g (.sl x226 n227 1)) (.g (.sl x286 n287 1)) (rd H234 n218 (n219 + 0) fun v288 =>
  dL 5 v288 fun x289 n290 =>
  eqv (.g (.sl x221 n222 5)) (.g (.sl x289 n290 5)) (chk true (chk ((leI 0 i8) && (ltI i8 (nI n222))) (pS x221 fun n291 n292 =>
  wr H234 n291 (n292 + ((tN i8) * 5)) (.bool b241) fun H293 =>
  wr H293 n291 ((n292 + ((tN i8) * 5)) + 1) (.bool b244) fun H294 =>
  wr H294 n291 (((n292 + ((tN i8) * 5)) + 1) + 1) (.sl x247 n248 1) fun H295 =>
  wr H295 n291 ((((n292 + ((tN i8) * 5)) + 1) + 1) + 1) (.sl x251 n252 1) fun H296 =>
  wr H296 n291 (((((n292 + ((tN i8) * 5)) + 1) + 1) + 1) + 1) (.sl x255 n256 1) fun H297 =>
  chk true (chk ((leI 0 z2) && (ltI z2 (nI n227))) (pS x226 fun n298 n299 =>
  wr H297 n298 (n299 + ((tN z2) * 1)) (.str s260) fun H300 =>
  chk true (chk ((leI 0 i17) && (ltI i17 (nI n232))) (pS x231 fun n301 n302 =>
  wr H300 n301 (n302 + ((tN i17) * 5)) (.bool b266) fun H303 =>
  wr H303 n301 ((n302 + ((tN i17) * 5)) + 1) (.bool b269) fun H304 =>
  wr H304 n301 (((n302 + ((tN i17) * 5)) + 1) + 1) (.sl x272 n273 1) fun H305 =>
  wr H305 n301 ((((n302 + ((tN i17) * 5)) + 1) + 1) + 1) (.sl x276 n277 1) fun H306 =>
  wr H306 n301 (((((n302 + ((tN i17) * 5)) + 1) + 1) + 1) + 1) (.sl x280 n281 1) fun H307 =>
  Q (.tup []) H307))))))))))))))))))))))))))))))))) := by kernel_rfl
theorem erase_eraser_mend_ok : Sound Go.Proofs.Tryz.prog 95 (erase_eraser_mend) := prog_ok.sound (cx := erase_eraser_mend.cx) rfl (EnvOK.cons ((node_Join_ok).c ⟨_, Go.Proofs.Tryz.func109, by kernel_rfl, by kernel_rfl⟩) (EnvOK.cons ((slices_Delete__string_string_ok).c ⟨_, Go.Proofs.Tryz.func94, by kernel_rfl, by kernel_rfl⟩) (EnvOK.cons ((slices_Delete__int_int_ok).c ⟨_, Go.Proofs.Tryz.func110, by kernel_rfl, by kernel_rfl⟩) (EnvOK.cons ((node_Both_ok).c ⟨_, Go.Proofs.Tryz.func111, by kernel_rfl, by kernel_rfl⟩) (EnvOK.cons ((node_Cut_ok).c ⟨_, Go.Proofs.Tryz.func112, by kernel_rfl, by kernel_rfl⟩) (EnvOK.nil _)))))) (noDyn_ok _) Go.Proofs.Tryz.func95 rfl

/-! 62: (*cryostat/erase.eraser).drop -/
def erase_eraser_drop.cx (S : Sm) : Cx := ⟨tys, [], [], [], [(82, node_Slot), (94, slices_Delete__string_string), (81, find_Kid), (62, S), (95, erase_eraser_mend)], noDyn, []⟩
def erase_eraser_drop.st (S : Sm) : Sm := fun xs H Q => ∃ k, callK (erase_eraser_drop.cx S) Go.Proofs.Tryz.f62 k xs H Q
theorem erase_eraser_drop_eq (S : Sm) (k : Nat) (z0 : Pl) (z1 : Int) (z2 : ByteArray) (H : Hp) (Q : Post) : callK (erase_eraser_drop.cx S) Go.Proofs.Tryz.f62 (k + 1) [.g (.ptr z0), .g (.int .i64 z1), .g (.str z2)] H Q = (
 pS z0 fun n0 n1 =>
 rd H n0 (n1 + 0) fun v2 =>
 dL 5 v2 fun x3 n4 =>
 chk true (chk ((leI 0 z1) && (ltI z1 (nI n4))) (pS x3 fun n5 n6 =>
 rd H n5 ((n6 + ((tN z1) * 5)) + 1) fun v7 =>
 dB v7 fun b8 =>
 bite b8
 (rd H n5 ((n6 + ((tN z1) * 5)) + 2) fun v9 =>
  dL 1 v9 fun x10 n11 =>
  cl node_Slot [(.g (.sl x10 n11 1)), (.g (.str z2))] H fun r12 H13 =>
  rT r12 fun c14 =>
  uR c14 fun q15 c16 =>
  rS q15 fun v17 =>
  dI .i64 v17 fun i18 =>
  uR c16 fun q19 c20 =>
  rS q19 fun v21 =>
  dB v21 fun b22 =>
  uE c20 (rd H13 n5 ((n6 + ((tN z1) * 5)) + 2) fun v23 =>
  dL 1 v23 fun x24 n25 =>
  rd H13 n5 ((n6 + ((tN z1) * 5)) + 3) fun v26 =>
  dL 1 v26 fun x27 n28 =>
  cl slices_Delete__string_string [(.g (.sl x24 n25 1)), (.g (.int .i64 i18)), (.g (.int .i64 (wrapI .i64 (i18 + 1))))] H13 fun r29 H30 =>
  rG r29 fun v31 =>
  dL 1 v31 fun x32 n33 =>
  rd H30 n5 ((n6 + ((tN z1) * 5)) + 3) fun v34 =>
  dL 1 v34 fun x35 n36 =>
  eqv (.g (.sl x27 n28 1)) (.g (.sl x35 n36 1)) (cl slices_Delete__string_string [(.g (.sl x27 n28 1)), (.g (.int .i64 i18)), (.g (.int .i64 (wrapI .i64 (i18 + 1))))] H30 fun r37 H38 =>
  rG r37 fun v39 =>
  dL 1 v39 fun x40 n41 =>
  wr H38 n5 ((n6 + ((tN z1) * 5)) + 2) (.sl x32 n33 1) fun H42 =>
  wr H42 n5 ((n6 + ((tN z1) * 5)) + 3) (.sl x40 n41 1) fun H43 =>
  Q (.tup []) H43)))
 (cl find_Kid [(.g (.ptr (some (n5, (n6 + ((tN z1) * 5)))))), (.g (.str z2))] H fun r44 H45 =>
  rG r44 fun v46 =>
  dI .i64 v46 fun i47 =>
  rd H45 n5 ((n6 + ((tN z1) * 5)) + 4) fun v48 =>
  dL 1 v48 fun x49 n50 =>
  chk true (chk ((leI 0 i47) && (ltI i47 (nI n50))) (pS x49 fun n51 n52 =>
  rd H45 n51 (n52 + ((tN i47) * 1)) fun v53 =>
  dI .i64 v53 fun i54 =>
  cl S [(.g (.ptr z0)), (.g (.int .i64 i54)), (.g (.str z2))] H45 fun r55 H56 =>
  pS z0 fun n57 n58 =>
  rd H56 n57 (n58 + 0) fun v59 =>
  dL 5 v59 fun x60 n61 =>
  rd H56 n5 ((n6 + ((tN z1) * 5)) + 4) fun v62 =>
  dL 1 v62 fun x63 n64 =>
  chk true (chk ((leI 0 i47) && (ltI i47 (nI n64))) (pS x63 fun n65 n66 =>
  rd H56 n65 (n66 + ((tN i47) * 1)) fun v67 =>
  dI .i64 v67 fun i68 =>
  chk true (chk ((leI 0 i68) && (ltI i68 (nI n61))) (pS x60 fun n69 n70 =>
  rd H56 n69 ((n70 + ((tN i68) * 5)) + 2) fun v71 =>
  dL 1 v71 fun x72 n73 =>
  bite (ltI (nI n73) 2)
  (rd H56 n5 ((n6 + ((tN z1) * 5)) + 2) fun v74 =>
   dL 1 v74 fun x75 n76 =>
   cl erase_eraser_mend [(.g (.ptr z0)), (.g (.ptr (some (n5, (n6 + ((tN z1) * 5)))))), (.g (.int .i64 (mnI i47 (wrapI .i64 ((nI n76) - 1)))))] H56 fun r77 H78 =>
   Q (.tup []) H78)
  (Q (.tup []) H56))))))))))) := by kernel_rfl
theorem erase_eraser_drop.st_ok (S : Sm) (hS : SoundC Go.Proofs.Tryz.prog 62 S) : Sound Go.Proofs.Tryz.prog 62 (erase_eraser_drop.st S) := prog_ok.sound (cx := erase_eraser_drop.cx S) rfl (EnvOK.cons ((node_Slot_ok).c ⟨_, Go.Proofs.Tryz.func82, by kernel_rfl, by kernel_rfl⟩) (EnvOK.cons ((slices_Delete__string_string_ok).c ⟨_, Go.Proofs.Tryz.func94, by kernel_rfl, by kernel_rfl⟩) (EnvOK.cons ((find_Kid_ok).c ⟨_, Go.Proofs.Tryz.func81, by kernel_rfl, by kernel_rfl⟩) (EnvOK.cons hS (EnvOK.cons ((erase_eraser_mend_ok).c ⟨_, Go.Proofs.Tryz.func95, by kernel_rfl, by kernel_rfl⟩) (EnvOK.nil _)))))) (noDyn_ok _) Go.Proofs.Tryz.func62 rfl
def erase_eraser_drop.at : Nat → Sm
  | 0 => fun _ _ _ => False
  | n + 1 => erase_eraser_drop.st (erase_eraser_drop.at n)
def erase_eraser_drop : Sm := fun xs H Q => ∃ n, erase_eraser_drop.at n xs H Q
theorem erase_eraser_drop.at_ok : ∀ n, Sound Go.Proofs.Tryz.prog 62 (erase_eraser_drop.at n)
  | 0 => fun _ _ _ h => h.elim
  | n + 1 => erase_eraser_drop.st_ok _ ((erase_eraser_drop.at_ok n).c ⟨_, Go.Proofs.Tryz.func62, by kernel_rfl, by kernel_rfl⟩)
theorem erase_eraser_drop_ok : Sound Go.Proofs.Tryz.prog 62 (erase_eraser_drop) := Sound.ex (erase_eraser_drop.at_ok)

/-! 63: (*cryostat/erase.eraser).root -/
def erase_eraser_root.cx : Cx := ⟨tys, [], [], [], [], noDyn, []⟩
def erase_eraser_root : Sm := fun xs H Q => ∃ k, callK (erase_eraser_root.cx) Go.Proofs.Tryz.f63 k xs H Q
theorem erase_eraser_root_eq (k : Nat) (z0 : Pl) (H : Hp) (Q : Post) : callK (erase_eraser_root.cx) Go.Proofs.Tryz.f63 (k + 1) [.g (.ptr z0)] H Q = (
 pS z0 fun n0 n1 =>
 rd H n0 (n1 + 0) fun v2 =>
 dL 5 v2 fun x3 n4 =>
 chk true (chk ((leI 0 0) && (ltI 0 (nI n4))) (pS x3 fun n5 n6 =>
 rd H n5 (n6 + ((tN 0) * 5)) fun v7 =>
 dB v7 fun b8 =>
 rd H n5 ((n6 + ((tN 0) * 5)) + 1) fun v9 =>
 dB v9 fun b10 =>
 rd H n5 (((n6 + ((tN 0) * 5)) + 1) + 1) fun v11 =>
 dL 1 v11 fun x12 n13 =>
 rd H n5 ((((n6 + ((tN 0) * 5)) + 1) + 1) + 1) fun v14 =>
 dL 1 v14 fun x15 n16 =>
 rd H n5 (((((n6 + ((tN 0) * 5)) + 1) + 1) + 1) + 1) fun v17 =>
 dL 1 v17 fun x18 n19 =>
 bite (!b10)
 (bite (eqI (nI n13) 0)
  (pS z0 fun n20 n21 =>
   rd H n20 (n21 + 0) fun v22 =>
   dL 5 v22 fun x23 n24 =>
   pS z0 fun n25 n26 =>
   rd H n25 (n26 + 0) fun v27 =>
   dL 5 v27 fun x28 n29 =>
   chk true (chk ((leI 0 0) && (ltI 0 (nI n19))) (pS x18 fun n30 n31 =>
   rd H n30 (n31 + ((tN 0) * 1)) fun v32 =>
   dI .i64 v32 fun i33 =>
   pS z0 fun n34 n35 =>
   rd H n34 (n35 + 0) fun v36 =>
   dL 5 v36 fun x37 n38 =>
   chk true (chk ((leI 0 0) && (ltI 0 (nI n19))) (pS x18 fun n39 n40 =>
   rd H n39 (n40 + ((tN 0) * 1)) fun v41 =>
   dI .i64 v41 fun i42 =>
   chk true (chk ((leI 0 i42) && (ltI i42 (nI n38))) (pS x37 fun n43 n44 =>
   rd H n43 (n44 + ((tN i42) * 5)) fun v45 =>
   dB v45 fun b46 =>
   rd H n43 ((n44 + ((tN i42) * 5)) + 1) fun v47 =>
   dB v47 fun b48 =>
   rd H n43 (((n44 + ((tN i42) * 5)) + 1) + 1) fun v49 =>
   dL 1 v49 fun x50 n51 =>
   rd H n43 ((((n44 + ((tN i42) * 5)) + 1) + 1) + 1) fun v52 =>
   dL 1 v52 fun x53 n54 =>
   rd H n43 (((((n44 + ((tN i42) * 5)) + 1) + 1) + 1) + 1) fun v55 =>
   dL 1 v55 fun x56 n57 =>
   chk true (chk ((leI 0 0) && (ltI 0 (nI n24))) (pS x23 fun n58 n59 =>
   wr H n58 (n59 + ((tN 0) * 5)) (.bool b46) fun H60 =>
   wr H60 n58 ((n59 + ((tN 0) * 5)) + 1) (.bool b48) fun H61 =>
   wr H61 n58 (((n59 + ((tN 0) * 5)) + 1) + 1) (.sl x50 n51 1) fun H62 =>
   wr H62 n58 ((((n59 + ((tN 0) * 5)) + 1) + 1) + 1) (.sl x53 n54 1) fun H63 =>
   wr H63 n58 (((((n59 + ((tN 0) * 5)) + 1) + 1) + 1) + 1) (.sl x56 n57 1) fun H64 =>
   chk true (chk ((leI 0 i33) && (ltI i33 (nI n29))) (pS x28 fun n65 n66 =>
   wr H64 n65 (n66 + ((tN i33) * 5)) (.bool false) fun H67 =>
   wr H67 n65 ((n66 + ((tN i33) * 5)) + 1) (.bool false) fun H68 =>
   wr H68 n65 (((n66 + ((tN i33) * 5)) + 1) + 1) (.sl none 0 1) fun H69 =>
   wr H69 n65 ((((n66 + ((tN i33) * 5)) + 1) + 1) + 1) (.sl none 0 1) fun H70 =>
   wr H70 n65 (((((n66 + ((tN i33) * 5)) + 1) + 1) + 1) + 1) (.sl none 0 1) fun H71 =>
   Q (.tup []) H71)))))))))))
  (Q (.tup []) H))
 (Q (.tup []) H)))) := by kernel_rfl
theorem erase_eraser_root_ok : Sound Go.Proofs.Tryz.prog 63 (erase_eraser_root) := prog_ok.sound (cx := erase_eraser_root.cx) rfl (EnvOK.nil _) (noDyn_ok _) Go.Proofs.Tryz.func63 rfl

/-! 34: cryostat/erase.Erase -/
def erase_Erase.cx : Cx := ⟨tys, [25], [], [(8, [4, 8, 10, 25])], [(50, find_Find), (52, sound_Copy), (62, erase_eraser_drop), (63, erase_eraser_root)], noDyn, [.cell 4 24, .tmp 5, .tmp 6]⟩
def erase_Erase : Sm := fun xs H Q => ∃ k, callK (erase_Erase.cx) Go.Proofs.Tryz.f34 k xs H Q
def erase_Erase.l8 (k : Nat) (ax0 : Pl) (nx1 : Nat) (bx2 : Bool) (nx3 : Nat) (nx4 : Nat) (nx5 : Nat) (nx6 : Nat) (H : Hp) (Q : Post) : Prop := loopK (erase_Erase.cx) Go.Proofs.Tryz.f34 8 k (B 4 ((.bx [(.sl ax0 nx1 5)]) :: B 3 ((.g (.bool bx2)) :: .bad :: (.g (.ptr (some (nx3, nx4)))) :: B 14 ((.g (.ptr (some (nx5, nx6)))) :: B 12 ([]))))) H Q
theorem erase_Erase_eq (k : Nat) (z0 : Pl) (z0n : Nat) (z1 : ByteArray) (H : Hp) (Q : Post) : callK (erase_Erase.cx) Go.Proofs.Tryz.f34 (k + 1) [.agg [.sl z0 z0n 5], .g (.str z1)] H Q = (
 cl find_Find [(.agg [(.sl z0 z0n 5)]), (.g (.str z1))] H fun r0 H1 =>
 rT r0 fun c2 =>
 uR c2 fun q3 c4 =>
 rS q3 fun v5 =>
 dS v5 fun s6 =>
 uR c4 fun q7 c8 =>
 rS q7 fun v9 =>
 dB v9 fun b10 =>
 uR c8 fun q11 c12 =>
 rS q11 fun v13 =>
 dI .i64 v13 fun i14 =>
 uE c12 (bite (!(eqI i14 0))
 (Q (.tup [(.a [(.sl none 0 5)]), (.s (.bool false)), (.s (.int .i64 1300))]) H1)
 (cl sound_Copy [(.agg [(.sl z0 z0n 5)])] H1 fun r15 H16 =>
  rA r15 fun c17 =>
  uC c17 fun v18 c19 =>
  dL 5 v18 fun x20 n21 =>
  uN c19 (bite b10
  (cl erase_eraser_drop [(.g (.ptr (some ((ln H16), 0)))), (.g (.int .i64 0)), (.g (.str z1))] (pu H16 (.row true 120 [(.sl x20 n21 5)])) fun r22 H23 =>
   cl erase_eraser_root [(.g (.ptr (some ((ln H16), 0))))] H23 fun r24 H25 =>
   erase_Erase.l8 k none 0 b10 (ln H16) 0 (ln H16) 0 H25 Q)
  (erase_Erase.l8 k none 0 b10 (ln H16) 0 (ln H16) 0 (pu H16 (.row true 120 [(.sl x20 n21 5)])) Q))))) := by kernel_rfl
theorem erase_Erase.l8_eq (k : Nat) (ax0 : Pl) (nx1 : Nat) (bx2 : Bool) (nx3 : Nat) (nx4 : Nat) (nx5 : Nat) (nx6 : Nat) (H : Hp) (Q : Post) : erase_Erase.l8 (k + 1) ax0 nx1 bx2 nx3 nx4 nx5 nx6 H Q = (
 rd H nx3 (nx4 + 0) fun v0 =>
 dL 5 v0 fun x1 n2 =>
 Q (.tup [(.a [(.sl x1 n2 5)]), (.s (.bool bx2)), (.s (.int .i64 0))]) H) := by kernel_rfl
theorem erase_Erase_ok : Sound Go.Proofs.Tryz.prog 34 (erase_Erase) := prog_ok.sound (cx := erase_Erase.cx) rfl (EnvOK.cons ((find_Find_ok).c ⟨_, Go.Proofs.Tryz.func50, by kernel_rfl, by kernel_rfl⟩) (EnvOK.cons ((sound_Copy_ok).c ⟨_, Go.Proofs.Tryz.func52, by kernel_rfl, by kernel_rfl⟩) (EnvOK.cons ((erase_eraser_drop_ok).c ⟨_, Go.Proofs.Tryz.func62, by kernel_rfl, by kernel_rfl⟩) (EnvOK.cons ((erase_eraser_root_ok).c ⟨_, Go.Proofs.Tryz.func63, by kernel_rfl, by kernel_rfl⟩) (EnvOK.nil _))))) (noDyn_ok _) Go.Proofs.Tryz.func34 rfl

/-! 32: cryostat/cryostatlaw13.awake -/
def law13_awake.cx : Cx := ⟨tys, [], [], [], [(30, ref9_Build), (34, erase_Erase), (26, ref9_All), (17, law0_Num), (18, law0_SameTree)], noDyn, [.tmp 0]⟩
def law13_awake : Sm := fun xs H Q => ∃ k, callK (law13_awake.cx) Go.Proofs.Tryz.f32 k xs H Q
theorem law13_awake_eq (k : Nat)  (H : Hp) (Q : Post) : callK (law13_awake.cx) Go.Proofs.Tryz.f32 (k + 1) [] H Q = (
 cl ref9_Build [(.g (.sl (some ((ln H), 0)) 5 2))] (pu H (.row false 1000003 [(.str (mkS [97])), (.str (mkS [49])), (.str (mkS [98])), (.str (mkS [])), (.str (mkS [99])), (.str (mkS [51])), (.str (mkS [100])), (.str (mkS [])), (.str (mkS [101])), (.str (mkS [53]))])) fun r0 H1 =>
 rA r0 fun c2 =>
 uC c2 fun v3 c4 =>
 dL 5 v3 fun x5 n6 =>
 uN c4 (cl erase_Erase [(.agg [(.sl x5 n6 5)]), (.g (.str (mkS [99])))] H1 fun r7 H8 =>
 rT r7 fun c9 =>
 uR c9 fun q10 c11 =>
 rC q10 fun c12 =>
 uC c12 fun v13 c14 =>
 dL 5 v13 fun x15 n16 =>
 uN c14 (uR c11 fun q17 c18 =>
 rS q17 fun v19 =>
 dB v19 fun b20 =>
 uR c18 fun q21 c22 =>
 rS q21 fun v23 =>
 dI .i64 v23 fun i24 =>
 uE c22 (cl erase_Erase [(.agg [(.sl x5 n6 5)]), (.g (.str (mkS [120])))] H8 fun r25 H26 =>
 rT r25 fun c27 =>
 uR c27 fun q28 c29 =>
 rC q28 fun c30 =>
 uC c30 fun v31 c32 =>
 dL 5 v31 fun x33 n34 =>
 uN c32 (uR c29 fun q35 c36 =>
 rS q35 fun v37 =>
 dB v37 fun b38 =>
 uR c36 fun q39 c40 =>
 rS q39 fun v41 =>
 dI .i64 v41 fun i42 =>
 uE c40 (cl erase_Erase [(.agg [(.sl none 0 5)]), (.g (.str (mkS [97])))] H26 fun r43 H44 =>
 rT r43 fun c45 =>
 uR c45 fun q46 c47 =>
 rC q46 fun c48 =>
 uC c48 fun v49 c50 =>
 dL 5 v49 fun x51 n52 =>
 uN c50 (uR c47 fun q53 c54 =>
 rS q53 fun v55 =>
 dB v55 fun b56 =>
 uR c54 fun q57 c58 =>
 rS q57 fun v59 =>
 dI .i64 v59 fun i60 =>
 uE c58 (cl ref9_All [(.agg [(.sl x15 n16 5)])] H44 fun r61 H62 =>
 rT r61 fun c63 =>
 uR c63 fun q64 c65 =>
 rS q64 fun v66 =>
 dL 2 v66 fun x67 n68 =>
 uR c65 fun q69 c70 =>
 rS q69 fun v71 =>
 dI .i64 v71 fun i72 =>
 uE c70 (bite b20
 (cl law0_Num [(.g (.int .i64 i24))] H62 fun r73 H74 =>
  rG r73 fun v75 =>
  dI .i64 v75 fun i76 =>
  bite (eqI i76 0)
  (bite (!b38)
   (cl law0_Num [(.g (.int .i64 i42))] H74 fun r77 H78 =>
    rG r77 fun v79 =>
    dI .i64 v79 fun i80 =>
    bite (eqI i80 0)
    (cl law0_SameTree [(.agg [(.sl x33 n34 5)]), (.agg [(.sl x5 n6 5)])] H78 fun r81 H82 =>
     rG r81 fun v83 =>
     dB v83 fun b84 =>
     bite b84
     (cl law0_Num [(.g (.int .i64 i60))] H82 fun r85 H86 =>
      rG r85 fun v87 =>
      dI .i64 v87 fun i88 =>
      bite (eqI i88 1300)
      (bite (eqI i72 0)
       (bite (eqI (nI n68) 4)
        (chk true (chk ((leI 0 2) && (ltI 2 (nI n68))) (pS x67 fun n89 n90 =>
         rd H86 n89 ((n90 + ((tN 2) * 2)) + 0) fun v91 =>
         dS v91 fun s92 =>
         Q (.g (.bool (strEq s92 (mkS [100])))) H86)))
        (Q (.g (.bool false)) H86))
       (Q (.g (.bool false)) H86))
      (Q (.g (.bool false)) H86))
     (Q (.g (.bool false)) H82))
    (Q (.g (.bool false)) H78))
   (Q (.g (.bool false)) H74))
  (Q (.g (.bool false)) H74))
 (Q (.g (.bool false)) H62)))))))))) := by kernel_rfl
theorem law13_awake_ok : Sound Go.Proofs.Tryz.prog 32 (law13_awake) := prog_ok.sound (cx := law13_awake.cx) rfl (EnvOK.cons ((ref9_Build_ok).c ⟨_, Go.Proofs.Tryz.func30, by kernel_rfl, by kernel_rfl⟩) (EnvOK.cons ((erase_Erase_ok).c ⟨_, Go.Proofs.Tryz.func34, by kernel_rfl, by kernel_rfl⟩) (EnvOK.cons ((ref9_All_ok).c ⟨_, Go.Proofs.Tryz.func26, by kernel_rfl, by kernel_rfl⟩) (EnvOK.cons ((law0_Num_ok).c ⟨_, Go.Proofs.Tryz.func17, by kernel_rfl, by kernel_rfl⟩) (EnvOK.cons ((law0_SameTree_ok).c ⟨_, Go.Proofs.Tryz.func18, by kernel_rfl, by kernel_rfl⟩) (EnvOK.nil _)))))) (noDyn_ok _) Go.Proofs.Tryz.func32 rfl


end Go.Am
namespace Go.Am

/-! writing over -/
abbrev SRow (H : Hp) (l : Nat) (xs : List ByteArray) : Prop := H[l]? = some (.row true tS (xs.map GV.str))
abbrev IRow (H : Hp) (l : Nat) (xs : List Int) : Prop := H[l]? = some (.row true tI (xs.map (GV.int .i64)))
structure Wo (b hi d : Nat) (H H' : Hp) : Prop where
  len : H'.length = H.length
  low : ∀ l, ¬ (b ≤ l ∧ l < hi) → H'[l]? = H[l]?
  tx : ∀ l xs M, SRow H l xs → (∀ x ∈ xs, x.size ≤ M) → ∃ ys, SRow H' l ys ∧ ys.length = xs.length ∧ ∀ x ∈ ys, x.size ≤ M + d
  nu : ∀ l xs, IRow H l xs → ∃ ys, IRow H' l ys ∧ ys.length = xs.length
  pg : ∀ (l : Nat) (cs : List GV), H[l]? = some (Obj.row true tPg cs) → H'[l]? = some (Obj.row true tPg cs)
theorem Wo.refl (b hi d : Nat) (H : Hp) : Wo b hi d H H := ⟨rfl, fun _ _ => rfl, fun l xs M h hm => ⟨xs, h, rfl, fun x hx => by have := hm x hx; omega⟩, fun l xs h => ⟨xs, h, rfl⟩, fun _ _ h => h⟩
theorem Wo.trans {b hi d d' : Nat} {H H1 H2 : Hp} (h : Wo b hi d H H1) (h' : Wo b hi d' H1 H2) : Wo b hi (d + d') H H2 :=
  ⟨h'.len.trans h.len, fun l hl => (h'.low l hl).trans (h.low l hl), fun l xs M hr hm => by
    obtain ⟨ys, a1, a2, a3⟩ := h.tx l xs M hr hm
    obtain ⟨zs, b1, b2, b3⟩ := h'.tx l ys _ a1 a3
    exact ⟨zs, b1, by omega, fun x hx => by have := b3 x hx; omega⟩, fun l xs hr => by
    obtain ⟨ys, a1, a2⟩ := h.nu l xs hr
    obtain ⟨zs, b1, b2⟩ := h'.nu l ys a1
    exact ⟨zs, b1, by omega⟩, fun l cs hr => h'.pg l cs (h.pg l cs hr)⟩
theorem row_t {H : Hp} {l : Nat} {t t' : TypeId} {cs cs' : List GV} (h : H[l]? = some (.row true t cs)) (h' : H[l]? = some (.row true t' cs')) : t = t' ∧ cs = cs' := by
  rw [h] at h'; cases h'; exact ⟨rfl, rfl⟩
theorem str_inj {xs ys : List ByteArray} (h : xs.map GV.str = ys.map GV.str) : xs = ys := by
  have := congrArg (List.map fun | GV.str s => s | _ => mkS []) h
  simpa [List.map_map, Function.comp_def] using this
theorem int_inj {xs ys : List Int} (h : xs.map (GV.int .i64) = ys.map (GV.int .i64)) : xs = ys := by
  have := congrArg (List.map fun | GV.int _ s => s | _ => 0) h
  simpa [List.map_map, Function.comp_def] using this
theorem Wo.str {b hi : Nat} {H : Hp} {l j : Nat} {xs : List ByteArray} {s : ByteArray} (hb : b ≤ l ∧ l < hi) (h : SRow H l xs) (hs : ∀ M, (∀ x ∈ xs, x.size ≤ M) → s.size ≤ M + 1) : Wo b hi 1 H (H.set l (.row true tS ((xs.set j s).map GV.str))) := by
  have hl := (List.getElem?_eq_some_iff.1 h).1
  refine ⟨by simp, fun m hm => by rw [List.getElem?_set_ne]; omega, fun m ys M hr hm => ?_, fun m ys hr => ?_, fun m cs hr => ?_⟩
  · by_cases e : l = m
    · subst e
      obtain ⟨_, q⟩ := row_t h hr
      have q := str_inj q
      subst q
      refine ⟨_, List.getElem?_set_self hl, by simp, fun x hx => ?_⟩
      rcases List.mem_or_eq_of_mem_set hx with w | w
      · have := hm x w; omega
      · rw [w]; exact hs M hm
    · exact ⟨ys, by unfold SRow; rw [List.getElem?_set_ne e]; exact hr, rfl, fun x hx => by have := hm x hx; omega⟩
  · by_cases e : l = m
    · subst e
      have := (row_t h hr).1
      exact absurd this (by decide)
    · exact ⟨ys, by unfold IRow; rw [List.getElem?_set_ne e]; exact hr, rfl⟩
  · by_cases e : l = m
    · subst e
      have := (row_t h hr).1
      exact absurd this (by decide)
    · rw [List.getElem?_set_ne e]; exact hr
theorem Wo.int {b hi : Nat} {H : Hp} {l j : Nat} {xs : List Int} {s : Int} (hb : b ≤ l ∧ l < hi) (h : IRow H l xs) : Wo b hi 0 H (H.set l (.row true tI ((xs.set j s).map (GV.int .i64)))) := by
  have hl := (List.getElem?_eq_some_iff.1 h).1
  refine ⟨by simp, fun m hm => by rw [List.getElem?_set_ne]; omega, fun m ys M hr hm => ?_, fun m ys hr => ?_, fun m cs hr => ?_⟩
  · by_cases e : l = m
    · subst e
      have := (row_t h hr).1
      exact absurd this (by decide)
    · exact ⟨ys, by unfold SRow; rw [List.getElem?_set_ne e]; exact hr, rfl, hm⟩
  · by_cases e : l = m
    · subst e
      obtain ⟨_, q⟩ := row_t h hr
      have q := int_inj q
      subst q
      exact ⟨_, List.getElem?_set_self hl, by simp⟩
    · exact ⟨ys, by unfold IRow; rw [List.getElem?_set_ne e]; exact hr, rfl⟩
  · by_cases e : l = m
    · subst e
      have := (row_t h hr).1
      exact absurd this (by decide)
    · rw [List.getElem?_set_ne e]; exact hr

/-- a slice that may be written over -/
def TxR (H : Hp) (b M : Nat) (a : Pl) (n : Nat) : Prop := n = 0 ∨ ∃ l o xs, a = some (l, o) ∧ b ≤ l ∧ SRow H l xs ∧ o + n ≤ xs.length ∧ ∀ x ∈ xs, x.size ≤ M
def NuR (H : Hp) (b : Nat) (a : Pl) (n : Nat) : Prop := n = 0 ∨ ∃ l o xs, a = some (l, o) ∧ b ≤ l ∧ IRow H l xs ∧ o + n ≤ xs.length
structure WoP (H : Hp) (b M : Nat) (c : PC) : Prop where
  t1 : TxR H b M c.a1 c.n1
  t2 : TxR H b M c.a2 c.n2
  t3 : NuR H b c.a3 c.n3
  s1 : c.n1 ≤ 1000
  s2 : c.n2 ≤ 1000
  s3 : c.n3 ≤ 1000
/-- a slice that may be written over -/
def TxS (H : Hp) (b hi M : Nat) (a : Pl) (n : Nat) : Prop := n = 0 ∨ ∃ l o xs, a = some (l, o) ∧ (b ≤ l ∧ l < hi) ∧ SRow H l xs ∧ o + n ≤ xs.length ∧ ∀ x ∈ xs, x.size ≤ M
def NuS (H : Hp) (b hi : Nat) (a : Pl) (n : Nat) : Prop := n = 0 ∨ ∃ l o xs, a = some (l, o) ∧ (b ≤ l ∧ l < hi) ∧ IRow H l xs ∧ o + n ≤ xs.length
theorem TxS.on {H H' : Hp} {b hi d M : Nat} {a : Pl} {n : Nat} (h : TxS H b hi M a n) (w : Wo b hi d H H') : TxS H' b hi (M + d) a n := by
  rcases h with h | ⟨l, o, xs, e, hb, hr, hl, hm⟩
  · exact .inl h
  · obtain ⟨ys, q1, q2, q3⟩ := w.tx l xs M hr hm
    exact .inr ⟨l, o, ys, e, hb, q1, by omega, q3⟩
theorem NuS.on {H H' : Hp} {b hi d : Nat} {a : Pl} {n : Nat} (h : NuS H b hi a n) (w : Wo b hi d H H') : NuS H' b hi a n := by
  rcases h with h | ⟨l, o, xs, e, hb, hr, hl⟩
  · exact .inl h
  · obtain ⟨ys, q1, q2⟩ := w.nu l xs hr
    exact .inr ⟨l, o, ys, e, hb, q1, by omega⟩
theorem TxS.big {H : Hp} {b hi M M' : Nat} {a : Pl} {n : Nat} (h : TxS H b hi M a n) (hM : M ≤ M') : TxS H b hi M' a n := by
  rcases h with h | ⟨l, o, xs, e, hb, hr, hl, hm⟩
  · exact .inl h
  · exact .inr ⟨l, o, xs, e, hb, hr, hl, fun x hx => Nat.le_trans (hm x hx) hM⟩

section
variable {H : Hp} {Q : Post} {b hi M : Nat} {a : Pl} {n : Nat}
/-- a page that may be written over -/
structure WoS (H : Hp) (b hi M : Nat) (c : PC) : Prop where
  t1 : TxS H b hi M c.a1 c.n1
  t2 : TxS H b hi M c.a2 c.n2
  t3 : NuS H b hi c.a3 c.n3
  s1 : c.n1 ≤ 1000
  s2 : c.n2 ≤ 1000
  s3 : c.n3 ≤ 1000
theorem WoS.on {c : PC} {H' : Hp} {d : Nat} (h : WoS H b hi M c) (w : Wo b hi d H H') : WoS H' b hi (M + d) c := ⟨h.t1.on w, h.t2.on w, h.t3.on w, h.s1, h.s2, h.s3⟩
theorem WoS.big {c : PC} {M' : Nat} (h : WoS H b hi M c) (hM : M ≤ M') : WoS H b hi M' c := ⟨h.t1.big hM, h.t2.big hM, h.t3, h.s1, h.s2, h.s3⟩
theorem Wo.big {H' : Hp} {d d' : Nat} (w : Wo b hi d H H') (hd : d ≤ d') : Wo b hi d' H H' :=
  ⟨w.len, w.low, fun l xs M hr hm => by obtain ⟨ys, q1, q2, q3⟩ := w.tx l xs M hr hm; exact ⟨ys, q1, q2, fun x hx => by have := q3 x hx; omega⟩, w.nu, w.pg⟩
end
end Go.Am
namespace Go.Am

section
variable {H : Hp} {Q : Post} {a : Pl} {n : Nat}
theorem clone_str {xs : List ByteArray} (h : Ss H a n xs) (hQ : ∀ a' H', H <+: H' → Own H' H.length tS a' n (xs.map GV.str) → (∀ l o, a' = some (l, o) → l < H'.length) → Q (.g (.sl a' n 1)) H') : slices_Clone__string_string [.g (.sl a n 1)] H Q := by
  have hn := h.len
  have hl := h.lim
  refine ⟨1, ?_⟩
  rw [slices_Clone__string_string_eq]
  refine bite_of (fun e => ?_) (fun e => ?_)
  · cases a with
    | some p => cases e
    | none =>
      have hc := h.cells
      simp [cells?] at hc
      obtain ⟨h1, h2⟩ := hc
      subst h2; subst h1
      exact hQ none H (List.prefix_refl _) (.inl ⟨rfl, rfl, rfl⟩) (fun _ _ e => (by cases e))
  · rw [chk_true, Nat.mul_one, rdN_of h.cells]
    refine ap0_of (by unfold Lim; omega) (by simp [hn]) ?_
    exact hQ _ _ (pre_pu _ _) (.inr ⟨_, rfl, Nat.le_refl _, by simp, by simp [hn]⟩) (fun _ _ e => (by cases e; simp))
theorem clone_int {xs : List Int} (h : Is H a n xs) (hQ : ∀ a' H', H <+: H' → Own H' H.length tI a' n (xs.map (GV.int .i64)) → (∀ l o, a' = some (l, o) → l < H'.length) → Q (.g (.sl a' n 1)) H') : slices_Clone__int_int [.g (.sl a n 1)] H Q := by
  have hn := h.len
  have hl := h.lim
  refine ⟨1, ?_⟩
  rw [slices_Clone__int_int_eq]
  refine bite_of (fun e => ?_) (fun e => ?_)
  · cases a with
    | some p => cases e
    | none =>
      have hc := h.cells
      simp [cells?] at hc
      obtain ⟨h1, h2⟩ := hc
      subst h2; subst h1
      exact hQ none H (List.prefix_refl _) (.inl ⟨rfl, rfl, rfl⟩) (fun _ _ e => (by cases e))
  · rw [chk_true, Nat.mul_one, rdN_of h.cells]
    refine ap0_of (by unfold Lim; omega) (by simp [hn]) ?_
    exact hQ _ _ (pre_pu _ _) (.inr ⟨_, rfl, Nat.le_refl _, by simp, by simp [hn]⟩) (fun _ _ e => (by cases e; simp))
theorem clip_str {b : Nat} {cs : List GV} (h : Own H b tS a n cs) (hQ : Q (.g (.sl a n 1)) H) : slices_Clip__string_string [.g (.sl a n 1)] H Q := by
  refine ⟨1, ?_⟩
  rw [slices_Clip__string_string_eq, chk_true]
  refine chk_of (by simp) (chk_of (by simp) ?_)
  rcases h with ⟨rfl, rfl, rfl⟩ | ⟨l, rfl, h1, h2, h3⟩
  · exact chk_of (by simp [ends]) hQ
  · refine chk_of ?_ ?_
    · simp [ends, h2, h3]
    · simpa using hQ
theorem clip_int {b : Nat} {cs : List GV} (h : Own H b tI a n cs) (hQ : Q (.g (.sl a n 1)) H) : slices_Clip__int_int [.g (.sl a n 1)] H Q := by
  refine ⟨1, ?_⟩
  rw [slices_Clip__int_int_eq, chk_true]
  refine chk_of (by simp) (chk_of (by simp) ?_)
  rcases h with ⟨rfl, rfl, rfl⟩ | ⟨l, rfl, h1, h2, h3⟩
  · exact chk_of (by simp [ends]) hQ
  · refine chk_of ?_ ?_
    · simp [ends, h2, h3]
    · simpa using hQ
end
def joinP (a : Pg) (k : ByteArray) (b : Pg) : Pg := ⟨a.used, a.leaf, (match a.leaf with | true => a.keys | false => a.keys ++ [k]) ++ b.keys, a.vals ++ b.vals, a.kids ++ b.kids⟩
def CanJoin (a : Pg) (k : ByteArray) (b : Pg) : Prop := MayP a ∧ MayP b ∧ a.leaf = b.leaf ∧ MayP (joinP a k b)

section
variable {H : Hp} {Q : Post} {u l : Bool} {a1 : Pl} {n1 : Nat} {a2 : Pl} {n2 : Nat} {a3 : Pl} {n3 : Nat} {p : Pg} {u' l' : Bool} {b1 : Pl} {m1 : Nat} {b2 : Pl} {m2 : Nat} {b3 : Pl} {m3 : Nat} {q : Pg} {key : ByteArray}
theorem page_Copy_spec (h : PgAt H u l a1 n1 a2 n2 a3 n3 p) (hs : n1 ≤ 1000 ∧ n2 ≤ 1000 ∧ n3 ≤ 1000)
    (hQ : ∀ a1 a2 a3 H', H <+: H' → PgOwn H' H.length u l a1 n1 a2 n2 a3 n3 p → Q (.agg [.bool u, .bool l, .sl a1 n1 1, .sl a2 n2 1, .sl a3 n3 1]) H') :
    page_Copy [.agg [.bool u, .bool l, .sl a1 n1 1, .sl a2 n2 1, .sl a3 n3 1]] H Q := by
  refine ⟨1, ?_⟩
  rw [page_Copy_eq]
  refine clone_str h.keys fun b1 H1 p1 o1 _ => ?_
  simp only [rG_g, dL_sl]
  refine clone_str (h.vals.mono p1) fun b2 H2 p2 o2 _ => ?_
  simp only [rG_g, dL_sl]
  refine clone_int (h.kids.mono (p1.trans p2)) fun b3 H3 p3 o3 _ => ?_
  simp only [rG_g, dL_sl]
  refine hQ _ _ _ _ (p1.trans (p2.trans p3)) ⟨h.used, h.leaf, o1.mono (p2.trans p3), (o2.base p1.length_le).mono p3, o3.base (p1.trans p2).length_le, fun m e1 e2 => ?_, fun m e1 e2 => ?_, fun m e1 e2 => ?_, hs⟩
  · have := o1.lt' e1; have := o2.ge e2; omega
  · have := o1.lt' e1; have := o3.ge e2; have := p2.length_le; omega
  · have := o2.lt' e1; have := o3.ge e2; omega
set_option maxRecDepth 4000 in
theorem node_Both_spec (h : PgAt H u l a1 n1 a2 n2 a3 n3 p) (h' : PgAt H u' l' b1 m1 b2 m2 b3 m3 q) (hs : n1 ≤ 100 ∧ n2 ≤ 100 ∧ n3 ≤ 100) (hs' : m1 ≤ 100 ∧ m2 ≤ 100 ∧ m3 ≤ 100)
    (hQ : ∀ u l a1 n1 a2 n2 a3 n3 H', H <+: H' → PgOwn H' H.length u l a1 n1 a2 n2 a3 n3 (joinP p key q) → Q (.agg [.bool u, .bool l, .sl a1 n1 1, .sl a2 n2 1, .sl a3 n3 1]) H') :
    node_Both [.agg [.bool u, .bool l, .sl a1 n1 1, .sl a2 n2 1, .sl a3 n3 1], .g (.str key), .agg [.bool u', .bool l', .sl b1 m1 1, .sl b2 m2 1, .sl b3 m3 1]] H Q := by
  refine ⟨2, ?_⟩
  rw [node_Both_eq]
  refine page_Copy_spec h (by omega) fun x1 x2 x3 H1 p1 o1 => ?_
  simp only [rA_agg, uC_cons, dB_bool, dL_sl, uN_nil]
  have key4 : ∀ (x1 : Pl) (k1 : Nat) (H1 : Hp) (r : Pg), k1 ≤ 101 → H <+: H1 → PgOwn H1 H.length u l x1 k1 x2 n2 x3 n3 r → (⟨r.used, r.leaf, r.keys ++ q.keys, r.vals ++ q.vals, r.kids ++ q.kids⟩ : Pg) = joinP p key q →
      node_Both.l4 1 u' l' b1 m1 b2 m2 b3 m3 false false none 0 none 0 none 0 u l x1 k1 x2 n2 x3 n3 H1 Q := by
    intro x1 k1 H1 r hk1 p1 o1 hks
    rw [node_Both.l4_eq, chk_true, Nat.mul_one, rdN_of (h'.mono p1).keys.cells, chk_true]
    refine o1.addKeys p1 q.keys rfl h'.keys.len (by omega) fun y1 H2 p2 o2 => ?_
    rw [chk_true, Nat.mul_one, rdN_of (h'.mono p2).vals.cells, chk_true]
    refine o2.addVals p2 q.vals rfl h'.vals.len (by omega) fun y2 H3 p3 o3 => ?_
    rw [chk_true, Nat.mul_one, rdN_of (h'.mono p3).kids.cells, chk_true]
    refine o3.addKids p3 q.kids rfl h'.kids.len (by omega) fun y3 H4 p4 o4 => ?_
    refine hQ _ _ _ _ _ _ _ _ _ p4 ?_
    rw [← hks]
    exact o4
  have hl := h.leaf
  cases l with
  | true =>
    rw [bite_f (by decide)]
    have e4 : (⟨p.used, p.leaf, p.keys ++ q.keys, p.vals ++ q.vals, p.kids ++ q.kids⟩ : Pg) = joinP p key q := by unfold joinP; rw [hl]
    have hk : n1 ≤ 101 := by omega
    have t0 := key4 x1
    have t00 := t0 n1
    have t01 := t00 H1
    have t1 := t01 p
    have t2 := t1 hk
    have := t2 p1
    have := this o1
    have := this e4
    exact this
  | false =>
    rw [bite_t (by decide), chk_true]
    refine o1.addKeys p1 [key] (m := 1) rfl rfl (by omega) fun y1 H2 p2 o2 => ?_
    exact key4 y1 (n1 + 1) H2 _ (by omega) p2 o2 (by unfold joinP; rw [hl])

theorem may_small (h : PgAt H u l a1 n1 a2 n2 a3 n3 p) (hm : MayP p) : n1 ≤ 100 ∧ n2 ≤ 100 ∧ n3 ≤ 100 := by
  have e1 := h.keys.len
  have e2 := h.vals.len
  have e3 := h.kids.len
  obtain ⟨h4, hf⟩ := hm
  cases hl : p.leaf with
  | true =>
    obtain ⟨f1, f2, f3⟩ := hf.leaf hl
    rw [f2, List.length_nil] at e3
    omega
  | false =>
    obtain ⟨f1, f2, f3, f4, f5⟩ := hf.inner hl
    rw [f2, List.length_nil] at e2
    omega

theorem PgOwn.base {b b' : Nat} (h : PgOwn H b u l a1 n1 a2 n2 a3 n3 p) (hb : b' ≤ b) : PgOwn H b' u l a1 n1 a2 n2 a3 n3 p :=
  ⟨h.used, h.leaf, h.keys.base hb, h.vals.base hb, h.kids.base hb, h.d12, h.d13, h.d23, h.small⟩

theorem node_Join_spec (h : PgAt H u l a1 n1 a2 n2 a3 n3 p) (h' : PgAt H u' l' b1 m1 b2 m2 b3 m3 q) (hQ1 : ¬ CanJoin p key q → ∀ H', H <+: H' → Q (.tup [.a [.bool false, .bool false, .sl none 0 1, .sl none 0 1, .sl none 0 1], .s (.int .i64 900)]) H')
    (hQ2 : CanJoin p key q → ∀ u l a1 n1 a2 n2 a3 n3 H', H <+: H' → PgOwn H' H.length u l a1 n1 a2 n2 a3 n3 (joinP p key q) → Q (.tup [.a [.bool u, .bool l, .sl a1 n1 1, .sl a2 n2 1, .sl a3 n3 1], .s (.int .i64 0)]) H') :
    node_Join [.agg [.bool u, .bool l, .sl a1 n1 1, .sl a2 n2 1, .sl a3 n3 1], .g (.str key), .agg [.bool u', .bool l', .sl b1 m1 1, .sl b2 m2 1, .sl b3 m3 1]] H Q := by
  refine ⟨1, ?_⟩
  rw [node_Join_eq]
  refine page_May_spec h fun b H1 p1 hb => ?_
  simp only [rG_g, dB_bool]
  refine bite_of (fun e => hQ1 (fun c => by have := hb.2 c.1; subst this; cases e) _ p1) (fun e => ?_)
  have hm1 : MayP p := hb.1 (by cases b <;> simp_all)
  refine page_May_spec (h'.mono p1) fun b' H2 p2 hb' => ?_
  simp only [rG_g, dB_bool]
  refine bite_of (fun e => hQ1 (fun c => by have := hb'.2 c.2.1; subst this; cases e) _ (p1.trans p2)) (fun e' => ?_)
  have hm2 : MayP q := hb'.1 (by cases b' <;> simp_all)
  refine bite_of (fun e => hQ1 (fun c => by have := c.2.2.1; rw [h.leaf, h'.leaf] at this; subst this; simp at e) _ (p1.trans p2)) (fun e2 => ?_)
  have hll : p.leaf = q.leaf := by rw [h.leaf, h'.leaf]; simpa using e2
  have p12 := p1.trans p2
  refine node_Both_spec (h.mono p12) (h'.mono p12) (may_small h hm1) (may_small h' hm2) fun ul ll c1 k1 c2 k2 c3 k3 H3 p3 o3 => ?_
  simp only [rA_agg, uC_cons, dB_bool, dL_sl, uN_nil]
  refine page_May_spec o3.at fun b3 H4 p4 hb3 => ?_
  simp only [rG_g, dB_bool]
  refine bite_of (fun e => hQ1 (fun c => by have := hb3.2 c.2.2.2; subst this; cases e) _ (p12.trans (p3.trans p4))) (fun e3 => ?_)
  have hm3 : MayP (joinP p key q) := hb3.1 (by cases b3 <;> simp_all)
  have o4 := o3.mono p4
  refine clip_str o4.keys ?_
  simp only [rG_g, dL_sl]
  refine clip_str o4.vals ?_
  simp only [rG_g, dL_sl]
  refine clip_int o4.kids ?_
  simp only [rG_g, dL_sl]
  exact hQ2 ⟨hm1, hm2, hll, hm3⟩ _ _ _ _ _ _ _ _ _ (p12.trans (p3.trans p4)) (o4.base p12.length_le)
end
end Go.Am
