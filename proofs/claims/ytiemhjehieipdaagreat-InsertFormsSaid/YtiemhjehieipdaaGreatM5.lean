import Derived.Test.YtiemhjehieipdaaGreatM4
set_option linter.unusedVariables false
set_option linter.unusedSimpArgs false
namespace Go.Am

/-! a tree's outer row, cell by cell -/
theorem cells_part {H : Hp} {a : Pl} {n : Nat} {cs : List GV} (h : cells? H a n = some cs) (k m : Nat) (hm : k + m ≤ n) : cells? H (shf a k) m = some ((cs.drop k).take m) := by
  cases a with
  | none => simp [cells?] at h; obtain ⟨rfl, rfl⟩ := h; simp [cells?]; omega
  | some p =>
    obtain ⟨l, o⟩ := p
    unfold cells? at h
    simp only at h
    cases hr : H[l]? with
    | none => rw [hr] at h; cases h
    | some x =>
      rw [hr] at h
      cases x with
      | row own t ds =>
        simp only at h
        split at h
        · rename_i hle
          cases h
          simp only [shf_some, cells?, hr]
          rw [if_pos (by omega), List.drop_take, List.take_take, List.drop_drop, Nat.min_eq_left (by omega)]
        · cases h
      | _ => cases h
theorem Ss.part {H : Hp} {a : Pl} {n : Nat} {xs : List ByteArray} (h : Ss H a n xs) (k m : Nat) (hm : k + m ≤ n) : Ss H (shf a k) m ((xs.drop k).take m) := by
  have hn := h.len
  have hl := h.lim
  refine ⟨?_, by simp; omega, by omega⟩
  rw [cells_part h.cells k m hm, List.map_take, List.map_drop]
theorem pcells_set1 (cs : List PC) (i j : Nat) (v : GV) (c : PC) (hi : i < cs.length) (hj : j < 5) (hc : c.cells = (cs[i].cells).set j v) : (pcells cs).set (i * 5 + j) v = pcells (cs.set i c) := by
  induction cs generalizing i with
  | nil => simp at hi
  | cons d cs ih =>
    have e : pcells (d :: cs) = d.cells ++ pcells cs := rfl
    cases i with
    | zero =>
      rw [e, Nat.zero_mul, Nat.zero_add, List.set_append_left _ _ (by simpa using hj)]
      show _ = c.cells ++ pcells cs
      rw [hc]; rfl
    | succ i =>
      rw [e, List.set_append_right _ _ (by simp; omega)]
      show _ = d.cells ++ pcells (cs.set i c)
      rw [← ih i (by simpa using hi) (by simpa using hc)]
      congr 2
      simp; omega
section
variable {B H : Hp} {t : TypeId} {tp : Nat} {n : Nat} {cs : List PC} {T : List Pg} {i : Nat} {c : PC} {p : Pg}
theorem OT.at_row (h : OT H B.length t (some (tp, 0)) n cs T) : B.length ≤ tp ∧ H[tp]? = some (.row true t (pcells cs)) := by
  rcases h.own with ⟨e, _⟩ | ⟨l, e, hb, hr, hl⟩
  · cases e
  cases e
  exact ⟨hb, hr⟩
theorem OT.gt (h : OT H B.length t (some (tp, 0)) n cs T) (hi : i < cs.length) {j : Nat} (hj : j < 5) : Am.gt H tp (i * 5 + j) = (cs[i].cells)[j]? := by
  rw [gt_some h.at_row.2, pcells_get hi hj]
/-- one cell of a page written -/
theorem OT.cell (h : OT H B.length t (some (tp, 0)) n cs T) (hi : i < n) (hi' : i < cs.length) {j : Nat} (hj : j < 5) {v : GV} (hcell : c.cells = (cs[i].cells).set j v) (hc : c.at H p) (hoff : ∀ l, c.on l → l ≠ tp) {K : Hp → Prop}
    (hK : ∀ H', (∀ B', B' <+: H → B'.length ≤ tp → B' <+: H') → OT H' B.length t (some (tp, 0)) n (cs.set i c) (T.set i p) → K H') : wr H tp (i * 5 + j) v K := by
  obtain ⟨hb, hr⟩ := h.at_row
  refine wr_row hr (by rw [pcells_length]; omega) ?_
  rw [pcells_set1 cs i j v c hi' hj hcell]
  exact hK _ (fun B' hp hl => pre_set hp hl _) (h.place hi hc hoff)
theorem Tr.take {H : Hp} {a : Pl} {n : Nat} {cs : List PC} {T : List Pg} (h : Tr H a n cs T) {m : Nat} (hm : m ≤ n) : Tr H (shf a 0) m (cs.take m) (T.take m) := by
  have q1 := h.len
  have q2 := h.lenT
  refine ⟨?_, by simp [q1]; omega, by simp [q2]; omega, fun i h1 h2 => ?_⟩
  · have e : pcells (cs.take m) = (pcells cs).take (m * 5) := by
      have := pcells_append (cs.take m) (cs.drop m)
      rw [List.take_append_drop] at this
      rw [this, List.take_left' (by rw [pcells_length]; simp [q1]; omega)]
    rw [e, cells_part h.cells 0 (m * 5) (by omega), List.drop_zero]
  · simp at h1 h2
    rw [List.getElem_take, List.getElem_take]
    exact h.all i (by omega) (by omega)
end

/-! SoundForms -/
end Go.Am
namespace Go.Am

theorem sound_facts {T : List Pg} (h : 0 < heightD T) : ∃ st, T.length = 48 ∧ walkD T 49 0 1 (mkS []) (mkS []) ws0 = some st ∧ restD T st.met = true ∧ st.count ≤ 60 ∧ heightD T = st.deep := by
  unfold heightD at h ⊢
  by_cases hl : T.length = 48
  · rw [decide_eq_true hl] at h ⊢
    dsimp only at h ⊢
    cases hw : walkD T 49 0 1 (mkS []) (mkS []) ws0 with
    | none => rw [hw] at h; simp at h
    | some st =>
      rw [hw] at h
      dsimp only at h ⊢
      cases hr : restD T st.met && decide (st.count ≤ 60) with
      | false => rw [hr] at h; simp at h
      | true =>
        rw [Bool.and_eq_true, decide_eq_true_eq] at hr
        exact ⟨st, hl, rfl, hr.1, hr.2, rfl⟩
  · rw [decide_eq_false hl] at h; simp at h
theorem height_rest {T : List Pg} {st : WS} (h : walkD T 49 0 1 (mkS []) (mkS []) ws0 = some st) (hr : restD T st.met = false) : heightD T = 0 := by
  unfold heightD
  cases decide (T.length = 48) with
  | false => rfl
  | true => dsimp only; rw [h]; dsimp only; rw [hr]; rfl
theorem ws0_met (i : Nat) (h : i < 48) : ws0.met[i]? = some false := by
  show (List.replicate 48 false)[i]? = some false
  rw [List.getElem?_replicate, if_pos h]

theorem okD_met {p : Pg} {a : Nat} {lo hi : ByteArray} {st : WS} (h : okD p a lo hi st = true) : st.met[a]? = some false ∧ mayB_ p = true ∧ (0 < a → 2 ≤ p.keys.length) ∧ holdB lo hi p.keys = true := by
  unfold okD at h
  simp only [Bool.and_eq_true] at h
  obtain ⟨h1, h2, h3, h4⟩ := h
  refine ⟨?_, h2, fun ha => ?_, h4⟩
  · cases hq : st.met[a]? with
    | none => rw [hq] at h1; simp at h1
    | some b => rw [hq] at h1; simp at h1; rw [h1]
  · have : decide (0 < a) = true := decide_eq_true ha
    rw [this, Bool.true_and] at h3
    simp at h3; omega
theorem leafD_some {p : Pg} {deep : Nat} {st st' : WS} (h : leafD p deep st = some st') : st'.met = st.met ∧ st'.count = st.count + p.keys.length ∧ st'.deep = deep ∧ (st.deep = 0 ∨ st.deep = deep) := by
  unfold leafD at h
  split at h
  · rename_i e; cases h; exact ⟨rfl, rfl, rfl, .inl (of_decide_eq_true e)⟩
  · split at h
    · rename_i e; cases h; exact ⟨rfl, rfl, rfl, .inr (of_decide_eq_true e)⟩
    · cases h
/-- one step of a walk that goes well -/
theorem walkD_step {T : List Pg} {f a deep : Nat} {lo hi : ByteArray} {st st' : WS} (h : walkD T (f + 1) a deep lo hi st = some st') : ∃ p, T[a]? = some p ∧ okD p a lo hi st = true ∧
    ((p.leaf = true ∧ leafD p deep ⟨st.met.set a true, st.deep, st.count⟩ = some st') ∨ (p.leaf = false ∧ kidsD (fun k i s => walkD T f k.toNat (deep + 1) (loK p lo i) (hiK p hi i) s) p.kids 0 ⟨st.met.set a true, st.deep, st.count⟩ = some st')) := by
  cases hp : T[a]? with
  | none => unfold walkD at h; rw [hp] at h; cases h
  | some p =>
    rw [walkD_eq T f a deep lo hi st hp] at h
    refine ⟨p, rfl, ?_⟩
    cases hok : okD p a lo hi st with
    | false => rw [hok] at h; cases h
    | true =>
      rw [hok] at h
      dsimp only at h
      cases hl : p.leaf with
      | true => rw [hl] at h; exact ⟨rfl, .inl ⟨rfl, h⟩⟩
      | false => rw [hl] at h; exact ⟨rfl, .inr ⟨rfl, h⟩⟩
/-- kids that all go well -/
theorem kidsD_ind {rec : Int → Nat → WS → Option WS} {R : WS → WS → Prop} {P : List Int → WS → WS → Prop} (hnil : ∀ s, P [] s s) (hcons : ∀ k ks i s s1 s', rec k i s = some s1 → kidsD rec ks (i + 1) s1 = some s' → P ks s1 s' → P (k :: ks) s s') :
    ∀ (ks : List Int) (i : Nat) (s s' : WS), kidsD rec ks i s = some s' → P ks s s' := by
  intro ks
  induction ks with
  | nil => intro i s s' h; cases h; exact hnil s
  | cons k ks ih =>
    intro i s s' h
    rw [kidsD_cons] at h
    cases hr : rec k i s with
    | none => rw [hr] at h; cases h
    | some s1 => rw [hr] at h; exact hcons k ks i s s1 s' hr h (ih (i + 1) s1 s' h)
theorem kidsD_ind' {rec : Int → Nat → WS → Option WS} {P : List Int → WS → WS → Prop} (hnil : ∀ s, P [] s s) (hcons : ∀ k ks i s s1 s', rec k i s = some s1 → P ks s1 s' → P (k :: ks) s s') :
    ∀ (ks : List Int) (i : Nat) (s s' : WS), kidsD rec ks i s = some s' → P ks s s' :=
  kidsD_ind (R := fun _ _ => True) hnil fun k ks i s s1 s' h _ hp => hcons k ks i s s1 s' h hp

/-- pages that are met -/
theorem walkD_met (T : List Pg) : ∀ (f a deep : Nat) (lo hi : ByteArray) (st st' : WS), walkD T f a deep lo hi st = some st' → (∀ j : Nat, st.met[j]? = some true → st'.met[j]? = some true) ∧ st'.met[a]? = some true ∧
    (∀ j, st'.met[j]? = some true → st.met[j]? = some true ∨ ∃ p, T[j]? = some p ∧ mayB_ p = true ∧ (0 < j → 2 ≤ p.keys.length)) := by
  intro f
  induction f with
  | zero => intro _ _ _ _ _ _ h; cases h
  | succ f ih =>
    intro a deep lo hi st st' h
    obtain ⟨p, hp, hok, hcase⟩ := walkD_step h
    obtain ⟨hm, hmay, h2, _⟩ := okD_met hok
    have hlt : a < st.met.length := (List.getElem?_eq_some_iff.1 hm).1
    have set1 : ∀ j, st.met[j]? = some true → (st.met.set a true)[j]? = some true := fun j hj => by
      by_cases e : a = j
      · subst e; exact List.getElem?_set_self hlt
      · rw [List.getElem?_set_ne e]; exact hj
    have set2 : (st.met.set a true)[a]? = some true := List.getElem?_set_self hlt
    have set3 : ∀ j, (st.met.set a true)[j]? = some true → st.met[j]? = some true ∨ ∃ p, T[j]? = some p ∧ mayB_ p = true ∧ (0 < j → 2 ≤ p.keys.length) := fun j hj => by
      by_cases e : a = j
      · subst e; exact .inr ⟨p, hp, hmay, h2⟩
      · rw [List.getElem?_set_ne e] at hj; exact .inl hj
    rcases hcase with ⟨hl, hlf⟩ | ⟨hl, hk⟩
    · obtain ⟨e1, _⟩ := leafD_some hlf
      rw [e1]
      exact ⟨set1, set2, set3⟩
    · have key := kidsD_ind' (P := fun _ s s' => (∀ j, s.met[j]? = some true → s'.met[j]? = some true) ∧ (∀ j, s'.met[j]? = some true → s.met[j]? = some true ∨ ∃ p, T[j]? = some p ∧ mayB_ p = true ∧ (0 < j → 2 ≤ p.keys.length)))
        (fun s => ⟨fun j hj => hj, fun j hj => .inl hj⟩) (fun k ks i s s1 s' hr hP => by
          obtain ⟨q1, _, q3⟩ := ih _ _ _ _ _ _ hr
          refine ⟨fun j hj => hP.1 j (q1 j hj), fun j hj => ?_⟩
          rcases hP.2 j hj with q | q
          · exact q3 j q
          · exact .inr q) _ _ _ _ hk
      dsimp only at key
      refine ⟨fun j hj => key.1 j (set1 j hj), key.1 a set2, fun j hj => ?_⟩
      rcases key.2 j hj with q | q
      · exact set3 j q
      · exact .inr q

/-- a page that is not met may be another one -/
theorem walkD_same (T T' : List Pg) (i : Nat) (hT : ∀ j, j ≠ i → T'[j]? = T[j]?) : ∀ (f a deep : Nat) (lo hi : ByteArray) (st st' : WS), walkD T f a deep lo hi st = some st' → st'.met[i]? ≠ some true → walkD T' f a deep lo hi st = some st' := by
  intro f
  induction f with
  | zero => intro _ _ _ _ _ _ h; cases h
  | succ f ih =>
    intro a deep lo hi st st' h hi'
    obtain ⟨m1, m2, _⟩ := walkD_met T _ _ _ _ _ _ _ h
    obtain ⟨p, hp, hok, hcase⟩ := walkD_step h
    have ha : a ≠ i := fun e => hi' (by rw [← e]; exact m2)
    rw [walkD_eq T' f a deep lo hi st (by rw [hT a ha]; exact hp), hok]
    dsimp only
    rcases hcase with ⟨hl, hlf⟩ | ⟨hl, hk⟩
    · rw [hl]; exact hlf
    · rw [hl]
      dsimp only
      have key : ∀ (ks : List Int) (n : Nat) (s s' : WS), kidsD (fun k i s => walkD T f k.toNat (deep + 1) (loK p lo i) (hiK p hi i) s) ks n s = some s' → s'.met[i]? ≠ some true → kidsD (fun k i s => walkD T' f k.toNat (deep + 1) (loK p lo i) (hiK p hi i) s) ks n s = some s' := by
        intro ks
        induction ks with
        | nil => intro n s s' h _; exact h
        | cons k ks ihk =>
          intro n s s' h hne
          rw [kidsD_cons] at h ⊢
          cases hr : walkD T f k.toNat (deep + 1) (loK p lo n) (hiK p hi n) s with
          | none => rw [hr] at h; cases h
          | some s1 =>
            rw [hr] at h
            dsimp only at h
            have mono : ∀ j, s1.met[j]? = some true → s'.met[j]? = some true :=
              kidsD_ind' (rec := fun k i s => walkD T f k.toNat (deep + 1) (loK p lo i) (hiK p hi i) s) (P := fun _ s s' => ∀ j, s.met[j]? = some true → s'.met[j]? = some true) (fun s j hj => hj) (fun k ks i s s1 s' hr hP j hj => hP j ((walkD_met T _ _ _ _ _ _ _ hr).1 j hj)) _ _ _ _ h
            rw [ih _ _ _ _ _ _ hr (fun e => hne (mono i e))]
            exact ihk (n + 1) s1 s' h hne
      exact key _ _ _ _ hk hi'
end Go.Am
namespace Go.Am

theorem rest_at {T : List Pg} {met : List Bool} (h : restD T met = true) {i : Nat} (hi : i < T.length) {p : Pg} (hp : T[i]? = some p) : met[i]?.getD true = true ∨ nothingB p = true := by
  unfold restD at h
  rw [List.all_eq_true] at h
  have := h i (List.mem_range.2 hi)
  rw [hp, Option.getD_some, Bool.or_eq_true] at this
  exact this
theorem rest_false {T : List Pg} {met : List Bool} {i : Nat} (hi : i < T.length) {p : Pg} (hp : T[i]? = some p) (hm : met[i]? = some false) (hn : nothingB p = false) : restD T met = false := by
  unfold restD
  rw [List.all_eq_false]
  exact ⟨i, List.mem_range.2 hi, by rw [hm, hp, Option.getD_some, Option.getD_some, hn]; simp⟩
/-- a sound tree's pages -/
structure SF (T : List Pg) (st : WS) : Prop where
  len : T.length = 48
  walk : walkD T 49 0 1 (mkS []) (mkS []) ws0 = some st
  rest : restD T st.met = true
  count : st.count ≤ 60
  height : heightD T = st.deep
  metlen : st.met.length = 48
theorem SF.of {T : List Pg} (h : 0 < heightD T) : ∃ st, SF T st := by
  obtain ⟨st, h1, h2, h3, h4, h5⟩ := sound_facts h
  exact ⟨st, h1, h2, h3, h4, h5, (walkD_unmet T _ _ _ _ _ _ _ h2).2.1⟩
section
variable {T : List Pg} {st : WS}
theorem SF.used (s : SF T st) {i : Nat} {p : Pg} (hp : T[i]? = some p) (hu : p.used = true) : st.met[i]? = some true ∧ mayB_ p = true ∧ (0 < i → 2 ≤ p.keys.length) := by
  have hi : i < 48 := by have := (List.getElem?_eq_some_iff.1 hp).1; have := s.len; omega
  have hm : st.met[i]? = some true := by
    rcases rest_at s.rest (by rw [s.len]; exact hi) hp with h | h
    · rw [List.getElem?_eq_getElem (by rw [s.metlen]; exact hi)] at h ⊢
      simpa using h
    · unfold nothingB at h; rw [hu] at h; simp at h
  refine ⟨hm, ?_⟩
  rcases (walkD_met T _ _ _ _ _ _ _ s.walk).2.2 i hm with h | ⟨q, hq, h1, h2⟩
  · rw [ws0_met i hi] at h; cases h
  · rw [hp] at hq; cases hq; exact ⟨h1, h2⟩
theorem SF.free (s : SF T st) {i : Nat} {p : Pg} (hp : T[i]? = some p) (hm : st.met[i]? = some false) : p.used = false := by
  cases hu : p.used with
  | false => rfl
  | true => rw [(s.used hp hu).1] at hm; cases hm
/-- another page where none was met -/
theorem SF.more (s : SF T st) {i : Nat} (hi : i < 48) {p q : Pg} (hp : T[i]? = some p) (hu : p.used = false) (hq : nothingB q = false) : heightD (T.set i q) = 0 := by
  have hm : st.met[i]? = some false := by
    rw [List.getElem?_eq_getElem (by rw [s.metlen]; exact hi)]
    cases e : st.met[i]'(by rw [s.metlen]; exact hi) with
    | false => rfl
    | true =>
      have hm : st.met[i]? = some true := by rw [List.getElem?_eq_getElem (by rw [s.metlen]; exact hi), e]
      rcases (walkD_met T _ _ _ _ _ _ _ s.walk).2.2 i hm with h | ⟨q, hq, h1, _⟩
      · rw [ws0_met i hi] at h; cases h
      · rw [hp] at hq; cases hq
        have := ((mayB_iff p).1 h1).2.used
        rw [hu] at this; cases this
  refine height_rest (walkD_same T _ i (fun j hj => List.getElem?_set_ne (Ne.symm hj)) _ _ _ _ _ _ _ s.walk (by rw [hm]; simp)) ?_
  exact rest_false (p := q) (by simp [s.len]; exact hi) (List.getElem?_set_self (by rw [s.len]; exact hi)) hm hq
end

end Go.Am
namespace Go.Am

/-! the order of texts -/
section
variable {a b c : ByteArray}
theorem blt_tri (a b : ByteArray) : (blt a b = true ∧ a ≠ b ∧ blt b a = false) ∨ (a = b ∧ blt a b = false ∧ blt b a = false) ∨ (blt b a = true ∧ a ≠ b ∧ blt a b = false) := by
  unfold blt
  rcases less_tri (bs a) (bs b) with ⟨h1, h2, h3⟩ | ⟨h1, h2, h3⟩ | ⟨h1, h2, h3⟩
  · exact .inl ⟨h1, fun e => h2 (by rw [e]), h3⟩
  · exact .inr (.inl ⟨bs_inj h1, h2, h3⟩)
  · exact .inr (.inr ⟨h1, fun e => h2 (by rw [e]), h3⟩)
theorem blt_irr (a : ByteArray) : blt a a = false := by
  rcases blt_tri a a with h | h | h
  · exact (h.2.1 rfl).elim
  · exact h.2.1
  · exact (h.2.1 rfl).elim
theorem blt_asy (h : blt a b = true) : blt b a = false := by
  rcases blt_tri a b with q | q | q
  · exact q.2.2
  · exact q.2.2
  · rw [q.2.2] at h; cases h
theorem le_blt (h1 : blt b a = false) (h2 : blt b c = true) : blt a c = true := by
  rcases blt_tri a b with q | q | q
  · exact blt_trans q.1 h2
  · rw [q.1]; exact h2
  · rw [q.1] at h1; cases h1
theorem blt_le (h1 : blt a b = true) (h2 : blt c b = false) : blt a c = true := by
  rcases blt_tri b c with q | q | q
  · exact blt_trans h1 q.1
  · rw [← q.1]; exact h1
  · rw [q.1] at h2; cases h2
theorem le_le (h1 : blt b a = false) (h2 : blt c b = false) : blt c a = false := by
  cases e : blt c a with
  | false => rfl
  | true => rw [blt_le e h1] at h2; cases h2
theorem blt_ne (h : blt a b = true) : a ≠ b := fun e => by rw [e, blt_irr] at h; cases h
theorem blt_mk (a : ByteArray) : blt a (mkS []) = false := by
  unfold blt
  rw [bs_mkS]
  cases bs a <;> rfl
end

/-! the entries of a tree, in their order -/
def allD (T : List Pg) : Nat → Nat → KV
  | 0, _ => []
  | f + 1, a => match T[a]? with
    | none => []
    | some p => p.keys.zip p.vals ++ p.kids.flatMap fun k => allD T f k.toNat
theorem allD_leaf {T : List Pg} {f a : Nat} {p : Pg} (hp : T[a]? = some p) (hk : p.kids = []) : allD T (f + 1) a = p.keys.zip p.vals := by
  rw [allD, hp]; dsimp only; rw [hk]; simp
theorem allD_inner {T : List Pg} {f a : Nat} {p : Pg} (hp : T[a]? = some p) (hv : p.vals = []) : allD T (f + 1) a = p.kids.flatMap fun k => allD T f k.toNat := by
  rw [allD, hp]; dsimp only; rw [hv]; simp
def Asc (ps : KV) : Prop := ps.Pairwise fun x y => blt x.1 y.1 = true
def Win (lo hi : ByteArray) (ps : KV) : Prop := ∀ x ∈ ps, blt x.1 lo = false ∧ (hi.size = 0 ∨ blt x.1 hi = true)
def KVok (ps : KV) : Prop := ∀ x ∈ ps, (1 ≤ x.1.size ∧ x.1.size ≤ 6) ∧ x.2.size ≤ 10
theorem rising_pw {ks : List ByteArray} (h : Rising ks) : ks.Pairwise fun a b => blt a b = true := by
  rw [List.pairwise_iff_getElem]
  intro i j hi hj hij
  obtain ⟨d, rfl⟩ : ∃ d, j = i + d + 1 := ⟨j - i - 1, by omega⟩
  exact rising_lt h i d hj
theorem zip_asc {ks vs : List ByteArray} (h : Rising ks) (hl : vs.length = ks.length) : Asc (ks.zip vs) := by
  have := rising_pw h
  rw [← List.map_fst_zip (l₁ := ks) (l₂ := vs) (by omega), List.pairwise_map] at this
  exact this
theorem holdB_at {lo hi : ByteArray} {ks : List ByteArray} (h : holdB lo hi ks = true) {k : ByteArray} (hk : k ∈ ks) : blt k lo = false ∧ (hi.size = 0 ∨ blt k hi = true) := by
  unfold holdB at h
  rw [List.all_eq_true] at h
  have := h k hk
  simp only [Bool.and_eq_true, Bool.not_eq_true', Bool.or_eq_true, decide_eq_true_eq] at this
  exact this
theorem zip_mem {ks vs : List ByteArray} {x : ByteArray × ByteArray} (h : x ∈ ks.zip vs) : x.1 ∈ ks ∧ x.2 ∈ vs := ⟨(List.of_mem_zip h).1, (List.of_mem_zip h).2⟩

theorem loK_at {p : Pg} {lo : ByteArray} {i : Nat} (h : i < p.keys.length) : loK p lo (i + 1) = p.keys[i] := by
  unfold loK; rw [decide_eq_true (by omega)]; simp [h]
theorem hiK_at {p : Pg} {hi : ByteArray} {i : Nat} (h : i < p.keys.length) : hiK p hi i = p.keys[i] := by
  unfold hiK; rw [List.getElem?_eq_getElem h]; rfl
theorem hiK_end {p : Pg} {hi : ByteArray} {i : Nat} (h : p.keys.length ≤ i) : hiK p hi i = hi := by
  unfold hiK; rw [List.getElem?_eq_none h]; rfl
/-- what a walk that goes well says of the entries -/
def AllOf (T : List Pg) (f : Nat) : Prop := ∀ (a deep : Nat) (lo hi : ByteArray) (st st' : WS), walkD T f a deep lo hi st = some st' →
    Asc (allD T f a) ∧ Win lo hi (allD T f a) ∧ KVok (allD T f a) ∧ st'.count = st.count + (allD T f a).length
theorem kidsD_all {T : List Pg} {f : Nat} (ih : AllOf T f) {p : Pg} {lo hi : ByteArray} {deep : Nat} (hfit : FitsP p) (hh : holdB lo hi p.keys = true) :
    ∀ (ks : List Int) (i : Nat), i + ks.length = p.keys.length + 1 → ∀ (s s' : WS), kidsD (fun k i s => walkD T f k.toNat (deep + 1) (loK p lo i) (hiK p hi i) s) ks i s = some s' →
          Asc (ks.flatMap fun k => allD T f k.toNat) ∧ Win (loK p lo i) hi (ks.flatMap fun k => allD T f k.toNat) ∧ KVok (ks.flatMap fun k => allD T f k.toNat) ∧ s'.count = s.count + (ks.flatMap fun k => allD T f k.toNat).length := by
  have hkey : ∀ k ∈ p.keys, 1 ≤ k.size ∧ k.size ≤ 6 := hfit.keys
  intro ks
  induction ks with
  | nil => intro i _ s s' h; cases h; exact ⟨List.Pairwise.nil, fun x hx => (by simp at hx), fun x hx => (by simp at hx), rfl⟩
  | cons k ks ihk =>
    intro i hi' s s' h
    rw [kidsD_cons] at h
    cases hr : walkD T f k.toNat (deep + 1) (loK p lo i) (hiK p hi i) s with
    | none => rw [hr] at h; cases h
    | some s1 =>
      rw [hr] at h
      dsimp only at h
      obtain ⟨a1, a2, a3, a4⟩ := ih _ _ _ _ _ _ hr
      obtain ⟨b1, b2, b3, b4⟩ := ihk (i + 1) (by simp at hi'; omega) s1 s' h
      rw [List.flatMap_cons]
      simp only [List.length_cons] at hi'
      have hne : ∀ y, y ∈ ks.flatMap (fun k => allD T f k.toNat) → i < p.keys.length := fun y hy => by
        have : ks ≠ [] := fun e => by rw [e] at hy; simp at hy
        have := List.length_pos_iff.2 this
        omega
      refine ⟨List.pairwise_append.2 ⟨a1, b1, fun x hx y hy => ?_⟩, fun x hx => ?_, fun x hx => ?_, by rw [b4, a4, List.length_append]; omega⟩
      · have hi1 := hne y hy
        have ax := (a2 x hx).2
        have by_ := (b2 y hy).1
        rw [loK_at hi1] at by_
        rw [hiK_at hi1] at ax
        have := (hkey _ (List.getElem_mem hi1)).1
        rcases ax with q | q
        · omega
        · exact blt_le q by_
      · rcases List.mem_append.1 hx with q | q
        · obtain ⟨x1, x2⟩ := a2 x q
          refine ⟨x1, ?_⟩
          rcases Nat.lt_or_ge i p.keys.length with hi1 | hi1
          · rw [hiK_at hi1] at x2
            have hk1 := (hkey _ (List.getElem_mem hi1)).1
            rcases x2 with x2 | x2
            · omega
            · rcases (holdB_at hh (List.getElem_mem hi1)).2 with z | z
              · exact .inl z
              · exact .inr (blt_trans x2 z)
          · rw [hiK_end hi1] at x2; exact x2
        · have hi1 := hne x q
          obtain ⟨x1, x2⟩ := b2 x q
          refine ⟨?_, x2⟩
          rw [loK_at hi1] at x1
          rcases Nat.eq_zero_or_pos i with e | e
          · subst e
            have : loK p lo 0 = lo := rfl
            rw [this]
            exact le_le (holdB_at hh (List.getElem_mem hi1)).1 x1
          · obtain ⟨j, rfl⟩ : ∃ j, i = j + 1 := ⟨i - 1, by omega⟩
            rw [loK_at (show j < p.keys.length by omega)]
            exact le_le (blt_asy (rising_lt hfit.rising j 0 (by omega))) x1
      · rcases List.mem_append.1 hx with q | q
        · exact a3 x q
        · exact b3 x q
theorem walkD_all (T : List Pg) : ∀ f, AllOf T f := by
  intro f
  induction f with
  | zero => intro _ _ _ _ _ _ h; cases h
  | succ f ih =>
    intro a deep lo hi st st' h
    obtain ⟨p, hp, hok, hcase⟩ := walkD_step h
    obtain ⟨hm, hmay, h2, hh⟩ := okD_met hok
    have hfit := ((mayB_iff p).1 hmay).2
    have hkey : ∀ k ∈ p.keys, 1 ≤ k.size ∧ k.size ≤ 6 := hfit.keys
    rcases hcase with ⟨hl, hlf⟩ | ⟨hl, hk⟩
    · obtain ⟨e1, e2, _⟩ := leafD_some hlf
      obtain ⟨v1, v2, v3⟩ := hfit.leaf hl
      rw [allD_leaf hp v2]
      refine ⟨zip_asc hfit.rising v1, fun x hx => holdB_at hh (zip_mem hx).1, fun x hx => ⟨hkey _ (zip_mem hx).1, v3 _ (zip_mem hx).2⟩, ?_⟩
      rw [e2, List.length_zip, v1, Nat.min_self]
    · obtain ⟨k1, k2, k3, k4, k5⟩ := hfit.inner hl
      rw [allD_inner hp k2]
      have := kidsD_all ih hfit hh p.kids 0 (by omega) _ _ hk
      exact this

/-! sums over the pages met -/
def wt (g : Pg → Nat) : List Pg → List Bool → Nat
  | p :: T, b :: met => (match b with | true => g p | false => 0) + wt g T met
  | _, _ => 0
theorem wt_set (g : Pg → Nat) : ∀ {T : List Pg} {met : List Bool} {i : Nat} {p : Pg}, T[i]? = some p → met[i]? = some false → wt g T (met.set i true) = wt g T met + g p
  | [], _, i, p, h, _ => by simp at h
  | _ :: _, [], i, p, _, h => by simp at h
  | q :: T, b :: met, 0, p, h1, h2 => by
    simp at h1 h2; subst h1; subst h2
    simp only [List.set_cons_zero, wt]; omega
  | q :: T, b :: met, i + 1, p, h1, h2 => by
    simp only [List.getElem?_cons_succ] at h1 h2
    simp only [List.set_cons_succ, wt]
    have := wt_set g h1 h2
    omega
theorem wt_none (g : Pg → Nat) : ∀ (T : List Pg) (n : Nat), wt g T (List.replicate n false) = 0
  | [], n => by cases n <;> rfl
  | p :: T, 0 => rfl
  | p :: T, n + 1 => by simp only [List.replicate_succ, wt]; rw [wt_none g T n]
/-- all that are used are met -/
def usedSum (g : Pg → Nat) (T : List Pg) : Nat := (T.map fun (p : Pg) => match p.used with | true => g p | false => 0).sum
theorem wt_used (g : Pg → Nat) : ∀ {T : List Pg} {met : List Bool}, met.length = T.length → (∀ (i : Nat) (p : Pg), T[i]? = some p → met[i]? = some p.used) → wt g T met = usedSum g T
  | [], [], _, _ => rfl
  | [], _ :: _, h, _ => by simp at h
  | _ :: _, [], h, _ => by simp at h
  | p :: T, b :: met, hl, h => by
    have h0 := h 0 p rfl
    simp at h0
    subst h0
    have ih := wt_used g (T := T) (met := met) (by simpa using hl) fun i q hq => by have := h (i + 1) q (by simpa using hq); simpa using this
    unfold wt usedSum
    rw [List.map_cons, List.sum_cons, ih]
    rfl
def gK (p : Pg) : Nat := match p.leaf with | true => p.keys.length | false => 0
def gL (p : Pg) : Nat := match p.leaf with | true => 1 | false => 0
theorem walkD_sum (T : List Pg) : ∀ (f a deep : Nat) (lo hi : ByteArray) (st st' : WS), walkD T f a deep lo hi st = some st' → st'.count + wt gK T st.met = st.count + wt gK T st'.met := by
  intro f
  induction f with
  | zero => intro _ _ _ _ _ _ h; cases h
  | succ f ih =>
    intro a deep lo hi st st' h
    obtain ⟨p, hp, hok, hcase⟩ := walkD_step h
    obtain ⟨hm, hmay, h2, hh⟩ := okD_met hok
    have hw := wt_set gK hp hm
    rcases hcase with ⟨hl, hlf⟩ | ⟨hl, hk⟩
    · obtain ⟨e1, e2, _⟩ := leafD_some hlf
      rw [e1, e2]
      dsimp only at *
      have : gK p = p.keys.length := by unfold gK; rw [hl]
      omega
    · have : gK p = 0 := by unfold gK; rw [hl]
      have key := kidsD_ind' (P := fun _ s s' => s'.count + wt gK T s.met = s.count + wt gK T s'.met) (fun s => rfl) (fun k ks i s s1 s' hr hP => by
        have := ih _ _ _ _ _ _ hr
        omega) _ _ _ _ hk
      dsimp only at key
      omega
theorem walkD_high (T : List Pg) : ∀ (f a deep : Nat) (lo hi : ByteArray) (st st' : WS), walkD T f a deep lo hi st = some st' → 1 ≤ deep → (st.deep = 0 ∨ st.deep = st'.deep) ∧ deep ≤ st'.deep ∧
    (0 < a → wt gL T st.met + 3 ^ (st'.deep - deep) ≤ wt gL T st'.met ∧ st.count + 2 * 3 ^ (st'.deep - deep) ≤ st'.count) ∧
    ((st'.deep = deep ∧ wt gL T st'.met = wt gL T st.met + 1) ∨ (deep < st'.deep ∧ wt gL T st.met + 2 * 3 ^ (st'.deep - (deep + 1)) ≤ wt gL T st'.met ∧ st.count + 4 * 3 ^ (st'.deep - (deep + 1)) ≤ st'.count)) := by
  intro f
  induction f with
  | zero => intro _ _ _ _ _ _ h; cases h
  | succ f ih =>
    intro a deep lo hi st st' h hd
    obtain ⟨p, hp, hok, hcase⟩ := walkD_step h
    obtain ⟨hm, hmay, h2, hh⟩ := okD_met hok
    have hw := wt_set gL hp hm
    rcases hcase with ⟨hl, hlf⟩ | ⟨hl, hk⟩
    · obtain ⟨e1, e2, e3, e4⟩ := leafD_some hlf
      have hg : gL p = 1 := by unfold gL; rw [hl]
      rw [e1, e2, e3]
      dsimp only at *
      rw [Nat.sub_self, Nat.pow_zero]
      exact ⟨e4, Nat.le_refl _, fun h0 => ⟨by omega, by have := h2 h0; omega⟩, .inl ⟨rfl, by omega⟩⟩
    · have hg : gL p = 0 := by unfold gL; rw [hl]
      obtain ⟨k1, k2, k3, k4, k5⟩ := ((mayB_iff p).1 hmay).2.inner hl
      have key : ∀ (ks : List Int), (∀ k ∈ ks, 1 ≤ k) → ∀ (i : Nat) (s s' : WS), kidsD (fun k i s => walkD T f k.toNat (deep + 1) (loK p lo i) (hiK p hi i) s) ks i s = some s' →
          (s.deep = 0 ∨ s.deep = s'.deep) ∧ (ks ≠ [] → deep + 1 ≤ s'.deep) ∧ wt gL T s.met + ks.length * 3 ^ (s'.deep - (deep + 1)) ≤ wt gL T s'.met ∧ s.count + 2 * (ks.length * 3 ^ (s'.deep - (deep + 1))) ≤ s'.count := by
        intro ks
        induction ks with
        | nil => intro _ i s s' h; cases h; exact ⟨.inr rfl, fun h => (h rfl).elim, by simp, by simp⟩
        | cons k ks ihk =>
          intro hks i s s' h
          rw [kidsD_cons] at h
          cases hr : walkD T f k.toNat (deep + 1) (loK p lo i) (hiK p hi i) s with
          | none => rw [hr] at h; cases h
          | some s1 =>
            rw [hr] at h
            dsimp only at h
            obtain ⟨q1, q2, q3, _⟩ := ih _ _ _ _ _ _ hr (by omega)
            obtain ⟨q4, q5⟩ := q3 (by have := hks k (by simp); omega)
            obtain ⟨r1, r2, r3, r4⟩ := ihk (fun k' hk' => hks k' (by simp [hk'])) (i + 1) s1 s' h
            have e : s1.deep = s'.deep := by rcases r1 with r | r; omega; exact r
            rw [e] at q1 q2 q4 q5
            simp only [List.length_cons, Nat.add_mul, Nat.one_mul]
            generalize 3 ^ (s'.deep - (deep + 1)) = X at *
            generalize ks.length * X = Y at *
            exact ⟨q1, fun _ => q2, by omega, by omega⟩
      obtain ⟨c1, c2, c3, c4⟩ := key p.kids (fun k hk => (k4 k hk).1) _ _ _ hk
      have hdeep := c2 (fun e => by rw [e] at k3; simp at k3)
      dsimp only at *
      obtain ⟨X, hX⟩ : ∃ X, 3 ^ (st'.deep - (deep + 1)) = X := ⟨_, rfl⟩
      have hX3 : 3 ^ (st'.deep - deep) = X * 3 := by rw [← hX, ← Nat.pow_succ]; congr 1; omega
      rw [hX] at c3 c4 ⊢
      rw [hX3]
      have m2 : 2 * X ≤ p.kids.length * X := Nat.mul_le_mul_right X (by omega)
      refine ⟨c1, by omega, fun h0 => ?_, .inr ⟨by omega, by omega, by omega⟩⟩
      have m3 : 3 * X ≤ p.kids.length * X := Nat.mul_le_mul_right X (by have := h2 h0; omega)
      exact ⟨by omega, by omega⟩

/-- the entries of a sound tree -/
def entD (T : List Pg) : KV := allD T 49 0
section
variable {T : List Pg} {st : WS}
theorem SF.ents (s : SF T st) : Asc (entD T) ∧ KVok (entD T) ∧ (entD T).length = st.count ∧ (entD T).length ≤ 60 := by
  obtain ⟨h1, _, h3, h4⟩ := walkD_all T _ _ _ _ _ _ _ s.walk
  have h00 : ws0.count = 0 := rfl
  have := s.count
  unfold entD
  exact ⟨h1, h3, by omega, by omega⟩
theorem SF.metU (s : SF T st) {i : Nat} {p : Pg} (hp : T[i]? = some p) : st.met[i]? = some p.used := by
  have hi : i < 48 := by have := (List.getElem?_eq_some_iff.1 hp).1; have := s.len; omega
  cases hu : p.used with
  | true => exact (s.used hp hu).1
  | false =>
    rw [List.getElem?_eq_getElem (by rw [s.metlen]; exact hi)]
    cases e : st.met[i]'(by rw [s.metlen]; exact hi) with
    | false => rfl
    | true =>
      have hm : st.met[i]? = some true := by rw [List.getElem?_eq_getElem (by rw [s.metlen]; exact hi), e]
      rcases (walkD_met T _ _ _ _ _ _ _ s.walk).2.2 i hm with h | ⟨q, hq, h1, _⟩
      · rw [ws0_met i hi] at h; cases h
      · rw [hp] at hq; cases hq
        have := ((mayB_iff p).1 h1).2.used
        rw [hu] at this; cases this
/-- how many entries, leaves a sound tree has -/
theorem SF.sums (s : SF T st) : usedSum gK T = (entD T).length ∧ (heightD T = 1 ↔ usedSum gL T = 1) ∧ 1 ≤ heightD T ∧ heightD T ≤ 4 := by
  have e0 : ∀ g, wt g T ws0.met = 0 := fun g => wt_none g T 48
  have eU : ∀ g, wt g T st.met = usedSum g T := fun g => wt_used g (by rw [s.metlen, s.len]) fun i p hp => s.metU hp
  have h1 := walkD_sum T _ _ _ _ _ _ _ s.walk
  obtain ⟨_, h2, _, h3⟩ := walkD_high T _ _ _ _ _ _ _ s.walk (Nat.le_refl _)
  rw [e0, eU] at h1 h3
  have h00 : ws0.count = 0 := rfl
  have hc := s.ents.2.2.1
  have hc2 := s.count
  rw [s.height]
  refine ⟨by omega, ?_, by omega, ?_⟩
  · rcases h3 with ⟨q1, q2⟩ | ⟨q1, q2, q3⟩
    · constructor <;> intro <;> omega
    · have : 1 ≤ 3 ^ (st.deep - 2) := Nat.pow_pos (by omega)
      simp only [Nat.reduceAdd] at q2 q3
      constructor <;> intro <;> omega
  · rcases h3 with ⟨q1, q2⟩ | ⟨q1, q2, q3⟩
    · omega
    · simp only [Nat.reduceAdd] at q2 q3
      rcases Nat.lt_or_ge st.deep 5 with h | h
      · omega
      · have : 3 ^ 3 ≤ 3 ^ (st.deep - 2) := Nat.pow_le_pow_right (by omega) (by omega)
        omega
end
end Go.Am
namespace Go.Am

/-! trees, by what stands below a page -/
/-- kids with the keys between them -/
def KidsR (R : Nat → List Nat → KV → Prop) : List Int → List ByteArray → List Nat → KV → Prop
  | [], _, _, _ => False
  | k :: ks, ss, P, ps => match ss with
    | [] => ks = [] ∧ R k.toNat P ps
    | s :: ss => ∃ P1 ps1 P2 ps2, R k.toNat P1 ps1 ∧ KidsR R ks ss P2 ps2 ∧ P = P1 ++ P2 ∧ ps = ps1 ++ ps2 ∧ (∀ x ∈ ps1, blt x.1 s = true) ∧ (∀ y ∈ ps2, blt y.1 s = false)
/-- a subtree: its height, its root's number, its pages' numbers, its entries -/
def Sub (T : List Pg) : Nat → Nat → List Nat → KV → Prop
  | 0, _, _, _ => False
  | d + 1, a, P, ps => ∃ p, T[a]? = some p ∧ MayP p ∧
      ((d = 0 ∧ p.leaf = true ∧ P = [a] ∧ ps = p.keys.zip p.vals) ∨
       (p.leaf = false ∧ ∃ P', P = a :: P' ∧ KidsR (fun k P ps => Sub T d k P ps ∧ ∃ q, T[k]? = some q ∧ 2 ≤ q.keys.length) p.kids p.keys P' ps))
/-- one that is no root -/
def SubB (T : List Pg) (d k : Nat) (P : List Nat) (ps : KV) : Prop := Sub T d k P ps ∧ ∃ q, T[k]? = some q ∧ 2 ≤ q.keys.length
theorem KidsR.imp {R R' : Nat → List Nat → KV → Prop} : ∀ {ks : List Int} {ss : List ByteArray} {P : List Nat} {ps : KV}, (∀ k P' ps', R k P' ps' → (∀ i ∈ P', i ∈ P) → R' k P' ps') → KidsR R ks ss P ps → KidsR R' ks ss P ps
  | [], _, _, _, _, h => h.elim
  | k :: ks, [], P, ps, f, h => ⟨h.1, f _ _ _ h.2 fun i hi => hi⟩
  | k :: ks, s :: ss, P, ps, f, ⟨P1, ps1, P2, ps2, h1, h2, e1, e2, h3, h4⟩ => by
    subst e1
    exact ⟨P1, ps1, P2, ps2, f _ _ _ h1 fun i hi => List.mem_append.2 (.inl hi), KidsR.imp (fun k P' ps' h hs => f k P' ps' h fun i hi => List.mem_append.2 (.inr (hs i hi))) h2, rfl, e2, h3, h4⟩
theorem KidsR.len {R : Nat → List Nat → KV → Prop} : ∀ {ks : List Int} {ss : List ByteArray} {P : List Nat} {ps : KV}, KidsR R ks ss P ps → ks.length = ss.length + 1
  | [], _, _, _, h => h.elim
  | k :: ks, [], P, ps, h => by rw [h.1]; rfl
  | k :: ks, s :: ss, P, ps, ⟨P1, ps1, P2, ps2, h1, h2, _⟩ => by simp [KidsR.len h2]
theorem Sub.head {T : List Pg} {d a : Nat} {P : List Nat} {ps : KV} (h : Sub T d a P ps) : a ∈ P := by
  cases d with
  | zero => exact h.elim
  | succ d =>
    obtain ⟨p, _, _, ⟨_, _, e, _⟩ | ⟨_, P', e, _⟩⟩ := h <;> simp [e]
/-- the pages stand as they stood -/
theorem Sub.keep {T T' : List Pg} : ∀ {d a : Nat} {P : List Nat} {ps : KV}, Sub T d a P ps → (∀ i ∈ P, T'[i]? = T[i]?) → Sub T' d a P ps
  | 0, _, _, _, h, _ => h.elim
  | d + 1, a, P, ps, h, hk => by
    have ha := hk a h.head
    obtain ⟨p, hp, hm, h⟩ := h
    refine ⟨p, by rw [ha]; exact hp, hm, ?_⟩
    rcases h with h | ⟨h1, P', e, h2⟩
    · exact .inl h
    · subst e
      refine .inr ⟨h1, P', rfl, h2.imp fun k Q qs ⟨q1, q, q2, q3⟩ hs => ⟨Sub.keep q1 fun i hi => hk i (by simp [hs i hi]), q, ?_, q3⟩⟩
      rw [hk k (by simp [hs k q1.head])]; exact q2
theorem SubB.keep {T T' : List Pg} {d a : Nat} {P : List Nat} {ps : KV} (h : SubB T d a P ps) (hk : ∀ i ∈ P, T'[i]? = T[i]?) : SubB T' d a P ps := by
  obtain ⟨h1, q, h2, h3⟩ := h
  exact ⟨h1.keep hk, q, by rw [hk a h1.head]; exact h2, h3⟩

theorem KidsR.allD {T : List Pg} {f : Nat} {R : Nat → List Nat → KV → Prop} (hR : ∀ k P ps, R k P ps → Am.allD T f k = ps) : ∀ {ks : List Int} {ss : List ByteArray} {P : List Nat} {ps : KV}, KidsR R ks ss P ps → (ks.flatMap fun k => Am.allD T f k.toNat) = ps
  | [], _, _, _, h => h.elim
  | k :: ks, [], P, ps, h => by rw [h.1]; simp [hR _ _ _ h.2]
  | k :: ks, s :: ss, P, ps, ⟨P1, ps1, P2, ps2, h1, h2, _, e2, _⟩ => by rw [List.flatMap_cons, hR _ _ _ h1, KidsR.allD hR h2, e2]
theorem Sub.allD {T : List Pg} : ∀ {d f a : Nat} {P : List Nat} {ps : KV}, Sub T d a P ps → d ≤ f → Am.allD T f a = ps
  | 0, _, _, _, _, h, _ => h.elim
  | d + 1, 0, _, _, _, _, hf => by omega
  | d + 1, f + 1, a, P, ps, h, hf => by
    obtain ⟨p, hp, hm, ⟨_, hl, _, e⟩ | ⟨hl, P', _, hk⟩⟩ := h
    · rw [allD_leaf hp (hm.2.leaf hl).2.1, e]
    · rw [allD_inner hp (hm.2.inner hl).2.1]
      exact KidsR.allD (fun k P ps h => Sub.allD h.1 (by omega)) hk

theorem kids_asc {R : Nat → List Nat → KV → Prop} (hR : ∀ k P ps, R k P ps → Asc ps ∧ KVok ps) : ∀ {ks : List Int} {ss : List ByteArray} {P : List Nat} {ps : KV}, KidsR R ks ss P ps → Asc ps ∧ KVok ps
  | [], _, _, _, h => h.elim
  | k :: ks, [], P, ps, h => hR _ _ _ h.2
  | k :: ks, s :: ss, P, ps, ⟨P1, ps1, P2, ps2, h1, h2, _, e2, h3, h4⟩ => by
    obtain ⟨a1, a2⟩ := hR _ _ _ h1
    obtain ⟨b1, b2⟩ := kids_asc hR h2
    subst e2
    exact ⟨List.pairwise_append.2 ⟨a1, b1, fun x hx y hy => blt_le (h3 x hx) (h4 y hy)⟩, fun x hx => (List.mem_append.1 hx).elim (a2 x) (b2 x)⟩
theorem Sub.asc {T : List Pg} : ∀ {d a : Nat} {P : List Nat} {ps : KV}, Sub T d a P ps → Asc ps ∧ KVok ps
  | 0, _, _, _, h => h.elim
  | d + 1, a, P, ps, h => by
    obtain ⟨p, hp, hm, ⟨_, hl, _, e⟩ | ⟨hl, P', _, hk⟩⟩ := h
    · obtain ⟨v1, v2, v3⟩ := hm.2.leaf hl
      subst e
      exact ⟨zip_asc hm.2.rising v1, fun x hx => ⟨hm.2.keys _ (zip_mem hx).1, v3 _ (zip_mem hx).2⟩⟩
    · exact kids_asc (fun k P ps h => Sub.asc h.1) hk
theorem kids_size {R : Nat → List Nat → KV → Prop} {m : Nat} (hR : ∀ k P ps, R k P ps → m ≤ ps.length) : ∀ {ks : List Int} {ss : List ByteArray} {P : List Nat} {ps : KV}, KidsR R ks ss P ps → ks.length * m ≤ ps.length
  | [], _, _, _, h => h.elim
  | k :: ks, [], P, ps, h => by rw [h.1]; have := hR _ _ _ h.2; simpa using this
  | k :: ks, s :: ss, P, ps, ⟨P1, ps1, P2, ps2, h1, h2, _, e2, h3, h4⟩ => by
    have := hR _ _ _ h1
    have := kids_size hR h2
    subst e2
    rw [List.length_cons, List.length_append, Nat.add_mul]
    omega
theorem SubB.size {T : List Pg} : ∀ {d a : Nat} {P : List Nat} {ps : KV}, SubB T d a P ps → 2 * d ≤ ps.length
  | 0, _, _, _, h => by omega
  | d + 1, a, P, ps, ⟨h, q, hq, h2⟩ => by
    obtain ⟨p, hp, hm, ⟨hd, hl, _, e⟩ | ⟨hl, P', _, hk⟩⟩ := h
    · rw [hp] at hq; cases hq
      have := (hm.2.leaf hl).1
      subst e; subst hd
      rw [List.length_zip]; omega
    · rw [hp] at hq; cases hq
      have hlen := hk.len
      have := kids_size (m := 2 * d) (fun k P ps h => SubB.size h) hk
      have hd : 1 ≤ d := by
        cases d with
        | zero => cases hks : q.kids with
          | nil => rw [hks] at hlen; simp at hlen
          | cons k ks =>
            rw [hks] at hk
            cases hs : q.keys with
            | nil => rw [hs] at h2; simp at h2
            | cons s ss => rw [hs] at hk; obtain ⟨_, _, _, _, h1, _⟩ := hk; exact h1.1.elim
        | succ d => omega
      have : 2 * (2 * d) ≤ q.kids.length * (2 * d) := Nat.mul_le_mul_right _ (by omega)
      omega
theorem SubB.ne {T : List Pg} {d a : Nat} {P : List Nat} {ps : KV} (h : SubB T d a P ps) : ps ≠ [] := by
  intro e
  have := h.size
  subst e
  cases d with
  | zero => exact h.1.elim
  | succ d => simp at this

/-- pages of a list that are met -/
def metAll (met : List Bool) (P : List Nat) : List Bool := P.foldl (fun m i => m.set i true) met
theorem metAll_out {P : List Nat} : ∀ {met : List Bool} {i : Nat}, i ∉ P → (metAll met P)[i]? = met[i]? := by
  unfold metAll
  induction P with
  | nil => intro met i _; rfl
  | cons j P ih =>
    intro met i h
    simp only [List.foldl_cons]
    rw [ih (fun q => h (by simp [q])), List.getElem?_set_ne (fun e => h (by simp [e]))]
theorem metAll_in {P : List Nat} : ∀ {met : List Bool} {i : Nat}, i ∈ P → i < met.length → (metAll met P)[i]? = some true := by
  unfold metAll
  induction P with
  | nil => intro met i h; simp at h
  | cons j P ih =>
    intro met i h hl
    simp only [List.foldl_cons]
    by_cases hi : i ∈ P
    · exact ih hi (by simpa using hl)
    · have : i = j := by simpa [hi] using h
      subst this
      have := metAll_out (met := met.set i true) hi
      unfold metAll at this
      rw [this, List.getElem?_set_self hl]
theorem metAll_append (met : List Bool) (P Q : List Nat) : metAll met (P ++ Q) = metAll (metAll met P) Q := by unfold metAll; rw [List.foldl_append]
theorem metAll_cons (met : List Bool) (a : Nat) (P : List Nat) : metAll met (a :: P) = metAll (met.set a true) P := rfl

theorem kids_hold {R : Nat → List Nat → KV → Prop} (hR : ∀ k P ps, R k P ps → ps ≠ []) {lo hi : ByteArray} : ∀ {ks : List Int} {ss : List ByteArray} {P : List Nat} {ps : KV}, KidsR R ks ss P ps → ps ≠ [] ∧ (Win lo hi ps → ∀ s ∈ ss, blt s lo = false ∧ (hi.size = 0 ∨ blt s hi = true))
  | [], _, _, _, h => h.elim
  | k :: ks, [], P, ps, h => ⟨hR _ _ _ h.2, fun _ s hs => by simp at hs⟩
  | k :: ks, s :: ss, P, ps, ⟨P1, ps1, P2, ps2, h1, h2, _, e2, h3, h4⟩ => by
    have n1 := hR _ _ _ h1
    obtain ⟨n2, ih⟩ := kids_hold hR (lo := lo) (hi := hi) h2
    subst e2
    refine ⟨by simp [n1], fun w s' hs => ?_⟩
    obtain ⟨x, hx⟩ := List.exists_mem_of_ne_nil _ n1
    obtain ⟨y, hy⟩ := List.exists_mem_of_ne_nil _ n2
    have wx := w x (List.mem_append.2 (.inl hx))
    have wy := w y (List.mem_append.2 (.inr hy))
    rcases List.mem_cons.1 hs with e | e
    · subst e
      refine ⟨?_, ?_⟩
      · exact le_le wx.1 (blt_asy (h3 x hx))
      · rcases wy.2 with q | q
        · exact .inl q
        · exact .inr (le_blt (h4 y hy) q)
    · exact ih (fun z hz => w z (List.mem_append.2 (.inr hz))) s' e
theorem holdB_of {lo hi : ByteArray} {ks : List ByteArray} (h : ∀ s ∈ ks, blt s lo = false ∧ (hi.size = 0 ∨ blt s hi = true)) : holdB lo hi ks = true := by
  unfold holdB
  rw [List.all_eq_true]
  intro k hk
  obtain ⟨h1, h2⟩ := h k hk
  rw [h1]
  rcases h2 with q | q
  · rw [decide_eq_true q]; rfl
  · rw [q]; simp

/-- such a tree is walked well -/
theorem Sub.walk (T : List Pg) : ∀ (d f a : Nat) (P : List Nat) (ps : KV) (deep : Nat) (lo hi : ByteArray) (st : WS), Sub T d a P ps → d ≤ f → (0 < a → ∃ q, T[a]? = some q ∧ 2 ≤ q.keys.length) → P.Nodup → (∀ i ∈ P, st.met[i]? = some false) → Win lo hi ps →
    (st.deep = 0 ∨ st.deep + 1 = deep + d) → 1 ≤ deep → walkD T f a deep lo hi st = some ⟨metAll st.met P, deep + d - 1, st.count + ps.length⟩
  | 0, _, _, _, _, _, _, _, _, h, _, _, _, _, _, _, _ => h.elim
  | d + 1, 0, _, _, _, _, _, _, _, _, hf, _, _, _, _, _, _ => by omega
  | d + 1, f + 1, a, P, ps, deep, lo, hi, st, h, hf, ha, hnd, hm, hw, hdp, hd1 => by
    have hma := hm a h.head
    obtain ⟨p, hp, hmay, hcase⟩ := h
    have hbig : (decide (0 < a) && decide (p.keys.length < 2)) = false := by
      rw [Bool.and_eq_false_iff, decide_eq_false_iff_not, decide_eq_false_iff_not]
      rcases Nat.eq_zero_or_pos a with e | e
      · exact .inl (by omega)
      · obtain ⟨q, hq, h2⟩ := ha e
        rw [hp] at hq; cases hq
        exact .inr (by omega)
    have hok : holdB lo hi p.keys = true → okD p a lo hi st = true := fun hh => by
      unfold okD
      rw [hma, (mayB_iff p).2 hmay, hbig, hh]; rfl
    rw [walkD_eq T f a deep lo hi st hp]
    rcases hcase with ⟨e0, hl, e1, e2⟩ | ⟨hl, P', e1, hk⟩
    · subst e0; subst e1; subst e2
      have v1 := (hmay.2.leaf hl).1
      have hh : holdB lo hi p.keys = true := holdB_of fun s hs => by
        obtain ⟨i, hi', e⟩ := List.getElem_of_mem hs
        have : (p.keys.zip p.vals)[i]'(by rw [List.length_zip]; omega) ∈ p.keys.zip p.vals := List.getElem_mem _
        have := hw _ this
        rw [List.getElem_zip, e] at this
        exact this
      rw [hok hh]
      dsimp only
      rw [hl]
      dsimp only
      unfold leafD
      dsimp only
      have hz : (p.keys.zip p.vals).length = p.keys.length := by rw [List.length_zip]; omega
      rw [hz]
      rcases hdp with q | q
      · rw [decide_eq_true q]; rfl
      · have q' : st.deep = deep := by omega
        rw [decide_eq_false (by omega), decide_eq_true q']; rfl
    · subst e1
      have hh : holdB lo hi p.keys = true := holdB_of ((kids_hold (fun k P ps h => SubB.ne h) hk).2 hw)
      rw [hok hh]
      dsimp only
      rw [hl]
      dsimp only
      have hlen := hk.len
      obtain ⟨k1, k2, k3, k4, k5⟩ := hmay.2.inner hl
      rw [List.nodup_cons] at hnd
      have loop : ∀ (ks : List Int) (i : Nat) (ss : List ByteArray) (P : List Nat) (ps : KV) (s : WS), (∀ k ∈ ks, 1 ≤ k) → p.keys.drop i = ss → i + ss.length = p.keys.length → KidsR (fun k P ps => Sub T d k P ps ∧ ∃ q, T[k]? = some q ∧ 2 ≤ q.keys.length) ks ss P ps →
          P.Nodup → (∀ i ∈ P, s.met[i]? = some false) → Win (loK p lo i) hi ps → (s.deep = 0 ∨ s.deep = deep + d) →
          kidsD (fun k i s => walkD T f k.toNat (deep + 1) (loK p lo i) (hiK p hi i) s) ks i s = some ⟨metAll s.met P, deep + d, s.count + ps.length⟩ := by
        intro ks
        induction ks with
        | nil => intro i ss P ps s _ _ _ h; exact h.elim
        | cons k ks ihk =>
          intro i ss P ps s hk1 hss hlen' hR hnd hm hw hdp
          have hk0 := hk1 k (by simp)
          cases ss with
          | nil =>
            obtain ⟨e, hs⟩ := hR
            subst e
            have hend : p.keys.length ≤ i := by simp at hlen'; omega
            rw [kidsD_cons]
            have := Sub.walk T d f k.toNat P ps (deep + 1) (loK p lo i) (hiK p hi i) s hs.1 (by omega) (fun _ => hs.2) hnd hm (by rw [hiK_end hend]; exact hw) (by rcases hdp with q | q; exact .inl q; exact .inr (by omega)) (by omega)
            rw [this]
            dsimp only
            have e : deep + 1 + d - 1 = deep + d := by omega
            rw [e]; rfl
          | cons s0 ss =>
            obtain ⟨P1, ps1, P2, ps2, h1, h2, e1, e2, h3, h4⟩ := hR
            subst e1; subst e2
            simp only [List.length_cons] at hlen'
            have hi1 : i < p.keys.length := by omega
            have hs0 : p.keys[i] = s0 := by
              rw [List.drop_eq_getElem_cons hi1] at hss
              exact (List.cons.inj hss).1
            have hss' : p.keys.drop (i + 1) = ss := by
              rw [List.drop_eq_getElem_cons hi1] at hss
              exact (List.cons.inj hss).2
            rw [kidsD_cons]
            rw [List.nodup_append] at hnd
            obtain ⟨d1, d2, d3⟩ := hnd
            have hw1 : Win (loK p lo i) (hiK p hi i) ps1 := fun x hx => ⟨(hw x (List.mem_append.2 (.inl hx))).1, .inr (by rw [hiK_at hi1, hs0]; exact h3 x hx)⟩
            have := Sub.walk T d f k.toNat P1 ps1 (deep + 1) (loK p lo i) (hiK p hi i) s h1.1 (by omega) (fun _ => h1.2) d1 (fun j hj => hm j (List.mem_append.2 (.inl hj))) hw1 (by rcases hdp with q | q; exact .inl q; exact .inr (by omega)) (by omega)
            rw [this]
            dsimp only
            have e : deep + 1 + d - 1 = deep + d := by omega
            rw [e]
            have := ihk (i + 1) ss P2 ps2 ⟨metAll s.met P1, deep + d, s.count + ps1.length⟩ (fun k' hk' => hk1 k' (by simp [hk'])) hss' (by omega) h2 d2 (fun j hj => by
                dsimp only
                rw [metAll_out (fun q => d3 j q j hj rfl)]
                exact hm j (List.mem_append.2 (.inr hj)))
              (fun y hy => ⟨by rw [loK_at hi1, hs0]; exact h4 y hy, (hw y (List.mem_append.2 (.inr hy))).2⟩) (.inr rfl)
            rw [this]
            dsimp only
            rw [metAll_append, List.length_append, Nat.add_assoc]
      have := loop p.kids 0 p.keys P' ps ⟨st.met.set a true, st.deep, st.count⟩ (fun k hk => (k4 k hk).1) rfl (by omega) hk hnd.2 (fun j hj => by
          dsimp only
          rw [List.getElem?_set_ne (fun e => hnd.1 (by rw [e]; exact hj))]
          exact hm j (by simp [hj])) hw (by dsimp only; rcases hdp with q | q; exact .inl q; exact .inr (by omega))
      rw [this, metAll_cons]
      dsimp only
      congr 2
end Go.Am
namespace Go.Am

/-- a walk that goes well: what stands below -/
theorem walkD_sub (T : List Pg) : ∀ (f a deep : Nat) (lo hi : ByteArray) (st st' : WS), walkD T f a deep lo hi st = some st' → 1 ≤ deep →
    ∃ d P, st'.deep + 1 = deep + d ∧ Sub T d a P (allD T f a) ∧ st'.met = metAll st.met P ∧ P.Nodup ∧ (∀ i ∈ P, st.met[i]? = some false) := by
  intro f
  induction f with
  | zero => intro _ _ _ _ _ _ h; cases h
  | succ f ih =>
    intro a deep lo hi st st' h hd1
    obtain ⟨p, hp, hok, hcase⟩ := walkD_step h
    obtain ⟨hm, hmay, h2, hh⟩ := okD_met hok
    have hM := (mayB_iff p).1 hmay
    have hfit := hM.2
    have hlt := (List.getElem?_eq_some_iff.1 hm).1
    rcases hcase with ⟨hl, hlf⟩ | ⟨hl, hk⟩
    · obtain ⟨e1, e2, e3, _⟩ := leafD_some hlf
      refine ⟨1, [a], by omega, ⟨p, hp, hM, .inl ⟨rfl, hl, rfl, allD_leaf hp (hfit.leaf hl).2.1⟩⟩, by rw [e1]; rfl, by simp, fun i hi => by rw [List.mem_singleton.1 hi]; exact hm⟩
    · obtain ⟨k1, k2, k3, k4, k5⟩ := hfit.inner hl
      have loop : ∀ (ks : List Int) (i : Nat) (ss : List ByteArray) (s s' : WS), (∀ k ∈ ks, 1 ≤ k) → p.keys.drop i = ss → i + ss.length = p.keys.length → ks.length = ss.length + 1 →
          kidsD (fun k i s => walkD T f k.toNat (deep + 1) (loK p lo i) (hiK p hi i) s) ks i s = some s' →
          ∃ d P, s'.deep + 1 = deep + 1 + d ∧ KidsR (SubB T d) ks ss P (ks.flatMap fun k => allD T f k.toNat) ∧ s'.met = metAll s.met P ∧ P.Nodup ∧ (∀ i ∈ P, s.met[i]? = some false) ∧ (s.deep = 0 ∨ s.deep = s'.deep) := by
        intro ks
        induction ks with
        | nil => intro i ss s s' _ _ _ h; simp at h
        | cons k ks ihk =>
          intro i ss s s' hk1 hss hlen hkl h
          have hk0 := hk1 k (by simp)
          rw [kidsD_cons] at h
          cases hr : walkD T f k.toNat (deep + 1) (loK p lo i) (hiK p hi i) s with
          | none => rw [hr] at h; cases h
          | some s1 =>
            rw [hr] at h
            dsimp only at h
            obtain ⟨d1, P1, e1, S1, m1, n1, u1⟩ := ih _ _ _ _ _ _ hr (by omega)
            obtain ⟨q1, _⟩ := walkD_high T _ _ _ _ _ _ _ hr (by omega)
            have B1 : SubB T d1 k.toNat P1 (allD T f k.toNat) := by
              obtain ⟨q, hq, hqo, _⟩ := walkD_step (f := f - 1) (by
                cases f with
                | zero => cases hr
                | succ f => exact hr)
              exact ⟨S1, q, hq, (okD_met hqo).2.2.1 (by omega)⟩
            cases ss with
            | nil =>
              have : ks = [] := by simpa using hkl
              subst this
              cases h
              exact ⟨d1, P1, e1, ⟨rfl, by simpa using B1⟩, m1, n1, u1, q1⟩
            | cons s0 ss =>
              simp only [List.length_cons] at hlen hkl
              have hi1 : i < p.keys.length := by omega
              have hs0 : p.keys[i] = s0 := by
                rw [List.drop_eq_getElem_cons hi1] at hss
                exact (List.cons.inj hss).1
              have hss' : p.keys.drop (i + 1) = ss := by
                rw [List.drop_eq_getElem_cons hi1] at hss
                exact (List.cons.inj hss).2
              obtain ⟨d2, P2, e2, K2, m2, n2, u2, z2⟩ := ihk (i + 1) ss s1 s' (fun k' hk' => hk1 k' (by simp [hk'])) hss' (by omega) (by omega) h
              have hd12 : d1 = d2 := by rcases z2 with z | z <;> omega
              subst hd12
              have w1 := (walkD_all T f _ _ _ _ _ _ hr).2.1
              have w2 := (kidsD_all (walkD_all T f) hfit hh ks (i + 1) (by omega) _ _ h).2.1
              rw [loK_at hi1, hs0] at w2
              rw [hiK_at hi1, hs0] at w1
              have hsz : 1 ≤ s0.size := by rw [← hs0]; exact (hfit.keys _ (List.getElem_mem hi1)).1
              have u2' : ∀ j ∈ P2, j ∉ P1 := fun j hj q => by
                have := u2 j hj
                have hjl := (List.getElem?_eq_some_iff.1 (u1 j q)).1
                rw [m1, metAll_in q hjl] at this
                cases this
              refine ⟨d1, P1 ++ P2, e2, ⟨P1, _, P2, _, B1, K2, rfl, by rw [List.flatMap_cons], fun x hx => ?_, fun y hy => (w2 y hy).1⟩, by rw [m2, m1, metAll_append], ?_, fun j hj => ?_, ?_⟩
              · rcases (w1 x hx).2 with z | z
                · omega
                · exact z
              · rw [List.nodup_append]
                exact ⟨n1, n2, fun j hj j' hj' e => u2' j' hj' (by rw [← e]; exact hj)⟩
              · rcases List.mem_append.1 hj with q | q
                · exact u1 j q
                · have := u2 j q
                  rw [m1, metAll_out (u2' j q)] at this
                  exact this
              · rcases q1 with q | q
                · exact .inl q
                · rcases z2 with z | z
                  · omega
                  · exact .inr (by omega)
      obtain ⟨d, P, e, K, m, n, u, _⟩ := loop p.kids 0 p.keys _ _ (fun k hk => (k4 k hk).1) rfl (by omega) k3 hk
      dsimp only at m u
      have haP : a ∉ P := fun q => by
        have := u a q
        rw [List.getElem?_set_self hlt] at this
        cases this
      refine ⟨d + 1, a :: P, by omega, ⟨p, hp, hM, .inr ⟨hl, P, rfl, by rw [allD_inner hp k2]; exact K⟩⟩, by rw [m, metAll_cons], List.nodup_cons.2 ⟨haP, n⟩, fun j hj => ?_⟩
      rcases List.mem_cons.1 hj with q | q
      · rw [q]; exact hm
      · have := u j q
        rw [List.getElem?_set_ne (fun z => haP (by rw [z]; exact q))] at this
        exact this

theorem Sub.inT {T : List Pg} : ∀ {d a : Nat} {P : List Nat} {ps : KV}, Sub T d a P ps → ∀ i ∈ P, i < T.length
  | 0, _, _, _, h => h.elim
  | d + 1, a, P, ps, h => by
    obtain ⟨p, hp, hm, h⟩ := h
    have ha := (List.getElem?_eq_some_iff.1 hp).1
    rcases h with ⟨_, _, e, _⟩ | ⟨_, P', e, h2⟩
    · subst e; intro i hi; rw [List.mem_singleton.1 hi]; exact ha
    · subst e
      intro i hi
      rcases List.mem_cons.1 hi with q | q
      · rw [q]; exact ha
      · have key : ∀ {ks : List Int} {ss : List ByteArray} {P : List Nat} {ps : KV}, KidsR (SubB T d) ks ss P ps → ∀ i ∈ P, i < T.length := by
          intro ks
          induction ks with
          | nil => intro _ _ _ h; exact h.elim
          | cons k ks ih =>
            intro ss P ps h i hi
            cases ss with
            | nil => exact Sub.inT h.2.1 i hi
            | cons s ss =>
              obtain ⟨P1, ps1, P2, ps2, h1, h2, e1, _⟩ := h
              subst e1
              rcases List.mem_append.1 hi with q | q
              · exact Sub.inT h1.1 i q
              · exact ih h2 i q
        exact key h2 i q
theorem Sub.low {T : List Pg} {d a : Nat} {P : List Nat} {ps : KV} (h : Sub T d a P ps) : 2 * d ≤ ps.length + 2 := by
  cases d with
  | zero => exact h.elim
  | succ d =>
    obtain ⟨p, hp, hm, ⟨e0, _, _, _⟩ | ⟨_, P', _, hk⟩⟩ := h
    · subst e0; omega
    · have := kids_size (m := 2 * d) (fun k P ps h => SubB.size h) hk
      have hl := hk.len
      have : 1 * (2 * d) ≤ p.kids.length * (2 * d) := Nat.mul_le_mul_right _ (by omega)
      omega

/-- a whole tree: its height, the numbers of its pages, its entries -/
structure Whole (T : List Pg) (d : Nat) (P : List Nat) (ps : KV) : Prop where
  len : T.length = 48
  sub : Sub T d 0 P ps
  nodup : P.Nodup
  rest : ∀ (i : Nat) p, T[i]? = some p → i ∉ P → nothingB p = true
  count : ps.length ≤ 60
section
variable {T : List Pg} {d : Nat} {P : List Nat} {ps : KV}
theorem Whole.pos (w : Whole T d P ps) : 1 ≤ d := by
  cases d with
  | zero => exact w.sub.elim
  | succ d => omega
theorem Whole.sound (w : Whole T d P ps) : heightD T = d ∧ entD T = ps := by
  have hd := w.sub.low
  have hc := w.count
  have h1 := w.pos
  have hw := Sub.walk T d 49 0 P ps 1 (mkS []) (mkS []) ws0 w.sub (by omega) (fun h => by omega) w.nodup (fun i hi => ws0_met i (by have := w.sub.inT i hi; rw [w.len] at this; exact this))
    (fun x _ => ⟨blt_mk _, .inl rfl⟩) (.inl rfl) (Nat.le_refl _)
  refine ⟨?_, w.sub.allD (by omega)⟩
  unfold heightD
  rw [decide_eq_true w.len]
  dsimp only
  rw [hw]
  dsimp only
  have hr : restD T (metAll ws0.met P) = true := by
    unfold restD
    rw [List.all_eq_true]
    intro i hi
    have hi := List.mem_range.1 hi
    have hi48 : i < 48 := by rw [w.len] at hi; exact hi
    by_cases hp : i ∈ P
    · rw [metAll_in hp (by show i < (List.replicate 48 false).length; simpa using hi48)]; rfl
    · rw [w.rest i (T[i]?.getD noPg) (by rw [List.getElem?_eq_getElem hi]; rfl) hp]; simp
  have h0 : ws0.count = 0 := rfl
  rw [hr, h0, Nat.zero_add, decide_eq_true hc]
  show 1 + d - 1 = d
  omega
theorem Whole.pos' (w : Whole T d P ps) : 0 < heightD T := by rw [w.sound.1]; exact w.pos
theorem SF.whole {st : WS} (s : SF T st) : ∃ P, Whole T (heightD T) P (entD T) := by
  obtain ⟨d, P, e, S, m, n, u⟩ := walkD_sub T _ _ _ _ _ _ _ s.walk (Nat.le_refl _)
  have hd : d = heightD T := by rw [s.height]; omega
  subst hd
  refine ⟨P, s.len, S, n, fun i p hp hi => ?_, s.ents.2.2.2⟩
  have hlt := (List.getElem?_eq_some_iff.1 hp).1
  have hi48 : i < 48 := by rw [s.len] at hlt; exact hlt
  have hm : st.met[i]? = some false := by rw [m, metAll_out hi, ws0_met i hi48]
  rcases rest_at s.rest hlt hp with h | h
  · rw [hm] at h; simp at h
  · exact h
theorem whole_of (h : 0 < heightD T) : ∃ P, Whole T (heightD T) P (entD T) := by
  obtain ⟨st, s⟩ := SF.of h
  exact s.whole
end
end Go.Am
namespace Go.Am

/-! a key among keys that rise; an entry among entries -/
def slotN (ks : List ByteArray) (key : ByteArray) : Nat := ks.countP fun s => blt s key
def slotB (ks : List ByteArray) (key : ByteArray) : Bool := decide (ks[slotN ks key]? = some key)
def kidN (ks : List ByteArray) (key : ByteArray) : Nat := slotN ks key + (match slotB ks key with | true => 1 | false => 0)
def findK : KV → ByteArray → Option ByteArray
  | [], _ => none
  | x :: ps, key => match decide (x.1 = key) with | true => some x.2 | false => findK ps key
abbrev Pw (ks : List ByteArray) : Prop := ks.Pairwise fun a b => blt a b = true
section
variable {s key : ByteArray} {ks : List ByteArray}
theorem slotN_nil : slotN [] key = 0 := rfl
theorem slotB_nil : slotB [] key = false := by simp [slotB]
theorem slot_lt (h : blt s key = true) : slotN (s :: ks) key = slotN ks key + 1 ∧ slotB (s :: ks) key = slotB ks key := by
  have e : slotN (s :: ks) key = slotN ks key + 1 := by unfold slotN; rw [List.countP_cons_of_pos (by simpa using h)]
  refine ⟨e, ?_⟩
  unfold slotB
  rw [e, List.getElem?_cons_succ]
theorem slotN_zero (h : ∀ t ∈ ks, blt t key = false) : slotN ks key = 0 := by
  unfold slotN
  rw [List.countP_eq_zero]
  intro t ht
  rw [h t ht]; simp
theorem slot_ge (pw : Pw (s :: ks)) (h : blt s key = false) : slotN (s :: ks) key = 0 ∧ slotB (s :: ks) key = decide (s = key) := by
  have e : slotN (s :: ks) key = 0 := slotN_zero fun t ht => by
    rcases List.mem_cons.1 ht with q | q
    · rw [q]; exact h
    · exact le_le h (blt_asy ((List.pairwise_cons.1 pw).1 t q))
  refine ⟨e, ?_⟩
  unfold slotB
  rw [e]; simp
theorem kidN_above (h : ∀ t ∈ ks, blt key t = true) : kidN ks key = 0 := by
  have e : slotN ks key = 0 := slotN_zero fun t ht => blt_asy (h t ht)
  have e2 : slotB ks key = false := by
    unfold slotB
    rw [e, decide_eq_false_iff_not]
    intro q
    have := h key (List.mem_of_getElem? q)
    rw [blt_irr] at this; cases this
  unfold kidN
  rw [e, e2]; rfl
theorem findK_cons (x : ByteArray × ByteArray) (ps : KV) (key : ByteArray) : findK (x :: ps) key = match decide (x.1 = key) with | true => some x.2 | false => findK ps key := rfl
theorem findK_none {ps : KV} (h : ∀ x ∈ ps, x.1 ≠ key) : findK ps key = none := by
  induction ps with
  | nil => rfl
  | cons x ps ih =>
    unfold findK
    rw [decide_eq_false (h x (by simp))]
    exact ih fun y hy => h y (by simp [hy])
theorem findK_append {ps qs : KV} : findK (ps ++ qs) key = match findK ps key with | some v => some v | none => findK qs key := by
  induction ps with
  | nil => rfl
  | cons x ps ih =>
    show (match decide (x.1 = key) with | true => some x.2 | false => findK (ps ++ qs) key) = match (match decide (x.1 = key) with | true => some x.2 | false => findK ps key) with | some v => some v | none => findK qs key
    cases decide (x.1 = key) with
    | true => rfl
    | false => exact ih
theorem findK_left {ps qs : KV} (h : ∀ x ∈ qs, x.1 ≠ key) : findK (ps ++ qs) key = findK ps key := by
  rw [findK_append, findK_none h]
  cases findK ps key <;> rfl
theorem findK_right {ps qs : KV} (h : ∀ x ∈ ps, x.1 ≠ key) : findK (ps ++ qs) key = findK qs key := by
  rw [findK_append, findK_none h]
theorem findK_zip : ∀ {ks vs : List ByteArray}, Pw ks → vs.length = ks.length → findK (ks.zip vs) key = match slotB ks key with | true => vs[slotN ks key]? | false => none
  | [], vs, _, _ => by rw [slotB_nil]; rfl
  | s :: ks, [], _, h => by simp at h
  | s :: ks, v :: vs, pw, h => by
    have pw' := (List.pairwise_cons.1 pw).2
    have hgt := (List.pairwise_cons.1 pw).1
    rw [List.zip_cons_cons]
    unfold findK
    dsimp only
    cases e : blt s key with
    | true =>
      rw [(slot_lt e).1, (slot_lt e).2, decide_eq_false (blt_ne e)]
      dsimp only
      rw [findK_zip pw' (by simpa using h)]
      rfl
    | false =>
      rw [(slot_ge pw e).1, (slot_ge pw e).2]
      by_cases q : s = key
      · rw [decide_eq_true q]; rfl
      · rw [decide_eq_false q]
        dsimp only
        refine findK_none fun x hx hxk => ?_
        have := hgt x.1 (zip_mem hx).1
        rw [hxk, e] at this
        cases this
theorem kids_find {R : Nat → List Nat → KV → Prop} : ∀ {ks : List Int} {ss : List ByteArray} {P : List Nat} {ps : KV}, KidsR R ks ss P ps → Pw ss →
    ∃ k P1 ps1, ks[kidN ss key]? = some k ∧ R k.toNat P1 ps1 ∧ findK ps key = findK ps1 key
  | [], _, _, _, h, _ => h.elim
  | k :: ks, [], P, ps, h, _ => ⟨k, P, ps, by unfold kidN; rw [slotB_nil]; rfl, h.2, rfl⟩
  | k :: ks, s :: ss, P, ps, ⟨P1, ps1, P2, ps2, h1, h2, e1, e2, h3, h4⟩, pw => by
    have pw' := (List.pairwise_cons.1 pw).2
    have hgt := (List.pairwise_cons.1 pw).1
    subst e2
    have right : kidN (s :: ss) key = kidN ss key + 1 → blt key s = false → ∃ k' P' ps', (k :: ks)[kidN (s :: ss) key]? = some k' ∧ R k'.toNat P' ps' ∧ findK (ps1 ++ ps2) key = findK ps' key := fun e q => by
      obtain ⟨k', P', ps', q1, q2, q3⟩ := kids_find h2 pw'
      refine ⟨k', P', ps', by rw [e, List.getElem?_cons_succ]; exact q1, q2, ?_⟩
      rw [findK_right fun x hx e => ?_]
      · exact q3
      · have := h3 x hx
        rw [e, q] at this; cases this
    cases e : blt s key with
    | true => exact right (by unfold kidN; rw [(slot_lt e).1, (slot_lt e).2]; omega) (blt_asy e)
    | false =>
      by_cases q : s = key
      · refine right ?_ (by rw [q, blt_irr])
        have : kidN ss key = 0 := kidN_above fun t ht => by rw [← q]; exact hgt t ht
        rw [this]
        unfold kidN
        rw [(slot_ge pw e).1, (slot_ge pw e).2, decide_eq_true q]
      · have hks : blt key s = true := by
          rcases blt_tri s key with z | z | z
          · rw [z.1] at e; cases e
          · exact (q z.1).elim
          · exact z.1
        refine ⟨k, P1, ps1, ?_, h1, findK_left fun y hy e => ?_⟩
        · have : kidN (s :: ss) key = 0 := by
            unfold kidN
            rw [(slot_ge pw e).1, (slot_ge pw e).2, decide_eq_false q]; rfl
          rw [this]; rfl
        · have := h4 y hy
          rw [e, hks] at this; cases this
end
theorem findK_mem {ps : KV} (h : Asc ps) {x : ByteArray × ByteArray} (hx : x ∈ ps) : findK ps x.1 = some x.2 := by
  induction ps with
  | nil => simp at hx
  | cons y ps ih =>
    obtain ⟨h1, h2⟩ := List.pairwise_cons.1 h
    unfold findK
    rcases List.mem_cons.1 hx with e | e
    · subst e; rw [decide_eq_true rfl]
    · rw [decide_eq_false (blt_ne (h1 x e))]
      exact ih h2 e
theorem findK_is {ps : KV} {key : ByteArray} : (findK ps key).isSome = ps.any fun x => decide (x.1 = key) := by
  induction ps with
  | nil => rfl
  | cons y ps ih =>
    unfold findK
    rw [List.any_cons, ← ih]
    cases decide (y.1 = key) <;> rfl
end Go.Am
namespace Go.Am

theorem pw_rising {ks : List ByteArray} (h : Pw ks) : Rising ks := by
  intro i hi
  have := List.pairwise_iff_getElem.1 h i (i + 1) (by omega) hi (by omega)
  rw [blt_eq]; exact this
theorem asc_pw {ps : KV} (h : Asc ps) : Pw (ps.map (·.1)) := by rw [Pw, List.pairwise_map]; exact h
theorem zip_map (ps : KV) : (ps.map (·.1)).zip (ps.map (·.2)) = ps := by
  induction ps with
  | nil => rfl
  | cons x ps ih => simp [ih]

/-! a page over its kids -/
def PageSub (T : List Pg) (d : Nat) (p : Pg) (P : List Nat) (e : KV) : Prop :=
  MayP p ∧ ((d = 0 ∧ p.leaf = true ∧ P = [] ∧ e = p.keys.zip p.vals) ∨ (p.leaf = false ∧ KidsR (SubB T d) p.kids p.keys P e))
theorem PageSub.sub {T : List Pg} {d a : Nat} {p : Pg} {P : List Nat} {e : KV} (h : PageSub T d p P e) (hp : T[a]? = some p) : Sub T (d + 1) a (a :: P) e := by
  obtain ⟨hm, ⟨e0, hl, e1, e2⟩ | ⟨hl, hk⟩⟩ := h
  · subst e1; exact ⟨p, hp, hm, .inl ⟨e0, hl, rfl, e2⟩⟩
  · exact ⟨p, hp, hm, .inr ⟨hl, P, rfl, hk⟩⟩
theorem PageSub.keep {T T' : List Pg} {d : Nat} {p : Pg} {P : List Nat} {e : KV} (h : PageSub T d p P e) (hk : ∀ i ∈ P, T'[i]? = T[i]?) : PageSub T' d p P e := by
  obtain ⟨hm, h | ⟨hl, h⟩⟩ := h
  · exact ⟨hm, .inl h⟩
  · exact ⟨hm, .inr ⟨hl, h.imp fun k Q qs hs hin => hs.keep fun i hi => hk i (hin i hi)⟩⟩
/-- a level: pages with their least keys -/
def LV (T : List Pg) (d : Nat) : Lvl → List Nat → KV → Prop
  | [], P, e => P = [] ∧ e = []
  | (p, s) :: xs, P, e => ∃ P1 e1 P2 e2, P = P1 ++ P2 ∧ e = e1 ++ e2 ∧ PageSub T d p P1 e1 ∧ 2 ≤ p.keys.length ∧ (∃ y r, e1 = y :: r ∧ y.1 = s) ∧ LV T d xs P2 e2
theorem LV.append {T : List Pg} {d : Nat} : ∀ {xs ys : Lvl} {P Q : List Nat} {e f : KV}, LV T d xs P e → LV T d ys Q f → LV T d (xs ++ ys) (P ++ Q) (e ++ f)
  | [], ys, P, Q, e, f, ⟨h1, h2⟩, h => by subst h1; subst h2; exact h
  | (p, s) :: xs, ys, P, Q, e, f, ⟨P1, e1, P2, e2, h1, h2, h3, h4, h5, h6⟩, h => by
    subst h1; subst h2
    exact ⟨P1, e1, P2 ++ Q, e2 ++ f, by rw [List.append_assoc], by rw [List.append_assoc], h3, h4, h5, LV.append h6 h⟩
theorem LV.split {T : List Pg} {d : Nat} : ∀ {xs ys : Lvl} {P : List Nat} {e : KV}, LV T d (xs ++ ys) P e → ∃ P1 e1 P2 e2, P = P1 ++ P2 ∧ e = e1 ++ e2 ∧ LV T d xs P1 e1 ∧ LV T d ys P2 e2
  | [], ys, P, e, h => ⟨[], [], P, e, rfl, rfl, ⟨rfl, rfl⟩, h⟩
  | (p, s) :: xs, ys, P, e, ⟨P1, e1, P2, e2, h1, h2, h3, h4, h5, h6⟩ => by
    obtain ⟨Q1, f1, Q2, f2, g1, g2, g3, g4⟩ := LV.split h6
    exact ⟨P1 ++ Q1, e1 ++ f1, Q2, f2, by rw [h1, g1, List.append_assoc], by rw [h2, g2, List.append_assoc], ⟨P1, e1, Q1, f1, rfl, rfl, h3, h4, h5, g3⟩, g4⟩
theorem LV.keep {T T' : List Pg} {d : Nat} : ∀ {xs : Lvl} {P : List Nat} {e : KV}, LV T d xs P e → (∀ i ∈ P, T'[i]? = T[i]?) → LV T' d xs P e
  | [], P, e, h, _ => h
  | (p, s) :: xs, P, e, ⟨P1, e1, P2, e2, h1, h2, h3, h4, h5, h6⟩, hk => by
    subst h1
    exact ⟨P1, e1, P2, e2, rfl, h2, h3.keep fun i hi => hk i (List.mem_append.2 (.inl hi)), h4, h5, LV.keep h6 fun i hi => hk i (List.mem_append.2 (.inr hi))⟩
/-- leasts of a level are keys of its entries, and rise -/
theorem LV.leasts {T : List Pg} {d : Nat} : ∀ {xs : Lvl} {P : List Nat} {e : KV}, LV T d xs P e → Asc e → Pw (xs.map (·.2)) ∧ ∀ s ∈ xs.map (·.2), ∃ y ∈ e, y.1 = s
  | [], P, e, h, _ => ⟨List.Pairwise.nil, fun s hs => by simp at hs⟩
  | (p, s) :: xs, P, e, ⟨P1, e1, P2, e2, h1, h2, h3, h4, ⟨y, r, h5, h7⟩, h6⟩, ha => by
    subst h2; subst h5
    obtain ⟨a1, a2, a3⟩ := List.pairwise_append.1 ha
    obtain ⟨q1, q2⟩ := LV.leasts h6 a2
    rw [List.map_cons]
    refine ⟨List.pairwise_cons.2 ⟨fun t ht => ?_, q1⟩, fun t ht => ?_⟩
    · obtain ⟨z, hz, e⟩ := q2 t ht
      rw [← e, ← h7]
      exact a3 y (by simp) z hz
    · rcases List.mem_cons.1 ht with q | q
      · exact ⟨y, by simp, by rw [q]; exact h7⟩
      · obtain ⟨z, hz, e⟩ := q2 t q
        exact ⟨z, by simp [hz], e⟩

def kidsAt (base m : Nat) : List Int := (List.range m).map fun j => ((base + j : Nat) : Int)
theorem kidsAt_succ (base m : Nat) : kidsAt base (m + 1) = (base : Int) :: kidsAt (base + 1) m := by
  unfold kidsAt
  rw [List.range_succ_eq_map, List.map_cons, List.map_map]
  congr 1
  apply List.map_congr_left
  intro j _
  simp only [Function.comp]
  congr 1
  omega
/-- pages that stand one behind the other, as kids -/
theorem LV.kids {T : List Pg} {d next : Nat} : ∀ {xs : Lvl} {base : Nat} {P : List Nat} {e : KV}, xs ≠ [] → LV T d xs P e → (∀ j (h : j < xs.length), T[base + j]? = some (xs[j]).1) → Asc e → P.Nodup → (∀ i ∈ P, i < next) → next ≤ base →
    ∃ P', KidsR (SubB T (d + 1)) (kidsAt base xs.length) (xs.tail.map (·.2)) P' e ∧ P'.Nodup ∧ ∀ i, i ∈ P' ↔ i ∈ P ∨ (base ≤ i ∧ i < base + xs.length)
  | [], _, _, _, h, _, _, _, _, _, _ => (h rfl).elim
  | (p, s) :: xs, base, P, e, _, ⟨P1, e1, P2, e2, h1, h2, h3, h4, h5, h6⟩, hT, ha, hnd, hlt, hnb => by
    subst h1; subst h2
    obtain ⟨a1, a2, a3⟩ := List.pairwise_append.1 ha
    obtain ⟨d1, d2, d3⟩ := List.nodup_append.1 hnd
    have hp : T[base]? = some p := by have := hT 0 (by simp); simpa using this
    have hB : SubB T (d + 1) base (base :: P1) e1 := ⟨h3.sub hp, p, hp, h4⟩
    have hb1 : base ∉ P1 := fun q => by have := hlt base (List.mem_append.2 (.inl q)); omega
    cases xs with
    | nil =>
      obtain ⟨q1, q2⟩ := h6
      subst q1; subst q2
      refine ⟨base :: P1, ?_, List.nodup_cons.2 ⟨hb1, d1⟩, fun i => ?_⟩
      · show KidsR _ (kidsAt base (0 + 1)) [] _ _
        rw [kidsAt_succ]
        exact ⟨rfl, by simpa using hB⟩
      · rw [List.mem_cons, List.append_nil]
        show i = base ∨ i ∈ P1 ↔ i ∈ P1 ∨ (base ≤ i ∧ i < base + 1)
        constructor
        · rintro (q | q)
          · exact .inr (by omega)
          · exact .inl q
        · rintro (q | q)
          · exact .inr q
          · exact .inl (by omega)
    | cons x xs =>
      obtain ⟨P', k1, k2, k3⟩ := LV.kids (next := next) (base := base + 1) (by simp) h6 (fun j hj => by
        have := hT (j + 1) (by simp at hj ⊢; omega)
        rw [← Nat.add_assoc, Nat.add_right_comm] at this
        simpa using this) a2 d2 (fun i hi => hlt i (List.mem_append.2 (.inr hi))) (by omega)
      have hm : ∀ i, i ∈ P' → i ∉ base :: P1 := fun i hi q => by
        rcases (k3 i).1 hi with z | z
        · rcases List.mem_cons.1 q with y | y
          · subst y; have := hlt i (List.mem_append.2 (.inr z)); omega
          · exact d3 i y i z rfl
        · rcases List.mem_cons.1 q with y | y
          · omega
          · have := hlt i (List.mem_append.2 (.inl y)); omega
      refine ⟨(base :: P1) ++ P', ?_, ?_, fun i => ?_⟩
      · show KidsR _ (kidsAt base ((x :: xs).length + 1)) ((x :: xs).map (·.2)) _ _
        rw [kidsAt_succ, List.map_cons]
        obtain ⟨x1, x2⟩ := x
        obtain ⟨Q1, f1, Q2, f2, g1, g2, g3, g4, ⟨y, r, g5, g6⟩, g7⟩ := h6
        refine ⟨base :: P1, e1, P', e2, by simpa using hB, k1, rfl, rfl, fun z hz => ?_, fun z hz => ?_⟩
        · show blt z.1 x2 = true
          rw [← g6]
          exact a3 z hz y (by rw [g2, g5]; simp)
        · show blt z.1 x2 = false
          rw [← g6]
          rw [g2, g5, List.cons_append] at hz a2
          rcases List.mem_cons.1 hz with q | q
          · rw [q]; exact blt_irr _
          · exact blt_asy ((List.pairwise_cons.1 a2).1 z q)
      · exact List.nodup_append.2 ⟨List.nodup_cons.2 ⟨hb1, d1⟩, k2, fun i hi j hj e => hm j hj (by rw [← e]; exact hi)⟩
      · rw [List.mem_append, k3, List.mem_cons, List.mem_append]
        simp only [List.length_cons]
        constructor
        · rintro ((q | q) | (q | q))
          · exact .inr (by omega)
          · exact .inl (.inl q)
          · exact .inl (.inr q)
          · exact .inr (by omega)
        · rintro ((q | q) | q)
          · exact .inl (.inr q)
          · exact .inr (.inl q)
          · rcases Nat.eq_or_lt_of_le q.1 with z | z
            · exact .inl (.inl z.symm)
            · exact .inr (.inr (by omega))

/-! pages placed -/
theorem placeD_len (T : List Pg) (xs : Lvl) (next : Nat) : ∀ j, (placeD T xs next j).length = T.length
  | 0 => rfl
  | j + 1 => by unfold placeD; rw [List.length_set, placeD_len T xs next j]
theorem placeD_out (T : List Pg) (xs : Lvl) (next : Nat) : ∀ j i, i < next ∨ next + j ≤ i → (placeD T xs next j)[i]? = T[i]?
  | 0, i, _ => rfl
  | j + 1, i, h => by
    unfold placeD
    rw [List.getElem?_set_ne (by omega), placeD_out T xs next j i (by omega)]
theorem placeD_in (T : List Pg) (xs : Lvl) (next : Nat) : ∀ j i (h : i < j), next + j ≤ T.length → j ≤ xs.length → (placeD T xs next j)[next + i]? = (xs[i]?).map (·.1)
  | 0, i, h, _, _ => by omega
  | j + 1, i, h, hl, hx => by
    unfold placeD
    by_cases e : i = j
    · subst e
      rw [List.getElem?_set_self (by rw [placeD_len]; omega), List.getElem?_eq_getElem (by omega)]; rfl
    · rw [List.getElem?_set_ne (by omega)]
      exact placeD_in T xs next j i (by omega) (by omega) (by omega)

/-! cuts -/
theorem cuts4 : ∀ n : Fin 61, ∀ i : Fin 15, 5 ≤ n.1 → i.1 < kOf n.1 4 → 2 ≤ cutN n.1 (kOf n.1 4) (i.1 + 1) - cutN n.1 (kOf n.1 4) i.1 ∧ cutN n.1 (kOf n.1 4) (i.1 + 1) - cutN n.1 (kOf n.1 4) i.1 ≤ 4 := by decide +kernel
theorem kOf4 : ∀ n : Fin 61, kOf n.1 4 ≤ 15 ∧ (n.1 ≤ 4 → kOf n.1 4 = 1) ∧ (5 ≤ n.1 → 2 ≤ kOf n.1 4) := by decide +kernel
theorem cuts5 : ∀ n : Fin 16, ∀ i : Fin 3, 6 ≤ n.1 → i.1 < kOf n.1 5 → 3 ≤ cutN n.1 (kOf n.1 5) (i.1 + 1) - cutN n.1 (kOf n.1 5) i.1 ∧ cutN n.1 (kOf n.1 5) (i.1 + 1) - cutN n.1 (kOf n.1 5) i.1 ≤ 5 := by decide +kernel
theorem kOf5 : ∀ n : Fin 16, kOf n.1 5 ≤ 3 ∧ (n.1 ≤ 5 → kOf n.1 5 = 1) ∧ (6 ≤ n.1 → 2 ≤ kOf n.1 5) := by decide +kernel
theorem take_cut {α : Type} (l : List α) {a b : Nat} (h : a ≤ b) : l.take b = l.take a ++ (l.drop a).take (b - a) := by
  obtain ⟨c, rfl⟩ : ∃ c, b = a + c := ⟨b - a, by omega⟩
  rw [List.take_add, Nat.add_sub_cancel_left]

/-- a leaf of entries -/
theorem leaf_page {T : List Pg} {e : KV} (ha : Asc e) (hk : KVok e) (hl : e.length ≤ 4) : PageSub T 0 ⟨true, true, e.map (·.1), e.map (·.2), []⟩ [] e := by
  refine ⟨⟨by simpa using hl, ⟨rfl, pw_rising (asc_pw ha), fun k hk' => ?_, fun _ => ⟨by simp, rfl, fun v hv => ?_⟩, fun h => by cases h⟩⟩, .inl ⟨rfl, rfl, rfl, (zip_map e).symm⟩⟩
  · obtain ⟨x, hx, rfl⟩ := List.mem_map.1 hk'
    exact (hk x hx).1
  · obtain ⟨x, hx, rfl⟩ := List.mem_map.1 hv
    exact (hk x hx).2
/-- an inner page over a level's part -/
theorem inner_page {T : List Pg} {d next base : Nat} {xs : Lvl} {P : List Nat} {e : KV} (h2 : 2 ≤ xs.length) (h5 : xs.length ≤ 5) (hx : LV T d xs P e) (hT : ∀ j (h : j < xs.length), T[base + j]? = some (xs[j]).1) (ha : Asc e) (hk : KVok e) (hnd : P.Nodup) (hlt : ∀ i ∈ P, i < next) (hnb : next ≤ base) (hn1 : 1 ≤ next) (h48 : base + xs.length ≤ 48) :
    ∃ P', PageSub T (d + 1) ⟨true, false, xs.tail.map (·.2), [], kidsAt base xs.length⟩ P' e ∧ P'.Nodup ∧ ∀ i, i ∈ P' ↔ i ∈ P ∨ (base ≤ i ∧ i < base + xs.length) := by
  obtain ⟨P', k1, k2, k3⟩ := LV.kids (next := next) (fun q => by rw [q] at h2; simp at h2) hx hT ha hnd hlt hnb
  obtain ⟨l1, l2⟩ := hx.leasts ha
  have ht : (xs.tail.map (·.2)).length = xs.length - 1 := by simp
  have hsub : ∀ s ∈ xs.tail.map (·.2), s ∈ xs.map (·.2) := fun s hs => by
    obtain ⟨x, hx, e⟩ := List.mem_map.1 hs
    exact List.mem_map.2 ⟨x, List.mem_of_mem_tail hx, e⟩
  refine ⟨P', ⟨⟨by show (xs.tail.map (·.2)).length ≤ 4; omega, ⟨rfl, pw_rising ?_, fun k hk' => ?_, fun h => (by cases h), fun _ => ⟨by show 1 ≤ (xs.tail.map (·.2)).length; omega, rfl, ?_, fun k hk' => ?_, ?_⟩⟩⟩, .inr ⟨rfl, k1⟩⟩, k2, k3⟩
  · show Pw (xs.tail.map (·.2))
    rw [List.map_tail]
    exact l1.sublist (List.tail_sublist _)
  · obtain ⟨y, hy, e⟩ := l2 k (hsub k hk')
    rw [← e]; exact (hk y hy).1
  · show (kidsAt base xs.length).length = (xs.tail.map (·.2)).length + 1
    unfold kidsAt; simp; omega
  · obtain ⟨j, hj, e⟩ := List.mem_map.1 (show k ∈ kidsAt base xs.length from hk')
    have := List.mem_range.1 hj
    omega
  · show (kidsAt base xs.length).Nodup
    unfold kidsAt
    exact List.pairwise_map.2 (List.nodup_range.imp fun {a b} h q => h (by omega))

/-- leaves -/
theorem leaves_lv (T : List Pg) {ps : KV} (ha : Asc ps) (hk : KVok ps) (h5 : 5 ≤ ps.length) (h60 : ps.length ≤ 60) : LV T 0 (leavesD ps) [] ps := by
  have hK := kOf4 ⟨ps.length, by omega⟩
  dsimp only at hK
  have key : ∀ i, i ≤ kOf ps.length 4 → LV T 0 ((List.range i).map (leafAt ps (kOf ps.length 4))) [] (ps.take (cutN ps.length (kOf ps.length 4) i)) := by
    intro i
    induction i with
    | zero => intro _; rw [cutN_zero]; exact ⟨rfl, rfl⟩
    | succ i ih =>
      intro hi
      have hc := cuts4 ⟨ps.length, by omega⟩ ⟨i, by omega⟩ h5 (by show i < kOf ps.length 4; omega)
      dsimp only at hc
      have hm := cutN_mono ps.length (kOf ps.length 4) i
      have hle := cutN_le (n := ps.length) (k := kOf ps.length 4) (i := i + 1) hi (kOf_pos _ _)
      rw [List.range_succ, List.map_append, List.map_cons, List.map_nil, take_cut ps hm]
      have hlen : ((ps.drop (cutN ps.length (kOf ps.length 4) i)).take (cutN ps.length (kOf ps.length 4) (i + 1) - cutN ps.length (kOf ps.length 4) i)).length = cutN ps.length (kOf ps.length 4) (i + 1) - cutN ps.length (kOf ps.length 4) i := by
        rw [List.length_take, List.length_drop]; omega
      have hsl : ((ps.drop (cutN ps.length (kOf ps.length 4) i)).take (cutN ps.length (kOf ps.length 4) (i + 1) - cutN ps.length (kOf ps.length 4) i)).Sublist ps := (List.take_sublist _ _).trans (List.drop_sublist _ _)
      refine LV.append (ih (by omega)) ?_
      have hL := leaf_page (T := T) (ha.sublist hsl) (fun x hx => hk x (hsl.subset hx)) (by omega)
      refine ⟨[], _, [], [], rfl, by simp, hL, by simp [hlen]; omega, ?_, ⟨rfl, rfl⟩⟩
      have hlt : cutN ps.length (kOf ps.length 4) i < ps.length := by omega
      rw [decide_eq_true (by omega)]
      refine ⟨ps[cutN ps.length (kOf ps.length 4) i], (ps.drop (cutN ps.length (kOf ps.length 4) i + 1)).take (cutN ps.length (kOf ps.length 4) (i + 1) - cutN ps.length (kOf ps.length 4) i - 1), ?_, ?_⟩
      · rw [List.drop_eq_getElem_cons hlt]
        obtain ⟨c, hc'⟩ : ∃ c, cutN ps.length (kOf ps.length 4) (i + 1) - cutN ps.length (kOf ps.length 4) i = c + 1 := ⟨_, (Nat.succ_pred_eq_of_pos (by omega)).symm⟩
        rw [hc', List.take_succ_cons, Nat.add_sub_cancel]
      · rw [List.getElem?_eq_getElem hlt]; rfl
  have := key _ (Nat.le_refl _)
  rw [cutN_all (kOf_pos _ _), List.take_length] at this
  exact this

/-- a level's pages placed, and the level above it -/
theorem up_step {T : List Pg} {d next : Nat} {xs : Lvl} {P : List Nat} {ps : KV} (hx : LV T d xs P ps) (ha : Asc ps) (hk : KVok ps) (hnd : P.Nodup) (hP : ∀ i, i ∈ P ↔ 1 ≤ i ∧ i < next) (hn1 : 1 ≤ next) (h2 : 2 ≤ xs.length) (h15 : xs.length ≤ 15) (h48 : next + xs.length ≤ 48) (hT : T.length = 48) :
    ∃ P', P'.Nodup ∧ (∀ i, i ∈ P' ↔ 1 ≤ i ∧ i < next + xs.length) ∧
      ((xs.length ≤ 5 ∧ ∃ q, upD xs next = [q] ∧ PageSub (placeD T xs next xs.length) (d + 1) q.1 P' ps) ∨ (6 ≤ xs.length ∧ LV (placeD T xs next xs.length) (d + 1) (upD xs next) P' ps)) := by
  have hK := kOf5 ⟨xs.length, by omega⟩
  dsimp only at hK
  have hx' : LV (placeD T xs next xs.length) d xs P ps := hx.keep fun i hi => placeD_out _ _ _ _ _ (.inl ((hP i).1 hi).2)
  have hpl : ∀ j (h : j < xs.length), (placeD T xs next xs.length)[next + j]? = some (xs[j]).1 := fun j h => by
    rw [placeD_in T xs next xs.length j h (by omega) (Nat.le_refl _), List.getElem?_eq_getElem h]; rfl
  generalize placeD T xs next xs.length = T' at *
  by_cases h6 : xs.length ≤ 5
  · have hk1 := hK.2.1 h6
    obtain ⟨P', k1, k2, k3⟩ := inner_page (base := next) h2 h6 hx' hpl ha hk hnd (fun i hi => ((hP i).1 hi).2) (Nat.le_refl _) hn1 h48
    refine ⟨P', k2, fun i => by rw [k3, hP]; omega, .inl ⟨h6, (upAt xs next 1 0), by unfold upD; rw [hk1]; rfl, ?_⟩⟩
    have e0 : cutN xs.length 1 0 = 0 := cutN_zero _ _
    have e1 : cutN xs.length 1 (0 + 1) = xs.length := cutN_all (by omega)
    unfold upAt
    dsimp only
    rw [e0, e1]
    have q1 : (xs.drop (0 + 1)).take (xs.length - (0 + 1)) = xs.tail := by rw [Nat.zero_add, List.drop_one, List.take_of_length_le (by simp)]
    have q2 : ((List.range (xs.length - 0)).map fun j => ((next + (0 + j) : Nat) : Int)) = kidsAt next xs.length := by
      unfold kidsAt
      rw [Nat.sub_zero]
      apply List.map_congr_left
      intro j _
      congr 2
      omega
    rw [q1, q2]
    exact k1
  · have h6 : 6 ≤ xs.length := by omega
    have key : ∀ i, i ≤ kOf xs.length 5 → ∀ Q f, LV T' d (xs.take (cutN xs.length (kOf xs.length 5) i)) Q f → Asc f → KVok f → Q.Nodup → (∀ j ∈ Q, j < next) → ∃ P', P'.Nodup ∧ (∀ j, j ∈ P' ↔ j ∈ Q ∨ (next ≤ j ∧ j < next + cutN xs.length (kOf xs.length 5) i)) ∧ LV T' (d + 1) ((List.range i).map (upAt xs next (kOf xs.length 5))) P' f := by
      intro i
      induction i with
      | zero =>
        intro _ Q f hQ _ _ _ _
        rw [cutN_zero, List.take_zero] at hQ
        obtain ⟨q1, q2⟩ := hQ
        subst q1; subst q2
        exact ⟨[], List.nodup_nil, fun j => by rw [cutN_zero]; simp, rfl, rfl⟩
      | succ i ih =>
        intro hi Q f hQ haf hkf hnQ hlQ
        have hc := cuts5 ⟨xs.length, by omega⟩ ⟨i, by omega⟩ h6 (by show i < kOf xs.length 5; omega)
        dsimp only at hc
        have hm := cutN_mono xs.length (kOf xs.length 5) i
        have hle := cutN_le (n := xs.length) (k := kOf xs.length 5) (i := i + 1) hi (kOf_pos _ _)
        rw [take_cut xs hm] at hQ
        obtain ⟨Q1, f1, Q2, f2, g1, g2, g3, g4⟩ := hQ.split
        subst g1; subst g2
        obtain ⟨a1, a2, a3⟩ := List.pairwise_append.1 haf
        obtain ⟨d1, d2, d3⟩ := List.nodup_append.1 hnQ
        obtain ⟨P1, p1, p2, p3⟩ := ih (by omega) Q1 f1 g3 a1 (fun x hx => hkf x (by simp [hx])) d1 (fun j hj => hlQ j (by simp [hj]))
        generalize hci : cutN xs.length (kOf xs.length 5) i = ci at *
        generalize hcj : cutN xs.length (kOf xs.length 5) (i + 1) = cj at *
        have hlen : ((xs.drop ci).take (cj - ci)).length = cj - ci := by rw [List.length_take, List.length_drop]; omega
        obtain ⟨P2, k1, k2, k3⟩ := inner_page (base := next + ci) (next := next) (by rw [hlen]; omega) (by rw [hlen]; omega) g4 (fun j hj => by
          rw [Nat.add_assoc, hpl (ci + j) (by omega)]
          simp) a2 (fun x hx => hkf x (by simp [hx])) d2 (fun j hj => hlQ j (by simp [hj])) (by omega) hn1 (by rw [hlen]; omega)
        rw [hlen] at k1 k3
        refine ⟨P1 ++ P2, List.nodup_append.2 ⟨p1, k2, fun j hj j' hj' e => ?_⟩, fun j => ?_, ?_⟩
        · subst e
          have z1 := (p2 j).1 hj
          have z2 := (k3 j).1 hj'
          rcases z1 with z1 | z1
          · rcases z2 with z2 | z2
            · exact d3 j z1 j z2 rfl
            · have := hlQ j (by simp [z1]); omega
          · rcases z2 with z2 | z2
            · have := hlQ j (by simp [z2]); omega
            · omega
        · rw [List.mem_append, p2, k3, List.mem_append]
          constructor
          · rintro ((q | q) | (q | q))
            · exact .inl (.inl q)
            · exact .inr (by omega)
            · exact .inl (.inr q)
            · exact .inr (by omega)
          · rintro ((q | q) | q)
            · exact .inl (.inl q)
            · exact .inr (.inl q)
            · rcases Nat.lt_or_ge j (next + ci) with z | z
              · exact .inl (.inr (by omega))
              · exact .inr (.inr (by omega))
        · rw [List.range_succ, List.map_append, List.map_cons, List.map_nil]
          refine LV.append p3 ?_
          have q0 : upAt xs next (kOf xs.length 5) i = (⟨true, false, ((xs.drop ci).take (cj - ci)).tail.map (·.2), [], kidsAt (next + ci) (cj - ci)⟩, (xs[ci]?.map (·.2)).getD (mkS [])) := by
            unfold upAt
            rw [hci, hcj]
            congr 2
            · rw [← List.drop_one, ← List.drop_take, ← List.drop_take, List.drop_drop]
            · unfold kidsAt
              apply List.map_congr_left
              intro j _
              congr 1
              omega
          have hlt : ci < xs.length := by omega
          rw [q0, List.getElem?_eq_getElem hlt]
          refine ⟨P2, f2, [], [], by simp, by simp, k1, by simp; omega, ?_, rfl, rfl⟩
          rw [List.drop_eq_getElem_cons hlt] at g4
          obtain ⟨c, hc'⟩ : ∃ c, cj - ci = c + 1 := ⟨_, (Nat.succ_pred_eq_of_pos (by omega)).symm⟩
          rw [hc', List.take_succ_cons] at g4
          obtain ⟨_, e1, _, e2, _, w2, _, _, ⟨y, r, w5, w6⟩, _⟩ := g4
          refine ⟨y, r ++ e2, by rw [w2, w5]; rfl, w6⟩
    have hall : cutN xs.length (kOf xs.length 5) (kOf xs.length 5) = xs.length := cutN_all (kOf_pos _ _)
    obtain ⟨P', z1, z2, z3⟩ := key _ (Nat.le_refl _) P ps (by rw [hall, List.take_length]; exact hx') ha hk hnd (fun i hi => ((hP i).1 hi).2)
    rw [hall] at z2
    exact ⟨P', z1, fun i => by rw [z2, hP]; omega, .inr ⟨h6, z3⟩⟩

theorem newT_at (i : Nat) (h : 1 ≤ i) (h48 : i < 48) : newT[i]? = some noPg := by
  obtain ⟨j, rfl⟩ : ∃ j, i = j + 1 := ⟨i - 1, by omega⟩
  show (List.replicate 47 noPg)[j]? = some noPg
  rw [List.getElem?_replicate, if_pos (by omega)]
/-- the root placed -/
theorem root_whole {T : List Pg} {d next : Nat} {p : Pg} {P : List Nat} {ps : KV} (h : PageSub T d p P ps) (hnd : P.Nodup) (hP : ∀ i, i ∈ P ↔ 1 ≤ i ∧ i < next) (hT : T.length = 48) (hrest : ∀ i, next ≤ i → 1 ≤ i → i < 48 → T[i]? = some noPg) (h60 : ps.length ≤ 60) : Whole (T.set 0 p) (d + 1) (0 :: P) ps := by
  have h0 : 0 ∉ P := fun q => by have := (hP 0).1 q; omega
  refine ⟨by simp [hT], (h.keep fun i hi => List.getElem?_set_ne (fun e => h0 (by rw [e]; exact hi))).sub (List.getElem?_set_self (by omega)), List.nodup_cons.2 ⟨h0, hnd⟩, fun i q hq hi => ?_, h60⟩
  have hi48 : i < 48 := by have := (List.getElem?_eq_some_iff.1 hq).1; simp [hT] at this; exact this
  have hi0 : i ≠ 0 := fun e => hi (by simp [e])
  have hiP : i ∉ P := fun z => hi (by simp [z])
  rw [List.getElem?_set_ne (Ne.symm hi0), hrest i (by have := mt (hP i).2 hiP; omega) (by omega) hi48] at hq
  cases hq
  rfl
/-- a tree built is sound, and holds what it was built of -/
theorem buildD_whole {ps : KV} (ha : Asc ps) (hk : KVok ps) (h60 : ps.length ≤ 60) : ∃ d P, Whole (buildD ps) d P ps := by
  have hK := kOf4 ⟨ps.length, by omega⟩
  dsimp only at hK
  have hll : (leavesD ps).length = kOf ps.length 4 := by simp [leavesD]
  unfold buildD
  by_cases h5 : 5 ≤ ps.length
  · have hL := leaves_lv newT ha hk h5 h60
    have h2 := hK.2.2 h5
    rw [show (64 : Nat) = 63 + 1 from rfl, buildGo, decide_eq_true (by omega)]
    dsimp only
    obtain ⟨P1, n1, m1, c1⟩ := up_step (next := 1) hL ha hk List.nodup_nil (fun i => ⟨fun q => by simp at q, fun q => by omega⟩) (Nat.le_refl _) (by omega) (by omega) (by omega) rfl
    have hT1 : (placeD newT (leavesD ps) 1 (leavesD ps).length).length = 48 := placeD_len _ _ _ _
    have hr1 : ∀ i, 1 + (leavesD ps).length ≤ i → 1 ≤ i → i < 48 → (placeD newT (leavesD ps) 1 (leavesD ps).length)[i]? = some noPg := fun i q1 q2 q3 => by
      rw [placeD_out _ _ _ _ _ (.inr q1)]; exact newT_at i q2 q3
    generalize hnx : 1 + (leavesD ps).length = nx at *
    generalize hTT : placeD newT (leavesD ps) 1 (leavesD ps).length = T1 at *
    rcases c1 with ⟨_, q, e, hq⟩ | ⟨h6, hU⟩
    · rw [e, show (63 : Nat) = 62 + 1 from rfl, buildGo, decide_eq_false (by simp)]
      exact ⟨_, _, root_whole hq n1 m1 hT1 hr1 h60⟩
    · have hK5 := kOf5 ⟨(leavesD ps).length, by omega⟩
      dsimp only at hK5
      have hul : (upD (leavesD ps) 1).length = kOf (leavesD ps).length 5 := by simp [upD]
      have h22 := hK5.2.2 h6
      generalize upD (leavesD ps) 1 = ys at *
      rw [show (63 : Nat) = 62 + 1 from rfl, buildGo, decide_eq_true (by omega)]
      dsimp only
      obtain ⟨P2, n2, m2, c2⟩ := up_step (next := nx) hU ha hk n1 m1 (by omega) (by omega) (by omega) (by omega) hT1
      rcases c2 with ⟨_, q, e, hq⟩ | ⟨h6', _⟩
      · rw [e, show (62 : Nat) = 61 + 1 from rfl, buildGo, decide_eq_false (by simp)]
        exact ⟨_, _, root_whole hq n2 m2 (by rw [placeD_len]; exact hT1) (fun i q1 q2 q3 => by rw [placeD_out _ _ _ _ _ (.inr q1)]; exact hr1 i (by omega) q2 q3) h60⟩
      · omega
  · have h1 := hK.2.1 (by omega)
    have hL : leavesD ps = [leafAt ps 1 0] := by unfold leavesD; rw [h1]; rfl
    rw [show (64 : Nat) = 63 + 1 from rfl, buildGo, hL, decide_eq_false (by simp)]
    have hp : (leafAt ps 1 0).1 = ⟨true, true, ps.map (·.1), ps.map (·.2), []⟩ := by
      unfold leafAt
      rw [cutN_zero, cutN_all (show 0 < 0 + 1 by omega), Nat.sub_zero, List.drop_zero, List.take_length]
    refine ⟨1, [0], root_whole (next := 1) (P := []) ?_ List.nodup_nil (fun i => ⟨fun q => by simp at q, fun q => by omega⟩) rfl (fun i q1 q2 q3 => newT_at i q2 q3) h60⟩
    show PageSub newT 0 (leafAt ps 1 0).1 [] ps
    rw [hp]
    exact leaf_page ha hk (by omega)
theorem build_sound {ps : KV} (ha : Asc ps) (hk : KVok ps) (h60 : ps.length ≤ 60) : 0 < heightD (buildD ps) ∧ entD (buildD ps) = ps := by
  obtain ⟨d, P, w⟩ := buildD_whole ha hk h60
  exact ⟨w.pos', w.sound.2⟩
end Go.Am
namespace Go.Am
/-! 82: cryostat/node.Slot -/
def node_Slot.cx : Cx := ⟨tys, [], [(3, [0, 1, 6, 9, 10, 11])], [], [], noDyn, [.tmp 4, .tmp 5]⟩
def node_Slot : Sm := fun xs H Q => ∃ k, callK (node_Slot.cx) Go.Proofs.Tryz.f82 k xs H Q
def node_Slot.l3 (k : Nat) (xx0 : Pl) (nx1 : Nat) (sx2 : ByteArray) (ix3 : Int) (xx4 : Pl) (nx5 : Nat) (ix6 : Int) (ix7 : Int) (H : Hp) (Q : Post) : Prop := loopK (node_Slot.cx) Go.Proofs.Tryz.f82 3 k ((.g (.sl xx0 nx1 1)) :: (.g (.str sx2)) :: B 4 ((.g (.int .i64 ix3)) :: .bad :: .bad :: (.g (.sl xx4 nx5 1)) :: (.g (.int .i64 ix6)) :: (.g (.int .i64 ix7)) :: B 22 ([]))) H Q
theorem node_Slot_eq (k : Nat) (z0 : Pl) (z0n : Nat) (z1 : ByteArray) (H : Hp) (Q : Post) : callK (node_Slot.cx) Go.Proofs.Tryz.f82 (k + 1) [.g (.sl z0 z0n 1), .g (.str z1)] H Q = (
 node_Slot.l3 k z0 z0n z1 0 z0 z0n (nI z0n) 0 H Q) := by kernel_rfl
theorem node_Slot.l3_eq (k : Nat) (xx0 : Pl) (nx1 : Nat) (sx2 : ByteArray) (ix3 : Int) (xx4 : Pl) (nx5 : Nat) (ix6 : Int) (ix7 : Int) (H : Hp) (Q : Post) : node_Slot.l3 (k + 1) xx0 nx1 sx2 ix3 xx4 nx5 ix6 ix7 H Q = (
 bite (ltI ix7 ix6)
 (chk true (chk ((leI 0 ix7) && (ltI ix7 (nI nx5))) (pS xx4 fun n0 n1 =>
  rd H n0 (n1 + ((tN ix7) * 1)) fun v2 =>
  dS v2 fun s3 =>
  bite (strLt s3 sx2)
  (node_Slot.l3 k xx0 nx1 sx2 (wrapI .i64 (ix3 + 1)) xx4 nx5 ix6 (wrapI .i64 (ix7 + 1)) H Q)
  (node_Slot.l3 k xx0 nx1 sx2 ix3 xx4 nx5 ix6 (wrapI .i64 (ix7 + 1)) H Q))))
 (bite (ltI ix3 (nI nx1))
  (chk true (chk ((leI 0 ix3) && (ltI ix3 (nI nx1))) (pS xx0 fun n4 n5 =>
   rd H n4 (n5 + ((tN ix3) * 1)) fun v6 =>
   dS v6 fun s7 =>
   Q (.tup [(.s (.int .i64 ix3)), (.s (.bool (strEq s7 sx2)))]) H)))
  (Q (.tup [(.s (.int .i64 ix3)), (.s (.bool false))]) H))) := by kernel_rfl
theorem node_Slot_ok : Sound Go.Proofs.Tryz.prog 82 (node_Slot) := prog_ok.sound (cx := node_Slot.cx) rfl (EnvOK.nil _) (noDyn_ok _) Go.Proofs.Tryz.func82 rfl

/-! 81: cryostat/find.Kid -/
def find_Kid.cx : Cx := ⟨tys, [], [], [], [(82, node_Slot)], noDyn, [.tmp 4]⟩
def find_Kid : Sm := fun xs H Q => ∃ k, callK (find_Kid.cx) Go.Proofs.Tryz.f81 k xs H Q
theorem find_Kid_eq (k : Nat) (z0 : Pl) (z1 : ByteArray) (H : Hp) (Q : Post) : callK (find_Kid.cx) Go.Proofs.Tryz.f81 (k + 1) [.g (.ptr z0), .g (.str z1)] H Q = (
 pS z0 fun n0 n1 =>
 rd H n0 (n1 + 2) fun v2 =>
 dL 1 v2 fun x3 n4 =>
 cl node_Slot [(.g (.sl x3 n4 1)), (.g (.str z1))] H fun r5 H6 =>
 rT r5 fun c7 =>
 uR c7 fun q8 c9 =>
 rS q8 fun v10 =>
 dI .i64 v10 fun i11 =>
 uR c9 fun q12 c13 =>
 rS q12 fun v14 =>
 dB v14 fun b15 =>
 uE c13 (bite b15
 (Q (.g (.int .i64 (wrapI .i64 (i11 + 1)))) H6)
 (Q (.g (.int .i64 i11)) H6))) := by kernel_rfl
theorem find_Kid_ok : Sound Go.Proofs.Tryz.prog 81 (find_Kid) := prog_ok.sound (cx := find_Kid.cx) rfl (EnvOK.cons ((node_Slot_ok).c ⟨_, Go.Proofs.Tryz.func82, by kernel_rfl, by kernel_rfl⟩) (EnvOK.nil _)) (noDyn_ok _) Go.Proofs.Tryz.func81 rfl

/-! 50: cryostat/find.Find -/
def find_Find.cx : Cx := ⟨tys, [], [(4, [1, 2, 7])], [], [(36, sound_Sound), (81, find_Kid), (82, node_Slot)], noDyn, [.tmp 4, .tmp 5, .tmp 6]⟩
def find_Find : Sm := fun xs H Q => ∃ k, callK (find_Find.cx) Go.Proofs.Tryz.f50 k xs H Q
def find_Find.l4 (k : Nat) (sx0 : ByteArray) (xx1 : Pl) (nx2 : Nat) (nx3 : Nat) (nx4 : Nat) (H : Hp) (Q : Post) : Prop := loopK (find_Find.cx) Go.Proofs.Tryz.f50 4 k (.bad :: (.g (.str sx0)) :: (.bx [(.sl xx1 nx2 5)]) :: B 4 ((.g (.ptr (some (nx3, nx4)))) :: B 43 ([]))) H Q
theorem find_Find_eq (k : Nat) (z0 : Pl) (z0n : Nat) (z1 : ByteArray) (H : Hp) (Q : Post) : callK (find_Find.cx) Go.Proofs.Tryz.f50 (k + 1) [.agg [.sl z0 z0n 5], .g (.str z1)] H Q = (
 cl sound_Sound [(.agg [(.sl z0 z0n 5)])] H fun r0 H1 =>
 rG r0 fun v2 =>
 dB v2 fun b3 =>
 bite (!b3)
 (Q (.tup [(.s (.str (mkS []))), (.s (.bool false)), (.s (.int .i64 1100))]) H1)
 (chk true (chk ((leI 0 0) && (ltI 0 (nI z0n))) (pS z0 fun n4 n5 =>
  find_Find.l4 k z1 z0 z0n n4 (n5 + ((tN 0) * 5)) H1 Q)))) := by kernel_rfl
theorem find_Find.l4_eq (k : Nat) (sx0 : ByteArray) (xx1 : Pl) (nx2 : Nat) (nx3 : Nat) (nx4 : Nat) (H : Hp) (Q : Post) : find_Find.l4 (k + 1) sx0 xx1 nx2 nx3 nx4 H Q = (
 rd H nx3 (nx4 + 1) fun v0 =>
 dB v0 fun b1 =>
 bite (!b1)
 (rd H nx3 (nx4 + 4) fun v2 =>
  dL 1 v2 fun x3 n4 =>
  cl find_Kid [(.g (.ptr (some (nx3, nx4)))), (.g (.str sx0))] H fun r5 H6 =>
  rG r5 fun v7 =>
  dI .i64 v7 fun i8 =>
  rd H6 nx3 (nx4 + 4) fun v9 =>
  dL 1 v9 fun x10 n11 =>
  eqv (.g (.sl x3 n4 1)) (.g (.sl x10 n11 1)) (chk true (chk ((leI 0 i8) && (ltI i8 (nI n4))) (pS x3 fun n12 n13 =>
  rd H6 n12 (n13 + ((tN i8) * 1)) fun v14 =>
  dI .i64 v14 fun i15 =>
  chk true (chk ((leI 0 i15) && (ltI i15 (nI nx2))) (pS xx1 fun n16 n17 =>
  find_Find.l4 k sx0 xx1 nx2 n16 (n17 + ((tN i15) * 5)) H6 Q))))))
 (rd H nx3 (nx4 + 2) fun v18 =>
  dL 1 v18 fun x19 n20 =>
  cl node_Slot [(.g (.sl x19 n20 1)), (.g (.str sx0))] H fun r21 H22 =>
  rT r21 fun c23 =>
  uR c23 fun q24 c25 =>
  rS q24 fun v26 =>
  dI .i64 v26 fun i27 =>
  uR c25 fun q28 c29 =>
  rS q28 fun v30 =>
  dB v30 fun b31 =>
  uE c29 (bite (!b31)
  (Q (.tup [(.s (.str (mkS []))), (.s (.bool false)), (.s (.int .i64 0))]) H22)
  (rd H22 nx3 (nx4 + 3) fun v32 =>
   dL 1 v32 fun x33 n34 =>
   chk true (chk ((leI 0 i27) && (ltI i27 (nI n34))) (pS x33 fun n35 n36 =>
   rd H22 n35 (n36 + ((tN i27) * 1)) fun v37 =>
   dS v37 fun s38 =>
   Q (.tup [(.s (.str s38)), (.s (.bool true)), (.s (.int .i64 0))]) H22)))))) := by kernel_rfl
theorem find_Find_ok : Sound Go.Proofs.Tryz.prog 50 (find_Find) := prog_ok.sound (cx := find_Find.cx) rfl (EnvOK.cons ((sound_Sound_ok).c ⟨_, Go.Proofs.Tryz.func36, by kernel_rfl, by kernel_rfl⟩) (EnvOK.cons ((find_Kid_ok).c ⟨_, Go.Proofs.Tryz.func81, by kernel_rfl, by kernel_rfl⟩) (EnvOK.cons ((node_Slot_ok).c ⟨_, Go.Proofs.Tryz.func82, by kernel_rfl, by kernel_rfl⟩) (EnvOK.nil _)))) (noDyn_ok _) Go.Proofs.Tryz.func50 rfl

/-! 27: cryostat/cryostatlaw0.SamePairs -/
def law0_SamePairs.cx : Cx := ⟨tys, [], [(4, [0, 1, 5])], [], [], noDyn, [.tmp 4]⟩
def law0_SamePairs : Sm := fun xs H Q => ∃ k, callK (law0_SamePairs.cx) Go.Proofs.Tryz.f27 k xs H Q
def law0_SamePairs.l4 (k : Nat) (xx0 : Pl) (nx1 : Nat) (xx2 : Pl) (nx3 : Nat) (ix4 : Int) (H : Hp) (Q : Post) : Prop := loopK (law0_SamePairs.cx) Go.Proofs.Tryz.f27 4 k ((.g (.sl xx0 nx1 2)) :: (.g (.sl xx2 nx3 2)) :: B 3 ((.g (.int .i64 ix4)) :: B 20 ([]))) H Q
theorem law0_SamePairs_eq (k : Nat) (z0 : Pl) (z0n : Nat) (z1 : Pl) (z1n : Nat) (H : Hp) (Q : Post) : callK (law0_SamePairs.cx) Go.Proofs.Tryz.f27 (k + 1) [.g (.sl z0 z0n 2), .g (.sl z1 z1n 2)] H Q = (
 bite (!(eqI (nI z0n) (nI z1n)))
 (Q (.g (.bool false)) H)
 (law0_SamePairs.l4 k z0 z0n z1 z1n 0 H Q)) := by kernel_rfl
theorem law0_SamePairs.l4_eq (k : Nat) (xx0 : Pl) (nx1 : Nat) (xx2 : Pl) (nx3 : Nat) (ix4 : Int) (H : Hp) (Q : Post) : law0_SamePairs.l4 (k + 1) xx0 nx1 xx2 nx3 ix4 H Q = (
 bite (ltI ix4 (nI nx1))
 (chk true (chk ((leI 0 ix4) && (ltI ix4 (nI nx1))) (pS xx0 fun n0 n1 =>
  rd H n0 (n1 + ((tN ix4) * 2)) fun v2 =>
  dS v2 fun s3 =>
  rd H n0 ((n1 + ((tN ix4) * 2)) + 1) fun v4 =>
  dS v4 fun s5 =>
  chk true (chk ((leI 0 ix4) && (ltI ix4 (nI nx3))) (pS xx2 fun n6 n7 =>
  rd H n6 (n7 + ((tN ix4) * 2)) fun v8 =>
  dS v8 fun s9 =>
  rd H n6 ((n7 + ((tN ix4) * 2)) + 1) fun v10 =>
  dS v10 fun s11 =>
  bite (!((strEq s3 s9) && ((strEq s5 s11) && true)))
  (Q (.g (.bool false)) H)
  (law0_SamePairs.l4 k xx0 nx1 xx2 nx3 (wrapI .i64 (ix4 + 1)) H Q))))))
 (Q (.g (.bool true)) H)) := by kernel_rfl
theorem law0_SamePairs_ok : Sound Go.Proofs.Tryz.prog 27 (law0_SamePairs) := prog_ok.sound (cx := law0_SamePairs.cx) rfl (EnvOK.nil _) (noDyn_ok _) Go.Proofs.Tryz.func27 rfl

/-! 29: cryostat/cryostatlaw12.letters -/
def law12_letters.cx : Cx := ⟨tys, [12], [], [], [], noDyn, [.tmp 2]⟩
def law12_letters : Sm := fun xs H Q => ∃ k, callK (law12_letters.cx) Go.Proofs.Tryz.f29 k xs H Q
theorem law12_letters_eq (k : Nat) (z0 : Int) (H : Hp) (Q : Post) : callK (law12_letters.cx) Go.Proofs.Tryz.f29 (k + 1) [.g (.int .i64 z0)] H Q = (
 rdN (pu H (.row true 5 [(.int .u8 (wrapI .u8 (wrapI .i64 (97 + (bitsI .and .i64 (shrI .i64 z0 4) 15))))), (.int .u8 (wrapI .u8 (wrapI .i64 (97 + (bitsI .and .i64 z0 15)))))])) (some ((ln H), 0)) 2 fun c0 =>
 txt c0 fun s1 =>
 Q (.g (.str s1)) (pu H (.row true 5 [(.int .u8 (wrapI .u8 (wrapI .i64 (97 + (bitsI .and .i64 (shrI .i64 z0 4) 15))))), (.int .u8 (wrapI .u8 (wrapI .i64 (97 + (bitsI .and .i64 z0 15)))))]))) := by kernel_rfl
theorem law12_letters_ok : Sound Go.Proofs.Tryz.prog 29 (law12_letters) := prog_ok.sound (cx := law12_letters.cx) rfl (EnvOK.nil _) (noDyn_ok _) Go.Proofs.Tryz.func29 rfl


end Go.Am
namespace Go.Am

/-! a tree whose walk goes well, without the walk's state -/
def WfT (T : List Pg) : Nat → Nat → Prop
  | 0, _ => False
  | f + 1, a => ∃ p, T[a]? = some p ∧ MayP p ∧ ∀ k ∈ p.kids, WfT T f k.toNat
theorem walkD_good (T : List Pg) : ∀ (f a deep : Nat) (lo hi : ByteArray) (st st' : WS), walkD T f a deep lo hi st = some st' → WfT T f a := by
  intro f
  induction f with
  | zero => intro _ _ _ _ _ _ h; cases h
  | succ f ih =>
    intro a deep lo hi st st' h
    obtain ⟨p, hp, hok, hcase⟩ := walkD_step h
    obtain ⟨_, hmay, _, _⟩ := okD_met hok
    have hm := (mayB_iff p).1 hmay
    refine ⟨p, hp, hm, fun k hk => ?_⟩
    rcases hcase with ⟨hl, _⟩ | ⟨_, hks⟩
    · rw [(hm.2.leaf hl).2.1] at hk; simp at hk
    · have key := kidsD_ind' (P := fun ks _ _ => ∀ k ∈ ks, WfT T f k.toNat) (fun _ k hk => (by simp at hk)) (fun k ks i s s1 s' hr hP k' hk' => by
        rcases List.mem_cons.1 hk' with e | e
        · rw [e]; exact ih _ _ _ _ _ _ hr
        · exact hP k' e) _ _ _ _ hks
      exact key k hk
theorem SF.good {T : List Pg} {st : WS} (s : SF T st) : WfT T 49 0 := walkD_good T _ _ _ _ _ _ _ s.walk
theorem WfT_vals {p : Pg} (h : MayP p) : p.vals.length ≤ p.keys.length ∧ (p.keys.zip p.vals).length = p.vals.length := by
  have : p.vals.length ≤ p.keys.length := by
    cases hl : p.leaf with
    | true => have := (h.2.leaf hl).1; omega
    | false => have := (h.2.inner hl).2.1; rw [this]; simp
  exact ⟨this, by rw [List.length_zip]; omega⟩
theorem flat_len {T : List Pg} {f : Nat} (ks : List Int) (i : Nat) (hi : i < ks.length) : (ks.drop i).flatMap (fun k => allD T f k.toNat) = allD T f (ks[i]).toNat ++ (ks.drop (i + 1)).flatMap (fun k => allD T f k.toNat) := by
  rw [List.drop_eq_getElem_cons hi, List.flatMap_cons]
theorem allD_eq {T : List Pg} {f a : Nat} {p : Pg} (hp : T[a]? = some p) : allD T (f + 1) a = p.keys.zip p.vals ++ p.kids.flatMap fun k => allD T f k.toNat := by rw [allD, hp]
theorem take_zip {α : Type} (l : List α) (i : Nat) (hi : i < l.length) : l.take (i + 1) = l.take i ++ [l[i]] := by rw [List.take_succ_eq_append_getElem hi]

section
variable {H0 : Hp} {x : Pl} {cs : List PC} {T : List Pg}
/-- append a pair -/
theorem ap_kv' {H0 H : Hp} {a : Pl} {n : Nat} {ps : KV} {K : Pl → Nat → Hp → Prop} (h0 : H0 <+: H) (h : Own H H0.length tKV a (n * 2) (kvCells ps)) (hl : ps.length = n) (x y : ByteArray) (hn : n ≤ 100000)
    (hK : ∀ a' H', H0 <+: H' → Own H' H0.length tKV a' ((n + 1) * 2) (kvCells (ps ++ [(x, y)])) → (ps ++ [(x, y)]).length = n + 1 → Ex H0 a H H' → (∀ l o, a' = some (l, o) → H.length ≤ l ∧ o = 0) → K a' (n + 1) H') : ap H tKV 2 32 a n [.str x, .str y] 1 K :=
  ap_z (by omega) h0 h (by rfl) (by unfold Lim; omega) fun a' H' o e f => hK a' H' e.pre (by rw [kvCells_append']; exact o) (by simp [hl]) e f
where
  kvCells_append' : ∀ {ps qs : KV}, kvCells (ps ++ qs) = kvCells ps ++ kvCells qs := by intro ps qs; simp [kvCells]
set_option maxRecDepth 100000 in
theorem ref9_all_main (hT : Tr H0 x 48 cs T) : ∀ (f at_ : Nat) (H : Hp) (Q : Post) (a : Pl) (n : Nat) (ps : KV), WfT T f at_ → at_ < 48 → H0 <+: H → Own H H0.length tKV a (n * 2) (kvCells ps) → ps.length = n → n + (allD T f at_).length ≤ 1000 →
    (∀ a' m H', H0 <+: H' → Own H' H0.length tKV a' (m * 2) (kvCells (ps ++ allD T f at_)) → (ps ++ allD T f at_).length = m → Q (.g (.sl a' m 2)) H') →
    ref9_all.at f [.agg [.sl x 48 5], .g (.int .i64 (at_ : Int)), .g (.sl a n 2)] H Q := by
  intro f
  induction f with
  | zero => intro _ _ _ _ _ _ h; exact h.elim
  | succ f ih =>
    intro at_ H Q a n ps hg hat h0 hO hl hb hQ
    obtain ⟨p, hp, hm, hkids⟩ := hg
    obtain ⟨l, o, c, p', rfl, hc, hp', hpc, g0, g1, g2, g3, g4⟩ := hT.get hat
    rw [hp] at hp'; cases hp'
    obtain ⟨hv1, hv2⟩ := WfT_vals hm
    rw [allD_eq hp] at hb hQ
    rw [List.length_append, hv2] at hb
    have hn1 := hpc.keys.len
    have hn2 := hpc.vals.len
    have hn3 := hpc.kids.len
    have hl3 := hpc.kids.lim
    have hl2 := hpc.vals.lim
    have k48 : ∀ k ∈ p.kids, 1 ≤ k ∧ k < 48 := fun k hk => by
      cases hlf : p.leaf with
      | true => rw [(hm.2.leaf hlf).2.1] at hk; simp at hk
      | false => exact (hm.2.inner hlf).2.2.2.1 k hk
    -- the kids
    have l7 : ∀ (F i : Nat) (H : Hp) (a : Pl) (n : Nat) (qs : KV), p.kids.length - i < F → i ≤ p.kids.length → H0 <+: H → Own H H0.length tKV a (n * 2) (kvCells qs) → qs.length = n → n + ((p.kids.drop i).flatMap fun k => allD T f k.toNat).length ≤ 1000 →
        qs ++ ((p.kids.drop i).flatMap fun k => allD T f k.toNat) = ps ++ (p.keys.zip p.vals ++ p.kids.flatMap fun k => allD T f k.toNat) →
        ref9_all.l7 (ref9_all.at f) F a n (some (l, o)) 48 c.u c.l c.a1 c.n1 c.a2 c.n2 c.a3 c.n3 (i : Int) H Q := by
      intro F
      induction F with
      | zero => intro i _ _ _ _ h; omega
      | succ F ihF =>
        intro i H a n qs hF hi h0 hO hl hb he
        rw [ref9_all.l7_eq]
        by_cases hik : i < p.kids.length
        · rw [flat_len p.kids i hik] at hb he
          rw [List.length_append] at hb
          have hmem := List.getElem_mem hik
          have hk := k48 _ hmem
          have ek : p.kids[i] = ((p.kids[i].toNat : Nat) : Int) := by omega
          rw [bite_t (by simp; omega), chk_true, (hpc.mono h0).kids.rd i rfl hik]
          generalize hkk : p.kids[i] = kk at *
          rw [ek]
          refine ih kk.toNat H _ a n qs (hkids kk hmem) (by omega) h0 hO hl (by omega) fun a' m H' h0' hO' hl' => ?_
          simp only [rG_g, dL_sl]
          rw [wrap_succ (by omega)]
          exact ihF (i + 1) H' a' m _ (by omega) (by omega) h0' hO' hl' (by rw [← hl', List.length_append, hl]; omega) (by rw [List.append_assoc]; exact he)
        · rw [bite_f (by simp; omega)]
          rw [List.drop_of_length_le (by omega), List.flatMap_nil, List.append_nil] at he
          subst he
          exact hQ a n H h0 hO hl
    -- the values
    have l3 : ∀ (F i : Nat) (H : Hp) (a : Pl) (n : Nat), p.vals.length - i + p.kids.length + 2 < F → i ≤ p.vals.length → H0 <+: H → Own H H0.length tKV a (n * 2) (kvCells (ps ++ (p.keys.zip p.vals).take i)) → (ps ++ (p.keys.zip p.vals).take i).length = n →
        ref9_all.l3 (ref9_all.at f) F a n (some (l, o)) 48 c.u c.l c.a1 c.n1 c.a2 c.n2 c.a3 c.n3 (i : Int) H Q := by
      intro F
      induction F with
      | zero => intro i _ _ _ h; omega
      | succ F ihF =>
        intro i H a n hF hi h0 hO hl'
        rw [ref9_all.l3_eq]
        have hnn : n = ps.length + i := by rw [← hl', List.length_append, List.length_take, hv2]; omega
        by_cases hik : i < p.vals.length
        · rw [bite_t (by simp; omega), chk_true, (hpc.mono h0).keys.rd i rfl (by omega), chk_true, (hpc.mono h0).vals.rd i rfl hik, chk_true]
          refine ap_kv' h0 hO hl' _ _ (by omega) fun a' H' h0' hO' hl2 _ _ => ?_
          rw [wrap_succ (by omega)]
          have e : (p.keys.zip p.vals)[i]'(by omega) = (p.keys[i]'(by omega), p.vals[i]) := by simp
          have e2 : ps ++ (p.keys.zip p.vals).take (i + 1) = ps ++ (p.keys.zip p.vals).take i ++ [(p.keys[i]'(by omega), p.vals[i])] := by
            rw [take_zip _ i (by omega), e, List.append_assoc]
          exact ihF (i + 1) H' a' (n + 1) (by omega) (by omega) h0' (by rw [e2]; exact hO') (by rw [e2]; exact hl2)
        · rw [bite_f (by simp; omega)]
          have e : (p.keys.zip p.vals).take i = p.keys.zip p.vals := List.take_of_length_le (by omega)
          rw [e] at hO hl'
          refine l7 F 0 H a n _ (by omega) (by omega) h0 hO hl' ?_ (by rw [List.drop_zero, List.append_assoc])
          rw [List.drop_zero]
          omega
    refine ⟨p.vals.length + p.kids.length + 4, ?_⟩
    rw [ref9_all_eq, chk_true]
    refine chk_of (by simp; omega) ?_
    have etN : tN (at_ : Int) = at_ := rfl
    rw [pS_some, etN, rdPage_of (gt_pre h0 g0) (gt_pre h0 g1) (gt_pre h0 g2) (gt_pre h0 g3) (gt_pre h0 g4)]
    exact l3 _ 0 H a n (by omega) (by omega) h0 (by simpa using hO) (by simpa using hl)
end

def allE (T : List Pg) : KV := match decide (0 < heightD T) with | true => entD T | false => []
def errE (e : Int) (T : List Pg) : Int := match decide (0 < heightD T) with | true => 0 | false => e
section
variable {H : Hp} {Q : Post} {x : Pl} {n : Nat} {cs : List PC} {T : List Pg}
theorem ref9_All_spec (hT : Tr H x n cs T) (hQ : ∀ a m H', H <+: H' → Own H' H.length tKV a (m * 2) (kvCells (allE T)) → (allE T).length = m → Q (.tup [.s (.sl a m 2), .s (.int .i64 (errE 1400 T))]) H') : ref9_All [.agg [.sl x n 5]] H Q := by
  refine ⟨1, ?_⟩
  rw [ref9_All_eq]
  refine ref9_Sound_spec hT fun H1 p1 => ?_
  simp only [rG_g, dB_bool]
  unfold allE errE at hQ
  by_cases h : 0 < heightD T
  · rw [decide_eq_true h] at hQ ⊢
    rw [bite_f (by decide)]
    obtain ⟨st, s⟩ := SF.of h
    have hn : n = 48 := by have := hT.lenT; have := s.len; omega
    subst hn
    refine ⟨49, ?_⟩
    refine ref9_all_main (hT.mono p1) 49 0 H1 _ none 0 [] s.good (by omega) (List.prefix_refl _) (.inl ⟨rfl, rfl, rfl⟩) rfl (by have := s.ents.2.2.2; unfold entD at this; omega) fun a m H' p' hO hl => ?_
    simp only [rG_g, dL_sl]
    exact hQ a m H' (p1.trans p') (hO.base (pre_len p1)) hl
  · rw [decide_eq_false h] at hQ ⊢
    rw [bite_t (by decide)]
    exact hQ none 0 H1 p1 (.inl ⟨rfl, rfl, rfl⟩) rfl
end
end Go.Am
namespace Go.Am

theorem kvCells_append {ps qs : KV} : kvCells (ps ++ qs) = kvCells ps ++ kvCells qs := by simp [kvCells]
/-- entries gathered at a place; B: the heap ahead of the place -/
structure SJ (B H : Hp) (t : TypeId) (ps : KV) : Prop where
  pre : B <+: H
  out : ∃ a n, H[B.length]? = some (.row true t [.sl a n 2]) ∧ Own H (B.length + 1) tKV a (n * 2) (kvCells ps) ∧ ps.length = n
section
variable {B H : Hp} {t : TypeId} {ps : KV} {lf lt : Nat} {lo hi : ByteArray} {Q : Post}
theorem SJ.add (g : SJ B H t ps) (k v : ByteArray) (hn : ps.length ≤ 1000) {K : Hp → Prop} (hK : ∀ H', SJ B H' t (ps ++ [(k, v)]) → K H') :
    rd H B.length 0 fun c => dL 2 c fun x n => chk true (ap H tKV 2 32 x n [.str k, .str v] 1 fun x n H => wr H B.length 0 (.sl x n 2) fun H => K H) := by
  obtain ⟨a, n, hrow, hO, hl⟩ := g.out
  have hlt := (List.getElem?_eq_some_iff.1 hrow).1
  rw [rd_of (v := .sl a n 2) (by rw [gt_some hrow]; rfl), dL_sl, chk_true]
  have hb : (H.take (B.length + 1)).length = B.length + 1 := by rw [List.length_take]; omega
  refine ap_z (H0 := H.take (B.length + 1)) (by omega) (List.take_prefix _ _) (by rw [hb]; exact hO) rfl (by unfold Lim; omega) fun a' H' o e f => ?_
  rw [hb] at o
  have hrow' : H'[B.length]? = some (.row true t [.sl a n 2]) := by
    rw [pre_at e.pre (by omega), List.getElem?_take, if_pos (by omega)]; exact hrow
  rw [wr_of hrow' (by simp)]
  have hB : B <+: H' := by
    refine List.IsPrefix.trans ?_ e.pre
    exact List.prefix_take_iff.2 ⟨g.pre, by omega⟩
  refine hK _ ⟨pre_set hB (Nat.le_refl _) _, a', n + 1, ?_, ?_, by simp [hl]⟩
  · rw [List.getElem?_set_self (List.getElem?_eq_some_iff.1 hrow').1]; rfl
  · rw [kvCells_append]
    exact Own.keep o fun l e' => by rw [List.getElem?_set_ne (by have := (f l 0 e').1; omega)]
end

section
variable {H0 B : Hp} {x : Pl} {cs : List PC} {T : List Pg} {t : TypeId} {lp lf lt gf : Nat} {lo hi : ByteArray} {E : Nat → Sm}
end

section
variable {H : Hp} {Q : Post} {x : Pl} {n : Nat} {cs : List PC} {T : List Pg} {lo hi : ByteArray}
end
end Go.Am
namespace Go.Am

theorem kvCells_drop : ∀ (ps : KV) (k : Nat), kvCells (ps.drop k) = (kvCells ps).drop (k * 2)
  | [], k => by simp [kvCells]
  | x :: ps, 0 => by simp
  | x :: ps, k + 1 => by
    rw [List.drop_succ_cons, kvCells_drop ps k]
    have e : (k + 1) * 2 = k * 2 + 1 + 1 := by omega
    rw [e]; rfl
theorem kvCells_take : ∀ (ps : KV) (k : Nat), kvCells (ps.take k) = (kvCells ps).take (k * 2)
  | [], k => by simp [kvCells]
  | x :: ps, 0 => by simp [kvCells]
  | x :: ps, k + 1 => by
    have e : (k + 1) * 2 = k * 2 + 1 + 1 := by omega
    rw [List.take_succ_cons, e]
    show GV.str x.1 :: GV.str x.2 :: kvCells (ps.take k) = _
    rw [kvCells_take ps k]; rfl
theorem Kv.part {H : Hp} {a : Pl} {n : Nat} {ps : KV} (h : Kv H a n ps) (k m : Nat) (hm : k + m ≤ n) : Kv H (shf a (k * 2)) m ((ps.drop k).take m) := by
  refine ⟨?_, by rw [List.length_take, List.length_drop, h.len]; omega⟩
  rw [kvCells_take, kvCells_drop]
  exact cells_part h.cells (k * 2) (m * 2) (by omega)

section
variable {H : Hp} {Q : Post}
theorem law0_SamePairs_spec {a1 a2 : Pl} {n1 n2 : Nat} {xs ys : KV} (h1 : Kv H a1 n1 xs) (h2 : Kv H a2 n2 ys) (hn : n1 ≤ 100000) (hQ : ∀ b, (b = true ↔ xs = ys) → Q (.g (.bool b)) H) : law0_SamePairs [.g (.sl a1 n1 2), .g (.sl a2 n2 2)] H Q := by
  have l1 := h1.len
  have l2 := h2.len
  refine ⟨n1 + 2, ?_⟩
  rw [law0_SamePairs_eq]
  refine bite_of (fun e => hQ false ⟨fun q => (by cases q), fun q => ?_⟩) (fun e => ?_)
  · subst q
    simp at e; omega
  have hnn : n1 = n2 := by simp at e; omega
  have loop : ∀ (F i : Nat), n1 - i < F → i ≤ n1 → (∀ j (h : j < xs.length) (h' : j < ys.length), j < i → xs[j] = ys[j]) → law0_SamePairs.l4 F a1 n1 a2 n2 (i : Int) H Q := by
    intro F
    induction F with
    | zero => intro i h; omega
    | succ F ih =>
      intro i hF hi he
      rw [law0_SamePairs.l4_eq]
      by_cases hik : i < n1
      · obtain ⟨l, o, ea, q1, q2⟩ := h1.get (i := i) (by omega)
        obtain ⟨l', o', ea', q1', q2'⟩ := h2.get (i := i) (by omega)
        subst ea; subst ea'
        have etN : tN (i : Int) = i := rfl
        rw [bite_t (by simp; omega), chk_true]
        refine chk_of (by simp; omega) ?_
        rw [pS_some, etN, rd_of q1, dS_str, rd_of q2, dS_str, chk_true]
        refine chk_of (by simp; omega) ?_
        rw [pS_some, rd_of q1', dS_str, rd_of q2', dS_str]
        refine bite_of (fun e => hQ false ⟨fun q => (by cases q), fun q => ?_⟩) (fun e => ?_)
        · subst q; simp at e
        · rw [wrap_succ (by omega)]
          refine ih (i + 1) (by omega) (by omega) fun j h h' hj => ?_
          by_cases ej : j = i
          · subst ej
            simp at e
            exact Prod.ext e.1 e.2
          · exact he j h h' (by omega)
      · rw [bite_f (by simp; omega)]
        refine hQ true ⟨fun _ => ?_, fun _ => rfl⟩
        exact List.ext_getElem (by omega) fun j h h' => he j h h' (by omega)
  exact loop _ 0 (by omega) (Nat.zero_le _) (fun j _ _ h => by omega)
end

/-! the tree that awakes -/
def kvA : KV := [(mkS [97], mkS [49]), (mkS [98], mkS []), (mkS [99], mkS [51]), (mkS [100], mkS []), (mkS [101], mkS [53])]
theorem hA : 0 < heightD (buildD kvA) := by decide +kernel
theorem eA : errE 1400 (buildD kvA) = 0 := by decide +kernel
section
variable {H : Hp} {Q : Post}
theorem err_cases (T : List Pg) (e : Int) : (heightD T = 0 ∧ errE e T = e ∧ allE T = []) ∨ (0 < heightD T ∧ errE e T = 0 ∧ allE T = entD T) := by
  unfold errE allE
  rcases Nat.eq_zero_or_pos (heightD T) with h | h
  · rw [decide_eq_false (by omega)]; exact .inl ⟨h, rfl, rfl⟩
  · rw [decide_eq_true h]; exact .inr ⟨h, rfl, rfl⟩
end
end Go.Am
namespace Go.Am

section
variable {H : Hp} {Q : Post} {key : ByteArray} {ks : List ByteArray}
theorem slotN_take (i : Nat) (hi : i < ks.length) : slotN (ks.take (i + 1)) key = slotN (ks.take i) key + (match blt ks[i] key with | true => 1 | false => 0) := by
  unfold slotN
  rw [List.take_succ_eq_append_getElem hi, List.countP_append]
  congr 1
theorem slotN_le : slotN ks key ≤ ks.length := List.countP_le_length
theorem node_Slot_spec {a : Pl} {n : Nat} (h : Ss H a n ks) (hQ : Q (.tup [.s (.int .i64 (slotN ks key : Int)), .s (.bool (slotB ks key))]) H) : node_Slot [.g (.sl a n 1), .g (.str key)] H Q := by
  have hn := h.len
  have hlim := h.lim
  refine ⟨n + 2, ?_⟩
  rw [node_Slot_eq]
  have loop : ∀ (F i : Nat), n - i < F → i ≤ n → node_Slot.l3 F a n key (slotN (ks.take i) key : Int) a n (nI n) (i : Int) H Q := by
    intro F
    induction F with
    | zero => intro i h; omega
    | succ F ih =>
      intro i hF hi
      rw [node_Slot.l3_eq]
      by_cases hik : i < n
      · have hle : slotN (ks.take i) key ≤ i := Nat.le_trans slotN_le (List.length_take_le _ _)
        rw [bite_t (by simp; omega), chk_true, h.rd i rfl (by omega), blt_eq, wrap_succ (by omega), wrap_succ (by omega)]
        have := ih (i + 1) (by omega) (by omega)
        rw [slotN_take i (by omega)] at this
        refine bite_of (fun e => ?_) (fun e => ?_)
        · rw [e] at this; exact this
        · rw [e] at this; exact this
      · rw [bite_f (by simp; omega), List.take_of_length_le (by omega)]
        have hle := slotN_le (ks := ks) (key := key)
        refine bite_of (fun e => ?_) (fun e => ?_)
        · have hlt : slotN ks key < ks.length := by simp at e; omega
          rw [chk_true, h.rd (slotN ks key) rfl hlt]
          have : slotB ks key = strEq ks[slotN ks key] key := by
            unfold slotB; rw [List.getElem?_eq_getElem hlt, strEq_def]; simp
          rw [this] at hQ
          exact hQ
        · have : slotB ks key = false := by
            unfold slotB
            rw [List.getElem?_eq_none (by simp at e; omega)]; simp
          rw [this] at hQ
          exact hQ
  exact loop _ 0 (by omega) (Nat.zero_le _)
theorem find_Kid_spec {l o n : Nat} {a : Pl} (hg : gt H l (o + 2) = some (.sl a n 1)) (h : Ss H a n ks) (hQ : Q (.g (.int .i64 (kidN ks key : Int))) H) : find_Kid [.g (.ptr (some (l, o))), .g (.str key)] H Q := by
  have hn := h.len
  have hlim := h.lim
  have hle := slotN_le (ks := ks) (key := key)
  refine ⟨1, ?_⟩
  rw [find_Kid_eq, pS_some, rd_of hg, dL_sl]
  refine node_Slot_spec h ?_
  simp only [rT_tup, uR_cons, rS_s, dI_int, dB_bool, uE_nil]
  unfold kidN at hQ
  refine bite_of (fun e => ?_) (fun e => ?_)
  · rw [e] at hQ
    rw [wrap_succ (by omega)]
    exact hQ
  · rw [e] at hQ; exact hQ
end

section
variable {H : Hp} {Q : Post} {x : Pl} {n : Nat} {cs : List PC} {T : List Pg} {key : ByteArray}

def findE (T : List Pg) (key : ByteArray) : Option ByteArray := findK (allE T) key
set_option maxRecDepth 100000 in
theorem find_Find_spec (hT : Tr H x n cs T) (hQ : ∀ H', H <+: H' → Q (.tup [.s (.str ((findE T key).getD (mkS []))), .s (.bool (findE T key).isSome), .s (.int .i64 (errE 1100 T))]) H') : find_Find [.agg [.sl x n 5], .g (.str key)] H Q := by
  refine ⟨60, ?_⟩
  rw [find_Find_eq]
  refine sound_Sound_spec hT fun H1 p1 => ?_
  simp only [rG_g, dB_bool]
  unfold findE at hQ
  rcases err_cases T 1100 with ⟨e0, e1, e2⟩ | ⟨e0, e1, e2⟩
  · rw [e1, e2] at hQ
    rw [decide_eq_false (by omega), bite_t (by decide)]
    exact hQ H1 p1
  rw [e1, e2] at hQ
  rw [decide_eq_true e0, bite_f (by decide)]
  obtain ⟨P, w⟩ := whole_of e0
  have hT1 := hT.mono p1
  have hn : n = 48 := by have := hT.lenT; have := w.len; omega
  subst hn
  obtain ⟨l, o, c0, p0, rfl, _⟩ := hT1.get (i := 0) (by omega)
  rw [chk_true]
  refine chk_of (by simp) ?_
  rw [pS_some]
  have loop : ∀ (d F a : Nat) (P : List Nat) (ps : KV), Sub T d a P ps → d < F → findK (entD T) key = findK ps key → find_Find.l4 F key (some (l, o)) 48 l (o + a * 5) H1 Q := by
    intro d
    induction d with
    | zero => intro F a P ps h; exact h.elim
    | succ d ih =>
      intro F a P ps h hF he
      obtain ⟨F, rfl⟩ : ∃ F', F = F' + 1 := ⟨F - 1, by omega⟩
      have hlt := h.inT a h.head
      obtain ⟨p, hp, hm, hcase⟩ := h
      obtain ⟨l', o', c, p', ee, hc, hp', hpc, g0, g1, g2, g3, g4⟩ := hT1.get (i := a) (by rw [w.len] at hlt; exact hlt)
      cases ee
      rw [hp] at hp'; cases hp'
      have hpl : p.leaf = c.l := hpc.leaf
      have hpw := rising_pw hm.2.rising
      rw [find_Find.l4_eq, rd_of (v := .bool c.l) (by exact g1), dB_bool]
      rcases hcase with ⟨_, hl, _, e⟩ | ⟨hl, P', _, hk⟩
      · rw [bite_f (by rw [← hpl, hl]; rfl), rd_of (v := .sl c.a1 c.n1 1) (by exact g2), dL_sl]
        refine node_Slot_spec hpc.keys ?_
        simp only [rT_tup, uR_cons, rS_s, dI_int, dB_bool, uE_nil]
        have v1 := (hm.2.leaf hl).1
        rw [e, findK_zip hpw v1] at he
        refine bite_of (fun eb => ?_) (fun eb => ?_)
        · have eb' : slotB p.keys key = false := by simpa using eb
          rw [eb'] at he
          rw [he] at hQ
          exact hQ H1 p1
        · have eb' : slotB p.keys key = true := by simpa using eb
          rw [eb'] at he
          have hs : slotN p.keys key < p.vals.length := by
            unfold slotB at eb'
            have := (List.getElem?_eq_some_iff.1 (of_decide_eq_true eb')).1
            omega
          rw [rd_of (v := .sl c.a2 c.n2 1) (by exact g3), dL_sl, chk_true, hpc.vals.rd (slotN p.keys key) rfl hs]
          dsimp only at he
          rw [List.getElem?_eq_getElem hs] at he
          rw [he] at hQ
          exact hQ H1 p1
      · rw [bite_t (by rw [← hpl, hl]; rfl), rd_of (v := .sl c.a3 c.n3 1) (by exact g4), dL_sl]
        refine find_Kid_spec (by exact g2) hpc.keys ?_
        simp only [rG_g, dI_int]
        obtain ⟨k, P1, ps1, hk1, hk2, hk3⟩ := kids_find (key := key) hk hpw
        have hkl := (List.getElem?_eq_some_iff.1 hk1).1
        rw [rd_of (v := .sl c.a3 c.n3 1) (by exact g4), dL_sl]
        refine ⟨rfl, ?_⟩
        rw [chk_true, hpc.kids.rd (kidN p.keys key) rfl hkl]
        have hke : p.kids[kidN p.keys key] = k := by rw [List.getElem?_eq_getElem hkl] at hk1; exact Option.some.inj hk1
        have hk48 := (hm.2.inner hl).2.2.2.1 k (by rw [← hke]; exact List.getElem_mem _)
        rw [hke, chk_true]
        refine chk_of (by simp; omega) ?_
        rw [pS_some]
        exact ih F k.toNat P1 ps1 hk2.1 (by omega) (he.trans hk3)
  have hd := w.sub.low
  have hc := w.count
  have := loop (heightD T) 59 0 P (entD T) w.sub (by omega) rfl
  exact this
end
end Go.Am
namespace Go.Am

/-! keys by numbers -/
theorem letters_lt : ∀ i j : Fin 128, blt (lettersD i.1) (lettersD j.1) = decide (i.1 < j.1) := by decide +kernel
theorem letters_size (i : Nat) : (lettersD i).size = 2 := rfl
theorem letters_blt {i j : Nat} (hi : i < 128) (hj : j < 128) : blt (lettersD i) (lettersD j) = decide (i < j) := letters_lt ⟨i, hi⟩ ⟨j, hj⟩
section
variable {H : Hp} {Q : Post}
/-! every entry is found -/
/-! every second one -/
end
end Go.Am
namespace Go.Am

/-! an entry put among entries -/
def insK : KV → ByteArray → ByteArray → KV
  | [], k, v => [(k, v)]
  | x :: ps, k, v => match decide (x.1 = k) with
    | true => (k, v) :: ps
    | false => match blt x.1 k with
      | true => x :: insK ps k v
      | false => (k, v) :: x :: ps
theorem not_blt {a b : ByteArray} (h : blt a b = false) (hne : a ≠ b) : blt b a = true := by
  rcases blt_tri a b with z | z | z
  · rw [z.1] at h; cases h
  · exact (hne z.1).elim
  · exact z.1
/-- entries cut at a key -/
theorem insK_split : ∀ {ps : KV} (k v : ByteArray), Asc ps → ∃ L M R, ps = L ++ M ++ R ∧ insK ps k v = L ++ (k, v) :: R ∧ (M = [] ∨ ∃ v0, M = [(k, v0)]) ∧ (∀ x ∈ L, blt x.1 k = true) ∧ (∀ x ∈ R, blt k x.1 = true)
  | [], k, v, _ => ⟨[], [], [], rfl, rfl, .inl rfl, fun x h => by simp at h, fun x h => by simp at h⟩
  | x :: ps, k, v, h => by
    obtain ⟨h1, h2⟩ := List.pairwise_cons.1 h
    unfold insK
    by_cases e : x.1 = k
    · rw [decide_eq_true e]
      obtain ⟨a, b⟩ := x
      dsimp only at e h1
      subst e
      exact ⟨[], [(a, b)], ps, rfl, rfl, .inr ⟨b, rfl⟩, fun x h => by simp at h, h1⟩
    · rw [decide_eq_false e]
      dsimp only
      cases hb : blt x.1 k with
      | true =>
        obtain ⟨L, M, R, q1, q2, q3, q4, q5⟩ := insK_split k v h2
        dsimp only
        refine ⟨x :: L, M, R, by rw [q1]; rfl, by rw [q2]; rfl, q3, fun y hy => ?_, q5⟩
        rcases List.mem_cons.1 hy with q | q
        · rw [q]; exact hb
        · exact q4 y q
      | false =>
        have hk := not_blt hb e
        refine ⟨[], [], x :: ps, rfl, rfl, .inl rfl, fun y h => by simp at h, fun y hy => ?_⟩
        rcases List.mem_cons.1 hy with q | q
        · rw [q]; exact hk
        · exact blt_trans hk (h1 y q)
theorem insK_left {l r : KV} {k v : ByteArray} (h : ∀ x ∈ l, blt x.1 k = true) : insK (l ++ r) k v = l ++ insK r k v := by
  induction l with
  | nil => rfl
  | cons x l ih =>
    have hx := h x (by simp)
    rw [List.cons_append]
    show (match decide (x.1 = k) with | true => (k, v) :: (l ++ r) | false => match blt x.1 k with | true => x :: insK (l ++ r) k v | false => (k, v) :: x :: (l ++ r)) = _
    rw [decide_eq_false (blt_ne hx), hx]
    dsimp only
    rw [ih fun y hy => h y (by simp [hy])]; rfl
theorem insK_mid {l r : KV} {k v v0 : ByteArray} (h : ∀ x ∈ l, blt x.1 k = true) : insK (l ++ (k, v0) :: r) k v = l ++ (k, v) :: r := by
  rw [insK_left h]
  show l ++ (match decide (k = k) with | true => (k, v) :: r | false => _) = _
  rw [decide_eq_true rfl]
theorem insK_new {l r : KV} {k v : ByteArray} (h : ∀ x ∈ l, blt x.1 k = true) (hr : ∀ x ∈ r, blt k x.1 = true) : insK (l ++ r) k v = l ++ (k, v) :: r := by
  rw [insK_left h]
  congr 1
  cases r with
  | nil => rfl
  | cons x r =>
    have hx := hr x (by simp)
    show (match decide (x.1 = k) with | true => (k, v) :: r | false => match blt x.1 k with | true => x :: insK r k v | false => (k, v) :: x :: r) = _
    rw [decide_eq_false (Ne.symm (blt_ne hx)), blt_asy hx]
theorem insK_mem {ps : KV} {k v : ByteArray} {x : ByteArray × ByteArray} : x ∈ insK ps k v → x = (k, v) ∨ x ∈ ps := by
  induction ps with
  | nil => intro h; simp [insK] at h; exact .inl h
  | cons y ps ih =>
    unfold insK
    by_cases e : y.1 = k
    · rw [decide_eq_true e]
      intro h
      rcases List.mem_cons.1 h with q | q
      · exact .inl q
      · exact .inr (by simp [q])
    · rw [decide_eq_false e]
      dsimp only
      cases blt y.1 k with
      | true =>
        intro h
        rcases List.mem_cons.1 h with q | q
        · exact .inr (by simp [q])
        · rcases ih q with z | z
          · exact .inl z
          · exact .inr (by simp [z])
      | false =>
        intro h
        rcases List.mem_cons.1 h with q | q
        · exact .inl q
        · exact .inr q
theorem insK_len {ps : KV} (h : Asc ps) (k v : ByteArray) : (insK ps k v).length = ps.length + (match (findK ps k).isNone with | true => 1 | false => 0) := by
  obtain ⟨L, M, R, q1, q2, q3, q4, q5⟩ := insK_split k v h
  rw [q2, q1, List.append_assoc, findK_right fun x hx => blt_ne (q4 x hx)]
  rcases q3 with rfl | ⟨v0, rfl⟩
  · rw [List.nil_append, findK_none fun x hx => Ne.symm (blt_ne (q5 x hx))]
    simp; omega
  · rw [List.singleton_append, findK_cons, decide_eq_true rfl]
    simp

/-! a value of a tree turned -/
theorem slotB_of_mem {ks : List ByteArray} {key : ByteArray} (pw : Pw ks) (h : key ∈ ks) : slotB ks key = true := by
  induction ks with
  | nil => simp at h
  | cons s ks ih =>
    obtain ⟨h1, h2⟩ := List.pairwise_cons.1 pw
    rcases List.mem_cons.1 h with e | e
    · subst e
      rw [(slot_ge pw (blt_irr _)).2, decide_eq_true rfl]
    · rw [(slot_lt (h1 key e)).2]
      exact ih h2 e
theorem slot_at {ks : List ByteArray} {key : ByteArray} (h : slotB ks key = true) : ∃ hs : slotN ks key < ks.length, ks[slotN ks key] = key := by
  unfold slotB at h
  exact List.getElem?_eq_some_iff.1 (of_decide_eq_true h)
theorem zip_set {ks vs : List ByteArray} {s : Nat} (hs : s < ks.length) (hl : vs.length = ks.length) (v : ByteArray) : ks.zip (vs.set s v) = (ks.zip vs).take s ++ (ks[s], v) :: (ks.zip vs).drop (s + 1) := by
  have e : ks.zip (vs.set s v) = (ks.zip vs).set s (ks[s], v) := by
    apply List.ext_getElem
    · simp
    · intro i h1 h2
      rw [List.getElem_zip, List.getElem_set, List.getElem_set]
      by_cases q : s = i
      · subst q; rw [if_pos rfl, if_pos rfl]
      · rw [if_neg q, if_neg q, List.getElem_zip]
  rw [e, List.set_eq_take_append_cons_drop, if_pos (by rw [List.length_zip]; omega)]
theorem zip_cut {ks vs : List ByteArray} {s : Nat} (hs : s < ks.length) (hl : vs.length = ks.length) : ks.zip vs = (ks.zip vs).take s ++ (ks[s], vs[s]'(by omega)) :: (ks.zip vs).drop (s + 1) := by
  have hz : s < (ks.zip vs).length := by rw [List.length_zip]; omega
  have e : (ks.zip vs)[s] = (ks[s], vs[s]'(by omega)) := List.getElem_zip
  rw [← e, ← List.drop_eq_getElem_cons hz, List.take_append_drop]
def setP (p : Pg) (key v : ByteArray) : Pg := { p with vals := p.vals.set (slotN p.keys key) v }
theorem setP_may {p : Pg} {key v : ByteArray} (h : MayP p) (hv : v.size ≤ 10) : MayP (setP p key v) := by
  refine ⟨h.1, ⟨h.2.used, h.2.rising, h.2.keys, fun hl => ?_, fun hl => ?_⟩⟩
  · obtain ⟨q1, q2, q3⟩ := h.2.leaf hl
    refine ⟨by show (p.vals.set _ v).length = _; rw [List.length_set]; exact q1, q2, fun w hw => ?_⟩
    rcases List.mem_or_eq_of_mem_set hw with z | z
    · exact q3 w z
    · rw [z]; exact hv
  · obtain ⟨q1, q2, q3⟩ := h.2.inner hl
    exact ⟨q1, by show p.vals.set _ v = []; rw [q2]; rfl, q3⟩
theorem Sub.setVal {T : List Pg} {key v : ByteArray} {i : Nat} {p : Pg} (hi : T[i]? = some p) (hl : p.leaf = true) (hs : slotB p.keys key = true) (hv : v.size ≤ 10) :
    ∀ {d a : Nat} {P : List Nat} {ps : KV}, Sub T d a P ps → P.Nodup → i ∈ P → ∃ L v0 R, ps = L ++ (key, v0) :: R ∧ Sub (T.set i (setP p key v)) d a P (L ++ (key, v) :: R)
  | 0, _, _, _, h, _, _ => h.elim
  | d + 1, a, P, ps, h, hnd, hiP => by
    have hlt := (List.getElem?_eq_some_iff.1 hi).1
    obtain ⟨q, hq, hm, ⟨e0, hql, e1, e2⟩ | ⟨hql, P', e1, hk⟩⟩ := h
    · subst e1
      obtain rfl : i = a := List.mem_singleton.1 hiP
      rw [hi] at hq
      obtain rfl := Option.some.inj hq
      obtain ⟨v1, _, _⟩ := hm.2.leaf hl
      obtain ⟨hsl, hse⟩ := slot_at hs
      have c1 := zip_cut hsl v1
      have c2 := zip_set hsl v1 v
      rw [hse] at c1 c2
      exact ⟨_, _, _, e2.trans c1, setP p key v, List.getElem?_set_self hlt, setP_may hm hv, .inl ⟨e0, hl, rfl, c2.symm⟩⟩
    · subst e1
      rw [List.nodup_cons] at hnd
      have hia : i ≠ a := fun e => by subst e; rw [hi] at hq; obtain rfl := Option.some.inj hq; rw [hl] at hql; cases hql
      have hiP' : i ∈ P' := by rcases List.mem_cons.1 hiP with e | e; exact (hia e).elim; exact e
      have big : ∀ {k : Nat}, (∃ q, T[k]? = some q ∧ 2 ≤ q.keys.length) → ∃ q, (T.set i (setP p key v))[k]? = some q ∧ 2 ≤ q.keys.length := fun {k} ⟨q, h1, h2⟩ => by
        by_cases e : i = k
        · subst e
          rw [hi] at h1
          obtain rfl := Option.some.inj h1
          exact ⟨_, List.getElem?_set_self hlt, h2⟩
        · exact ⟨q, by rw [List.getElem?_set_ne e]; exact h1, h2⟩
      have kids : ∀ {ks : List Int} {ss : List ByteArray} {P : List Nat} {ps : KV}, KidsR (SubB T d) ks ss P ps → P.Nodup → i ∈ P → ∃ L v0 R, ps = L ++ (key, v0) :: R ∧ KidsR (SubB (T.set i (setP p key v)) d) ks ss P (L ++ (key, v) :: R) := by
        intro ks
        induction ks with
        | nil => intro _ _ _ h; exact h.elim
        | cons k ks ih =>
          intro ss P ps h hnd hiP
          cases ss with
          | nil =>
            obtain ⟨L, v0, R, q1, q2⟩ := Sub.setVal hi hl hs hv h.2.1 hnd hiP
            exact ⟨L, v0, R, q1, h.1, q2, big h.2.2⟩
          | cons s ss =>
            obtain ⟨P1, ps1, P2, ps2, h1, h2, e1, e2, h3, h4⟩ := h
            subst e1; subst e2
            obtain ⟨d1, d2, d3⟩ := List.nodup_append.1 hnd
            have swap : ∀ {L R : KV} {v0 : ByteArray} {x}, x ∈ L ++ (key, v) :: R → ∃ y ∈ L ++ (key, v0) :: R, y.1 = x.1 := fun {L R v0 x} hx => by
              rcases List.mem_append.1 hx with z | z
              · exact ⟨x, List.mem_append.2 (.inl z), rfl⟩
              · rcases List.mem_cons.1 z with z | z
                · exact ⟨(key, v0), by simp, by rw [z]⟩
                · exact ⟨x, by simp [z], rfl⟩
            rcases List.mem_append.1 hiP with z | z
            · obtain ⟨L, v0, R, q1, q2⟩ := Sub.setVal hi hl hs hv h1.1 d1 z
              subst q1
              refine ⟨L, v0, R ++ ps2, by simp, P1, _, P2, ps2, ⟨q2, big h1.2⟩, h2.imp fun k Q qs hs' hin => hs'.keep fun j hj => List.getElem?_set_ne fun e => d3 i z j (hin j hj) e, rfl, by simp, fun x hx => ?_, h4⟩
              obtain ⟨y, hy, e⟩ := swap (v0 := v0) hx
              rw [← e]; exact h3 y hy
            · obtain ⟨L, v0, R, q1, q2⟩ := ih h2 d2 z
              subst q1
              refine ⟨ps1 ++ L, v0, R, by simp, P1, ps1, P2, _, h1.keep fun j hj => List.getElem?_set_ne fun e => d3 j hj i z e.symm, q2, rfl, by simp, h3, fun x hx => ?_⟩
              obtain ⟨y, hy, e⟩ := swap (v0 := v0) hx
              rw [← e]; exact h4 y hy
      obtain ⟨L, v0, R, q1, q2⟩ := kids hk hnd.2 hiP'
      exact ⟨L, v0, R, q1, q, by rw [List.getElem?_set_ne hia]; exact hq, hm, .inr ⟨hql, P', rfl, q2⟩⟩
section
variable {T : List Pg} {d : Nat} {P : List Nat} {ps : KV} {i : Nat} {p : Pg} {key v : ByteArray}
theorem Whole.leafIn (w : Whole T d P ps) (hi : T[i]? = some p) (hl : p.leaf = true) : i ∈ P := Decidable.byContradiction fun h => by
  have := w.rest i p hi h
  unfold nothingB at this
  rw [hl] at this; simp at this
theorem Whole.setVal (w : Whole T d P ps) (hi : T[i]? = some p) (hl : p.leaf = true) (hs : slotB p.keys key = true) (hv : v.size ≤ 10) : Whole (T.set i (setP p key v)) d P (insK ps key v) ∧ (findK ps key).isSome = true := by
  have hiP := w.leafIn hi hl
  obtain ⟨L, v0, R, e1, e2⟩ := Sub.setVal hi hl hs hv w.sub w.nodup hiP
  have ha := w.sub.asc.1
  rw [e1] at ha
  have hL : ∀ x ∈ L, blt x.1 key = true := fun x hx => (List.pairwise_append.1 ha).2.2 x hx (key, v0) (by simp)
  have hp : insK ps key v = L ++ (key, v) :: R := by rw [e1, insK_mid hL]
  have hc := w.count
  refine ⟨⟨by rw [List.length_set]; exact w.len, by rw [hp]; exact e2, w.nodup, fun j q hq hj => ?_, ?_⟩, ?_⟩
  · rw [List.getElem?_set_ne (fun e => hj (by rw [← e]; exact hiP))] at hq
    exact w.rest j q hq hj
  · rw [hp]; rw [e1] at hc; simpa using hc
  · rw [e1, findK_right fun x hx => blt_ne (hL x hx), findK_cons, decide_eq_true rfl]; rfl
end
end Go.Am
namespace Go.Am
end Go.Am
namespace Go.Am

section
variable {B H H' : Hp} {t : TypeId} {a : Pl} {n : Nat} {ds : List PC} {T : List Pg} {Q : Post}
theorem CT.val (g : CT B H t a n ds T) {i j : Nat} (hi : i < ds.length) (hi' : i < T.length) (hj : j < (T[i]).vals.length) (s : ByteArray) {K : Hp → Prop}
    (hK : ∀ H', CT B H' t a n ds (T.set i { T[i] with vals := (T[i]).vals.set j s }) → K H') : ∃ l, (ds[i]).a2 = some (l, 0) ∧ wr H l j (.str s) K := by
  have ho := g.own i hi hi'
  have hat := g.ot.all i hi hi'
  rcases ho.vals with ⟨_, h, _⟩ | ⟨l, e, hb, hr, hl⟩
  · have := hat.vals.len; omega
  have hlt := (List.getElem?_eq_some_iff.1 hr).1
  have hon : (ds[i]).on l := ⟨0, .inr (.inl e)⟩
  refine ⟨l, e, wr_row hr (by simpa using hj) ?_⟩
  rw [← List.map_set]
  have keep : ∀ {tt : TypeId} {x : Pl} {m : Nat} {es : List GV} (y : Obj), Own H B.length tt x m es → (∀ o, x ≠ some (l, o)) → Own (H.set l y) B.length tt x m es := fun y h hd => h.keep fun m e' => by
    rw [List.getElem?_set_ne]; intro q; subst q; exact hd 0 e'
  have how : (ds[i]).own (H.set l (.row true tS (((T[i]).vals.set j s).map GV.str))) B.length { T[i] with vals := (T[i]).vals.set j s } :=
    ⟨ho.used, ho.leaf, keep _ ho.keys (fun o e' => ho.d12 l o 0 e' e), .inr ⟨l, e, hb, List.getElem?_set_self hlt, by simpa using hl⟩, keep _ ho.kids (fun o e' => ho.d23 l 0 o e e'), ho.d12, ho.d13, ho.d23⟩
  refine hK _ (g.setRow hi hi' hon _ hb _ ⟨hat.used, hat.leaf, ⟨how.keys.cells, hat.keys.len, hat.keys.lim⟩, ⟨how.vals.cells, ?_, hat.vals.lim⟩, ⟨how.kids.cells, hat.kids.len, hat.kids.lim⟩⟩ how)
  simpa using hat.vals.len

/-- a page behind the others -/
theorem CT.add (g : CT B H t a n ds T) {d : PC} {p : Pg} {H2 : Hp} (p2 : H <+: H2) (hd : d.at H2 p) (hdo : d.own H2 H.length p) (hfr : ∀ l, d.on l → H.length ≤ l) (hl : (n + 1) * 80 ≤ Lim) {K : Pl → Nat → Hp → Prop}
    (hK : ∀ a' H', CT B H' t a' (n + 1) (ds ++ [d]) (T ++ [p]) → K a' (n + 1) H') : Am.ap H2 t 5 80 a n [.bool d.u, .bool d.l, .sl d.a1 d.n1 1, .sl d.a2 d.n2 1, .sl d.a3 d.n3 1] 1 K := by
  have ho := g.ot
  have ho2 := ho.mono p2
  have hlen := ho.len
  have hlenT := ho.lenT
  have hp := g.pre
  refine ho2.add (hp.trans p2) hd (fun l hl e => by have := hfr l hl; have := ho.own.lt' e; omega) hl fun a'' H3 o3 x3 f3 => ?_
  have keepA : ∀ i (h : i < ds.length) (l : Nat), (ds[i]).on l → H3[l]? = H[l]? := fun i h l hl => by
    rw [x3.row l (ho2.onlt (List.getElem_mem h) hl) (ho2.off _ (List.getElem_mem h) l hl), pre_at p2 (ho.onlt (List.getElem_mem h) hl)]
  refine hK a'' H3 ⟨x3.pre, o3, fun i h1 h2 => ?_, fun i j h1 h2 hne l hl1 hl2 => ?_⟩
  · rw [List.getElem_append, List.getElem_append]
    by_cases e : i < n
    · rw [dif_pos (by omega), dif_pos (by omega)]
      exact (g.own i (by omega) (by omega)).keep fun l hl => keepA i (by omega) l hl
    · have e' : i = n := by simp [hlen] at h1; omega
      subst e'
      rw [dif_neg (by omega), dif_neg (by omega)]
      simp only [List.getElem_singleton]
      have hdo' : d.own H3 H.length p := hdo.keep fun l hl => x3.row l (hd.lt hl) (fun e => by have := hfr l hl; have := ho.own.lt' e; omega)
      have hb : ∀ {t : TypeId} {x : Pl} {m : Nat} {es : List GV}, Own H3 H.length t x m es → Own H3 B.length t x m es := fun h => h.base hp.length_le
      exact ⟨hdo'.used, hdo'.leaf, hb hdo'.keys, hb hdo'.vals, hb hdo'.kids, hdo'.d12, hdo'.d13, hdo'.d23⟩
  · simp only [List.length_append, List.length_singleton] at h1 h2
    rw [List.getElem_append] at hl1 hl2
    by_cases e1 : i < n
    · rw [dif_pos (by omega)] at hl1
      by_cases e2 : j < n
      · rw [dif_pos (by omega)] at hl2
        exact g.ap i j (by omega) (by omega) hne l hl1 hl2
      · rw [dif_neg (by omega)] at hl2
        simp only [List.getElem_singleton] at hl2
        have := hfr l hl2
        have := ho.onlt (List.getElem_mem (by omega : i < ds.length)) hl1
        omega
    · rw [dif_neg (by omega)] at hl1
      simp only [List.getElem_singleton] at hl1
      by_cases e2 : j < n
      · rw [dif_pos (by omega)] at hl2
        have := hfr l hl1
        have := ho.onlt (List.getElem_mem (by omega : j < ds.length)) hl2
        omega
      · omega
theorem CT.nil (H : Hp) (t : TypeId) : CT H H t none 0 [] [] := ⟨List.prefix_refl _, OT.nil _ _ _, fun i h => (by simp at h), fun i j h => (by simp at h)⟩

/-! the document's copy of a tree -/
end
end Go.Am
namespace Go.Am

section
variable {H : Hp} {Q : Post} {key v : ByteArray} {ks : List ByteArray}
/-- why nothing may be inserted (0: it may) -/
def formE (T : List Pg) (key v : ByteArray) : Bool := decide (0 < heightD T) && (decide (1 ≤ key.size) && (decide (key.size ≤ 6) && decide (v.size ≤ 10)))
def insE (T : List Pg) (key v : ByteArray) : Int := match formE T key v with
  | false => 1200
  | true => match (findK (entD T) key).isNone && decide (60 ≤ (entD T).length) with | true => 1201 | false => 0
theorem formE_true {T : List Pg} (h : formE T key v = true) : 0 < heightD T ∧ 1 ≤ key.size ∧ key.size ≤ 6 ∧ v.size ≤ 10 := by
  unfold formE at h
  simpa using h
end
end Go.Am
namespace Go.Am

/-- a row of bytes of one's own -/
def OwnB (H : Hp) (b : Nat) (a : Pl) (L : List UInt8) : Prop := Own H b tU8 a L.length (u8s L)
theorem OwnB.txt {H : Hp} {b : Nat} {a : Pl} {L : List UInt8} {K : ByteArray → Prop} (h : OwnB H b a L) : (rdN H a L.length fun c => txt c K) = K (mkS L) := by
  rw [rdN_of h.cells, txt_u8s]

def szd (s : ByteArray) : List UInt8 := bof s.size :: bs s
@[simp] theorem szd_length (s : ByteArray) : (szd s).length = s.size + 1 := by simp [szd]
/-- a page's text -/
def entL (p : Pg) (i : Nat) : List UInt8 := szd (p.keys[i]?.getD ⟨#[]⟩) ++ (match p.leaf with | true => szd (p.vals[i]?.getD ⟨#[]⟩) | false => [])
def ents (p : Pg) (k : Nat) : List UInt8 := (List.range k).flatMap (entL p)
def hdr (p : Pg) : List UInt8 := [match p.leaf with | true => 1 | false => 2, bof p.keys.length]
def textL (p : Pg) : List UInt8 := hdr p ++ ents p p.keys.length ++ p.kids.map bof
def text (p : Pg) : ByteArray := mkS (textL p)
section
variable {H : Hp} {Q : Post} {u l : Bool} {a1 : Pl} {n1 : Nat} {a2 : Pl} {n2 : Nat} {a3 : Pl} {n3 : Nat} {p : Pg}

theorem kids_le (hm : MayP p) : p.kids.length ≤ 5 := by
  have hm1 := hm.1
  cases hL : p.leaf with
  | true => rw [(hm.2.leaf hL).2.1]; simp
  | false => have := (hm.2.inner hL).2.2.1; omega
end
end Go.Am
namespace Go.Am

def tkB : List UInt8 → Nat × List UInt8
  | [] => (0, [])
  | b :: r => (b.toNat, r)
def tkT (L : List UInt8) : List UInt8 × List UInt8 := ((tkB L).2.take (tkB L).1, (tkB L).2.drop (tkB L).1)
section
variable {H : Hp} {Q : Post} {l : Nat} {L : List UInt8}
end

/-! the parse -/
structure Pa where
  ks : List ByteArray
  vs : List ByteArray
  R : List UInt8
def takeE (leaf : Bool) : Nat → List UInt8 → List ByteArray → List ByteArray → Pa
  | 0, R, ks, vs => ⟨ks, vs, R⟩
  | n + 1, R, ks, vs => match leaf with
    | true => takeE leaf n (tkT (tkT R).2).2 (ks ++ [mkS (tkT R).1]) (vs ++ [mkS (tkT (tkT R).2).1])
    | false => takeE leaf n (tkT R).2 (ks ++ [mkS (tkT R).1]) vs
def takeK : Nat → List UInt8 → List Int → List Int
  | 0, _, ks => ks
  | n + 1, R, ks => takeK n (tkB R).2 (ks ++ [((tkB R).1 : Int)])
def pLeaf (L : List UInt8) : Bool := (tkB L).1 == 1
def pN (L : List UInt8) : Nat := min (tkB (tkB L).2).1 4
def pE (L : List UInt8) : Pa := takeE (pLeaf L) (pN L) (tkB (tkB L).2).2 [] []
def parse (L : List UInt8) : Pg := ⟨true, pLeaf L, (pE L).ks, (pE L).vs, match pLeaf L with | true => [] | false => takeK (pN L + 1) (pE L).R []⟩

end Go.Am
namespace Go.Am

structure GI (H0 H : Hp) (lt : Nat) (R : List UInt8) (a1 : Pl) (ks : List ByteArray) (a2 : Pl) (vs : List ByteArray) (a3 : Pl) (is : List Int) : Prop where
  pre : H0 <+: H
  row : H[lt]? = some (.row true tTaker [.str (mkS R)])
  o1 : Own H H0.length tS a1 ks.length (ks.map GV.str)
  o2 : Own H H0.length tS a2 vs.length (vs.map GV.str)
  o3 : Own H H0.length tI a3 is.length (is.map (GV.int .i64))
  d1 : a1 ≠ some (lt, 0)
  d2 : a2 ≠ some (lt, 0)
  d3 : a3 ≠ some (lt, 0)
  d12 : Dj a1 a2
  d13 : Dj a1 a3
  d23 : Dj a2 a3
  b : H0.length ≤ lt

section
variable {H0 H : Hp} {lt : Nat} {R : List UInt8} {a1 : Pl} {ks : List ByteArray} {a2 : Pl} {vs : List ByteArray} {a3 : Pl} {is : List Int}
theorem GI.turn (g : GI H0 H lt R a1 ks a2 vs a3 is) (R' : List UInt8) : GI H0 (H.set lt (.row true tTaker [.str (mkS R')])) lt R' a1 ks a2 vs a3 is :=
  ⟨pre_set g.pre g.b _, List.getElem?_set_self (List.getElem?_eq_some_iff.1 g.row).1, g.o1.set g.d1 _, g.o2.set g.d2 _, g.o3.set g.d3 _, g.d1, g.d2, g.d3, g.d12, g.d13, g.d23, g.b⟩
theorem GI.in_ (g : GI H0 H lt R a1 ks a2 vs a3 is) : lt < H.length := (List.getElem?_eq_some_iff.1 g.row).1
theorem GI.key (g : GI H0 H lt R a1 ks a2 vs a3 is) (s : ByteArray) (hk : ks.length ≤ 100) {K : Pl → Nat → Hp → Prop} (hK : ∀ a' H', GI H0 H' lt R a' (ks ++ [s]) a2 vs a3 is → K a' (ks.length + 1) H') : ap H tS 1 16 a1 ks.length [.str s] 1 K := by
  refine ap_own g.pre g.o1 rfl (by unfold Lim; omega) fun a' H' h1 h2 h3 => hK a' H' ?_
  refine ⟨h2.pre, by rw [h2.row lt g.in_ g.d1]; exact g.row, by simpa using h1, g.o2.after g.d12 h2, g.o3.after g.d13 h2, fun e => ?_, g.d2, g.d3, Dj.fresh g.o2 h3, Dj.fresh g.o3 h3, g.d23, g.b⟩
  have := h3 lt 0 e; have := g.in_; omega
theorem GI.val (g : GI H0 H lt R a1 ks a2 vs a3 is) (s : ByteArray) (hk : vs.length ≤ 100) {K : Pl → Nat → Hp → Prop} (hK : ∀ a' H', GI H0 H' lt R a1 ks a' (vs ++ [s]) a3 is → K a' (vs.length + 1) H') : ap H tS 1 16 a2 vs.length [.str s] 1 K := by
  refine ap_own g.pre g.o2 rfl (by unfold Lim; omega) fun a' H' h1 h2 h3 => hK a' H' ?_
  refine ⟨h2.pre, by rw [h2.row lt g.in_ g.d2]; exact g.row, g.o1.after g.d12.symm h2, by simpa using h1, g.o3.after g.d23 h2, g.d1, fun e => ?_, g.d3, (Dj.fresh g.o1 h3).symm, g.d13, Dj.fresh g.o3 h3, g.b⟩
  have := h3 lt 0 e; have := g.in_; omega
theorem GI.kid (g : GI H0 H lt R a1 ks a2 vs a3 is) (s : Int) (hk : is.length ≤ 1000) {K : Pl → Nat → Hp → Prop} (hK : ∀ a' H', GI H0 H' lt R a1 ks a2 vs a' (is ++ [s]) → K a' (is.length + 1) H') : ap H tI 1 8 a3 is.length [.int .i64 s] 1 K := by
  refine ap_own g.pre g.o3 rfl (by unfold Lim; omega) fun a' H' h1 h2 h3 => hK a' H' ?_
  refine ⟨h2.pre, by rw [h2.row lt g.in_ g.d3]; exact g.row, g.o1.after g.d13.symm h2, g.o2.after g.d23.symm h2, by simpa using h1, g.d1, g.d2, fun e => ?_, g.d12, (Dj.fresh g.o1 h3).symm, (Dj.fresh g.o2 h3).symm, g.b⟩
  have := h3 lt 0 e; have := g.in_; omega
theorem GI.pg (g : GI H0 H lt R a1 ks a2 vs a3 is) (u l : Bool) (h1 : ks.length ≤ 1000) (h2 : vs.length ≤ 1000) (h3 : is.length ≤ 1000) : PgOwn H H0.length u l a1 ks.length a2 vs.length a3 is.length ⟨u, l, ks, vs, is⟩ :=
  ⟨rfl, rfl, g.o1, g.o2, g.o3, g.d12, g.d13, g.d23, h1, h2, h3⟩
end

section
variable {H0 : Hp} {Q : Post} {s : ByteArray}

end
end Go.Am
namespace Go.Am

/-! images -/
abbrev IM := List (Int × ByteArray)
def imCells (xs : IM) : List GV := xs.flatMap fun x => [.int .i64 x.1, .str x.2]
theorem imCells_get {ps : IM} {i : Nat} (hi : i < ps.length) : (imCells ps)[i * 2]? = some (.int .i64 ps[i].1) ∧ (imCells ps)[i * 2 + 1]? = some (.str ps[i].2) := by
  unfold imCells
  induction ps generalizing i with
  | nil => simp at hi
  | cons c cs ih =>
    simp only [List.flatMap_cons]
    cases i with
    | zero => simp
    | succ i =>
      have := ih (i := i) (by simpa using hi)
      rw [List.getElem?_append_right (by simp; omega), List.getElem?_append_right (by simp; omega)]
      have e1 : (i + 1) * 2 - [GV.int .i64 c.1, GV.str c.2].length = i * 2 := by simp; omega
      have e2 : (i + 1) * 2 + 1 - [GV.int .i64 c.1, GV.str c.2].length = i * 2 + 1 := by simp; omega
      rw [e1, e2]
      simpa using this
structure Im (H : Hp) (a : Pl) (n : Nat) (ps : IM) : Prop where
  cells : cells? H a (n * 2) = some (imCells ps)
  len : ps.length = n
theorem Im.mono {H H' : Hp} (hp : H <+: H') {a : Pl} {n : Nat} {ps : IM} (h : Im H a n ps) : Im H' a n ps := ⟨cells_mono hp h.cells, h.len⟩
theorem Im.get {H : Hp} {a : Pl} {n : Nat} {ps : IM} (h : Im H a n ps) {i : Nat} (hi : i < ps.length) : ∃ l o, a = some (l, o) ∧ gt H l (o + i * 2) = some (.int .i64 ps[i].1) ∧ gt H l (o + i * 2 + 1) = some (.str ps[i].2) := by
  have hc := h.cells
  have hl := h.len
  cases a with
  | none => simp [cells?] at hc; omega
  | some q =>
    obtain ⟨l, o⟩ := q
    obtain ⟨k1, k2⟩ := imCells_get hi
    refine ⟨l, o, rfl, ?_, ?_⟩
    · rw [cells_get hc (by omega), k1]
    · rw [Nat.add_assoc, cells_get hc (by omega), k2]
/-- a page's text, empty where it may not be -/
def ptext (p : Pg) : ByteArray := match mayB_ p with
  | true => text p
  | false => mkS []
def ptx (T : List Pg) (i : Nat) : ByteArray := ptext (T[i]?.getD noPg)
def imgs (T : List Pg) (k : Nat) : IM := (List.range k).map fun i : Nat => ((i : Int), ptx T i)
@[simp] theorem imgs_length (T : List Pg) (k : Nat) : (imgs T k).length = k := by simp [imgs]
/-- texts laid over texts -/
def lay (L : List ByteArray) (ys : IM) : List ByteArray := ys.foldl (fun L y => L.set y.1.toNat y.2) L
@[simp] theorem lay_length (ys : IM) : ∀ L : List ByteArray, (lay L ys).length = L.length := by
  induction ys with
  | nil => intro L; rfl
  | cons y ys ih => intro L; show (lay (L.set _ _) ys).length = _; rw [ih]; simp
/-! facts -/
theorem nothing_no {p : Pg} (h : nothingB p = true) : p = noPg := by
  obtain ⟨u, l, ks, vs, is⟩ := p
  simp only [nothingB, Bool.and_eq_true, Bool.not_eq_true', List.isEmpty_iff] at h
  obtain ⟨rfl, rfl, rfl, rfl, rfl⟩ := h
  rfl
/-- each page of a sound tree may be, or is none -/
theorem SF.page {T : List Pg} {st : WS} (s : SF T st) {i : Nat} {p : Pg} (hp : T[i]? = some p) : mayB_ p = true ∧ p.used = true ∨ p = noPg := by
  cases hu : p.used with
  | true => exact .inl ⟨(s.used hp hu).2.1, rfl⟩
  | false =>
    refine .inr ?_
    obtain ⟨hi, _⟩ := List.getElem?_eq_some_iff.1 hp
    rcases rest_at s.rest hi hp with q | q
    · exfalso
      have hl := s.len
      have hm : st.met[i]? = some true := by
        rw [List.getElem?_eq_getElem (by rw [s.metlen]; omega)] at q ⊢
        simpa using q
      rcases (walkD_met T _ _ _ _ _ _ _ s.walk).2.2 i hm with h | ⟨r, hr, h1, h2⟩
      · rw [ws0_met i (by omega)] at h; cases h
      · rw [hp] at hr; cases hr
        rw [((mayB_iff _).1 h1).2.used] at hu; cases hu
    · exact nothing_no q
end Go.Am
namespace Go.Am

section
variable {H : Hp} {Q : Post} {x : Pl} {n : Nat} {cs : List PC} {T : List Pg}
/-! pagers -/
end
end Go.Am
namespace Go.Am

theorem PgOwn.pc {H : Hp} {b : Nat} {u l : Bool} {a1 : Pl} {n1 : Nat} {a2 : Pl} {n2 : Nat} {a3 : Pl} {n3 : Nat} {p : Pg} (h : PgOwn H b u l a1 n1 a2 n2 a3 n3 p) : (⟨u, l, a1, n1, a2, n2, a3, n3⟩ : PC).own H b p :=
  ⟨h.used, h.leaf, h.keys, h.vals, h.kids, fun l o o' e1 e2 => h.d12 l (h.keys.zero e1) (h.vals.zero e2), fun l o o' e1 e2 => h.d13 l (h.keys.zero e1) (h.kids.zero e2), fun l o o' e1 e2 => h.d23 l (h.vals.zero e1) (h.kids.zero e2)⟩
theorem Own.ge {H : Hp} {b : Nat} {t : TypeId} {a : Pl} {n : Nat} {cs : List GV} (h : Own H b t a n cs) {l o : Nat} (e : a = some (l, o)) : b ≤ l := by
  rcases h with ⟨q, _⟩ | ⟨m, q, hb, _⟩
  · rw [q] at e; cases e
  · rw [q] at e; cases e; exact hb
theorem PgOwn.fresh {H : Hp} {b : Nat} {u l : Bool} {a1 : Pl} {n1 : Nat} {a2 : Pl} {n2 : Nat} {a3 : Pl} {n3 : Nat} {p : Pg} (h : PgOwn H b u l a1 n1 a2 n2 a3 n3 p) : ∀ m, (⟨u, l, a1, n1, a2, n2, a3, n3⟩ : PC).on m → b ≤ m := by
  rintro m ⟨o, e | e | e⟩
  · exact h.keys.ge e
  · exact h.vals.ge e
  · exact h.kids.ge e

section
variable {H : Hp} {Q : Post} {x : Pl} {n : Nat} {L : List ByteArray} {z0 z1 z2 z3 : Int}
end
end Go.Am
namespace Go.Am

section
variable {T : List Pg}
def txs (T : List Pg) : List ByteArray := (List.range 48).map (ptx T)
@[simp] theorem txs_length : (txs T).length = 48 := by simp [txs]
theorem sound_pages (h : 0 < heightD T) : ∀ p ∈ T, mayB_ p = true ∨ p = noPg := fun p hp => by
  obtain ⟨st, s⟩ := SF.of h
  obtain ⟨i, hi, e⟩ := List.getElem_of_mem hp
  rcases s.page (List.getElem?_eq_some_iff.2 ⟨hi, e⟩) with q | q
  · exact .inl q.1
  · exact .inr q
end

section
variable {H : Hp} {Q : Post}
end
end Go.Am
namespace Go.Am

section
variable {H : Hp} {Q : Post}
end
end Go.Am
namespace Go.Am
/-! 101: slices.Clone[[]string,string] -/
def slices_Clone__string_string.cx : Cx := ⟨tys, [], [], [], [], noDyn, [.tmp 2]⟩
def slices_Clone__string_string : Sm := fun xs H Q => ∃ k, callK (slices_Clone__string_string.cx) Go.Proofs.Tryz.f101 k xs H Q
theorem slices_Clone__string_string_eq (k : Nat) (z0 : Pl) (z0n : Nat) (H : Hp) (Q : Post) : callK (slices_Clone__string_string.cx) Go.Proofs.Tryz.f101 (k + 1) [.g (.sl z0 z0n 1)] H Q = (
 bite (isNone z0)
 (Q (.g (.sl none 0 1)) H)
 (chk true (rdN H z0 (z0n * 1) fun c0 =>
  ap0 H 9 1 16 c0 z0n fun H1 =>
  Q (.g (.sl (some ((ln H), 0)) z0n 1)) H1))) := by kernel_rfl
theorem slices_Clone__string_string_ok : Sound Go.Proofs.Tryz.prog 101 (slices_Clone__string_string) := prog_ok.sound (cx := slices_Clone__string_string.cx) rfl (EnvOK.nil _) (noDyn_ok _) Go.Proofs.Tryz.func101 rfl

/-! 102: slices.Clone[[]int,int] -/
def slices_Clone__int_int.cx : Cx := ⟨tys, [], [], [], [], noDyn, [.tmp 2]⟩
def slices_Clone__int_int : Sm := fun xs H Q => ∃ k, callK (slices_Clone__int_int.cx) Go.Proofs.Tryz.f102 k xs H Q
theorem slices_Clone__int_int_eq (k : Nat) (z0 : Pl) (z0n : Nat) (H : Hp) (Q : Post) : callK (slices_Clone__int_int.cx) Go.Proofs.Tryz.f102 (k + 1) [.g (.sl z0 z0n 1)] H Q = (
 bite (isNone z0)
 (Q (.g (.sl none 0 1)) H)
 (chk true (rdN H z0 (z0n * 1) fun c0 =>
  ap0 H 3 1 8 c0 z0n fun H1 =>
  Q (.g (.sl (some ((ln H), 0)) z0n 1)) H1))) := by kernel_rfl
theorem slices_Clone__int_int_ok : Sound Go.Proofs.Tryz.prog 102 (slices_Clone__int_int) := prog_ok.sound (cx := slices_Clone__int_int.cx) rfl (EnvOK.nil _) (noDyn_ok _) Go.Proofs.Tryz.func102 rfl

/-! 83: cryostat/page.Copy -/
def page_Copy.cx : Cx := ⟨tys, [], [], [], [(101, slices_Clone__string_string), (102, slices_Clone__int_int)], noDyn, [.cell 2 75]⟩
def page_Copy : Sm := fun xs H Q => ∃ k, callK (page_Copy.cx) Go.Proofs.Tryz.f83 k xs H Q
theorem page_Copy_eq (k : Nat) (z0 : Bool) (z1 : Bool) (z2 : Pl) (z2n : Nat) (z3 : Pl) (z3n : Nat) (z4 : Pl) (z4n : Nat) (H : Hp) (Q : Post) : callK (page_Copy.cx) Go.Proofs.Tryz.f83 (k + 1) [.agg [.bool z0, .bool z1, .sl z2 z2n 1, .sl z3 z3n 1, .sl z4 z4n 1]] H Q = (
 cl slices_Clone__string_string [(.g (.sl z2 z2n 1))] H fun r0 H1 =>
 rG r0 fun v2 =>
 dL 1 v2 fun x3 n4 =>
 cl slices_Clone__string_string [(.g (.sl z3 z3n 1))] H1 fun r5 H6 =>
 rG r5 fun v7 =>
 dL 1 v7 fun x8 n9 =>
 cl slices_Clone__int_int [(.g (.sl z4 z4n 1))] H6 fun r10 H11 =>
 rG r10 fun v12 =>
 dL 1 v12 fun x13 n14 =>
 Q (.agg [(.bool z0), (.bool z1), (.sl x3 n4 1), (.sl x8 n9 1), (.sl x13 n14 1)]) H11) := by kernel_rfl
theorem page_Copy_ok : Sound Go.Proofs.Tryz.prog 83 (page_Copy) := prog_ok.sound (cx := page_Copy.cx) rfl (EnvOK.cons ((slices_Clone__string_string_ok).c ⟨_, Go.Proofs.Tryz.func101, by kernel_rfl, by kernel_rfl⟩) (EnvOK.cons ((slices_Clone__int_int_ok).c ⟨_, Go.Proofs.Tryz.func102, by kernel_rfl, by kernel_rfl⟩) (EnvOK.nil _))) (noDyn_ok _) Go.Proofs.Tryz.func83 rfl

/-! 52: cryostat/sound.Copy -/
def sound_Copy.cx : Cx := ⟨tys, [], [(3, [2, 3, 8, 9, 10])], [], [(83, page_Copy)], noDyn, [.cell 2 24]⟩
def sound_Copy : Sm := fun xs H Q => ∃ k, callK (sound_Copy.cx) Go.Proofs.Tryz.f52 k xs H Q
def sound_Copy.l3 (k : Nat) (ax0 : Pl) (nx1 : Nat) (ax2 : Pl) (nx3 : Nat) (xx4 : Pl) (nx5 : Nat) (ix6 : Int) (ix7 : Int) (H : Hp) (Q : Post) : Prop := loopK (sound_Copy.cx) Go.Proofs.Tryz.f52 3 k (.bad :: .bad :: (.bx [(.sl ax0 nx1 5)]) :: (.bx [(.sl ax2 nx3 5)]) :: B 4 ((.g (.sl xx4 nx5 5)) :: (.g (.int .i64 ix6)) :: (.g (.int .i64 ix7)) :: B 12 ([]))) H Q
theorem sound_Copy_eq (k : Nat) (z0 : Pl) (z0n : Nat) (H : Hp) (Q : Post) : callK (sound_Copy.cx) Go.Proofs.Tryz.f52 (k + 1) [.agg [.sl z0 z0n 5]] H Q = (
 sound_Copy.l3 k none 0 none 0 z0 z0n (nI z0n) 0 H Q) := by kernel_rfl
theorem sound_Copy.l3_eq (k : Nat) (ax0 : Pl) (nx1 : Nat) (ax2 : Pl) (nx3 : Nat) (xx4 : Pl) (nx5 : Nat) (ix6 : Int) (ix7 : Int) (H : Hp) (Q : Post) : sound_Copy.l3 (k + 1) ax0 nx1 ax2 nx3 xx4 nx5 ix6 ix7 H Q = (
 bite (ltI ix7 ix6)
 (chk true (chk ((leI 0 ix7) && (ltI ix7 (nI nx5))) (pS xx4 fun n0 n1 =>
  rd H n0 (n1 + ((tN ix7) * 5)) fun v2 =>
  dB v2 fun b3 =>
  rd H n0 ((n1 + ((tN ix7) * 5)) + 1) fun v4 =>
  dB v4 fun b5 =>
  rd H n0 (((n1 + ((tN ix7) * 5)) + 1) + 1) fun v6 =>
  dL 1 v6 fun x7 n8 =>
  rd H n0 ((((n1 + ((tN ix7) * 5)) + 1) + 1) + 1) fun v9 =>
  dL 1 v9 fun x10 n11 =>
  rd H n0 (((((n1 + ((tN ix7) * 5)) + 1) + 1) + 1) + 1) fun v12 =>
  dL 1 v12 fun x13 n14 =>
  cl page_Copy [(.agg [(.bool b3), (.bool b5), (.sl x7 n8 1), (.sl x10 n11 1), (.sl x13 n14 1)])] H fun r15 H16 =>
  rA r15 fun c17 =>
  uC c17 fun v18 c19 =>
  dB v18 fun b20 =>
  uC c19 fun v21 c22 =>
  dB v21 fun b23 =>
  uC c22 fun v24 c25 =>
  dL 1 v24 fun x26 n27 =>
  uC c25 fun v28 c29 =>
  dL 1 v28 fun x30 n31 =>
  uC c29 fun v32 c33 =>
  dL 1 v32 fun x34 n35 =>
  uN c33 (chk true (ap H16 75 5 80 ax2 nx3 [(.bool b20), (.bool b23), (.sl x26 n27 1), (.sl x30 n31 1), (.sl x34 n35 1)] 1 fun x36 n37 H38 =>
  sound_Copy.l3 k ax0 nx1 x36 n37 xx4 nx5 ix6 (wrapI .i64 (ix7 + 1)) H38 Q)))))
 (Q (.agg [(.sl ax2 nx3 5)]) H)) := by kernel_rfl
theorem sound_Copy_ok : Sound Go.Proofs.Tryz.prog 52 (sound_Copy) := prog_ok.sound (cx := sound_Copy.cx) rfl (EnvOK.cons ((page_Copy_ok).c ⟨_, Go.Proofs.Tryz.func83, by kernel_rfl, by kernel_rfl⟩) (EnvOK.nil _)) (noDyn_ok _) Go.Proofs.Tryz.func52 rfl

/-! 112: cryostat/node.Cut -/
def node_Cut.cx : Cx := ⟨tys, [], [], [], [(83, page_Copy)], noDyn, [.cell 4 75, .tmp 5, .cell 6 75]⟩
def node_Cut : Sm := fun xs H Q => ∃ k, callK (node_Cut.cx) Go.Proofs.Tryz.f112 k xs H Q
theorem node_Cut_eq (k : Nat) (z0 : Bool) (z1 : Bool) (z2 : Pl) (z2n : Nat) (z3 : Pl) (z3n : Nat) (z4 : Pl) (z4n : Nat) (z5 : Int) (H : Hp) (Q : Post) : callK (node_Cut.cx) Go.Proofs.Tryz.f112 (k + 1) [.agg [.bool z0, .bool z1, .sl z2 z2n 1, .sl z3 z3n 1, .sl z4 z4n 1], .g (.int .i64 z5)] H Q = (
 chk true (chk ((leI 0 z5) && (ltI z5 (nI z2n))) (pS z2 fun n0 n1 =>
 rd H n0 (n1 + ((tN z5) * 1)) fun v2 =>
 dS v2 fun s3 =>
 cl page_Copy [(.agg [(.bool z0), (.bool z1), (.sl z2 z2n 1), (.sl z3 z3n 1), (.sl z4 z4n 1)])] H fun r4 H5 =>
 rA r4 fun c6 =>
 uC c6 fun v7 c8 =>
 dB v7 fun b9 =>
 uC c8 fun v10 c11 =>
 dB v10 fun b12 =>
 uC c11 fun v13 c14 =>
 dL 1 v13 fun x15 n16 =>
 uC c14 fun v17 c18 =>
 dL 1 v17 fun x19 n20 =>
 uC c18 fun v21 c22 =>
 dL 1 v21 fun x23 n24 =>
 uN c22 (rd H5 n0 (n1 + ((tN z5) * 1)) fun v25 =>
 dS v25 fun s26 =>
 eqv (.g (.str s3)) (.g (.str s26)) (cl page_Copy [(.agg [(.bool z0), (.bool z1), (.sl z2 z2n 1), (.sl z3 z3n 1), (.sl z4 z4n 1)])] H5 fun r27 H28 =>
 rA r27 fun c29 =>
 uC c29 fun v30 c31 =>
 dB v30 fun b32 =>
 uC c31 fun v33 c34 =>
 dB v33 fun b35 =>
 uC c34 fun v36 c37 =>
 dL 1 v36 fun x38 n39 =>
 uC c37 fun v40 c41 =>
 dL 1 v40 fun x42 n43 =>
 uC c41 fun v44 c45 =>
 dL 1 v44 fun x46 n47 =>
 uN c45 (rd H28 n0 (n1 + ((tN z5) * 1)) fun v48 =>
 dS v48 fun s49 =>
 eqv (.g (.str s3)) (.g (.str s49)) (chk true (chk (leI 0 z5) (chk ((leN 0 (tN z5)) && ((leN (tN z5) n16) || (room H28 x15 ((tN z5) * 1)))) (bite z1
 (chk true (chk (leI 0 z5) (chk ((leN 0 (tN z5)) && ((leN (tN z5) n20) || (room H28 x19 ((tN z5) * 1)))) (chk true (chk (leI 0 z5) (chk (leN (tN z5) n39) (chk true (chk (leI 0 z5) (chk (leN (tN z5) n43) (Q (.tup [(.a [(.bool b9), (.bool b12), (.sl (shf x15 0) ((tN z5) - 0) 1), (.sl (shf x19 0) ((tN z5) - 0) 1), (.sl x23 n24 1)]), (.s (.str s3)), (.a [(.bool b32), (.bool b35), (.sl (shf x38 ((tN z5) * 1)) (n39 - (tN z5)) 1), (.sl (shf x42 ((tN z5) * 1)) (n43 - (tN z5)) 1), (.sl x46 n47 1)])]) H28))))))))))
 (chk true (chk (leI 0 (wrapI .i64 (z5 + 1))) (chk ((leN 0 (tN (wrapI .i64 (z5 + 1)))) && ((leN (tN (wrapI .i64 (z5 + 1))) n24) || (room H28 x23 ((tN (wrapI .i64 (z5 + 1))) * 1)))) (chk true (chk (leI 0 (wrapI .i64 (z5 + 1))) (chk (leN (tN (wrapI .i64 (z5 + 1))) n39) (chk true (chk (leI 0 (wrapI .i64 (z5 + 1))) (chk (leN (tN (wrapI .i64 (z5 + 1))) n47) (Q (.tup [(.a [(.bool b9), (.bool b12), (.sl (shf x15 0) ((tN z5) - 0) 1), (.sl x19 n20 1), (.sl (shf x23 0) ((tN (wrapI .i64 (z5 + 1))) - 0) 1)]), (.s (.str s3)), (.a [(.bool b32), (.bool b35), (.sl (shf x38 ((tN (wrapI .i64 (z5 + 1))) * 1)) (n39 - (tN (wrapI .i64 (z5 + 1)))) 1), (.sl x42 n43 1), (.sl (shf x46 ((tN (wrapI .i64 (z5 + 1))) * 1)) (n47 - (tN (wrapI .i64 (z5 + 1)))) 1)])]) H28)))))))))))))))))))) := by kernel_rfl
theorem node_Cut_ok : Sound Go.Proofs.Tryz.prog 112 (node_Cut) := prog_ok.sound (cx := node_Cut.cx) rfl (EnvOK.cons ((page_Copy_ok).c ⟨_, Go.Proofs.Tryz.func83, by kernel_rfl, by kernel_rfl⟩) (EnvOK.nil _)) (noDyn_ok _) Go.Proofs.Tryz.func112 rfl

end Go.Am
namespace Go.Am

/-! writing over -/
abbrev SRow (H : Hp) (l : Nat) (xs : List ByteArray) : Prop := H[l]? = some (.row true tS (xs.map GV.str))
abbrev IRow (H : Hp) (l : Nat) (xs : List Int) : Prop := H[l]? = some (.row true tI (xs.map (GV.int .i64)))
structure Wo (b hi d : Nat) (H H' : Hp) : Prop where
  len : H'.length = H.length
  low : ∀ l, ¬ (b ≤ l ∧ l < hi) → H'[l]? = H[l]?
  tx : ∀ l xs M, SRow H l xs → (∀ x ∈ xs, x.size ≤ M) → ∃ ys, SRow H' l ys ∧ ys.length = xs.length ∧ ∀ x ∈ ys, x.size ≤ M + d
  nu : ∀ l xs, IRow H l xs → ∃ ys, IRow H' l ys ∧ ys.length = xs.length
  pg : ∀ (l : Nat) (cs : List GV), H[l]? = some (Obj.row true tPg cs) → H'[l]? = some (Obj.row true tPg cs)
theorem Wo.refl (b hi d : Nat) (H : Hp) : Wo b hi d H H := ⟨rfl, fun _ _ => rfl, fun l xs M h hm => ⟨xs, h, rfl, fun x hx => by have := hm x hx; omega⟩, fun l xs h => ⟨xs, h, rfl⟩, fun _ _ h => h⟩
theorem Wo.trans {b hi d d' : Nat} {H H1 H2 : Hp} (h : Wo b hi d H H1) (h' : Wo b hi d' H1 H2) : Wo b hi (d + d') H H2 :=
  ⟨h'.len.trans h.len, fun l hl => (h'.low l hl).trans (h.low l hl), fun l xs M hr hm => by
    obtain ⟨ys, a1, a2, a3⟩ := h.tx l xs M hr hm
    obtain ⟨zs, b1, b2, b3⟩ := h'.tx l ys _ a1 a3
    exact ⟨zs, b1, by omega, fun x hx => by have := b3 x hx; omega⟩, fun l xs hr => by
    obtain ⟨ys, a1, a2⟩ := h.nu l xs hr
    obtain ⟨zs, b1, b2⟩ := h'.nu l ys a1
    exact ⟨zs, b1, by omega⟩, fun l cs hr => h'.pg l cs (h.pg l cs hr)⟩
theorem row_t {H : Hp} {l : Nat} {t t' : TypeId} {cs cs' : List GV} (h : H[l]? = some (.row true t cs)) (h' : H[l]? = some (.row true t' cs')) : t = t' ∧ cs = cs' := by
  rw [h] at h'; cases h'; exact ⟨rfl, rfl⟩
theorem str_inj {xs ys : List ByteArray} (h : xs.map GV.str = ys.map GV.str) : xs = ys := by
  have := congrArg (List.map fun | GV.str s => s | _ => mkS []) h
  simpa [List.map_map, Function.comp_def] using this
theorem int_inj {xs ys : List Int} (h : xs.map (GV.int .i64) = ys.map (GV.int .i64)) : xs = ys := by
  have := congrArg (List.map fun | GV.int _ s => s | _ => 0) h
  simpa [List.map_map, Function.comp_def] using this
theorem Wo.str {b hi : Nat} {H : Hp} {l j : Nat} {xs : List ByteArray} {s : ByteArray} (hb : b ≤ l ∧ l < hi) (h : SRow H l xs) (hs : ∀ M, (∀ x ∈ xs, x.size ≤ M) → s.size ≤ M + 1) : Wo b hi 1 H (H.set l (.row true tS ((xs.set j s).map GV.str))) := by
  have hl := (List.getElem?_eq_some_iff.1 h).1
  refine ⟨by simp, fun m hm => by rw [List.getElem?_set_ne]; omega, fun m ys M hr hm => ?_, fun m ys hr => ?_, fun m cs hr => ?_⟩
  · by_cases e : l = m
    · subst e
      obtain ⟨_, q⟩ := row_t h hr
      have q := str_inj q
      subst q
      refine ⟨_, List.getElem?_set_self hl, by simp, fun x hx => ?_⟩
      rcases List.mem_or_eq_of_mem_set hx with w | w
      · have := hm x w; omega
      · rw [w]; exact hs M hm
    · exact ⟨ys, by unfold SRow; rw [List.getElem?_set_ne e]; exact hr, rfl, fun x hx => by have := hm x hx; omega⟩
  · by_cases e : l = m
    · subst e
      have := (row_t h hr).1
      exact absurd this (by decide)
    · exact ⟨ys, by unfold IRow; rw [List.getElem?_set_ne e]; exact hr, rfl⟩
  · by_cases e : l = m
    · subst e
      have := (row_t h hr).1
      exact absurd this (by decide)
    · rw [List.getElem?_set_ne e]; exact hr
theorem Wo.int {b hi : Nat} {H : Hp} {l j : Nat} {xs : List Int} {s : Int} (hb : b ≤ l ∧ l < hi) (h : IRow H l xs) : Wo b hi 0 H (H.set l (.row true tI ((xs.set j s).map (GV.int .i64)))) := by
  have hl := (List.getElem?_eq_some_iff.1 h).1
  refine ⟨by simp, fun m hm => by rw [List.getElem?_set_ne]; omega, fun m ys M hr hm => ?_, fun m ys hr => ?_, fun m cs hr => ?_⟩
  · by_cases e : l = m
    · subst e
      have := (row_t h hr).1
      exact absurd this (by decide)
    · exact ⟨ys, by unfold SRow; rw [List.getElem?_set_ne e]; exact hr, rfl, hm⟩
  · by_cases e : l = m
    · subst e
      obtain ⟨_, q⟩ := row_t h hr
      have q := int_inj q
      subst q
      exact ⟨_, List.getElem?_set_self hl, by simp⟩
    · exact ⟨ys, by unfold IRow; rw [List.getElem?_set_ne e]; exact hr, rfl⟩
  · by_cases e : l = m
    · subst e
      have := (row_t h hr).1
      exact absurd this (by decide)
    · rw [List.getElem?_set_ne e]; exact hr

/-- a slice that may be written over -/
def TxR (H : Hp) (b M : Nat) (a : Pl) (n : Nat) : Prop := n = 0 ∨ ∃ l o xs, a = some (l, o) ∧ b ≤ l ∧ SRow H l xs ∧ o + n ≤ xs.length ∧ ∀ x ∈ xs, x.size ≤ M
def NuR (H : Hp) (b : Nat) (a : Pl) (n : Nat) : Prop := n = 0 ∨ ∃ l o xs, a = some (l, o) ∧ b ≤ l ∧ IRow H l xs ∧ o + n ≤ xs.length
structure WoP (H : Hp) (b M : Nat) (c : PC) : Prop where
  t1 : TxR H b M c.a1 c.n1
  t2 : TxR H b M c.a2 c.n2
  t3 : NuR H b c.a3 c.n3
  s1 : c.n1 ≤ 1000
  s2 : c.n2 ≤ 1000
  s3 : c.n3 ≤ 1000
/-- a slice that may be written over -/
def TxS (H : Hp) (b hi M : Nat) (a : Pl) (n : Nat) : Prop := n = 0 ∨ ∃ l o xs, a = some (l, o) ∧ (b ≤ l ∧ l < hi) ∧ SRow H l xs ∧ o + n ≤ xs.length ∧ ∀ x ∈ xs, x.size ≤ M
def NuS (H : Hp) (b hi : Nat) (a : Pl) (n : Nat) : Prop := n = 0 ∨ ∃ l o xs, a = some (l, o) ∧ (b ≤ l ∧ l < hi) ∧ IRow H l xs ∧ o + n ≤ xs.length
theorem TxS.on {H H' : Hp} {b hi d M : Nat} {a : Pl} {n : Nat} (h : TxS H b hi M a n) (w : Wo b hi d H H') : TxS H' b hi (M + d) a n := by
  rcases h with h | ⟨l, o, xs, e, hb, hr, hl, hm⟩
  · exact .inl h
  · obtain ⟨ys, q1, q2, q3⟩ := w.tx l xs M hr hm
    exact .inr ⟨l, o, ys, e, hb, q1, by omega, q3⟩
theorem NuS.on {H H' : Hp} {b hi d : Nat} {a : Pl} {n : Nat} (h : NuS H b hi a n) (w : Wo b hi d H H') : NuS H' b hi a n := by
  rcases h with h | ⟨l, o, xs, e, hb, hr, hl⟩
  · exact .inl h
  · obtain ⟨ys, q1, q2⟩ := w.nu l xs hr
    exact .inr ⟨l, o, ys, e, hb, q1, by omega⟩
theorem TxS.big {H : Hp} {b hi M M' : Nat} {a : Pl} {n : Nat} (h : TxS H b hi M a n) (hM : M ≤ M') : TxS H b hi M' a n := by
  rcases h with h | ⟨l, o, xs, e, hb, hr, hl, hm⟩
  · exact .inl h
  · exact .inr ⟨l, o, xs, e, hb, hr, hl, fun x hx => Nat.le_trans (hm x hx) hM⟩

section
variable {H : Hp} {Q : Post} {b hi M : Nat} {a : Pl} {n : Nat}
/-- a page that may be written over -/
structure WoS (H : Hp) (b hi M : Nat) (c : PC) : Prop where
  t1 : TxS H b hi M c.a1 c.n1
  t2 : TxS H b hi M c.a2 c.n2
  t3 : NuS H b hi c.a3 c.n3
  s1 : c.n1 ≤ 1000
  s2 : c.n2 ≤ 1000
  s3 : c.n3 ≤ 1000
theorem WoS.on {c : PC} {H' : Hp} {d : Nat} (h : WoS H b hi M c) (w : Wo b hi d H H') : WoS H' b hi (M + d) c := ⟨h.t1.on w, h.t2.on w, h.t3.on w, h.s1, h.s2, h.s3⟩
theorem WoS.big {c : PC} {M' : Nat} (h : WoS H b hi M c) (hM : M ≤ M') : WoS H b hi M' c := ⟨h.t1.big hM, h.t2.big hM, h.t3, h.s1, h.s2, h.s3⟩
theorem Wo.big {H' : Hp} {d d' : Nat} (w : Wo b hi d H H') (hd : d ≤ d') : Wo b hi d' H H' :=
  ⟨w.len, w.low, fun l xs M hr hm => by obtain ⟨ys, q1, q2, q3⟩ := w.tx l xs M hr hm; exact ⟨ys, q1, q2, fun x hx => by have := q3 x hx; omega⟩, w.nu, w.pg⟩
end
end Go.Am
namespace Go.Am

section
variable {H : Hp} {Q : Post} {a : Pl} {n : Nat}
theorem clone_str {xs : List ByteArray} (h : Ss H a n xs) (hQ : ∀ a' H', H <+: H' → Own H' H.length tS a' n (xs.map GV.str) → (∀ l o, a' = some (l, o) → l < H'.length) → Q (.g (.sl a' n 1)) H') : slices_Clone__string_string [.g (.sl a n 1)] H Q := by
  have hn := h.len
  have hl := h.lim
  refine ⟨1, ?_⟩
  rw [slices_Clone__string_string_eq]
  refine bite_of (fun e => ?_) (fun e => ?_)
  · cases a with
    | some p => cases e
    | none =>
      have hc := h.cells
      simp [cells?] at hc
      obtain ⟨h1, h2⟩ := hc
      subst h2; subst h1
      exact hQ none H (List.prefix_refl _) (.inl ⟨rfl, rfl, rfl⟩) (fun _ _ e => (by cases e))
  · rw [chk_true, Nat.mul_one, rdN_of h.cells]
    refine ap0_of (by unfold Lim; omega) (by simp [hn]) ?_
    exact hQ _ _ (pre_pu _ _) (.inr ⟨_, rfl, Nat.le_refl _, by simp, by simp [hn]⟩) (fun _ _ e => (by cases e; simp))
theorem clone_int {xs : List Int} (h : Is H a n xs) (hQ : ∀ a' H', H <+: H' → Own H' H.length tI a' n (xs.map (GV.int .i64)) → (∀ l o, a' = some (l, o) → l < H'.length) → Q (.g (.sl a' n 1)) H') : slices_Clone__int_int [.g (.sl a n 1)] H Q := by
  have hn := h.len
  have hl := h.lim
  refine ⟨1, ?_⟩
  rw [slices_Clone__int_int_eq]
  refine bite_of (fun e => ?_) (fun e => ?_)
  · cases a with
    | some p => cases e
    | none =>
      have hc := h.cells
      simp [cells?] at hc
      obtain ⟨h1, h2⟩ := hc
      subst h2; subst h1
      exact hQ none H (List.prefix_refl _) (.inl ⟨rfl, rfl, rfl⟩) (fun _ _ e => (by cases e))
  · rw [chk_true, Nat.mul_one, rdN_of h.cells]
    refine ap0_of (by unfold Lim; omega) (by simp [hn]) ?_
    exact hQ _ _ (pre_pu _ _) (.inr ⟨_, rfl, Nat.le_refl _, by simp, by simp [hn]⟩) (fun _ _ e => (by cases e; simp))
end
section
variable {H : Hp} {Q : Post} {u l : Bool} {a1 : Pl} {n1 : Nat} {a2 : Pl} {n2 : Nat} {a3 : Pl} {n3 : Nat} {p : Pg} {u' l' : Bool} {b1 : Pl} {m1 : Nat} {b2 : Pl} {m2 : Nat} {b3 : Pl} {m3 : Nat} {q : Pg} {key : ByteArray}
theorem page_Copy_spec (h : PgAt H u l a1 n1 a2 n2 a3 n3 p) (hs : n1 ≤ 1000 ∧ n2 ≤ 1000 ∧ n3 ≤ 1000)
    (hQ : ∀ a1 a2 a3 H', H <+: H' → PgOwn H' H.length u l a1 n1 a2 n2 a3 n3 p → Q (.agg [.bool u, .bool l, .sl a1 n1 1, .sl a2 n2 1, .sl a3 n3 1]) H') :
    page_Copy [.agg [.bool u, .bool l, .sl a1 n1 1, .sl a2 n2 1, .sl a3 n3 1]] H Q := by
  refine ⟨1, ?_⟩
  rw [page_Copy_eq]
  refine clone_str h.keys fun b1 H1 p1 o1 _ => ?_
  simp only [rG_g, dL_sl]
  refine clone_str (h.vals.mono p1) fun b2 H2 p2 o2 _ => ?_
  simp only [rG_g, dL_sl]
  refine clone_int (h.kids.mono (p1.trans p2)) fun b3 H3 p3 o3 _ => ?_
  simp only [rG_g, dL_sl]
  refine hQ _ _ _ _ (p1.trans (p2.trans p3)) ⟨h.used, h.leaf, o1.mono (p2.trans p3), (o2.base p1.length_le).mono p3, o3.base (p1.trans p2).length_le, fun m e1 e2 => ?_, fun m e1 e2 => ?_, fun m e1 e2 => ?_, hs⟩
  · have := o1.lt' e1; have := o2.ge e2; omega
  · have := o1.lt' e1; have := o3.ge e2; have := p2.length_le; omega
  · have := o2.lt' e1; have := o3.ge e2; omega
theorem PgOwn.base {b b' : Nat} (h : PgOwn H b u l a1 n1 a2 n2 a3 n3 p) (hb : b' ≤ b) : PgOwn H b' u l a1 n1 a2 n2 a3 n3 p :=
  ⟨h.used, h.leaf, h.keys.base hb, h.vals.base hb, h.kids.base hb, h.d12, h.d13, h.d23, h.small⟩

end
end Go.Am
namespace Go.Am

theorem TxR.of_own {H : Hp} {b : Nat} {a : Pl} {n : Nat} {xs : List ByteArray} {M : Nat} (h : Own H b tS a n (xs.map GV.str)) (hs : ∀ s ∈ xs, s.size ≤ M) : TxR H b M a n := by
  rcases h with ⟨_, q, _⟩ | ⟨l, e, hb, hr, hl⟩
  · exact .inl q
  · exact .inr ⟨l, 0, _, e, hb, hr, by simp at hl; omega, hs⟩
theorem NuR.of_own {H : Hp} {b : Nat} {a : Pl} {n : Nat} {xs : List Int} (h : Own H b tI a n (xs.map (GV.int .i64))) : NuR H b a n := by
  rcases h with ⟨_, q, _⟩ | ⟨l, e, hb, hr, hl⟩
  · exact .inl q
  · exact .inr ⟨l, 0, _, e, hb, hr, by simp at hl; omega⟩
theorem TxR.part {H : Hp} {b : Nat} {a : Pl} {n M : Nat} (h : TxR H b M a n) (k m : Nat) (hm : k + m ≤ n) : TxR H b M (shf a k) m := by
  rcases h with q | ⟨l, o, xs, e, hb, hr, hl, hs⟩
  · exact .inl (by omega)
  · exact .inr ⟨l, o + k, xs, by rw [e]; rfl, hb, hr, by omega, hs⟩
theorem NuR.part {H : Hp} {b : Nat} {a : Pl} {n : Nat} (h : NuR H b a n) (k m : Nat) (hm : k + m ≤ n) : NuR H b (shf a k) m := by
  rcases h with q | ⟨l, o, xs, e, hb, hr, hl⟩
  · exact .inl (by omega)
  · exact .inr ⟨l, o + k, xs, by rw [e]; rfl, hb, hr, by omega⟩
theorem TxR.base {H : Hp} {b b' : Nat} {a : Pl} {n M : Nat} (h : TxR H b M a n) (hb' : b' ≤ b) : TxR H b' M a n := by
  rcases h with q | ⟨l, o, xs, e, hb, hr, hl, hs⟩
  · exact .inl q
  · exact .inr ⟨l, o, xs, e, by omega, hr, hl, hs⟩
theorem NuR.base {H : Hp} {b b' : Nat} {a : Pl} {n : Nat} (h : NuR H b a n) (hb' : b' ≤ b) : NuR H b' a n := by
  rcases h with q | ⟨l, o, xs, e, hb, hr, hl⟩
  · exact .inl q
  · exact .inr ⟨l, o, xs, e, by omega, hr, hl⟩
theorem WoP.base {H : Hp} {b b' M : Nat} {c : PC} (h : WoP H b M c) (hb : b' ≤ b) : WoP H b' M c := ⟨h.t1.base hb, h.t2.base hb, h.t3.base hb, h.s1, h.s2, h.s3⟩
/-- small pages -/
def small (p : Pg) : Prop := (∀ s ∈ p.keys, s.size ≤ 1000) ∧ (∀ s ∈ p.vals, s.size ≤ 1000) ∧ p.keys.length ≤ 1000 ∧ p.vals.length ≤ 1000 ∧ p.kids.length ≤ 1000
theorem small_may {p : Pg} (h : MayP p) : small p := by
  have hk := kids_le h
  have h1 := h.1
  refine ⟨fun s hs => by have := (h.2.keys s hs).2; omega, fun s hs => ?_, by omega, ?_, by omega⟩
  · cases hl : p.leaf with
    | true => have := (h.2.leaf hl).2.2 s hs; omega
    | false => rw [(h.2.inner hl).2.1] at hs; cases hs
  · cases hl : p.leaf with
    | true => have := (h.2.leaf hl).1; omega
    | false => rw [(h.2.inner hl).2.1]; simp
theorem small_no : small noPg := by simp [small, noPg]
theorem small_sound {T : List Pg} (h : 0 < heightD T) : ∀ p ∈ T, small p := fun p hp => by
  rcases sound_pages h p hp with q | rfl
  · exact small_may ((mayB_iff p).1 q)
  · exact small_no
theorem PC.own.wo {H : Hp} {b : Nat} {c : PC} {p : Pg} (h : c.own H b p) (hat : c.at H p) (hs : small p) : WoP H b 1000 c := by
  obtain ⟨s1, s2, s3, s4, s5⟩ := hs
  have e1 := hat.keys.len
  have e2 := hat.vals.len
  have e3 := hat.kids.len
  exact ⟨.of_own h.keys s1, .of_own h.vals s2, .of_own h.kids, by omega, by omega, by omega⟩

/-! cut -/
def cutL (p : Pg) (k : Nat) : Pg := match p.leaf with
  | true => ⟨p.used, true, p.keys.take k, p.vals.take k, p.kids⟩
  | false => ⟨p.used, false, p.keys.take k, p.vals, p.kids.take (k + 1)⟩
def cutR (p : Pg) (k : Nat) : Pg := match p.leaf with
  | true => ⟨p.used, true, p.keys.drop k, p.vals.drop k, p.kids⟩
  | false => ⟨p.used, false, p.keys.drop (k + 1), p.vals, p.kids.drop (k + 1)⟩
theorem on_shf {a : Pl} {k l o : Nat} (h : shf a k = some (l, o)) : ∃ o', a = some (l, o') := by
  cases a with
  | none => cases h
  | some q => obtain ⟨m, o'⟩ := q; simp [shf] at h; exact ⟨o', by rw [h.1]⟩
theorem Ss.nth {H : Hp} {a : Pl} {n : Nat} {xs : List ByteArray} (h : Ss H a n xs) {k : Nat} (hk : k < xs.length) : ∃ l o, a = some (l, o) ∧ gt H l (o + k) = some (.str xs[k]) := by
  have hc := h.cells
  have hl := h.len
  cases a with
  | none => simp [cells?] at hc; omega
  | some q =>
    obtain ⟨l, o⟩ := q
    exact ⟨l, o, rfl, by rw [cells_get hc (by omega)]; simp [hk]⟩
theorem Is.part' {H : Hp} {a : Pl} {n : Nat} {xs : List Int} (h : Is H a n xs) (k m : Nat) (hm : k + m ≤ n) : Is H (shf a k) m ((xs.drop k).take m) := by
  have hl := h.len
  have hlim := h.lim
  exact ⟨by have := cells_part h.cells k m hm; simpa [List.map_drop, List.map_take] using this, by simp; omega, by omega⟩

section
variable {H : Hp} {Q : Post} {u l : Bool} {a1 : Pl} {n1 : Nat} {a2 : Pl} {n2 : Nat} {a3 : Pl} {n3 : Nat} {p : Pg}
set_option maxRecDepth 10000 in
theorem node_Cut_at (h : PgAt H u l a1 n1 a2 n2 a3 n3 p) (hs : small p) {k : Nat} (hk : k < p.keys.length) (hL : p.leaf = true → p.vals.length = p.keys.length) (hI : p.leaf = false → p.kids.length = p.keys.length + 1)
    (hQ : ∀ (c d : PC) H', H <+: H' → c.at H' (cutL p k) → d.at H' (cutR p k) → WoP H' H.length 1000 c → WoP H' H.length 1000 d → (∀ m, c.on m → H.length ≤ m ∧ ¬ d.on m) → (∀ m, d.on m → H.length ≤ m) →
      Q (.tup [.a [.bool c.u, .bool c.l, .sl c.a1 c.n1 1, .sl c.a2 c.n2 1, .sl c.a3 c.n3 1], .s (.str p.keys[k]), .a [.bool d.u, .bool d.l, .sl d.a1 d.n1 1, .sl d.a2 d.n2 1, .sl d.a3 d.n3 1]]) H') :
    node_Cut [.agg [.bool u, .bool l, .sl a1 n1 1, .sl a2 n2 1, .sl a3 n3 1], .g (.int .i64 (k : Int))] H Q := by
  have e1 := h.keys.len
  have e2 := h.vals.len
  have e3 := h.kids.len
  have hu := h.used
  have hl := h.leaf
  have hs' := hs
  obtain ⟨s1, s2, s3, s4, s5⟩ := hs'
  have etN : tN (k : Int) = k := rfl
  refine ⟨1, ?_⟩
  rw [node_Cut_eq]
  obtain ⟨m, o, rfl, hg⟩ := h.keys.nth hk
  rw [chk_true]
  refine chk_of (by simp; omega) ?_
  rw [pS_some, etN, Nat.mul_one, rd_of hg, dS_str]
  refine page_Copy_spec h (by omega) fun x1 x2 x3 H1 p1 o1 => ?_
  simp only [rA_agg, uC_cons, dB_bool, dL_sl, uN_nil]
  rw [rd_of (gt_pre p1 hg), dS_str]
  refine ⟨rfl, ?_⟩
  refine page_Copy_spec (h.mono p1) (by omega) fun y1 y2 y3 H2 p2 o2 => ?_
  simp only [rA_agg, uC_cons, dB_bool, dL_sl, uN_nil]
  rw [rd_of (gt_pre (p1.trans p2) hg), dS_str]
  refine ⟨rfl, ?_⟩
  rw [chk_true]
  refine chk_of (by simp) (chk_of (by simp; omega) ?_)
  have A := (o1.mono p2).at
  have B := o2.at
  have wA : WoP H2 H.length 1000 ⟨u, l, x1, n1, x2, n2, x3, n3⟩ := (o1.mono p2).pc.wo A hs
  have wB : WoP H2 H.length 1000 ⟨u, l, y1, n1, y2, n2, y3, n3⟩ := (o2.pc.wo B hs).base p1.length_le
  have onA : ∀ m, (⟨u, l, x1, n1, x2, n2, x3, n3⟩ : PC).on m → H.length ≤ m ∧ m < H1.length := fun m hm => ⟨o1.fresh m hm, PC.at.lt (c := ⟨u, l, x1, n1, x2, n2, x3, n3⟩) o1.at hm⟩
  have onB : ∀ m, (⟨u, l, y1, n1, y2, n2, y3, n3⟩ : PC).on m → H1.length ≤ m := o2.fresh
  have hp1 := p1.length_le
  cases l with
  | true =>
    have hv := hL hl
    rw [bite_true, chk_true]
    refine chk_of (by simp) (chk_of (by simp; omega) ?_)
    rw [chk_true]
    refine chk_of (by simp) (chk_of (by simp; omega) ?_)
    rw [chk_true]
    refine chk_of (by simp) (chk_of (by simp; omega) ?_)
    have eA : cutL p k = ⟨p.used, true, p.keys.take k, p.vals.take k, p.kids⟩ := by unfold cutL; rw [hl]
    have eB : cutR p k = ⟨p.used, true, p.keys.drop k, p.vals.drop k, p.kids⟩ := by unfold cutR; rw [hl]
    rw [Nat.sub_zero]
    refine hQ ⟨u, true, shf x1 0, k, shf x2 0, k, x3, n3⟩ ⟨u, true, shf y1 k, n1 - k, shf y2 k, n2 - k, y3, n3⟩ H2 (p1.trans p2) ?_ ?_ ?_ ?_ ?_ ?_
    · rw [eA]
      have q1 := A.keys.part 0 k (by omega)
      have q2 := A.vals.part 0 k (by omega)
      rw [List.drop_zero] at q1 q2
      exact ⟨hu, rfl, q1, q2, A.kids⟩
    · rw [eB]
      have q1 := B.keys.part k (n1 - k) (by omega)
      have q2 := B.vals.part k (n2 - k) (by omega)
      rw [List.take_of_length_le (by simp; omega)] at q1 q2
      exact ⟨hu, rfl, q1, q2, B.kids⟩
    · exact ⟨wA.t1.part 0 k (by show 0 + k ≤ n1; omega), wA.t2.part 0 k (by show 0 + k ≤ n2; omega), wA.t3, by show k ≤ 1000; omega, by show k ≤ 1000; omega, wA.s3⟩
    · exact ⟨wB.t1.part k _ (by show k + (n1 - k) ≤ n1; omega), wB.t2.part k _ (by show k + (n2 - k) ≤ n2; omega), wB.t3, by show n1 - k ≤ 1000; omega, by show n2 - k ≤ 1000; omega, wB.s3⟩
    · intro m' hm'
      obtain ⟨o', q⟩ := hm'
      have hA : (⟨u, true, x1, n1, x2, n2, x3, n3⟩ : PC).on m' := by
        rcases q with q | q | q
        · obtain ⟨o'', q⟩ := on_shf q; exact ⟨o'', .inl q⟩
        · obtain ⟨o'', q⟩ := on_shf q; exact ⟨o'', .inr (.inl q)⟩
        · exact ⟨o', .inr (.inr q)⟩
      have := onA m' hA
      refine ⟨this.1, fun hd => ?_⟩
      obtain ⟨o', q⟩ := hd
      have hB : (⟨u, true, y1, n1, y2, n2, y3, n3⟩ : PC).on m' := by
        rcases q with q | q | q
        · obtain ⟨o'', q⟩ := on_shf q; exact ⟨o'', .inl q⟩
        · obtain ⟨o'', q⟩ := on_shf q; exact ⟨o'', .inr (.inl q)⟩
        · exact ⟨o', .inr (.inr q)⟩
      have := onB m' hB
      omega
    · intro m' hm'
      obtain ⟨o', q⟩ := hm'
      have hB : (⟨u, true, y1, n1, y2, n2, y3, n3⟩ : PC).on m' := by
        rcases q with q | q | q
        · obtain ⟨o'', q⟩ := on_shf q; exact ⟨o'', .inl q⟩
        · obtain ⟨o'', q⟩ := on_shf q; exact ⟨o'', .inr (.inl q)⟩
        · exact ⟨o', .inr (.inr q)⟩
      have := onB m' hB
      omega
  | false =>
    have hv := hI hl
    rw [bite_false, wrap_succ (by omega)]
    have etN1 : tN ((k + 1 : Nat) : Int) = k + 1 := rfl
    rw [chk_true]
    refine chk_of (by simp; omega) (chk_of (by simp; omega) ?_)
    rw [chk_true]
    refine chk_of (by simp; omega) (chk_of (by simp; omega) ?_)
    rw [chk_true]
    refine chk_of (by simp; omega) (chk_of (by simp; omega) ?_)
    have eA : cutL p k = ⟨p.used, false, p.keys.take k, p.vals, p.kids.take (k + 1)⟩ := by unfold cutL; rw [hl]
    have eB : cutR p k = ⟨p.used, false, p.keys.drop (k + 1), p.vals, p.kids.drop (k + 1)⟩ := by unfold cutR; rw [hl]
    rw [etN1, Nat.mul_one, Nat.sub_zero, Nat.sub_zero]
    refine hQ ⟨u, false, shf x1 0, k, x2, n2, shf x3 0, k + 1⟩ ⟨u, false, shf y1 (k + 1), n1 - (k + 1), y2, n2, shf y3 (k + 1), n3 - (k + 1)⟩ H2 (p1.trans p2) ?_ ?_ ?_ ?_ ?_ ?_
    · rw [eA]
      have q1 := A.keys.part 0 k (by omega)
      have q2 := A.kids.part' 0 (k + 1) (by omega)
      rw [List.drop_zero] at q1 q2
      exact ⟨hu, rfl, q1, A.vals, q2⟩
    · rw [eB]
      have q1 := B.keys.part (k + 1) (n1 - (k + 1)) (by omega)
      have q2 := B.kids.part' (k + 1) (n3 - (k + 1)) (by omega)
      rw [List.take_of_length_le (by simp; omega)] at q1 q2
      exact ⟨hu, rfl, q1, B.vals, q2⟩
    · exact ⟨wA.t1.part 0 k (by show 0 + k ≤ n1; omega), wA.t2, wA.t3.part 0 (k + 1) (by show 0 + (k + 1) ≤ n3; omega), by show k ≤ 1000; omega, wA.s2, by show k + 1 ≤ 1000; omega⟩
    · exact ⟨wB.t1.part (k + 1) _ (by show k + 1 + (n1 - (k + 1)) ≤ n1; omega), wB.t2, wB.t3.part (k + 1) _ (by show k + 1 + (n3 - (k + 1)) ≤ n3; omega), by show n1 - (k + 1) ≤ 1000; omega, wB.s2, by show n3 - (k + 1) ≤ 1000; omega⟩
    · intro m' hm'
      obtain ⟨o', q⟩ := hm'
      have hA : (⟨u, false, x1, n1, x2, n2, x3, n3⟩ : PC).on m' := by
        rcases q with q | q | q
        · obtain ⟨o'', q⟩ := on_shf q; exact ⟨o'', .inl q⟩
        · exact ⟨o', .inr (.inl q)⟩
        · obtain ⟨o'', q⟩ := on_shf q; exact ⟨o'', .inr (.inr q)⟩
      have := onA m' hA
      refine ⟨this.1, fun hd => ?_⟩
      obtain ⟨o', q⟩ := hd
      have hB : (⟨u, false, y1, n1, y2, n2, y3, n3⟩ : PC).on m' := by
        rcases q with q | q | q
        · obtain ⟨o'', q⟩ := on_shf q; exact ⟨o'', .inl q⟩
        · exact ⟨o', .inr (.inl q)⟩
        · obtain ⟨o'', q⟩ := on_shf q; exact ⟨o'', .inr (.inr q)⟩
      have := onB m' hB
      omega
    · intro m' hm'
      obtain ⟨o', q⟩ := hm'
      have hB : (⟨u, false, y1, n1, y2, n2, y3, n3⟩ : PC).on m' := by
        rcases q with q | q | q
        · obtain ⟨o'', q⟩ := on_shf q; exact ⟨o'', .inl q⟩
        · exact ⟨o', .inr (.inl q)⟩
        · obtain ⟨o'', q⟩ := on_shf q; exact ⟨o'', .inr (.inr q)⟩
      have := onB m' hB
      omega

/-! delete -/
end
end Go.Am
namespace Go.Am

/-! kids, taken apart -/
section
variable {R R' : Nat → List Nat → KV → Prop}
/-- kids ahead of a place, each with the key behind it -/
def PreR (R : Nat → List Nat → KV → Prop) : List Int → List ByteArray → List Nat → KV → Prop
  | [], [], P, ps => P = [] ∧ ps = []
  | k :: ks, s :: ss, P, ps => ∃ P1 ps1 P2 ps2, R k.toNat P1 ps1 ∧ PreR R ks ss P2 ps2 ∧ P = P1 ++ P2 ∧ ps = ps1 ++ ps2 ∧ (∀ x ∈ ps1, blt x.1 s = true) ∧ (∀ y ∈ ps2, blt y.1 s = false)
  | [], _ :: _, _, _ => False
  | _ :: _, [], _, _ => False
/-- kids behind a place, each with the key ahead of it -/
def SufR (R : Nat → List Nat → KV → Prop) (kc : List Int) (sc : List ByteArray) (P : List Nat) (ps : KV) : Prop := match sc with
  | [] => kc = [] ∧ P = [] ∧ ps = []
  | s :: sc => KidsR R kc sc P ps ∧ ∀ y ∈ ps, blt y.1 s = false
theorem KidsR.split {rest : List Int} {ss : List ByteArray} : ∀ {ka : List Int} {sa : List ByteArray} {P : List Nat} {ps : KV}, ka.length = sa.length → rest ≠ [] → KidsR R (ka ++ rest) (sa ++ ss) P ps →
    ∃ PA psA P2 ps2, PreR R ka sa PA psA ∧ KidsR R rest ss P2 ps2 ∧ P = PA ++ P2 ∧ ps = psA ++ ps2 ∧ ∀ s ∈ sa, ∀ y ∈ ps2, blt y.1 s = false
  | [], [], P, ps, _, _, h => ⟨[], [], P, ps, ⟨rfl, rfl⟩, h, rfl, rfl, fun s hs => by cases hs⟩
  | k :: ka, s :: sa, P, ps, hl, hr, h => by
    obtain ⟨P1, ps1, P2, ps2, h1, h2, e1, e2, h3, h4⟩ := h
    obtain ⟨PA, psA, P3, ps3, q1, q2, q3, q4, q5⟩ := KidsR.split (ka := ka) (sa := sa) (by simpa using hl) hr h2
    subst e1; subst e2; subst q3; subst q4
    refine ⟨P1 ++ PA, ps1 ++ psA, P3, ps3, ⟨P1, ps1, PA, psA, h1, q1, rfl, rfl, h3, fun y hy => h4 y (by simp [hy])⟩, q2, by simp, by simp, fun t ht y hy => ?_⟩
    rcases List.mem_cons.1 ht with e | e
    · rw [e]; exact h4 y (by simp [hy])
    · exact q5 t e y hy
theorem PreR.glue {rest : List Int} {ss : List ByteArray} {P2 : List Nat} {ps2 : KV} : ∀ {ka : List Int} {sa : List ByteArray} {PA : List Nat} {psA : KV}, PreR R ka sa PA psA → KidsR R rest ss P2 ps2 → (∀ s ∈ sa, ∀ y ∈ ps2, blt y.1 s = false) →
    KidsR R (ka ++ rest) (sa ++ ss) (PA ++ P2) (psA ++ ps2)
  | [], [], _, _, h, h2, _ => by rw [h.1, h.2]; exact h2
  | k :: ka, s :: sa, PA, psA, h, h2, h3 => by
    obtain ⟨P1, ps1, P3, ps3, q1, q2, e1, e2, q3, q4⟩ := h
    subst e1; subst e2
    refine ⟨P1, ps1, P3 ++ P2, ps3 ++ ps2, q1, PreR.glue q2 h2 (fun t ht => h3 t (by simp [ht])), by simp, by simp, q3, fun y hy => ?_⟩
    rcases List.mem_append.1 hy with e | e
    · exact q4 y e
    · exact h3 s (by simp) y e
theorem PreR.imp : ∀ {ka : List Int} {sa : List ByteArray} {P : List Nat} {ps : KV}, (∀ k P' ps', R k P' ps' → (∀ i ∈ P', i ∈ P) → R' k P' ps') → PreR R ka sa P ps → PreR R' ka sa P ps
  | [], [], _, _, _, h => h
  | k :: ka, s :: sa, P, ps, f, ⟨P1, ps1, P2, ps2, h1, h2, e1, e2, h3, h4⟩ => by
    subst e1
    exact ⟨P1, ps1, P2, ps2, f _ _ _ h1 fun i hi => List.mem_append.2 (.inl hi), PreR.imp (fun k P' ps' h hs => f k P' ps' h fun i hi => List.mem_append.2 (.inr (hs i hi))) h2, rfl, e2, h3, h4⟩
theorem PreR.lt : ∀ {ka : List Int} {sa : List ByteArray} {P : List Nat} {ps : KV}, PreR R ka sa P ps → ∀ x ∈ ps, ∃ s ∈ sa, blt x.1 s = true
  | [], [], _, _, h, x, hx => by rw [h.2] at hx; cases hx
  | k :: ka, s :: sa, P, ps, ⟨P1, ps1, P2, ps2, h1, h2, e1, e2, h3, h4⟩, x, hx => by
    subst e2
    rcases List.mem_append.1 hx with e | e
    · exact ⟨s, by simp, h3 x e⟩
    · obtain ⟨t, ht, q⟩ := PreR.lt h2 x e
      exact ⟨t, by simp [ht], q⟩
theorem SufR.imp {kc : List Int} {sc : List ByteArray} {P : List Nat} {ps : KV} (f : ∀ k P' ps', R k P' ps' → (∀ i ∈ P', i ∈ P) → R' k P' ps') (h : SufR R kc sc P ps) : SufR R' kc sc P ps := by
  cases sc with
  | nil => exact h
  | cons s sc => exact ⟨KidsR.imp f h.1, h.2⟩
theorem SufR.ge {kc : List Int} {sc : List ByteArray} {P : List Nat} {ps : KV} (h : SufR R kc sc P ps) : ∀ y ∈ ps, ∃ s ∈ sc, blt y.1 s = false := by
  cases sc with
  | nil => intro y hy; rw [h.2.2] at hy; cases hy
  | cons s sc => intro y hy; exact ⟨s, by simp, h.2 y hy⟩
theorem KidsR.head {k : Int} {kc : List Int} {sc : List ByteArray} {P : List Nat} {ps : KV} (h : KidsR R (k :: kc) sc P ps) :
    ∃ P1 ps1 PC psC, R k.toNat P1 ps1 ∧ SufR R kc sc PC psC ∧ P = P1 ++ PC ∧ ps = ps1 ++ psC ∧ ∀ s, sc.head? = some s → ∀ x ∈ ps1, blt x.1 s = true := by
  cases sc with
  | nil => exact ⟨P, ps, [], [], h.2, ⟨h.1, rfl, rfl⟩, by simp, by simp, fun s e => by cases e⟩
  | cons s sc =>
    obtain ⟨P1, ps1, P2, ps2, h1, h2, e1, e2, h3, h4⟩ := h
    exact ⟨P1, ps1, P2, ps2, h1, ⟨h2, h4⟩, e1, e2, fun t e => by cases e; exact h3⟩
theorem SufR.glue {k : Int} {kc : List Int} {sc : List ByteArray} {P1 PC : List Nat} {ps1 psC : KV} (h1 : R k.toNat P1 ps1) (h2 : SufR R kc sc PC psC) (h3 : ∀ s, sc.head? = some s → ∀ x ∈ ps1, blt x.1 s = true) : KidsR R (k :: kc) sc (P1 ++ PC) (ps1 ++ psC) := by
  cases sc with
  | nil =>
    obtain ⟨e1, e2, e3⟩ := h2
    subst e1; subst e2; subst e3
    rw [List.append_nil, List.append_nil]
    exact ⟨rfl, h1⟩
  | cons s sc => exact ⟨P1, ps1, PC, psC, h1, h2.1, rfl, rfl, h3 s rfl, h2.2⟩
theorem KidsR.cut {kb : List Int} {sb : List ByteArray} {s : ByteArray} (hkb : kb ≠ []) : ∀ {ka : List Int} {sa : List ByteArray} {P : List Nat} {ps : KV}, ka.length = sa.length + 1 → KidsR R (ka ++ kb) (sa ++ s :: sb) P ps → (∀ t ∈ sa, blt t s = true) →
    ∃ P1 ps1 P2 ps2, KidsR R ka sa P1 ps1 ∧ KidsR R kb sb P2 ps2 ∧ P = P1 ++ P2 ∧ ps = ps1 ++ ps2 ∧ (∀ x ∈ ps1, blt x.1 s = true) ∧ (∀ y ∈ ps2, blt y.1 s = false)
  | [], _, _, _, hl, _, _ => by simp at hl
  | [k], [], P, ps, _, h, _ => by
    obtain ⟨P1, ps1, P2, ps2, h1, h2, e1, e2, h3, h4⟩ := h
    exact ⟨P1, ps1, P2, ps2, ⟨rfl, h1⟩, h2, e1, e2, h3, h4⟩
  | k :: k' :: ka, [], _, _, hl, _, _ => by simp at hl
  | k :: ka, t :: sa, P, ps, hl, h, h5 => by
    obtain ⟨Q1, qs1, Q2, qs2, q1, q2, e1, e2, q3, q4⟩ := h
    obtain ⟨P1, ps1, P2, ps2, r1, r2, f1, f2, r3, r4⟩ := KidsR.cut hkb (ka := ka) (sa := sa) (by simpa using hl) q2 (fun u hu => h5 u (by simp [hu]))
    subst e1; subst e2; subst f1; subst f2
    refine ⟨Q1 ++ P1, qs1 ++ ps1, P2, ps2, ⟨Q1, qs1, P1, ps1, q1, r1, rfl, rfl, q3, fun y hy => q4 y (by simp [hy])⟩, r2, by simp, by simp, fun x hx => ?_, r4⟩
    rcases List.mem_append.1 hx with e | e
    · exact blt_le (q3 x e) (blt_asy (h5 t (by simp)))
    · exact r3 x e
theorem kids_in (hR : ∀ k P ps, R k P ps → k ∈ P) : ∀ {ks : List Int} {ss : List ByteArray} {P : List Nat} {ps : KV}, KidsR R ks ss P ps → ∀ k ∈ ks, k.toNat ∈ P
  | [], _, _, _, h, _, hk => by cases hk
  | k :: ks, [], P, ps, h, j, hj => by
    rw [h.1] at hj
    rw [List.mem_singleton.1 hj]; exact hR _ _ _ h.2
  | k :: ks, t :: ss, P, ps, ⟨P1, ps1, P2, ps2, h1, h2, e1, e2, h3, h4⟩, j, hj => by
    subst e1
    rcases List.mem_cons.1 hj with q | q
    · rw [q]; exact List.mem_append.2 (.inl (hR _ _ _ h1))
    · exact List.mem_append.2 (.inr (kids_in hR h2 j q))
end

/-! an entry taken out -/
def delK : KV → ByteArray → KV
  | [], _ => []
  | x :: ps, k => match decide (x.1 = k) with
    | true => ps
    | false => x :: delK ps k
theorem delK_left {ps qs : KV} {k : ByteArray} (h : ∃ x ∈ ps, x.1 = k) : delK (ps ++ qs) k = delK ps k ++ qs := by
  induction ps with
  | nil => obtain ⟨x, hx, _⟩ := h; cases hx
  | cons x ps ih =>
    show (match decide (x.1 = k) with | true => ps ++ qs | false => x :: delK (ps ++ qs) k) = (match decide (x.1 = k) with | true => ps | false => x :: delK ps k) ++ qs
    by_cases e : x.1 = k
    · rw [decide_eq_true e]
    · rw [decide_eq_false e]
      obtain ⟨y, hy, q⟩ := h
      rcases List.mem_cons.1 hy with z | z
      · subst z; exact (e q).elim
      · rw [ih ⟨y, z, q⟩]; rfl
theorem delK_right {ps qs : KV} {k : ByteArray} (h : ∀ x ∈ ps, x.1 ≠ k) : delK (ps ++ qs) k = ps ++ delK qs k := by
  induction ps with
  | nil => rfl
  | cons x ps ih =>
    show (match decide (x.1 = k) with | true => ps ++ qs | false => x :: delK (ps ++ qs) k) = _
    rw [decide_eq_false (h x (by simp)), ih fun y hy => h y (by simp [hy])]
    rfl
theorem kidN_split {key : ByteArray} : ∀ {ss : List ByteArray}, Pw ss → (∀ s ∈ ss.take (kidN ss key), blt key s = false) ∧ (∀ s ∈ ss.drop (kidN ss key), blt key s = true) ∧ kidN ss key ≤ ss.length
  | [], _ => by simp [kidN, slotN_nil, slotB_nil]
  | s :: ss, pw => by
    have pw' := (List.pairwise_cons.1 pw).2
    have hall := (List.pairwise_cons.1 pw).1
    obtain ⟨i1, i2, i3⟩ := kidN_split (key := key) pw'
    cases h : blt s key with
    | true =>
      have e : kidN (s :: ss) key = kidN ss key + 1 := by
        unfold kidN; rw [(slot_lt h).1, (slot_lt h).2]; omega
      rw [e]
      refine ⟨fun t ht => ?_, by simpa using i2, by simpa using i3⟩
      rw [List.take_succ_cons] at ht
      rcases List.mem_cons.1 ht with q | q
      · rw [q]; exact blt_asy h
      · exact i1 t q
    | false =>
      obtain ⟨e1, e2⟩ := slot_ge pw h
      by_cases q : s = key
      · have e : kidN (s :: ss) key = 1 := by unfold kidN; rw [e1, e2, decide_eq_true q]; rfl
        rw [e]
        refine ⟨fun t ht => ?_, fun t ht => ?_, by simp⟩
        · simp at ht; rw [ht, q]; exact blt_irr _
        · simp at ht; rw [← q]; exact hall t ht
      · have e : kidN (s :: ss) key = 0 := by unfold kidN; rw [e1, e2, decide_eq_false q]; rfl
        rw [e]
        have hk : blt key s = true := by
          rcases blt_tri s key with ⟨z, _⟩ | ⟨z, _⟩ | ⟨z, _⟩
          · rw [h] at z; cases z
          · exact (q z).elim
          · exact z
        refine ⟨fun t ht => by simp at ht, fun t ht => ?_, by simp⟩
        simp at ht
        rcases ht with z | z
        · rw [z]; exact hk
        · exact blt_le hk (blt_asy (hall t z))
end Go.Am
namespace Go.Am

section
variable {T T' : List Pg} {d a x y : Nat} {p px py : Pg} {s : ByteArray} {P PX PY : List Nat} {ps psX psY : KV}
theorem kids_never {R : Nat → List Nat → KV → Prop} (hR : ∀ k P ps, ¬ R k P ps) : ∀ {ks : List Int} {ss : List ByteArray} {P : List Nat} {ps : KV}, ¬ KidsR R ks ss P ps
  | [], _, _, _, h => h
  | k :: ks, [], _, _, h => hR _ _ _ h.2
  | k :: ks, s :: ss, _, _, ⟨P1, ps1, P2, ps2, h1, _⟩ => hR _ _ _ h1
theorem Sub.may (h : Sub T d a P ps) (hp : T[a]? = some p) : MayP p := by
  cases d with
  | zero => exact h.elim
  | succ d => obtain ⟨q, hq, hm, _⟩ := h; rw [hp] at hq; cases hq; exact hm
theorem Sub.leafD (h : Sub T d a P ps) (hp : T[a]? = some p) (hl : p.leaf = true) : d = 1 ∧ P = [a] ∧ ps = p.keys.zip p.vals := by
  cases d with
  | zero => exact h.elim
  | succ d =>
    obtain ⟨q, hq, hm, ⟨e, h1, h2, h3⟩ | ⟨h1, _⟩⟩ := h
    · rw [hp] at hq; cases hq; exact ⟨by omega, h2, h3⟩
    · rw [hp] at hq; cases hq; rw [hl] at h1; cases h1
theorem Sub.innD (h : Sub T d a P ps) (hp : T[a]? = some p) (hl : p.leaf = false) : ∃ d' P', d = d' + 2 ∧ P = a :: P' ∧ KidsR (SubB T (d' + 1)) p.kids p.keys P' ps := by
  cases d with
  | zero => exact h.elim
  | succ d =>
    obtain ⟨q, hq, hm, ⟨e, h1, h2, h3⟩ | ⟨h1, P', h2, h3⟩⟩ := h
    · rw [hp] at hq; cases hq; rw [hl] at h1; cases h1
    · rw [hp] at hq; cases hq
      cases d with
      | zero => exact (kids_never (fun k P ps h => h.1.elim) h3).elim
      | succ d => exact ⟨d, P', rfl, h2, h3⟩
theorem Sub.get (h : Sub T d a P ps) : ∃ p, T[a]? = some p := by
  cases d with
  | zero => exact h.elim
  | succ d => obtain ⟨q, hq, _⟩ := h; exact ⟨q, hq⟩
/-! cut -/
theorem zip_take (ks vs : List ByteArray) (k : Nat) : (ks.take k).zip (vs.take k) = (ks.zip vs).take k := by simp [List.zip, List.take_zipWith]
theorem zip_drop (ks vs : List ByteArray) (k : Nat) : (ks.drop k).zip (vs.drop k) = (ks.zip vs).drop k := by simp [List.zip, List.drop_zipWith]
theorem fits_cutL {b : Pg} (h : FitsP b) {k : Nat} (hk : k < b.keys.length) (h1 : 1 ≤ k) : FitsP (cutL b k) := by
  unfold cutL
  cases hl : b.leaf with
  | true =>
    obtain ⟨f1, f2, f3⟩ := h.leaf hl
    exact ⟨h.used, pw_rising ((rising_pw h.rising).sublist (List.take_sublist _ _)), fun q hq => h.keys q (List.mem_of_mem_take hq), fun _ => ⟨by simp; omega, f2, fun v hv => f3 v (List.mem_of_mem_take hv)⟩, fun q => by cases q⟩
  | false =>
    obtain ⟨f1, f2, f3, f4, f5⟩ := h.inner hl
    exact ⟨h.used, pw_rising ((rising_pw h.rising).sublist (List.take_sublist _ _)), fun q hq => h.keys q (List.mem_of_mem_take hq), fun q => (by cases q), fun _ => ⟨by simp; omega, f2, by simp; omega, fun q hq => f4 q (List.mem_of_mem_take hq), f5.sublist (List.take_sublist _ _)⟩⟩
theorem fits_cutR {b : Pg} (h : FitsP b) {k : Nat} (h1 : 1 ≤ (cutR b k).keys.length) : FitsP (cutR b k) := by
  unfold cutR at h1 ⊢
  cases hl : b.leaf with
  | true =>
    rw [hl] at h1
    obtain ⟨f1, f2, f3⟩ := h.leaf hl
    exact ⟨h.used, pw_rising ((rising_pw h.rising).sublist (List.drop_sublist _ _)), fun q hq => h.keys q (List.mem_of_mem_drop hq), fun _ => ⟨by simp; omega, f2, fun v hv => f3 v (List.mem_of_mem_drop hv)⟩, fun q => by cases q⟩
  | false =>
    rw [hl] at h1
    obtain ⟨f1, f2, f3, f4, f5⟩ := h.inner hl
    exact ⟨h.used, pw_rising ((rising_pw h.rising).sublist (List.drop_sublist _ _)), fun q hq => h.keys q (List.mem_of_mem_drop hq), fun q => (by cases q), fun _ => ⟨h1, f2, by simp at h1 ⊢; omega, fun q hq => f4 q (List.mem_of_mem_drop hq), f5.sublist (List.drop_sublist _ _)⟩⟩
end
end Go.Am
namespace Go.Am

/-- a kid of which one may be short -/
def SubO (T : List Pg) (d short k : Nat) (P : List Nat) (ps : KV) : Prop := Sub T d k P ps ∧ ∃ q, T[k]? = some q ∧ 1 ≤ q.keys.length ∧ (k ≠ short → 2 ≤ q.keys.length)
section
variable {T T1 T2 : List Pg} {D d a short : Nat} {p : Pg} {key : ByteArray} {P : List Nat} {ps : KV}
/-- the kid that a key leads to -/
structure Kid (T : List Pg) (d a : Nat) (p : Pg) (i : Nat) (key : ByteArray) (P : List Nat) (ps : KV) (PA : List Nat) (psA : KV) (Pi : List Nat) (psi : KV) (PC : List Nat) (psC : KV) : Prop where
  hi : i < p.kids.length
  eP : P = a :: (PA ++ (Pi ++ PC))
  eps : ps = psA ++ (psi ++ psC)
  pre : PreR (SubB T d) (p.kids.take i) (p.keys.take i) PA psA
  kid : SubB T d (p.kids[i]'hi).toNat Pi psi
  suf : SufR (SubB T d) (p.kids.drop (i + 1)) (p.keys.drop i) PC psC
  c1 : ∀ s ∈ p.keys.take i, ∀ e ∈ psi ++ psC, blt e.1 s = false
  c2 : ∀ s, (p.keys.drop i).head? = some s → ∀ e ∈ psi, blt e.1 s = true
  mem : (∃ e ∈ ps, e.1 = key) → (∃ e ∈ psi, e.1 = key) ∧ delK ps key = psA ++ (delK psi key ++ psC)
theorem kid_split (hS : Sub T D a P ps) (hp : T[a]? = some p) (hl : p.leaf = false) : ∃ d PA psA Pi psi PC psC, D = d + 2 ∧ Kid T (d + 1) a p (kidN p.keys key) key P ps PA psA Pi psi PC psC := by
  have hm := hS.may hp
  obtain ⟨d, P', ed, eP, kk⟩ := hS.innD hp hl
  obtain ⟨f1, f2, f3, f4, f5⟩ := hm.2.inner hl
  have pw := rising_pw hm.2.rising
  obtain ⟨k1, k2, k3⟩ := kidN_split (key := key) pw
  have hi : kidN p.keys key < p.kids.length := by omega
  have kk' : KidsR (SubB T (d + 1)) (p.kids.take (kidN p.keys key) ++ p.kids.drop (kidN p.keys key)) (p.keys.take (kidN p.keys key) ++ p.keys.drop (kidN p.keys key)) P' ps := by rw [List.take_append_drop, List.take_append_drop]; exact kk
  obtain ⟨PA, psA, P2, ps2, q1, q2, e1, e2, q3⟩ := KidsR.split (by simp; omega) (by simp; omega) kk'
  rw [List.drop_eq_getElem_cons hi] at q2
  obtain ⟨Pi, psi, PC, psC, r1, r2, e3, e4, r3⟩ := q2.head
  subst e1; subst e2; subst e3; subst e4
  refine ⟨d, PA, psA, Pi, psi, PC, psC, ed, hi, eP, rfl, q1, r1, r2, q3, r3, fun hk => ?_⟩
  have nA : ∀ x ∈ psA, x.1 ≠ key := fun x hx => by
    obtain ⟨s, hs, z⟩ := q1.lt x hx
    exact blt_ne (blt_le z (k1 s hs))
  have nC : ∀ x ∈ psC, x.1 ≠ key := fun x hx => by
    obtain ⟨s, hs, z⟩ := r2.ge x hx
    exact (blt_ne (blt_le (k2 s hs) z)).symm
  have hin : ∃ e ∈ psi, e.1 = key := by
    obtain ⟨e, he, q⟩ := hk
    rcases List.mem_append.1 he with z | z
    · exact (nA e z q).elim
    · rcases List.mem_append.1 z with z | z
      · exact ⟨e, z, q⟩
      · exact (nC e z q).elim
  exact ⟨hin, by rw [delK_right nA, delK_left hin]⟩
section
variable {i : Nat} {PA Pi PC Pi' : List Nat} {psA psi psC qs : KV}
/-- the kids behind the drop below one of them -/
theorem Kid.glue (h : Kid T d a p i key P ps PA psA Pi psi PC psC) (hnd : P.Nodup) (hout : ∀ j, j ∉ Pi → T1[j]? = T[j]?) (hs : Sub T1 d (p.kids[i]'h.hi).toNat Pi' qs) (hsub : ∀ j ∈ Pi', j ∈ Pi) (hq : ∀ e ∈ qs, e ∈ psi) {q : Pg} (hq1 : T1[(p.kids[i]'h.hi).toNat]? = some q) (hq2 : 1 ≤ q.keys.length) :
    KidsR (SubO T1 d (p.kids[i]'h.hi).toNat) p.kids p.keys (PA ++ (Pi' ++ PC)) (psA ++ (qs ++ psC)) := by
  have hnd' := hnd
  rw [h.eP] at hnd'
  have n1 := (List.nodup_cons.1 hnd').2
  have n2 := List.nodup_append.1 n1
  have n3 := List.nodup_append.1 n2.2.1
  have hk := h.kid.1.head
  have other : ∀ {k : Nat} {Q : List Nat} {rs : KV}, SubB T d k Q rs → (∀ j ∈ Q, j ∉ Pi) → SubO T1 d (p.kids[i]'h.hi).toNat k Q rs := fun {k Q rs} hb hd => by
    have hb' := hb.keep (T' := T1) fun j hj => hout j (hd j hj)
    obtain ⟨r, h1, h2⟩ := hb'.2
    exact ⟨hb'.1, r, h1, by omega, fun _ => h2⟩
  have pre := h.pre.imp (R' := SubO T1 d (p.kids[i]'h.hi).toNat) fun k Q rs hb hin => other hb fun j hj hj' => n2.2.2 j (hin j hj) j (by simp [hj']) rfl
  have suf := h.suf.imp (R' := SubO T1 d (p.kids[i]'h.hi).toNat) fun k Q rs hb hin => other hb fun j hj hj' => n3.2.2 j hj' j (hin j hj) rfl
  have mid : SubO T1 d (p.kids[i]'h.hi).toNat (p.kids[i]'h.hi).toNat Pi' qs := ⟨hs, q, hq1, hq2, fun z => (z rfl).elim⟩
  have k1 := SufR.glue mid suf fun s e x hx => h.c2 s e x (hq x hx)
  rw [← List.drop_eq_getElem_cons h.hi] at k1
  have k2 := pre.glue k1 fun s hs e he => h.c1 s hs e (by rcases List.mem_append.1 he with z | z; exact List.mem_append.2 (.inl (hq e z)); exact List.mem_append.2 (.inr z))
  rw [List.take_append_drop, List.take_append_drop] at k2
  exact k2
end

section
variable {kids : List Int} {keys : List ByteArray} {j x y : Nat} {s : ByteArray} {PA PX PY PC PZ PX' PY' : List Nat} {psA psX psY psC psX' psY' : KV} {px py : Pg}
end
end
end Go.Am
namespace Go.Am

section
variable {T T1 T2 : List Pg} {D d a short j x y : Nat} {p px py : Pg} {key : ByteArray} {P Q : List Nat} {ps qs : KV}
end
end Go.Am
