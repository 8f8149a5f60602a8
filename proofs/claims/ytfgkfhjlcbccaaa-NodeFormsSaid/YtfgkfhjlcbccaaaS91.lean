import Derived.Test.YtfgkfhjlcbccaaaS90
set_option linter.unusedVariables false
set_option linter.unusedSimpArgs false
namespace Go.Am
open Classical

theorem Ss.get {H : Hp} {a : Pl} {n : Nat} {xs : List ByteArray} (h : Ss H a n xs) {k : Nat} (hk : k < xs.length) : ∃ l o, a = some (l, o) ∧ gt H l (o + k) = some (.str xs[k]) := by
  have hn := h.len
  cases a with
  | none => have := cells_len h.cells; have h2 := h.cells; simp [cells?] at h2; omega
  | some p =>
    obtain ⟨l, o⟩ := p
    exact ⟨l, o, rfl, by rw [cells_get h.cells (by omega)]; simp [hk]⟩
theorem gt_pre {H H' : Hp} (hp : H <+: H') {l o : Nat} {v : GV} (h : gt H l o = some v) : gt H' l o = some v := by
  have hl : l < H.length := by
    unfold gt at h
    cases e : H[l]? with
    | none => rw [e] at h; cases h
    | some x => exact (List.getElem?_eq_some_iff.1 e).1
  unfold gt at h ⊢
  rw [pre_at hp hl]; exact h
theorem cells_part {H : Hp} {a : Pl} {n : Nat} {cs : List GV} (h : cells? H a n = some cs) (k m : Nat) (hm : k + m ≤ n) : cells? H (shf a k) m = some ((cs.drop k).take m) := by
  cases a with
  | none => simp [cells?] at h; obtain ⟨rfl, rfl⟩ := h; simp [cells?]; omega
  | some p =>
    obtain ⟨l, o⟩ := p
    unfold cells? at h
    simp only at h
    cases hr : H[l]? with
    | none => rw [hr] at h; cases h
    | some x =>
      rw [hr] at h
      cases x with
      | row own t ds =>
        simp only at h
        split at h
        · rename_i hle
          cases h
          simp only [shf_some, cells?, hr]
          rw [if_pos (by omega), List.drop_take, List.take_take, List.drop_drop, Nat.min_eq_left (by omega)]
        · cases h
      | _ => cases h
theorem Ss.part {H : Hp} {a : Pl} {n : Nat} {xs : List ByteArray} (h : Ss H a n xs) (k m : Nat) (hm : k + m ≤ n) : Ss H (shf a k) m ((xs.drop k).take m) := by
  have hn := h.len
  have hl := h.lim
  refine ⟨?_, by simp; omega, by omega⟩
  rw [cells_part h.cells k m hm, List.map_take, List.map_drop]
theorem Is.part {H : Hp} {a : Pl} {n : Nat} {xs : List Int} (h : Is H a n xs) (k m : Nat) (hm : k + m ≤ n) : Is H (shf a k) m ((xs.drop k).take m) := by
  have hn := h.len
  have hl := h.lim
  refine ⟨?_, by simp; omega, by omega⟩
  rw [cells_part h.cells k m hm, List.map_take, List.map_drop]

section
variable {H : Hp} {Q : Post} {a : Pl} {n : Nat}
theorem clone_str {xs : List ByteArray} (h : Ss H a n xs) (hQ : ∀ a' H', H <+: H' → Own H' H.length 9 a' n (xs.map GV.str) → (∀ l o, a' = some (l, o) → l < H'.length) → Q (.g (.sl a' n 1)) H') : slices_Clone__string_string [.g (.sl a n 1)] H Q := by
  have hn := h.len
  have hl := h.lim
  refine ⟨1, ?_⟩
  rw [slices_Clone__string_string_eq]
  refine bite_of (fun e => ?_) (fun e => ?_)
  · cases a with
    | some p => cases e
    | none =>
      have hc := h.cells
      simp [cells?] at hc
      obtain ⟨h1, h2⟩ := hc
      subst h2; subst h1
      exact hQ none H (List.prefix_refl _) (.inl ⟨rfl, rfl, rfl⟩) (fun _ _ e => (by cases e))
  · rw [chk_true, Nat.mul_one, rdN_of h.cells]
    refine ap0_of (by unfold Lim; omega) (by simp [hn]) ?_
    exact hQ _ _ (pre_pu _ _) (.inr ⟨_, rfl, Nat.le_refl _, by simp, by simp [hn]⟩) (fun _ _ e => (by cases e; simp))
theorem clone_int {xs : List Int} (h : Is H a n xs) (hQ : ∀ a' H', H <+: H' → Own H' H.length 3 a' n (xs.map (GV.int .i64)) → (∀ l o, a' = some (l, o) → l < H'.length) → Q (.g (.sl a' n 1)) H') : slices_Clone__int_int [.g (.sl a n 1)] H Q := by
  have hn := h.len
  have hl := h.lim
  refine ⟨1, ?_⟩
  rw [slices_Clone__int_int_eq]
  refine bite_of (fun e => ?_) (fun e => ?_)
  · cases a with
    | some p => cases e
    | none =>
      have hc := h.cells
      simp [cells?] at hc
      obtain ⟨h1, h2⟩ := hc
      subst h2; subst h1
      exact hQ none H (List.prefix_refl _) (.inl ⟨rfl, rfl, rfl⟩) (fun _ _ e => (by cases e))
  · rw [chk_true, Nat.mul_one, rdN_of h.cells]
    refine ap0_of (by unfold Lim; omega) (by simp [hn]) ?_
    exact hQ _ _ (pre_pu _ _) (.inr ⟨_, rfl, Nat.le_refl _, by simp, by simp [hn]⟩) (fun _ _ e => (by cases e; simp))
theorem ref9_texts_spec {xs : List ByteArray} (h : Ss H a n xs) (hQ : ∀ a' H', H <+: H' → Own H' H.length 9 a' n (xs.map GV.str) → (∀ l o, a' = some (l, o) → l < H'.length) → Q (.g (.sl a' n 1)) H') : ref9_texts [.g (.sl a n 1)] H Q := by
  have hn := h.len
  have hl := h.lim
  refine ⟨1, ?_⟩
  rw [ref9_texts_eq, chk_true, Nat.mul_one, rdN_of h.cells]
  refine ap0_of (by unfold Lim; omega) (by simp [hn]) ?_
  exact hQ _ _ (pre_pu _ _) (.inr ⟨_, rfl, Nat.le_refl _, by simp, by simp [hn]⟩) (fun _ _ e => (by cases e; simp))
theorem ref9_ints_spec {xs : List Int} (h : Is H a n xs) (hQ : ∀ a' H', H <+: H' → Own H' H.length 3 a' n (xs.map (GV.int .i64)) → (∀ l o, a' = some (l, o) → l < H'.length) → Q (.g (.sl a' n 1)) H') : ref9_ints [.g (.sl a n 1)] H Q := by
  have hn := h.len
  have hl := h.lim
  refine ⟨1, ?_⟩
  rw [ref9_ints_eq, chk_true, Nat.mul_one, rdN_of h.cells]
  refine ap0_of (by unfold Lim; omega) (by simp [hn]) ?_
  exact hQ _ _ (pre_pu _ _) (.inr ⟨_, rfl, Nat.le_refl _, by simp, by simp [hn]⟩) (fun _ _ e => (by cases e; simp))
end
theorem Own.base {H : Hp} {b b' : Nat} {t : TypeId} {a : Pl} {n : Nat} {cs : List GV} (h : Own H b t a n cs) (hb : b' ≤ b) : Own H b' t a n cs := by
  rcases h with h | ⟨l, h1, h2, h3⟩
  · exact .inl h
  · exact .inr ⟨l, h1, by omega, h3⟩
theorem Own.above {H : Hp} {b : Nat} {t : TypeId} {a : Pl} {n : Nat} {cs : List GV} (h : Own H b t a n cs) {l : Nat} (e : a = some (l, 0)) : b ≤ l := by
  rcases h with ⟨h, _⟩ | ⟨l', h1, h2, _⟩
  · rw [h] at e; cases e
  · rw [h1] at e; cases e; exact h2

section
variable {H : Hp} {Q : Post} {u l : Bool} {a1 : Pl} {n1 : Nat} {a2 : Pl} {n2 : Nat} {a3 : Pl} {n3 : Nat} {p : Pg}
theorem page_Copy_spec (h : PgAt H u l a1 n1 a2 n2 a3 n3 p) (hs : n1 ≤ 1000 ∧ n2 ≤ 1000 ∧ n3 ≤ 1000)
    (hQ : ∀ a1 a2 a3 H', H <+: H' → PgOwn H' H.length u l a1 n1 a2 n2 a3 n3 p → Q (.agg [.bool u, .bool l, .sl a1 n1 1, .sl a2 n2 1, .sl a3 n3 1]) H') :
    page_Copy [.agg [.bool u, .bool l, .sl a1 n1 1, .sl a2 n2 1, .sl a3 n3 1]] H Q := by
  refine ⟨1, ?_⟩
  rw [page_Copy_eq]
  refine clone_str h.keys fun b1 H1 p1 o1 _ => ?_
  simp only [rG_g, dL_sl]
  refine clone_str (h.vals.mono p1) fun b2 H2 p2 o2 _ => ?_
  simp only [rG_g, dL_sl]
  refine clone_int (h.kids.mono (p1.trans p2)) fun b3 H3 p3 o3 _ => ?_
  simp only [rG_g, dL_sl]
  refine hQ _ _ _ _ (p1.trans (p2.trans p3)) ⟨h.used, h.leaf, o1.mono (p2.trans p3), (o2.base p1.length_le).mono p3, o3.base (p1.trans p2).length_le, fun m e1 e2 => ?_, fun m e1 e2 => ?_, fun m e1 e2 => ?_, hs⟩
  · have := o1.lt' e1; have := o2.above e2; omega
  · have := o1.lt' e1; have := o3.above e2; have := p2.length_le; omega
  · have := o2.lt' e1; have := o3.above e2; omega
end

/-! split -/
def CanSplit (p : Pg) : Prop := p.keys.length = 5 ∧ FitsP p
def cutA (p : Pg) : Pg := match p.leaf with | true => ⟨true, true, p.keys.take 3, p.vals.take 3, []⟩ | false => ⟨true, false, p.keys.take 2, [], p.kids.take 3⟩
def cutB (p : Pg) : Pg := match p.leaf with | true => ⟨true, true, p.keys.drop 3, p.vals.drop 3, []⟩ | false => ⟨true, false, p.keys.drop 3, [], p.kids.drop 3⟩
def pcutK (p : Pg) : ByteArray := match p.leaf with | true => p.keys[3]?.getD (mkS []) | false => p.keys[2]?.getD (mkS [])
noncomputable def spA (p : Pg) : Pg := if CanSplit p then cutA p else noPg
noncomputable def spB (p : Pg) : Pg := if CanSplit p then cutB p else noPg
noncomputable def spK (p : Pg) : ByteArray := if CanSplit p then pcutK p else mkS []
noncomputable def spE (p : Pg) : Int := if CanSplit p then 0 else 900
def SpQ (p : Pg) (H : Hp) (Q : Post) : Prop := ∀ u l a1 n1 a2 n2 a3 n3 u' l' b1 m1 b2 m2 b3 m3 lo md hi H', H <+: H' → H.length ≤ lo → lo ≤ md → md ≤ hi → hi ≤ H'.length → PgM H' lo md u l a1 n1 a2 n2 a3 n3 (spA p) → PgM H' md hi u' l' b1 m1 b2 m2 b3 m3 (spB p) →
  Q (.tup [.a [.bool u, .bool l, .sl a1 n1 1, .sl a2 n2 1, .sl a3 n3 1], .s (.str (spK p)), .a [.bool u', .bool l', .sl b1 m1 1, .sl b2 m2 1, .sl b3 m3 1], .s (.int .i64 (spE p))]) H'
theorem SpQ.no {p : Pg} {H H' : Hp} {Q : Post} (hQ : SpQ p H Q) (hn : ¬ CanSplit p) (hp : H <+: H') :
    Q (.tup [.a [.bool false, .bool false, .sl none 0 1, .sl none 0 1, .sl none 0 1], .s (.str (mkS [])), .a [.bool false, .bool false, .sl none 0 1, .sl none 0 1, .sl none 0 1], .s (.int .i64 900)]) H' := by
  have := hQ false false none 0 none 0 none 0 false false none 0 none 0 none 0 H.length H.length H.length H' hp (Nat.le_refl _) (Nat.le_refl _) (Nat.le_refl _) hp.length_le (by unfold spA; rw [if_neg hn]; exact noPg_mine _ _ _) (by unfold spB; rw [if_neg hn]; exact noPg_mine _ _ _)
  unfold spK spE at this
  rw [if_neg hn, if_neg hn] at this
  exact this
end Go.Am
