import Derived.Test.YtmjnenpllddhfaaAmM
import Derived.Test.YtmjnenpllddhfaaF60
set_option linter.unusedVariables false
set_option linter.unusedSimpArgs false
namespace Go.Am

theorem dynOf_hit {f : Nat} {s : Sm} {l : List (Nat × Sm)} : dynOf ((f, s) :: l) f = s := by simp [dynOf, List.lookup]
theorem dynOf_miss {f g : Nat} {s : Sm} {l : List (Nat × Sm)} (h : f ≠ g) : dynOf ((g, s) :: l) f = dynOf l f := by
  unfold dynOf
  rw [List.lookup_cons, show (f == g) = false by simpa using h]

theorem page_Key_spec {s : ByteArray} {H : Hp} {Q : Post} (hQ : Q (.g (.bool (decide (1 ≤ s.size) && decide (s.size ≤ 6)))) H) : page_Key [.g (.str s)] H Q := by
  refine ⟨1, ?_⟩
  rw [page_Key_eq]
  refine bite_of (fun h => ?_) (fun h => ?_)
  · simp only [leI_def, sz_def, decide_eq_true_eq] at h ⊢
    rw [decide_eq_true (show 1 ≤ s.size by omega), Bool.true_and] at hQ
    rw [show decide ((s.size : Int) ≤ 6) = decide (s.size ≤ 6) by rw [decide_eq_decide]; omega]
    exact hQ
  · simp only [leI_def, sz_def, decide_eq_false_iff_not] at h
    rw [decide_eq_false (show ¬ 1 ≤ s.size by omega)] at hQ
    simpa using hQ
theorem page_Value_spec {s : ByteArray} {H : Hp} {Q : Post} (hQ : Q (.g (.bool (decide (s.size ≤ 10)))) H) : page_Value [.g (.str s)] H Q := by
  refine ⟨1, ?_⟩
  rw [page_Value_eq]
  simp only [leI_def, sz_def]
  rw [show decide ((s.size : Int) ≤ 10) = decide (s.size ≤ 10) by rw [decide_eq_decide]; omega]
  exact hQ
theorem page_Kid_spec {k : Int} {H : Hp} {Q : Post} (hQ : Q (.g (.bool (decide (1 ≤ k) && decide (k < 48)))) H) : page_Kid [.g (.int .i64 k)] H Q := by
  refine ⟨1, ?_⟩
  rw [page_Kid_eq]
  refine bite_of (fun h => ?_) (fun h => ?_)
  · simp only [leI_def, ltI_def] at h ⊢
    rw [h] at hQ
    simpa using hQ
  · simp only [leI_def, ltI_def] at h
    rw [h] at hQ
    simpa using hQ

/-! rising -/
def Rising (xs : List ByteArray) : Prop := ∀ i, (h : i + 1 < xs.length) → strLt (xs[i]'(by omega)) xs[i + 1] = true

theorem page_rising_loop {H : Hp} {Q : Post} {a : Pl} {n : Nat} {xs : List ByteArray} (h : Ss H a n xs) (hQ : ∀ b, (b = true ↔ Rising xs) → Q (.g (.bool b)) H) :
    ∀ m k : Nat, xs.length - k = m → (∀ i, (hi : i + 1 < xs.length) → i < k → strLt (xs[i]'(by omega)) xs[i + 1] = true) → ∃ f, page_rising.l2 f a n ((k + 1 : Nat) : Int) H Q := by
  intro m
  have hn := h.len
  have hlim := h.lim
  induction m with
  | zero =>
    intro k hm hk
    refine ⟨1, ?_⟩
    rw [page_rising.l2_eq, show ltI ((k + 1 : Nat) : Int) (nI n) = false by simp; omega, bite_false]
    exact hQ true ⟨fun _ i hi => hk i hi (by omega), fun _ => rfl⟩
  | succ m ih =>
    intro k hm hk
    by_cases hkn : k + 1 < xs.length
    · have hlt : ltI ((k + 1 : Nat) : Int) (nI n) = true := by simp; omega
      cases hs : strLt (xs[k]'(by omega)) xs[k + 1] with
      | true =>
        obtain ⟨f, hf⟩ := ih (k + 1) (by omega) (fun i hi hik => by
          by_cases e : i = k
          · subst e; exact hs
          · exact hk i hi (by omega))
        refine ⟨f + 1, ?_⟩
        rw [page_rising.l2_eq, bite_t hlt, chk_true, h.rd k (wrap_pred (by omega)) (by omega), chk_true, h.rd (k + 1) rfl hkn, bite_f (by rw [hs]; rfl), wrap_succ (by omega)]
        exact hf
      | false =>
        refine ⟨1, ?_⟩
        rw [page_rising.l2_eq, bite_t hlt, chk_true, h.rd k (wrap_pred (by omega)) (by omega), chk_true, h.rd (k + 1) rfl hkn, bite_t (by rw [hs]; rfl)]
        refine hQ false ⟨fun q => (by cases q), fun q => ?_⟩
        rw [q k hkn] at hs; cases hs
    · refine ⟨1, ?_⟩
      rw [page_rising.l2_eq, show ltI ((k + 1 : Nat) : Int) (nI n) = false by simp; omega, bite_false]
      exact hQ true ⟨fun _ i hi => hk i hi (by omega), fun _ => rfl⟩
theorem page_rising_spec {H : Hp} {Q : Post} {a : Pl} {n : Nat} {xs : List ByteArray} (h : Ss H a n xs) (hQ : ∀ b, (b = true ↔ Rising xs) → Q (.g (.bool b)) H) : page_rising [.g (.sl a n 1)] H Q := by
  obtain ⟨f, hf⟩ := page_rising_loop h hQ _ 0 rfl (fun i hi h => by omega)
  exact ⟨f + 1, by rw [page_rising_eq]; exact hf⟩

/-! all -/
theorem page_all_string_1_spec {E : Nat → Sm} {p : ByteArray → Bool} {f : Nat} (hE : ∀ (s : ByteArray) (H : Hp) (Q : Post), Q (.g (.bool (p s))) H → E f [.g (.str s)] H Q) {H : Hp} {Q : Post} {l : Nat} (hl : gt H l 0 = some (.fn f []))
    {s : ByteArray} (hQ : Q (.g (.bool (!(p s)))) H) : page_all_string_1 E [.g (.str s), .g (.ptr (some (l, 0)))] H Q := by
  refine ⟨1, ?_⟩
  rw [page_all_string_1_eq, rd_of hl, dF_fn]
  exact hE s H _ hQ
theorem index_string_loop {E : Nat → Sm} {p : ByteArray → Bool} {g l : Nat} {H : Hp} (hE : ∀ (s : ByteArray) (Q : Post), Q (.g (.bool (p s))) H → E g [.g (.str s), .g (.ptr (some (l, 0)))] H Q)
    {Q : Post} {a : Pl} {n : Nat} {xs : List ByteArray} (h : Ss H a n xs) (hQ : ∀ i : Int, (0 ≤ i ↔ ∃ s ∈ xs, p s = true) → Q (.g (.int .i64 i)) H) :
    ∀ m k : Nat, xs.length - k = m → k ≤ xs.length → (∀ i, (hi : i < xs.length) → i < k → p xs[i] = false) → ∃ f, slices_IndexFunc__string_string.l2 E f a n g [(l, 0)] (nI n) (k : Int) H Q := by
  intro m
  have hn := h.len
  have hlim := h.lim
  induction m with
  | zero =>
    intro k hm hle hk
    refine ⟨1, ?_⟩
    rw [slices_IndexFunc__string_string.l2_eq, show ltI (k : Int) (nI n) = false by simp; omega, bite_false]
    refine hQ _ ⟨fun q => by omega, fun ⟨s, hs, hp⟩ => ?_⟩
    obtain ⟨i, hi, rfl⟩ := List.getElem_of_mem hs
    rw [hk i hi (by omega)] at hp; cases hp
  | succ m ih =>
    intro k hm hle hk
    have hkn : k < xs.length := by omega
    have hlt : ltI (k : Int) (nI n) = true := by simp; omega
    cases hs : p xs[k] with
    | false =>
      obtain ⟨f, hf⟩ := ih (k + 1) (by omega) (by omega) (fun i hi hik => by
        by_cases e : i = k
        · subst e; exact hs
        · exact hk i hi (by omega))
      refine ⟨f + 1, ?_⟩
      rw [slices_IndexFunc__string_string.l2_eq, bite_t hlt, chk_true, h.rd k rfl hkn]
      refine hE _ _ ?_
      rw [rG_g, dB_bool, hs, bite_false, wrap_succ (by omega)]
      exact hf
    | true =>
      refine ⟨1, ?_⟩
      rw [slices_IndexFunc__string_string.l2_eq, bite_t hlt, chk_true, h.rd k rfl hkn]
      refine hE _ _ ?_
      rw [rG_g, dB_bool, hs, bite_true]
      exact hQ _ ⟨fun _ => ⟨_, List.getElem_mem hkn, hs⟩, fun _ => by omega⟩
theorem page_all_string_spec {E : Nat → Sm} {p : ByteArray → Bool} {f : Nat} (hE : ∀ (s : ByteArray) (H : Hp) (Q : Post), Q (.g (.bool (p s))) H → E f [.g (.str s)] H Q) {H : Hp} {Q : Post}
    {a : Pl} {n : Nat} {xs : List ByteArray} (h : Ss H a n xs) (hQ : ∀ b H', H <+: H' → (b = true ↔ ∀ s ∈ xs, p s = true) → Q (.g (.bool b)) H') : page_all_string E [.g (.sl a n 1), .g (.fn f [])] H Q := by
  refine ⟨1, ?_⟩
  rw [page_all_string_eq]
  have hp := pre_pu H (.row true 97 [.fn f []])
  refine ⟨1, ?_⟩
  rw [slices_ContainsFunc__string_string_eq]
  obtain ⟨k, hk⟩ := index_string_loop (E := dynOf [(72, page_all_string_1 E)]) (p := fun s => !(p s)) (g := 72) (l := H.length) (H := H ++ [.row true 97 [.fn f []]])
    (fun s Q hQ => by rw [dynOf_hit]; exact page_all_string_1_spec hE (by simp [gt]) hQ) (Q := fun r H1 => rG r fun v2 => dI .i64 v2 fun i3 => rG (.g (.bool (leI 0 i3))) fun v2 => dB v2 fun b3 => Q (.g (.bool (!b3))) H1) (h.mono hp)
    (fun i hi => by
      rw [rG_g, dI_int, rG_g, dB_bool]
      refine hQ _ _ hp ?_
      simp only [leI_def, Bool.not_eq_true', decide_eq_false_iff_not]
      rw [hi]
      constructor
      · intro q s hs
        cases e : p s with
        | true => rfl
        | false => exact (q ⟨s, hs, by simp [e]⟩).elim
      · rintro q ⟨s, hs, e⟩
        rw [q s hs] at e; cases e) _ 0 rfl (Nat.zero_le _) (fun i hi h => by omega)
  refine ⟨k + 1, ?_⟩
  rw [slices_IndexFunc__string_string_eq]
  exact hk

theorem page_all_int_1_spec {E : Nat → Sm} {p : Int → Bool} {f : Nat} (hE : ∀ (s : Int) (H : Hp) (Q : Post), Q (.g (.bool (p s))) H → E f [.g (.int .i64 s)] H Q) {H : Hp} {Q : Post} {l : Nat} (hl : gt H l 0 = some (.fn f []))
    {s : Int} (hQ : Q (.g (.bool (!(p s)))) H) : page_all_int_1 E [.g (.int .i64 s), .g (.ptr (some (l, 0)))] H Q := by
  refine ⟨1, ?_⟩
  rw [page_all_int_1_eq, rd_of hl, dF_fn]
  exact hE s H _ hQ
theorem index_int_loop {E : Nat → Sm} {p : Int → Bool} {g l : Nat} {H : Hp} (hE : ∀ (s : Int) (Q : Post), Q (.g (.bool (p s))) H → E g [.g (.int .i64 s), .g (.ptr (some (l, 0)))] H Q)
    {Q : Post} {a : Pl} {n : Nat} {xs : List Int} (h : Is H a n xs) (hQ : ∀ i : Int, (0 ≤ i ↔ ∃ s ∈ xs, p s = true) → Q (.g (.int .i64 i)) H) :
    ∀ m k : Nat, xs.length - k = m → k ≤ xs.length → (∀ i, (hi : i < xs.length) → i < k → p xs[i] = false) → ∃ f, slices_IndexFunc__int_int.l2 E f a n g [(l, 0)] (nI n) (k : Int) H Q := by
  intro m
  have hn := h.len
  have hlim := h.lim
  induction m with
  | zero =>
    intro k hm hle hk
    refine ⟨1, ?_⟩
    rw [slices_IndexFunc__int_int.l2_eq, show ltI (k : Int) (nI n) = false by simp; omega, bite_false]
    refine hQ _ ⟨fun q => by omega, fun ⟨s, hs, hp⟩ => ?_⟩
    obtain ⟨i, hi, rfl⟩ := List.getElem_of_mem hs
    rw [hk i hi (by omega)] at hp; cases hp
  | succ m ih =>
    intro k hm hle hk
    have hkn : k < xs.length := by omega
    have hlt : ltI (k : Int) (nI n) = true := by simp; omega
    cases hs : p xs[k] with
    | false =>
      obtain ⟨f, hf⟩ := ih (k + 1) (by omega) (by omega) (fun i hi hik => by
        by_cases e : i = k
        · subst e; exact hs
        · exact hk i hi (by omega))
      refine ⟨f + 1, ?_⟩
      rw [slices_IndexFunc__int_int.l2_eq, bite_t hlt, chk_true, h.rd k rfl hkn]
      refine hE _ _ ?_
      rw [rG_g, dB_bool, hs, bite_false, wrap_succ (by omega)]
      exact hf
    | true =>
      refine ⟨1, ?_⟩
      rw [slices_IndexFunc__int_int.l2_eq, bite_t hlt, chk_true, h.rd k rfl hkn]
      refine hE _ _ ?_
      rw [rG_g, dB_bool, hs, bite_true]
      exact hQ _ ⟨fun _ => ⟨_, List.getElem_mem hkn, hs⟩, fun _ => by omega⟩
theorem page_all_int_spec {E : Nat → Sm} {p : Int → Bool} {f : Nat} (hE : ∀ (s : Int) (H : Hp) (Q : Post), Q (.g (.bool (p s))) H → E f [.g (.int .i64 s)] H Q) {H : Hp} {Q : Post}
    {a : Pl} {n : Nat} {xs : List Int} (h : Is H a n xs) (hQ : ∀ b H', H <+: H' → (b = true ↔ ∀ s ∈ xs, p s = true) → Q (.g (.bool b)) H') : page_all_int E [.g (.sl a n 1), .g (.fn f [])] H Q := by
  refine ⟨1, ?_⟩
  rw [page_all_int_eq]
  have hp := pre_pu H (.row true 41 [.fn f []])
  refine ⟨1, ?_⟩
  rw [slices_ContainsFunc__int_int_eq]
  obtain ⟨k, hk⟩ := index_int_loop (E := dynOf [(74, page_all_int_1 E)]) (p := fun s => !(p s)) (g := 74) (l := H.length) (H := H ++ [.row true 41 [.fn f []]])
    (fun s Q hQ => by rw [dynOf_hit]; exact page_all_int_1_spec hE (by simp [gt]) hQ) (Q := fun r H1 => rG r fun v2 => dI .i64 v2 fun i3 => rG (.g (.bool (leI 0 i3))) fun v2 => dB v2 fun b3 => Q (.g (.bool (!b3))) H1) (h.mono hp)
    (fun i hi => by
      rw [rG_g, dI_int, rG_g, dB_bool]
      refine hQ _ _ hp ?_
      simp only [leI_def, Bool.not_eq_true', decide_eq_false_iff_not]
      rw [hi]
      constructor
      · intro q s hs
        cases e : p s with
        | true => rfl
        | false => exact (q ⟨s, hs, by simp [e]⟩).elim
      · rintro q ⟨s, hs, e⟩
        rw [q s hs] at e; cases e) _ 0 rfl (Nat.zero_le _) (fun i hi h => by omega)
  refine ⟨k + 1, ?_⟩
  rw [slices_IndexFunc__int_int_eq]
  exact hk
end Go.Am
