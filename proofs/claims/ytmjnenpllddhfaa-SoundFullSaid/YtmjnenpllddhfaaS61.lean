import Derived.Test.YtmjnenpllddhfaaS60
set_option linter.unusedVariables false
set_option linter.unusedSimpArgs false
namespace Go.Am

def NoAdj (zs : List Int) : Prop := ∀ i, (h : i + 1 < zs.length) → zs[i]'(by omega) ≠ zs[i + 1]

theorem Is.row {H : Hp} {l o n : Nat} {own : Bool} {t : TypeId} {ws : List Int} (h : H[l]? = some (.row own t (ws.map (GV.int .i64)))) (ho : o + n = ws.length) (hlim : n * 8 ≤ 140737488351232) : Is H (some (l, o)) n (ws.drop o) :=
  ⟨by simp only [cells?, h]; rw [if_pos (by simp; omega)]; congr 1; rw [← List.map_drop, ← List.map_take, List.take_of_length_le (by simp; omega)], by simp; omega, hlim⟩

theorem compact_l9 {H0 : Hp} {l n o n2 : Nat} {Q : Post} (hb : H0.length ≤ l) (hlim : n * 8 ≤ 140737488351232) (hon : o + n2 = n) (hQ : ∀ (j : Nat) H', H0 <+: H' → j < n → Q (.g (.sl (some (l, 0)) j 1)) H') :
    ∀ (m' m j : Nat) (H : Hp) (ws : List Int), n2 - m = m' → 1 ≤ m → m ≤ n2 → 1 ≤ j → j + 1 ≤ o + m → H0 <+: H → H[l]? = some (.row true 3 (ws.map (GV.int .i64))) → ws.length = n →
      ∃ f, slices_Compact__int_int.l9 f (some (l, 0)) n (j : Int) (some (l, o)) n2 (m : Int) H Q := by
  intro m'
  induction m' with
  | zero =>
    intro m j H ws hm h1 h2 hj hjo h0 hrow hw
    refine ⟨1, ?_⟩
    obtain ⟨d, hd⟩ : ∃ d, n - j = d + 1 := ⟨n - j - 1, by omega⟩
    rw [slices_Compact__int_int.l9_eq, bite_f (by simp; omega), chk_true]
    refine chk_of (by simp) (chk_of (by simp; omega) ?_)
    simp only [tN_def, Int.toNat_natCast, Nat.mul_one, shf_some, Nat.zero_add, chk_true, hd]
    show (match H[l]? with
      | some (.row true t cs) => j + (d + 1) * 1 ≤ cs.length ∧ _
      | _ => False)
    rw [hrow]
    refine ⟨by simp; omega, chk_of (by simp) (chk_of (by simp; omega) ?_)⟩
    exact hQ j _ (pre_set h0 hb _) (by omega)
  | succ m' ih =>
    intro m j H ws hm h1 h2 hj hjo h0 hrow hw
    have hI := Is.row (o := o) (n := n2) hrow (by omega) (by omega)
    have hmn : m < (ws.drop o).length := by simp; omega
    obtain ⟨m1, rfl⟩ : ∃ m1, m = m1 + 1 := ⟨m - 1, by omega⟩
    have hm1 : m1 < (ws.drop o).length := by omega
    have hlt : ltI ((m1 + 1 : Nat) : Int) (nI n2) = true := by simp; omega
    by_cases he : (ws.drop o)[m1 + 1] = (ws.drop o)[m1]
    · obtain ⟨f, hf⟩ := ih (m1 + 1 + 1) j H ws (by omega) (by omega) (by omega) hj (by omega) h0 hrow hw
      refine ⟨f + 1, ?_⟩
      rw [slices_Compact__int_int.l9_eq, bite_t hlt, chk_true, hI.rd (m1 + 1) rfl hmn, chk_true, hI.rd m1 (wrap_pred (by omega)) hm1, bite_f (by simpa using he), wrap_succ (by omega)]
      exact hf
    · have hjn : j < (ws.map (GV.int .i64)).length := by simp; omega
      obtain ⟨f, hf⟩ := ih (m1 + 1 + 1) (j + 1) (H.set l (.row true 3 ((ws.set j (ws.drop o)[m1 + 1]).map (GV.int .i64)))) (ws.set j (ws.drop o)[m1 + 1]) (by omega) (by omega) (by omega) (by omega) (by omega) (pre_set h0 hb _)
        (by rw [List.getElem?_set_self]; exact (List.getElem?_eq_some_iff.1 hrow).1) (by simpa using hw)
      refine ⟨f + 1, ?_⟩
      rw [slices_Compact__int_int.l9_eq, bite_t hlt, chk_true, hI.rd (m1 + 1) rfl hmn, chk_true, hI.rd m1 (wrap_pred (by omega)) hm1, bite_t (by simpa using he), chk_true, hI.rd (m1 + 1) rfl hmn, chk_true]
      refine chk_of (by simp; omega) ?_
      simp only [tN_def, Int.toNat_natCast, Nat.mul_one, pS_some, Nat.zero_add]
      rw [wr_of hrow hjn, wrap_succ (by omega), wrap_succ (by omega)]
      rw [List.map_set] at hf
      exact hf

theorem compact_spec {H0 H : Hp} {l : Nat} {zs : List Int} {Q : Post} (h0 : H0 <+: H) (hb : H0.length ≤ l) (hrow : H[l]? = some (.row true 3 (zs.map (GV.int .i64)))) (hlim : zs.length * 8 ≤ 140737488351232)
    (hQ : ∀ (a : Pl) (j : Nat) H', H0 <+: H' → (j = zs.length ↔ NoAdj zs) → Q (.g (.sl a j 1)) H') : slices_Compact__int_int [.g (.sl (some (l, 0)) zs.length 1)] H Q := by
  have hI := Is.row (o := 0) (n := zs.length) hrow (by omega) hlim
  rw [List.drop_zero] at hI
  have loop : ∀ m k : Nat, zs.length - k = m → k + 1 ≤ zs.length → (∀ i, (h : i + 1 < zs.length) → i < k → zs[i]'(by omega) ≠ zs[i + 1]) → ∃ f, slices_Compact__int_int.l4 f (some (l, 0)) zs.length ((k + 1 : Nat) : Int) H Q := by
    intro m
    induction m with
    | zero => intro k hm hk; omega
    | succ m ih =>
      intro k hm hk hne
      by_cases hkn : k + 1 < zs.length
      · have hlt : ltI ((k + 1 : Nat) : Int) (nI zs.length) = true := by simp; omega
        by_cases he : zs[k + 1] = zs[k]'(by omega)
        · obtain ⟨f, hf⟩ := compact_l9 (H0 := H0) (l := l) (n := zs.length) (o := k + 1) (n2 := zs.length - (k + 1)) (Q := Q) hb hlim (by omega) (fun j H' h1 h2 => hQ _ j H' h1 ⟨fun e => by omega, fun q => (q k hkn he.symm).elim⟩)
            _ 1 (k + 1) H zs rfl (by omega) (by omega) (by omega) (by omega) h0 hrow rfl
          refine ⟨f + 1, ?_⟩
          rw [slices_Compact__int_int.l4_eq, bite_t hlt, chk_true, hI.rd (k + 1) rfl hkn, chk_true, hI.rd k (wrap_pred (by omega)) (by omega), bite_t (by simpa using he), chk_true]
          refine chk_of (by simp; omega) (chk_of (by simp; omega) ?_)
          simp only [tN_def, Int.toNat_natCast, Nat.mul_one, shf_some, Nat.zero_add]
          exact hf
        · obtain ⟨f, hf⟩ := ih (k + 1) (by omega) (by omega) (fun i hi hik => by
            by_cases e : i = k
            · subst e; exact fun q => he q.symm
            · exact hne i hi (by omega))
          refine ⟨f + 1, ?_⟩
          rw [slices_Compact__int_int.l4_eq, bite_t hlt, chk_true, hI.rd (k + 1) rfl hkn, chk_true, hI.rd k (wrap_pred (by omega)) (by omega), bite_f (by simpa using he), wrap_succ (by omega)]
          exact hf
      · refine ⟨1, ?_⟩
        rw [slices_Compact__int_int.l4_eq, bite_f (by simp; omega)]
        exact hQ _ _ _ h0 ⟨fun _ i hi => hne i hi (by omega), fun _ => rfl⟩
  by_cases h2 : zs.length < 2
  · refine ⟨1, ?_⟩
    rw [slices_Compact__int_int_eq, bite_t (by simp; omega)]
    exact hQ _ _ _ h0 ⟨fun _ i hi => by omega, fun _ => rfl⟩
  · obtain ⟨f, hf⟩ := loop _ 0 rfl (by omega) (fun i hi h => by omega)
    refine ⟨f + 1, ?_⟩
    rw [slices_Compact__int_int_eq, bite_f (by simp; omega)]
    exact hf

/-- sorted, no two neighbours the same: no two the same -/
theorem noAdj_sorted {zs : List Int} : NoAdj (zs.mergeSort fun x y => decide (x ≤ y)) ↔ zs.Nodup := by
  have hp := List.mergeSort_perm zs (fun x y => decide (x ≤ y))
  have hs : (zs.mergeSort fun x y => decide (x ≤ y)).Pairwise fun x y => x ≤ y := by
    have := List.pairwise_mergeSort (le := fun (x y : Int) => decide (x ≤ y)) (fun a b c h1 h2 => by simp at *; omega) (fun a b => by simp; omega) zs
    exact this.imp fun h => by simpa using h
  rw [← hp.nodup_iff]
  generalize (zs.mergeSort fun x y => decide (x ≤ y)) = ws at hs
  clear hp
  constructor
  · intro h
    rw [List.Nodup, List.pairwise_iff_getElem]
    have key : ∀ d i, (hi : i + d + 1 < ws.length) → ws[i]'(by omega) < ws[i + d + 1] := by
      intro d
      induction d with
      | zero =>
        intro i hi
        have h1 := (List.pairwise_iff_getElem.1 hs) i (i + 1) (by omega) (by omega) (by omega)
        have h2 := h i (by omega)
        simp only [Nat.add_zero]
        omega
      | succ d ih =>
        intro i hi
        have h1 := ih i (by omega)
        have h2 := (List.pairwise_iff_getElem.1 hs) (i + d + 1) (i + (d + 1) + 1) (by omega) (by omega) (by omega)
        omega
    intro i j hi hj hij
    obtain ⟨d, rfl⟩ : ∃ d, j = i + d + 1 := ⟨j - i - 1, by omega⟩
    have := key d i hj
    omega
  · intro h i hi
    exact (List.pairwise_iff_getElem.1 h) i (i + 1) (by omega) (by omega) (by omega)

theorem page_unlike_spec {E : Nat → Sm} {H : Hp} {Q : Post} {a : Pl} {n : Nat} {zs : List Int} (h : Is H a n zs) (hQ : ∀ b H', H <+: H' → (b = true ↔ zs.Nodup) → Q (.g (.bool b)) H') : page_unlike E [.g (.sl a n 1)] H Q := by
  refine ⟨1, ?_⟩
  rw [page_unlike_eq]
  refine ⟨1, ?_⟩
  rw [slices_Values__int_int_eq, rG_g]
  refine ⟨1, ?_⟩
  rw [slices_Sorted_int_eq]
  refine ⟨1, ?_⟩
  rw [slices_Collect_int_eq]
  have hlen := h.len
  have hlim := h.lim
  have hp := pre_pu H (.row true 32 [.sl a n 1])
  refine ⟨H.length, 32, [.sl a n 1], a, n, zs, rfl, by simp, rfl, (h.mono hp).cells, by unfold Lim; omega, fun hz => ?_, fun hz => ?_⟩
  · simp only [rG_g, dL_sl]
    refine .inl ⟨rfl, ?_⟩
    simp only [rG_g, dL_sl]
    refine ⟨1, ?_⟩
    rw [slices_Compact__int_int_eq, bite_t (by simp)]
    simp only [rG_g, dL_sl]
    refine hQ _ _ hp ?_
    subst hz
    simp [hlen]
  · simp only [rG_g, dL_sl]
    refine .inr ⟨(H ++ [Obj.row true 32 [.sl a n 1]]).length, zs, rfl, hz, by unfold Lim; omega, by simp, ?_⟩
    dsimp only
    have e : ((H ++ [Obj.row true 32 [.sl a n 1]]) ++ [Obj.row true 3 (zs.map (GV.int .i64))]).set (H ++ [Obj.row true 32 [.sl a n 1]]).length (Obj.row true 3 ((zs.mergeSort fun x y => decide (x ≤ y)).map (GV.int .i64))) =
        (H ++ [Obj.row true 32 [.sl a n 1]]) ++ [Obj.row true 3 ((zs.mergeSort fun x y => decide (x ≤ y)).map (GV.int .i64))] := by
      rw [List.set_append_right _ _ (Nat.le_refl _)]; simp
    simp only [pu_def, ln_def]
    rw [e]
    have hsl : (zs.mergeSort fun x y => decide (x ≤ y)).length = zs.length := by simp
    have key := compact_spec (H0 := H) (H := (H ++ [Obj.row true 32 [.sl a n 1]]) ++ [Obj.row true 3 ((zs.mergeSort fun x y => decide (x ≤ y)).map (GV.int .i64))]) (l := (H ++ [Obj.row true 32 [.sl a n 1]]).length)
      (zs := zs.mergeSort fun x y => decide (x ≤ y)) (hp.trans (List.prefix_append _ _)) (by simp) (by simp) (by rw [hsl]; omega)
      (Q := fun r8 H9 => rG r8 fun v10 => dL 1 v10 fun x11 n12 => Q (.g (.bool (eqI (nI n12) (nI n)))) H9) (fun a' j H' h1 h2 => by
        simp only [rG_g, dL_sl]
        refine hQ _ _ h1 ?_
        rw [← noAdj_sorted, ← h2, hsl, ← hlen]
        simp
        omega)
    rw [hsl] at key
    exact key
end Go.Am
