import Derived.Test.YtmjnenpllddhfaaE4
set_option linter.unusedVariables false
set_option linter.unusedSimpArgs false
namespace Go.Am

section
variable {H : Hp} {Q : Post} {c : PC} {p : Pg}
theorem nothing_eq {H : Hp} {u l : Bool} {a1 : Pl} {n1 : Nat} {a2 : Pl} {n2 : Nat} {a3 : Pl} {n3 : Nat} {p : Pg} (h : PgAt H u l a1 n1 a2 n2 a3 n3 p) {X : Bool → Prop} (hX : X (nothingB p)) :
    bite (!u) (bite (!l) (X (eqI (wrapI .i64 ((wrapI .i64 ((nI n1) + (nI n2))) + (nI n3))) 0)) (X false)) (X false) := by
  obtain ⟨hu, hl, hk, hv, hi⟩ := h
  have e1 := hk.len
  have e2 := hv.len
  have e3 := hi.len
  have l1 := hk.lim
  have l2 := hv.lim
  have l3 := hi.lim
  unfold nothingB at hX
  rw [hu, hl] at hX
  refine bite_of (fun e => ?_) (fun e => ?_)
  · rw [e, Bool.true_and] at hX
    refine bite_of (fun e' => ?_) (fun e' => ?_)
    · rw [e', Bool.true_and] at hX
      rw [wrap64 (n := nI n1 + nI n2) (by simp; omega) (by simp; omega), wrap64 (by simp; omega) (by simp; omega), eqI_def]
      have : decide (nI n1 + nI n2 + nI n3 = 0) = (p.keys.isEmpty && (p.vals.isEmpty && p.kids.isEmpty)) := by
        rw [Bool.eq_iff_iff]
        simp only [decide_eq_true_eq, Bool.and_eq_true, List.isEmpty_iff_length_eq_zero]
        simp only [nI_def]
        omega
      rw [this]
      exact hX
    · rw [e', Bool.false_and] at hX; exact hX
  · rw [e, Bool.false_and] at hX; exact hX
theorem page_Nothing_spec (h : c.at H p) (hQ : Q (.g (.bool (nothingB p))) H) : page_Nothing [.agg [.bool c.u, .bool c.l, .sl c.a1 c.n1 1, .sl c.a2 c.n2 1, .sl c.a3 c.n3 1]] H Q := by
  refine ⟨1, ?_⟩
  rw [page_Nothing_eq]
  exact nothing_eq h (X := fun b => Q (.g (.bool b)) H) hQ
theorem ref9_nothing_spec (h : c.at H p) (hQ : Q (.g (.bool (nothingB p))) H) : ref9_nothing [.agg [.bool c.u, .bool c.l, .sl c.a1 c.n1 1, .sl c.a2 c.n2 1, .sl c.a3 c.n3 1]] H Q := by
  refine ⟨1, ?_⟩
  rw [ref9_nothing_eq]
  exact nothing_eq h (X := fun b => Q (.g (.bool b)) H) hQ
end

theorem restD_succ {T : List Pg} {met : List Bool} : restD T met = (List.range T.length).all fun i => met[i]?.getD true || nothingB (T[i]?.getD noPg) := rfl
def restK (T : List Pg) (met : List Bool) (k : Nat) : Bool := (List.range k).all fun i => met[i]?.getD true || nothingB (T[i]?.getD noPg)
theorem restK_succ (T : List Pg) (met : List Bool) (k : Nat) : restK T met (k + 1) = (restK T met k && (met[k]?.getD true || nothingB (T[k]?.getD noPg))) := by simp [restK, List.range_succ]
theorem restK_false {T : List Pg} {met : List Bool} {k m : Nat} (h : restK T met k = false) (hk : k ≤ m) : restK T met m = false := by
  induction hk with
  | refl => exact h
  | step _ ih => rw [restK_succ, ih]; rfl

section
variable {T : List Pg} {a : Pl} {cs : List PC} {H0 H : Hp} {Q : Post} {lw lm : Nat} {t t' : TypeId} {st : WS}
theorem sound_walk_rest_spec (hT : Tr H0 a 48 cs T) (h0 : H0 <+: H) (hW : WOK H t t' lw lm a st) (hQ : Q (.g (.bool (restD T st.met))) H) : sound_walk_rest [.g (.ptr (some (lw, 0)))] H Q := by
  have hlm := hW.len
  have hlT := hT.lenT
  have hQ' : Q (.g (.bool (restK T st.met 48))) H := by have : restD T st.met = restK T st.met 48 := by unfold restD restK; rw [hlT]
                                                        rw [← this]; exact hQ
  have loop : ∀ f k : Nat, 48 - k < f → k ≤ 48 → restK T st.met k = true → sound_walk_rest.l2 f (some (lw, 0)) a 48 (nI 48) (k : Int) H Q := by
    intro f
    induction f with
    | zero => intro k hf; omega
    | succ f ih =>
      intro k hf hk hr
      rw [sound_walk_rest.l2_eq]
      by_cases hkn : k < 48
      · obtain ⟨l, o, c, p, rfl, hc, hp, hpc, g0, g1, g2, g3, g4⟩ := (hT.mono h0).get hkn
        have hs := restK_succ T st.met k
        have hmet : st.met[k]? = some (st.met[k]'(by omega)) := List.getElem?_eq_getElem (by omega)
        rw [hr, hmet, hp, Option.getD_some, Option.getD_some, Bool.true_and] at hs
        rw [bite_t (by simp; omega), chk_true]
        refine chk_of (by simp; omega) ?_
        have etN : tN (k : Int) = k := rfl
        rw [pS_some, etN, rdPage_of g0 g1 g2 g3 g4, pS_some, rd_of (v := .sl (some (lm, 0)) 48 1) (by rw [gt_some hW.row]; rfl), dL_sl, chk_true]
        refine chk_of (by simp; omega) ?_
        rw [pS_some, rd_of (v := .bool (st.met[k]'(by omega))) (by rw [gt_some hW.met]; simp [hlm, hkn]), dB_bool, wrap_succ (by omega)]
        refine bite_of (fun e => ?_) (fun e => ?_)
        · have em : st.met[k]'(by omega) = false := by simpa using e
          rw [em, Bool.false_or] at hs
          refine page_Nothing_spec hpc ?_
          simp only [rG_g, dB_bool]
          refine bite_of (fun e2 => ?_) (fun e2 => ?_)
          · have : nothingB p = false := by simpa using e2
            rw [this] at hs
            rw [restK_false hs (by omega)] at hQ'
            exact hQ'
          · have : nothingB p = true := by simpa using e2
            rw [this] at hs
            exact ih (k + 1) (by omega) (by omega) hs
        · have em : st.met[k]'(by omega) = true := by simpa using e
          rw [em, Bool.true_or] at hs
          exact ih (k + 1) (by omega) (by omega) hs
      · obtain rfl : k = 48 := by omega
        rw [bite_f (by decide)]
        rw [hr] at hQ'
        exact hQ'
  refine ⟨50, ?_⟩
  rw [sound_walk_rest_eq, pS_some, rd_of (v := .sl a 48 5) (by rw [gt_some hW.row]; rfl), dL_sl]
  exact loop 49 0 (by omega) (Nat.zero_le _) rfl
theorem unmet_rep : ∀ n, unmet (List.replicate n false) = n
  | 0 => rfl
  | n + 1 => by have := unmet_rep n; unfold unmet at this ⊢; simp [List.replicate_succ]
set_option maxRecDepth 100000 in
theorem sound_look_spec {n lt : Nat} (hT : Tr H a n cs T) (hg : gt H lt 0 = some (.sl a n 5)) (hQ : ∀ H', H <+: H' → Q (.g (.int .i64 (heightD T : Int))) H') : sound_look [.g (.ptr (some (lt, 0)))] H Q := by
  refine ⟨1, ?_⟩
  have hlT := hT.lenT
  rw [sound_look_eq, pS_some, rd_of (v := .sl a n 5) (by exact hg), dL_sl]
  refine bite_of (fun e => ?_) (fun e => ?_)
  · have : ¬ T.length = 48 := by simp at e; omega
    have h0 : heightD T = 0 := by unfold heightD; rw [decide_eq_false this]
    have := hQ H (List.prefix_refl _)
    rw [h0] at this
    exact this
  · obtain rfl : n = 48 := by simp at e; omega
    have hlt := gt_lt hg
    have p1 := pre_pu H (.row true 4 (repN (tN 48) [.bool false]))
    rw [pS_some, rd_of (v := .sl a 48 5) (by exact hg), dL_sl, rd_of (v := .sl a 48 5) (by exact gt_pre p1 hg), dL_sl]
    refine ⟨rfl, ?_⟩
    simp only [pu_def, ln_def]
    have p2 := p1.trans (pre_pu _ (.row true 86 [.sl a 48 5, .sl (some (H.length, 0)) 48 1, .int .i64 (-1), .int .i64 0]))
    have hl1 : (H ++ [Obj.row true 4 (repN (tN 48) [.bool false])]).length = H.length + 1 := by simp
    have hW : WOK ((H ++ [.row true 4 (repN (tN 48) [.bool false])]) ++ [.row true 86 [.sl a 48 5, .sl (some (H.length, 0)) 48 1, .int .i64 (-1), .int .i64 0]]) 86 4 (H.length + 1) H.length a ws0 := by
      refine ⟨?_, ?_, rfl, by omega⟩
      · rw [List.getElem?_append_right (by rw [hl1]; omega), hl1]; simp [ws0, pd]
      · rw [List.append_assoc, List.getElem?_append_right (Nat.le_refl _)]; simp; rfl
    rw [hl1]
    have hu : unmet ws0.met = 48 := unmet_rep 48
    refine ⟨49, ?_⟩
    refine sound_walk_main (T := T) (H0 := H) hT (lo := H.length) (hi := H.length + 2) (Nat.le_refl _) (by omega) (by omega) (Nat.le_refl _) (by omega) 49 0 1 (mkS []) (mkS []) ws0 _ _ (by rw [hu]; omega) p2 hW (by omega) (by omega) (by omega) (by rw [hu]; show 0 + 4 * 48 ≤ 1000; omega) (fun H' c' hw => ?_) (fun H' st' c' hW' hw => ?_)
    · simp only [rG_g, dB_bool]
      rw [bite_t (by decide)]
      have h0 : heightD T = 0 := by unfold heightD; rw [decide_eq_true hlT]; dsimp only; rw [hw]
      have := hQ H' (c'.pre p2 (Nat.le_refl _))
      rw [h0] at this
      exact this
    · simp only [rG_g, dB_bool]
      rw [bite_f (by decide)]
      have p3 := c'.pre p2 (Nat.le_refl _)
      refine sound_walk_rest_spec hT p3 hW' ?_
      simp only [rG_g, dB_bool]
      obtain ⟨_, _, u3, u4⟩ := walkD_unmet T _ _ _ _ _ _ _ hw
      have hh : heightD T = (match restD T st'.met && decide (st'.count ≤ 60) with | true => st'.deep | false => 0) := by unfold heightD; rw [decide_eq_true hlT]; dsimp only; rw [hw]; rfl
      refine bite_of (fun e => ?_) (fun e => ?_)
      · have er : restD T st'.met = false := by simpa using e
        rw [er, Bool.false_and] at hh
        have := hQ H' p3
        rw [hh] at this
        exact this
      · have er : restD T st'.met = true := by simpa using e
        rw [er, Bool.true_and] at hh
        rw [rd_of (v := .int .i64 st'.count) (by rw [gt_some hW'.row]; rfl), dI_int]
        refine bite_of (fun e => ?_) (fun e => ?_)
        · have : ¬ st'.count ≤ 60 := by simp at e; omega
          rw [decide_eq_false this] at hh
          have := hQ H' p3
          rw [hh] at this
          exact this
        · have : st'.count ≤ 60 := by simp at e; omega
          rw [decide_eq_true this] at hh
          rw [rd_of (v := .int .i64 (pd st'.deep)) (by rw [gt_some hW'.row]; rfl), dI_int, pd_pos (u3 (Nat.le_refl _))]
          have := hQ H' p3
          rw [hh] at this
          exact this
theorem sound_Height_spec {n : Nat} (hT : Tr H a n cs T) (hQ : ∀ H', H <+: H' → Q (.g (.int .i64 (heightD T : Int))) H') : sound_Height [.agg [.sl a n 5]] H Q := by
  refine ⟨1, ?_⟩
  rw [sound_Height_eq]
  have p1 := pre_pu H (.row true 24 [.sl a n 5])
  refine sound_look_spec (hT.mono p1) (by simp [gt]) fun H' p2 => ?_
  simp only [rG_g, dI_int]
  exact hQ H' (p1.trans p2)
theorem sound_Sound_spec {n : Nat} (hT : Tr H a n cs T) (hQ : ∀ H', H <+: H' → Q (.g (.bool (decide (0 < heightD T)))) H') : sound_Sound [.agg [.sl a n 5]] H Q := by
  refine ⟨1, ?_⟩
  rw [sound_Sound_eq]
  have p1 := pre_pu H (.row true 24 [.sl a n 5])
  refine sound_look_spec (hT.mono p1) (by simp [gt]) fun H' p2 => ?_
  simp only [rG_g, dI_int, ltI_def]
  have := hQ H' (p1.trans p2)
  rwa [show decide ((0 : Int) < (heightD T : Int)) = decide (0 < heightD T) from by rw [Bool.eq_iff_iff]; simp]
end
end Go.Am
