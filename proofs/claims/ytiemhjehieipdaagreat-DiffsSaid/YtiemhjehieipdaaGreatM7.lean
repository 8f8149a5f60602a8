import Derived.Test.YtiemhjehieipdaaGreatM6
set_option linter.unusedVariables false
set_option linter.unusedSimpArgs false
namespace Go.Am

section
variable {H : Hp} {Q : Post} {x : Pl} {n : Nat} {cs : List PC} {T : List Pg}
def imE (T : List Pg) : IM := match decide (0 < heightD T) with
  | true => imgs T 48
  | false => []
def chE (S T : List Pg) : IM := match decide (0 < heightD S) && decide (0 < heightD T) with
  | true => chg S T 48
  | false => []
def erC (S T : List Pg) : Int := match decide (0 < heightD S) && decide (0 < heightD T) with
  | true => 0
  | false => 1500
theorem diff_Images_all (hT : Tr H x n cs T) (hQ : ∀ a m H', H <+: H' → Own H' H.length tImg a (m * 2) (imCells (imE T)) → (imE T).length = m → m ≤ 48 → Q (.tup [.s (.sl a m 2), .s (.int .i64 (errE 1500 T))]) H') : diff_Images [.agg [.sl x n 5]] H Q := by
  refine diff_Images_spec hT (fun e H' p => ?_) (fun e a H' p o => ?_)
  · have := hQ none 0 H' p
    unfold imE errE at this
    rw [decide_eq_false (by omega)] at this
    exact this (.inl ⟨rfl, rfl, rfl⟩) rfl (by omega)
  · have := hQ a 48 H' p
    unfold imE errE at this
    rw [decide_eq_true e] at this
    exact this o (by simp) (by omega)
theorem diff_Changed_all {y : Pl} {m : Nat} {ds : List PC} {S : List Pg} (hS : Tr H y m ds S) (hT : Tr H x n cs T) (hQ : ∀ a k H', H <+: H' → Own H' H.length tImg a (k * 2) (imCells (chE S T)) → (chE S T).length = k → k ≤ 48 → Q (.tup [.s (.sl a k 2), .s (.int .i64 (erC S T))]) H') : diff_Changed [.agg [.sl y m 5], .agg [.sl x n 5]] H Q := by
  refine diff_Changed_spec hS hT (fun e H' p => ?_) (fun e1 e2 a k H' p o l => ?_)
  · have := hQ none 0 H' p
    have h : (decide (0 < heightD S) && decide (0 < heightD T)) = false := by
      rcases e with e | e
      · rw [decide_eq_false (show ¬ 0 < heightD S by omega)]; rfl
      · rw [decide_eq_false (show ¬ 0 < heightD T by omega)]; simp
    unfold chE erC at this
    rw [h] at this
    exact this (.inl ⟨rfl, rfl, rfl⟩) rfl (by omega)
  · have := hQ a k H' p
    unfold chE erC at this
    rw [decide_eq_true e1, decide_eq_true e2] at this
    exact this o l (by have := chg_le S T 48; omega)

theorem ref9_Images_all (hT : Tr H x n cs T) (hQ : ∀ a m H', H <+: H' → Own H' H.length tImg a (m * 2) (imCells (imE T)) → (imE T).length = m → m ≤ 48 → Q (.tup [.s (.sl a m 2), .s (.int .i64 (errE 1500 T))]) H') : ref9_Images [.agg [.sl x n 5]] H Q := by
  refine ⟨52, ?_⟩
  rw [ref9_Images_eq]
  refine ref9_Sound_spec hT fun H1 p1 => ?_
  simp only [rG_g, dB_bool]
  refine bite_of (fun e => ?_) (fun e => ?_)
  · have := hQ none 0 H1 p1
    unfold imE errE at this
    rw [decide_eq_false (by simpa using e)] at this
    exact this (.inl ⟨rfl, rfl, rfl⟩) rfl (by omega)
  have hs : 0 < heightD T := by simp at e; omega
  have hn : n = 48 := by rw [← hT.lenT]; exact sound_no hs
  subst hn
  have eI : imE T = imgs T 48 := by unfold imE; rw [decide_eq_true hs]
  have eE : errE 1500 T = 0 := by unfold errE; rw [decide_eq_true hs]
  rw [eI, eE] at hQ
  have loop : ∀ (F k : Nat) (a : Pl) (H' : Hp), 48 - k < F → k ≤ 48 → H <+: H' → Own H' H.length tImg a (k * 2) (imCells (imgs T k)) → ref9_Images.l5 F x 48 a k (k : Int) H' Q := by
    intro F
    induction F with
    | zero => intro k _ _ h; omega
    | succ F ih =>
      intro k a H' hF hk hp ho
      rw [ref9_Images.l5_eq]
      by_cases hkn : k < 48
      · obtain ⟨l, o, c, p, rfl, hc, hpp, hpc, g0, g1, g2, g3, g4⟩ := (hT.mono hp).get hkn
        have etN : tN (k : Int) = k := rfl
        rw [bite_t (by simp; omega), chk_true]
        refine chk_of (by simp; omega) ?_
        rw [pS_some, etN, rdPage_of g0 g1 g2 g3 g4]
        have hpx : ptx T k = ptext p := by unfold ptx; rw [hpp]; rfl
        have cont : ∀ (H2 : Hp) (e : Int), H' <+: H2 → (rT (.tup [.s (.str (ptext p)), .s (.int .i64 e)]) fun c17 =>
            uR c17 fun q18 c19 =>
            rS q18 fun v20 =>
            dS v20 fun s21 =>
            uR c19 fun q22 c23 =>
            rS q22 fun v24 =>
            dI .i64 v24 fun i25 =>
            uE c23 (chk true (ap H2 tImg 2 24 a k [(.int .i64 (k : Int)), (.str s21)] 1 fun x26 n27 H28 =>
            ref9_Images.l5 F (some (l, o)) 48 x26 n27 (wrapI .i64 ((k : Int) + 1)) H28 Q))) := by
          intro H2 e p2
          simp only [rT_tup, uR_cons, rS_s, dS_str, dI_int, uE_nil]
          rw [chk_true]
          refine ap_z (t := tImg) (by omega) (hp.trans p2) (ho.mono p2) (by rfl) (by unfold Lim; omega) fun a' H3 o3 e3 f3 => ?_
          rw [wrap_succ (by omega)]
          refine ih (k + 1) a' H3 (by omega) (by omega) e3.pre ?_
          rw [imgs_succ, imCells_append, hpx]
          exact o3
        refine ref1_PutPage_spec hpc (fun hm H2 p2 => ?_) (fun hm H2 p2 => ?_)
        · have : ptext p = mkS [] := by
            unfold ptext
            cases h : mayB_ p with
            | false => rfl
            | true => exact (hm ((mayB_iff p).1 h)).elim
          have := this ▸ cont H2 600 p2
          exact this
        · have : ptext p = text p := by unfold ptext; rw [(mayB_iff p).2 hm]
          have := this ▸ cont H2 0 p2
          exact this
      · obtain rfl : k = 48 := by omega
        rw [bite_f (by simp)]
        exact hQ a 48 H' hp ho (by simp) (by omega)
  exact loop 51 0 none H1 (by omega) (by omega) p1 (.inl ⟨rfl, rfl, rfl⟩)

theorem ref9_Changed_all {y : Pl} {m : Nat} {ds : List PC} {S : List Pg} (hS : Tr H y m ds S) (hT : Tr H x n cs T) (hQ : ∀ a k H', H <+: H' → Own H' H.length tImg a (k * 2) (imCells (chE S T)) → (chE S T).length = k → k ≤ 48 → Q (.tup [.s (.sl a k 2), .s (.int .i64 (erC S T))]) H') : ref9_Changed [.agg [.sl y m 5], .agg [.sl x n 5]] H Q := by
  refine ⟨52, ?_⟩
  rw [ref9_Changed_eq]
  refine ref9_Images_all hS fun a na H1 p1 o1 l1 b1 => ?_
  simp only [rT_tup, uR_cons, rS_s, dL_sl, dI_int, uE_nil]
  refine ref9_Images_all (hT.mono p1) fun b nb H2 p2 o2 l2 b2 => ?_
  simp only [rT_tup, uR_cons, rS_s, dL_sl, dI_int, uE_nil]
  have p02 := p1.trans p2
  have bad : (decide (0 < heightD S) && decide (0 < heightD T)) = false → Q (.tup [(.s (.sl none 0 2)), (.s (.int .i64 1500))]) H2 := fun h => by
    have := hQ none 0 H2 p02
    unfold chE erC at this
    rw [h] at this
    exact this (.inl ⟨rfl, rfl, rfl⟩) rfl (by omega)
  by_cases h1 : 0 < heightD S
  rotate_left
  · rw [show errE 1500 S = 1500 by unfold errE; rw [decide_eq_false h1], bite_t (by decide)]
    exact bad (by rw [decide_eq_false h1]; rfl)
  rw [show errE 1500 S = 0 by unfold errE; rw [decide_eq_true h1], bite_f (by decide)]
  by_cases h2 : 0 < heightD T
  rotate_left
  · rw [show errE 1500 T = 1500 by unfold errE; rw [decide_eq_false h2], bite_t (by decide)]
    exact bad (by rw [decide_eq_false h2]; simp)
  rw [show errE 1500 T = 0 by unfold errE; rw [decide_eq_true h2], bite_f (by decide)]
  rw [show imE S = imgs S 48 by unfold imE; rw [decide_eq_true h1]] at o1 l1
  rw [show imE T = imgs T 48 by unfold imE; rw [decide_eq_true h2]] at o2 l2
  rw [imgs_length] at l1 l2
  subst l1; subst l2
  rw [show chE S T = chg S T 48 by unfold chE; rw [decide_eq_true h1, decide_eq_true h2]; rfl, show erC S T = 0 by unfold erC; rw [decide_eq_true h1, decide_eq_true h2]; rfl] at hQ
  have ha : Im H2 a 48 (imgs S 48) := (o1.mono p2).im (by simp)
  have hb : Im H2 b 48 (imgs T 48) := o2.im (by simp)
  have loop : ∀ (F k j : Nat) (c : Pl) (H' : Hp), 48 - k < F → k ≤ 48 → H2 <+: H' → Own H' H2.length tImg c (j * 2) (imCells (chg S T k)) → (chg S T k).length = j → ref9_Changed.l7 F a 48 b 48 c j (k : Int) H' Q := by
    intro F
    induction F with
    | zero => intro k j _ _ h; omega
    | succ F ih =>
      intro k j c H' hF hk hp ho hj
      rw [ref9_Changed.l7_eq]
      by_cases hkn : k < 48
      · obtain ⟨l, o, ea, q1, q2⟩ := (ha.mono hp).get? (imgs_get S hkn)
        obtain ⟨l', o', ea', q1', q2'⟩ := (hb.mono hp).get? (imgs_get T hkn)
        subst ea; subst ea'
        have etN : tN (k : Int) = k := rfl
        have hle := chg_le S T k
        rw [bite_t (by simp; omega), chk_true]
        refine chk_of (by simp; omega) ?_
        rw [pS_some, etN, rd_of q1, dI_int, rd_of q2, dS_str, chk_true]
        refine chk_of (by simp; omega) ?_
        rw [pS_some, rd_of q1', dI_int, rd_of q2', dS_str]
        by_cases e : ptx S k = ptx T k
        · rw [bite_f (by simp [e]), wrap_succ (by omega)]
          exact ih (k + 1) j c H' (by omega) (by omega) hp (by rw [chg_same e]; exact ho) (by rw [chg_same e]; exact hj)
        · rw [bite_t (by simpa using e), chk_true]
          refine chk_of (by simp; omega) ?_
          rw [pS_some, rd_of q1', dI_int, rd_of q2', dS_str, chk_true]
          refine ap_z (t := tImg) (by omega) hp ho (by rfl) (by unfold Lim; omega) fun a' H3 o3 e3 f3 => ?_
          rw [wrap_succ (by omega)]
          refine ih (k + 1) (j + 1) a' H3 (by omega) (by omega) e3.pre ?_ (by rw [chg_turn e]; simp [hj])
          rw [chg_turn e, imCells_append]
          exact o3
      · obtain rfl : k = 48 := by omega
        rw [bite_f (by simp)]
        exact hQ c j H' (p02.trans hp) (ho.base p02.length_le) hj (by have := chg_le S T 48; omega)
  exact loop 51 0 0 none H2 (by omega) (by omega) (List.prefix_refl _) (.inl ⟨rfl, rfl, rfl⟩) rfl

/-! pagers -/
theorem ref1_seqMay_spec {k : Int} (hQ : Q (.g (.bool (seqB k))) H) : ref1_seqMay [.g (.int .i64 k)] H Q := by
  refine ⟨1, ?_⟩
  rw [ref1_seqMay_eq]
  unfold seqB at hQ
  refine bite_of (fun e => ?_) (fun e => ?_)
  · have : 1 ≤ k := by simpa using e
    rw [decide_eq_true this] at hQ
    simpa using hQ
  · have : ¬ 1 ≤ k := by simpa using e
    rw [decide_eq_false this] at hQ
    simpa using hQ
theorem ref1_HeadMay_spec {a b : Int} (hQ : Q (.g (.bool (headB a b))) H) : ref1_HeadMay [.agg [.int .i64 a, .int .i64 b]] H Q := by
  refine ⟨1, ?_⟩
  rw [ref1_HeadMay_eq]
  unfold headB at hQ
  refine bite_of (fun e => ?_) (fun e => ?_)
  · have h1 : 0 ≤ a := by simpa using e
    rw [decide_eq_true h1, Bool.true_and] at hQ
    refine bite_of (fun e => ?_) (fun e => ?_)
    · have h2 : a ≤ 2147483647 := by simpa using e
      rw [decide_eq_true h2, Bool.true_and] at hQ
      refine ref1_seqMay_spec ?_
      simp only [rG_g, dB_bool]
      exact hQ
    · have h2 : ¬ a ≤ 2147483647 := by simpa using e
      rw [decide_eq_false h2, Bool.false_and] at hQ
      exact hQ
  · have h1 : ¬ 0 ≤ a := by simpa using e
    rw [decide_eq_false h1, Bool.false_and] at hQ
    exact hQ
theorem ref1_textMay_spec {s : ByteArray} (hQ : Q (.g (.bool (decide (s.size ≤ 96)))) H) : ref1_textMay [.g (.str s)] H Q := by
  refine ⟨1, ?_⟩
  rw [ref1_textMay_eq]
  have : leI (sz s) 96 = decide (s.size ≤ 96) := by rw [Bool.eq_iff_iff]; simp; omega
  rw [this]; exact hQ
theorem ref1_PagerMay_spec {z0 z1 z2 z3 : Int} {a : Pl} {n : Nat} {L : List ByteArray} (h : Ss H a n L) (hQ : Q (.g (.bool (planB z0 z1 z2 z3 L))) H) : ref1_PagerMay [.agg [.int .i64 z0, .int .i64 z1, .int .i64 z2, .int .i64 z3, .sl a n 1]] H Q := by
  have hl := h.len
  have hlim := h.lim
  have loop : ∀ (F k : Nat), n - k < F → k ≤ n → (∀ i (h : i < L.length), i < k → (L[i]).size ≤ 96) → ref1_PagerMay.l2 F z0 z1 z2 z3 a n (k : Int) H Q := by
    intro F
    induction F with
    | zero => intro k h; omega
    | succ F ih =>
      intro k hF hk hs
      rw [ref1_PagerMay.l2_eq]
      by_cases hkn : k < n
      · have hkL : k < L.length := by omega
        rw [bite_t (by simp; omega), chk_true, h.rd k rfl hkL]
        refine ref1_textMay_spec ?_
        simp only [rG_g, dB_bool]
        by_cases e : (L[k]).size ≤ 96
        · rw [decide_eq_true e, bite_f (by decide), wrap_succ (by omega)]
          refine ih (k + 1) (by omega) (by omega) fun i h hi => ?_
          by_cases q : i = k
          · subst q; exact e
          · exact hs i h (by omega)
        · rw [decide_eq_false e, bite_t (by decide)]
          have : planB z0 z1 z2 z3 L = false := by
            unfold planB
            have : longB L = true := by
              unfold longB; rw [List.any_eq_true]
              exact ⟨_, List.getElem_mem hkL, by simp; omega⟩
            rw [this]; simp
          rw [this] at hQ
          exact hQ
      · rw [bite_f (by simp; omega)]
        have hlong : longB L = false := by
          unfold longB; rw [List.any_eq_false]
          intro s hs'
          obtain ⟨i, hi, rfl⟩ := List.getElem_of_mem hs'
          have := hs i hi (by omega)
          simp; omega
        unfold planB at hQ
        rw [hlong] at hQ
        refine ref1_HeadMay_spec ?_
        simp only [rG_g, dB_bool]
        cases e1 : headB z0 z1 with
        | false => rw [bite_false]; rw [e1, Bool.false_and] at hQ; exact hQ
        | true =>
          rw [bite_true]
          rw [e1, Bool.true_and] at hQ
          refine ref1_seqMay_spec ?_
          simp only [rG_g, dB_bool]
          cases e2 : seqB z2 with
          | false => rw [bite_false]; rw [e2, Bool.false_and] at hQ; exact hQ
          | true =>
            rw [bite_true]
            rw [e2, Bool.true_and] at hQ
            refine bite_of (fun e => ?_) (fun e => by rw [decide_eq_false (by simpa using e), Bool.false_and] at hQ; exact hQ)
            rw [decide_eq_true (by simpa using e), Bool.true_and] at hQ
            refine bite_of (fun e => ?_) (fun e => by rw [decide_eq_false (by simpa using e), Bool.false_and] at hQ; exact hQ)
            rw [decide_eq_true (by simpa using e), Bool.true_and] at hQ
            have : eqI (nI n) 48 = (decide (L.length = 48) && !false) := by rw [Bool.eq_iff_iff]; simp; omega
            rw [this]; exact hQ
  refine ⟨n + 2, ?_⟩
  rw [ref1_PagerMay_eq]
  exact loop (n + 1) 0 (by omega) (by omega) (fun i _ h => by omega)

theorem pgsOf_of : ∀ {L : List ByteArray} {P : List Pg}, L.length = P.length → (∀ i (h : i < L.length) (h' : i < P.length), pgOf L[i] = some P[i]) → pgsOf L = some P
  | [], [], _, _ => rfl
  | s :: L, p :: P, hl, h => by
    have h0 := h 0 (by simp) (by simp)
    have := pgsOf_of (L := L) (P := P) (by simpa using hl) fun i h1 h2 => h (i + 1) (by simpa using h1) (by simpa using h2)
    simp only [List.getElem_cons_zero] at h0
    simp only [pgsOf, h0, this]
theorem pgsOf_no : ∀ {L : List ByteArray} {i : Nat} (h : i < L.length), pgOf L[i] = none → pgsOf L = none
  | s :: L, 0, _, h => by simp only [List.getElem_cons_zero] at h; simp only [pgsOf, h]
  | s :: L, i + 1, hi, h => by
    have := pgsOf_no (L := L) (i := i) (by simpa using hi) (by simpa using h)
    cases e : pgOf s <;> simp only [pgsOf, e, this]
def noC : List PC := List.replicate 48 ⟨false, false, none, 0, none, 0, none, 0⟩
def noT : List Pg := List.replicate 48 noPg
theorem no_cells : repN (tN 48) [GV.bool false, .bool false, .sl none 0 1, .sl none 0 1, .sl none 0 1] = pcells noC := by rfl
theorem no_ot (H : Hp) : OT (H ++ [.row true tPg (pcells noC)]) H.length tPg (some (H.length, 0)) 48 noC noT :=
  ⟨.inr ⟨H.length, rfl, Nat.le_refl _, by simp, by rw [pcells_length]; rfl⟩, by simp [noC], by simp [noT], fun i h h' => by
    simp only [noC, noT, List.getElem_replicate]; exact noPg_at _, fun c hc l hl => by
    rw [List.eq_of_mem_replicate hc] at hl
    obtain ⟨o, q | q | q⟩ := hl <;> cases q⟩

theorem ref9_TreeOf_spec {z0 z1 z2 z3 : Int} {L : List ByteArray} (h : Ss H x n L) (hQ1 : treeR z0 z1 z2 z3 L = none → ∀ H', H <+: H' → Q (.tup [.a [.sl none 0 5], .s (.int .i64 1500)]) H')
    (hQ2 : ∀ T, treeR z0 z1 z2 z3 L = some T → ∀ a ds H', H <+: H' → Tr H' a 48 ds T → Q (.tup [.a [.sl a 48 5], .s (.int .i64 0)]) H') :
    ref9_TreeOf [.agg [.int .i64 z0, .int .i64 z1, .int .i64 z2, .int .i64 z3, .sl x n 1]] H Q := by
  have hl := h.len
  refine ⟨52, ?_⟩
  rw [ref9_TreeOf_eq]
  refine ref1_PagerMay_spec h ?_
  simp only [rG_g, dB_bool]
  unfold treeR at hQ1 hQ2
  cases ep : planB z0 z1 z2 z3 L with
  | false =>
    rw [bite_t (b := !false) rfl]
    rw [ep] at hQ1
    exact hQ1 rfl H (List.prefix_refl _)
  | true =>
    rw [bite_f (b := !true) rfl]
    rw [ep] at hQ1 hQ2
    simp only at hQ1 hQ2
    have hsz : ∀ s ∈ L, s.size ≤ 96 := fun s hs => by
      unfold planB longB at ep
      simp only [Bool.and_eq_true, Bool.not_eq_true', List.any_eq_false] at ep
      have := ep.2.2.2.2.2 s hs
      simpa using this
    have hn : n = 48 := by
      unfold planB at ep
      simp only [Bool.and_eq_true, decide_eq_true_eq] at ep
      omega
    subst hn
    simp only [pu_def, ln_def]
    have e48 : tN 48 = 48 := rfl
    have loop : ∀ (F k : Nat) (H' : Hp) (ds : List PC) (T : List Pg) (b : Bool), 48 - k < F → k ≤ 48 → H <+: H' → OT H' H.length tPg (some (H.length, 0)) 48 ds T → (b = true ↔ ∀ i (h : i < L.length), i < k → L[i] = mkS []) →
        (∀ i (h : i < L.length) (h' : i < T.length), i < k → pgOf L[i] = some T[i]) → (∀ i (h' : i < T.length), k ≤ i → T[i] = noPg) → ref9_TreeOf.l6 F z0 z1 z2 z3 x 48 none 0 (some (H.length, 0)) 48 b (k : Int) H' Q := by
      intro F
      induction F with
      | zero => intro k _ _ _ _ h; omega
      | succ F ih =>
        intro k H' ds T b hF hk hp g hb h1 h2
        have hTl := g.lenT
        have hdl := g.len
        rw [ref9_TreeOf.l6_eq]
        by_cases hkn : k < 48
        · have hkL : k < L.length := by omega
          rw [bite_t (by simp; omega), chk_true, (h.mono hp).rd k rfl hkL]
          by_cases es : L[k] = mkS []
          · rw [bite_t (by simp [es]), wrap_succ (by omega)]
            refine ih (k + 1) H' ds T b (by omega) (by omega) hp g (hb.trans ⟨fun q i hi hik => ?_, fun q i hi hik => q i hi (by omega)⟩) (fun i hi hi' hik => ?_) (fun i hi' hik => h2 i hi' (by omega))
            · by_cases e : i = k
              · subst e; exact es
              · exact q i hi (by omega)
            · by_cases e : i = k
              · subst e
                rw [h2 i hi' (Nat.le_refl _), es]; exact pgOf_empty
              · exact h1 i hi hi' (by omega)
          · rw [bite_f (by simpa using es), chk_true, (h.mono hp).rd k rfl hkL]
            refine ref1_GetPage_spec (by have := hsz _ (List.getElem_mem hkL); omega) fun u l a1 n1 a2 n2 a3 n3 p e H2 p2 o2 hc => ?_
            simp only [rT_tup, uR_cons, rC_a, uC_cons, dB_bool, dL_sl, uN_nil, rS_s, dI_int, uE_nil]
            rcases hc with ⟨rfl, hm, ht⟩ | ⟨rfl, rfl, hno⟩
            · rw [bite_f (by decide), chk_true]
              refine chk_of (by simp; omega) ?_
              have etN : tN (k : Int) = k := rfl
              have g2 := g.mono p2
              have hrow : H2[H.length]? = some (.row true tPg (pcells ds)) := by
                rcases g2.own with ⟨q, _⟩ | ⟨l', q, _, hr, _⟩
                · cases q
                · cases q; exact hr
              rw [pS_some, etN, Nat.zero_add]
              refine wr5 (c := ⟨u, l, a1, n1, a2, n2, a3, n3⟩) hrow (by omega) ?_
              rw [wrap_succ (by omega)]
              have hoff : ∀ m, (⟨u, l, a1, n1, a2, n2, a3, n3⟩ : PC).on m → m ≠ H.length := fun m hm' e => by
                have q1 := o2.fresh m hm'
                have q2 := g.own.lt' (l := H.length) rfl
                omega
              have g3 := g2.place (i := k) (c := ⟨u, l, a1, n1, a2, n2, a3, n3⟩) (p := p) (by omega) o2.at hoff
              refine ih (k + 1) _ _ _ false (by omega) (by omega) (pre_set (hp.trans p2) (Nat.le_refl _) _) g3 ⟨fun q => (by cases q), fun q => (es (q k hkL (by omega))).elim⟩ (fun i hi hi' hik => ?_) (fun i hi' hik => ?_)
              · rw [List.getElem_set]
                by_cases e : k = i
                · subst e; rw [if_pos rfl, ← ht]; exact pgOf_text hm
                · rw [if_neg e]
                  exact h1 i hi (by simpa using hi') (by omega)
              · rw [List.getElem_set_ne (by omega)]
                exact h2 i (by simpa using hi') (by omega)
            · rw [bite_t (by decide)]
              refine hQ1 ?_ H2 (hp.trans p2)
              unfold goT
              rw [pgsOf_no hkL (pgOf_none es hno)]
        · obtain rfl : k = 48 := by omega
          have eP : pgsOf L = some T := pgsOf_of (by omega) fun i hi hi' => h1 i hi hi' (by omega)
          have eB : emptyB L = b := by
            rw [Bool.eq_iff_iff, hb]
            unfold emptyB
            rw [List.all_eq_true]
            exact ⟨fun q i hi _ => by have := q _ (List.getElem_mem hi); simpa using this, fun q s hs => by
              obtain ⟨i, hi, rfl⟩ := List.getElem_of_mem hs
              simpa using q i hi (by omega)⟩
          unfold goT at hQ1 hQ2
          rw [eP, eB, Bool.true_and] at hQ1 hQ2
          simp only [List.nil_append] at hQ1 hQ2
          rw [bite_f (by simp)]
          cases b with
          | true =>
            rw [bite_t rfl]
            refine ref9_New_spec fun H2 p2 o2 => ?_
            simp only [rA_agg, uC_cons, dL_sl, uN_nil]
            exact hQ2 newT rfl _ _ H2 (hp.trans p2) o2.tr
          | false =>
            rw [bite_f rfl]
            refine ref9_Sound_spec g.tr fun H2 p2 => ?_
            simp only [rG_g, dB_bool]
            simp only [endT] at hQ1 hQ2
            refine bite_of (fun e => hQ1 ?_ H2 (hp.trans p2)) (fun e => hQ2 T ?_ _ ds H2 (hp.trans p2) (g.tr.mono p2))
            · rw [decide_eq_false (by simpa using e)]
            · rw [decide_eq_true (by simpa using e)]
    rw [e48, ← e48, no_cells, e48]
    exact loop 51 0 _ noC noT true (by omega) (by omega) (List.prefix_append _ _) (no_ot H) ⟨fun _ i _ hi => by omega, fun _ => rfl⟩ (fun i _ _ hi => by omega) (fun i hi _ => by simp only [noT, List.getElem_replicate])

theorem law0_CopyPager_spec {z0 z1 z2 z3 : Int} {L : List ByteArray} (h : Ss H x n L) (hQ : ∀ a H', H <+: H' → Ss H' a n L → Q (.agg [.int .i64 z0, .int .i64 z1, .int .i64 z2, .int .i64 z3, .sl a n 1]) H') : law0_CopyPager [.agg [.int .i64 z0, .int .i64 z1, .int .i64 z2, .int .i64 z3, .sl x n 1]] H Q := by
  have e := h.len
  have l := h.lim
  refine ⟨1, ?_⟩
  rw [law0_CopyPager_eq, chk_true, Nat.mul_one, rdN_of h.cells]
  refine ap0_of (by unfold Lim; omega) (by simp [e]) ?_
  exact hQ _ _ (List.prefix_append _ _) ⟨by simp [cells?, e]; exact List.take_of_length_le (by simp), e, l⟩
theorem law0_SamePager_spec {z0 z1 z2 z3 : Int} {L : List ByteArray} {y : Pl} {m : Nat} (h : Ss H x n L) (h' : Ss H y m L) (hQ : Q (.g (.bool true)) H) : law0_SamePager [.agg [.int .i64 z0, .int .i64 z1, .int .i64 z2, .int .i64 z3, .sl x n 1], .agg [.int .i64 z0, .int .i64 z1, .int .i64 z2, .int .i64 z3, .sl y m 1]] H Q := by
  refine ⟨1, ?_⟩
  rw [law0_SamePager_eq, bite_t (by simp), bite_t (by simp), bite_t (by simp)]
  refine law0_SameTexts_spec h h' fun b hb => ?_
  simp only [rG_g, dB_bool]
  rw [hb.2 rfl]
  exact hQ
theorem imCells_set (ps : IM) (i : Nat) (hi : i < ps.length) (v : Int) : (imCells ps).set (i * 2) (.int .i64 v) = imCells (ps.set i (v, ps[i].2)) := by
  unfold imCells
  induction ps generalizing i with
  | nil => simp at hi
  | cons c cs ih =>
    cases i with
    | zero => rfl
    | succ i =>
      have e1 : (i + 1) * 2 = i * 2 + 1 + 1 := by omega
      have := ih i (by simpa using hi)
      simp only [List.flatMap_cons, List.cons_append, List.nil_append, List.set_cons_succ, e1, this, List.getElem_cons_succ]
theorem law0_SpoilImages_spec {b : Nat} {a : Pl} {m : Nat} {ps : IM} (h : Own H b tImg a (m * 2) (imCells ps)) (hl : ps.length = m) (hm : m ≤ 1000) (hQ : ∀ H', H'.length = H.length → (∀ l, (∀ o, a ≠ some (l, o)) → H'[l]? = H[l]?) → Q (.tup []) H') : law0_SpoilImages [.g (.sl a m 2)] H Q := by
  have loop : ∀ (F k : Nat) (H' : Hp) (qs : IM), m - k < F → k ≤ m → H'.length = H.length → (∀ l, (∀ o, a ≠ some (l, o)) → H'[l]? = H[l]?) → Own H' b tImg a (m * 2) (imCells qs) → qs.length = m → law0_SpoilImages.l1 F a m (k : Int) H' Q := by
    intro F
    induction F with
    | zero => intro k _ _ h; omega
    | succ F ih =>
      intro k H' qs hF hk e1 e2 ho hq
      rw [law0_SpoilImages.l1_eq]
      by_cases hkn : k < m
      · rcases ho with ⟨_, q, _⟩ | ⟨l, rfl, hb, hr, hlen⟩
        · omega
        have hlt := (List.getElem?_eq_some_iff.1 hr).1
        have etN : tN (k : Int) = k := rfl
        have hkq : k < qs.length := by omega
        have g0 : gt H' l (0 + k * 2 + 0) = some (.int .i64 qs[k].1) := by rw [gt_some hr, Nat.zero_add, Nat.add_zero]; exact (imCells_get hkq).1
        rw [bite_t (by simp; omega), chk_true]
        refine chk_of (by simp; omega) ?_
        rw [pS_some, etN, rd_of g0, dI_int, chk_true]
        refine chk_of (by simp; omega) ?_
        rw [pS_some, Nat.zero_add, Nat.add_zero]
        refine wr_row hr (by rw [imCells_length]; omega) ?_
        rw [imCells_set qs k hkq, wrap_succ (by omega)]
        refine ih (k + 1) _ _ (by omega) (by omega) (by simp [e1]) (fun l' h' => ?_) (.inr ⟨l, rfl, hb, List.getElem?_set_self hlt, by rw [imCells_length]; simp [hq]⟩) (by simp [hq])
        rw [List.getElem?_set_ne (fun q => by subst q; exact h' 0 rfl)]
        exact e2 l' h'
      · rw [bite_f (by simp; omega)]
        exact hQ H' e1 e2
  refine ⟨m + 2, ?_⟩
  rw [law0_SpoilImages_eq]
  exact loop (m + 1) 0 H ps (by omega) (by omega) rfl (fun _ _ => rfl) h hl
end
end Go.Am
namespace Go.Am

section
variable {H : Hp} {Q : Post} {x : Pl} {n : Nat} {L : List ByteArray} {z0 z1 z2 z3 : Int}
/-- a tree that may be written over, or none -/
def WT (H : Hp) (b : Nat) (a : Pl) (m : Nat) : Prop := m = 0 ∨ ∃ tp cs, a = some (tp, 0) ∧ b ≤ tp ∧ H[tp]? = some (Obj.row true tPg (pcells cs)) ∧ cs.length = m ∧ m ≤ 1000 ∧ ∀ c ∈ cs, WoP H b 1000 c
theorem TxR.keep {H H' : Hp} {b M : Nat} {a : Pl} {n : Nat} (h : TxR H b M a n) (hk : ∀ l, b ≤ l → l < H.length → H'[l]? = H[l]?) : TxR H' b M a n := by
  rcases h with h | ⟨l, o, xs, e, hb, hr, hl, hm⟩
  · exact .inl h
  · exact .inr ⟨l, o, xs, e, hb, by unfold SRow; rw [hk l hb (List.getElem?_eq_some_iff.1 hr).1]; exact hr, hl, hm⟩
theorem NuR.keep {H H' : Hp} {b : Nat} {a : Pl} {n : Nat} (h : NuR H b a n) (hk : ∀ l, b ≤ l → l < H.length → H'[l]? = H[l]?) : NuR H' b a n := by
  rcases h with h | ⟨l, o, xs, e, hb, hr, hl⟩
  · exact .inl h
  · exact .inr ⟨l, o, xs, e, hb, by unfold IRow; rw [hk l hb (List.getElem?_eq_some_iff.1 hr).1]; exact hr, hl⟩
theorem WT.keep {H H' : Hp} {b : Nat} {a : Pl} {m : Nat} (h : WT H b a m) (hk : ∀ l, b ≤ l → l < H.length → H'[l]? = H[l]?) : WT H' b a m := by
  rcases h with h | ⟨tp, cs, e, hb, hr, hl, hm, hc⟩
  · exact .inl h
  · exact .inr ⟨tp, cs, e, hb, by rw [hk tp hb (List.getElem?_eq_some_iff.1 hr).1]; exact hr, hl, hm, fun c q => ⟨(hc c q).t1.keep hk, (hc c q).t2.keep hk, (hc c q).t3.keep hk, (hc c q).s1, (hc c q).s2, (hc c q).s3⟩⟩
theorem spoil_any {b : Nat} {a : Pl} {m : Nat} (h : WT H b a m) (hQ : ∀ H', H'.length = H.length → (∀ l, l < b → H'[l]? = H[l]?) → Q (.tup []) H') : law0_SpoilTree [.agg [.sl a m 5]] H Q := by
  rcases h with rfl | ⟨tp, cs, rfl, hb, hr, hl, hm, hc⟩
  · refine ⟨2, ?_⟩
    rw [law0_SpoilTree_eq, law0_SpoilTree.l2_eq, bite_f (by decide)]
    exact hQ H rfl fun _ _ => rfl
  · exact law0_SpoilTree_spec hr hb hc hl hm (by omega) hQ
/-- small pages -/
def small (p : Pg) : Prop := (∀ s ∈ p.keys, s.size ≤ 1000) ∧ (∀ s ∈ p.vals, s.size ≤ 1000) ∧ p.keys.length ≤ 1000 ∧ p.vals.length ≤ 1000 ∧ p.kids.length ≤ 1000
theorem small_may {p : Pg} (h : MayP p) : small p := by
  have hk := kids_le h
  have h1 := h.1
  refine ⟨fun s hs => by have := (h.2.keys s hs).2; omega, fun s hs => ?_, by omega, ?_, by omega⟩
  · cases hl : p.leaf with
    | true => have := (h.2.leaf hl).2.2 s hs; omega
    | false => rw [(h.2.inner hl).2.1] at hs; cases hs
  · cases hl : p.leaf with
    | true => have := (h.2.leaf hl).1; omega
    | false => rw [(h.2.inner hl).2.1]; simp
theorem small_no : small noPg := by simp [small, noPg]
theorem small_sound {T : List Pg} (h : 0 < heightD T) : ∀ p ∈ T, small p := fun p hp => by
  rcases sound_pages h p hp with q | rfl
  · exact small_may ((mayB_iff p).1 q)
  · exact small_no
theorem small_new : ∀ p ∈ newT, small p := small_sound (by rw [h_newT]; omega)
theorem treeR_small {T : List Pg} (h : treeR z0 z1 z2 z3 L = some T) : ∀ p ∈ T, small p := by
  unfold treeR at h
  split at h
  · cases h
  · unfold goT at h
    split at h
    · cases h
    · unfold endT at h
      split at h
      · cases h; exact small_new
      · split at h
        · rename_i q; cases h; exact small_sound (by simpa using q)
        · cases h
theorem CT.wt {B : Hp} {a : Pl} {ds : List PC} {T : List Pg} (g : CT B H tPg a 48 ds T) (hs : ∀ p ∈ T, small p) : WT H B.length a 48 := by
  have hd := g.ot.len
  have ht := g.ot.lenT
  rcases g.ot.own with ⟨_, q, _⟩ | ⟨l, rfl, hb, hr, _⟩
  · omega
  refine .inr ⟨l, ds, rfl, hb, hr, hd, by omega, fun c hc => ?_⟩
  obtain ⟨i, hi, rfl⟩ := List.getElem_of_mem hc
  have ho := g.own i hi (by omega)
  obtain ⟨s1, s2, s3, s4, s5⟩ := hs _ (List.getElem_mem (by omega : i < T.length))
  have hat := g.ot.all i hi (by omega)
  have e1 := hat.keys.len
  have e2 := hat.vals.len
  have e3 := hat.kids.len
  have tx : ∀ {a n} {xs : List ByteArray}, Own H B.length tS a n (xs.map GV.str) → (∀ s ∈ xs, s.size ≤ 1000) → TxR H B.length 1000 a n := fun h hs => by
    rcases h with ⟨_, q, _⟩ | ⟨l, e, hb, hr, hl⟩
    · exact .inl q
    · exact .inr ⟨l, 0, _, e, hb, hr, by simp at hl; omega, hs⟩
  refine ⟨tx ho.keys s1, tx ho.vals s2, ?_, by omega, by omega, by omega⟩
  rcases ho.kids with ⟨_, q, _⟩ | ⟨l, e, hb, hr, hl⟩
  · exact .inl q
  · exact .inr ⟨l, 0, _, e, hb, hr, by simp at hl; omega⟩

def trE (z0 z1 z2 z3 : Int) (L : List ByteArray) : List Pg × Int := match treeR z0 z1 z2 z3 L with
  | none => ([], 1500)
  | some T => (T, 0)
theorem diff_Tree_all (h : Ss H x n L) (hQ : ∀ a m ds H', H <+: H' → Tr H' a m ds (trE z0 z1 z2 z3 L).1 → WT H' H.length a m → m ≤ 48 → Q (.tup [.a [.sl a m 5], .s (.int .i64 (trE z0 z1 z2 z3 L).2)]) H') :
    diff_Tree [.agg [.int .i64 z0, .int .i64 z1, .int .i64 z2, .int .i64 z3, .sl x n 1]] H Q := by
  unfold trE at hQ
  refine diff_Tree_spec h (fun e H' p => ?_) (fun T e a ds H' g => ?_)
  · rw [e] at hQ; exact hQ none 0 [] H' p (tr_nil H') (.inl rfl) (by omega)
  · rw [e] at hQ; exact hQ a 48 ds H' g.pre g.ot.tr (g.wt (treeR_small e)) (by omega)
theorem ref9_TreeOf_all (h : Ss H x n L) (hQ : ∀ a m ds H', H <+: H' → Tr H' a m ds (trE z0 z1 z2 z3 L).1 → Q (.tup [.a [.sl a m 5], .s (.int .i64 (trE z0 z1 z2 z3 L).2)]) H') :
    ref9_TreeOf [.agg [.int .i64 z0, .int .i64 z1, .int .i64 z2, .int .i64 z3, .sl x n 1]] H Q := by
  unfold trE at hQ
  refine ref9_TreeOf_spec h (fun e H' p => ?_) (fun T e a ds H' p t => ?_)
  · rw [e] at hQ; exact hQ none 0 [] H' p (tr_nil H')
  · rw [e] at hQ; exact hQ a 48 ds H' p t
theorem pre_of {B H H' : Hp} (p : B <+: H) (hl : H'.length = H.length) (h : ∀ l, l < B.length → H'[l]? = H[l]?) : B <+: H' := by
  rw [List.prefix_iff_eq_take]
  apply List.ext_getElem?
  intro i
  rw [List.getElem?_take]
  split
  · rename_i hi
    rw [h i hi, pre_at p hi]
  · rename_i hi
    exact List.getElem?_eq_none (by omega)

set_option maxRecDepth 100000 in
theorem law15_Diffs_spec {za zb : Pl} {na nb : Nat} {ca cb : List PC} {A B : List Pg} (hA : Tr H za na ca A) (ha : na * 80 ≤ 140737488351232) (hB : Tr H zb nb cb B) (hb : nb * 80 ≤ 140737488351232) (hL : Ss H x n L) (hQ : ∀ H', Q (.g (.bool true)) H') :
    law15_Diffs [.agg [.sl za na 5], .agg [.sl zb nb 5], .agg [.int .i64 z0, .int .i64 z1, .int .i64 z2, .int .i64 z3, .sl x n 1]] H Q := by
  refine ⟨1, ?_⟩
  rw [law15_Diffs_eq]
  refine law0_CopyTree_spec hA ha fun ax cx H1 p1 ox _ _ => ?_
  simp only [rA_agg, uC_cons, dL_sl, uN_nil]
  refine law0_CopyTree_spec (hB.mono p1) hb fun ay cy H2 p2 oy _ _ => ?_
  simp only [rA_agg, uC_cons, dL_sl, uN_nil]
  refine law0_CopyPager_spec (hL.mono (p1.trans p2)) fun az H3 p3 oz => ?_
  simp only [rA_agg, uC_cons, dL_sl, dI_int, uN_nil]
  have x3 := ox.tr.mono (p2.trans p3)
  have y3 := oy.tr.mono p3
  have p03 := p1.trans (p2.trans p3)
  have A3 := hA.mono p03
  have B3 := hB.mono p03
  have L3 := hL.mono p03
  refine diff_Images_all x3 fun c nc H4 p4 oc lc bc => ?_
  simp only [rT_tup, uR_cons, rS_s, dL_sl, dI_int, uE_nil]
  refine ref9_Images_all (A3.mono p4) fun d nd H5 p5 od ld bd => ?_
  simp only [rT_tup, uR_cons, rS_s, dL_sl, dI_int, uE_nil]
  have p35 := p4.trans p5
  refine diff_Changed_all (x3.mono p35) (y3.mono p35) fun g ng H6 p6 og lg bg => ?_
  simp only [rT_tup, uR_cons, rS_s, dL_sl, dI_int, uE_nil]
  have p36 := p35.trans p6
  refine ref9_Changed_all (A3.mono p36) (B3.mono p36) fun i ni H7 p7 oi li bi => ?_
  simp only [rT_tup, uR_cons, rS_s, dL_sl, dI_int, uE_nil]
  have p37 := p36.trans p7
  refine diff_Tree_all (oz.mono p37) fun t nt ct H8 p8 Tt wt bt => ?_
  simp only [rT_tup, uR_cons, rC_a, uC_cons, dL_sl, uN_nil, rS_s, dI_int, uE_nil]
  refine ref9_TreeOf_all (L3.mono (p37.trans p8)) fun u nu cu H9 p9 Tu => ?_
  simp only [rT_tup, uR_cons, rC_a, uC_cons, dL_sl, uN_nil, rS_s, dI_int, uE_nil]
  have p79 := p8.trans p9
  have p69 := p7.trans p79
  have p59 := p6.trans p69
  have p49 := p5.trans p59
  have p39 := p4.trans p49
  refine law0_SameImages_spec ((oc.mono p49).im lc) ((od.mono p59).im ld) (by omega) fun b hb => ?_
  simp only [rG_g, dB_bool]
  rw [hb.2 rfl, bite_f (by decide)]
  refine law0_Num_spec ?_
  simp only [rG_g, dI_int]
  rw [bite_f (by simp)]
  refine law0_SameImages_spec ((og.mono p69).im lg) ((oi.mono p79).im li) (by omega) fun b hb => ?_
  simp only [rG_g, dB_bool]
  rw [hb.2 rfl, bite_f (by decide)]
  refine law0_Num_spec ?_
  simp only [rG_g, dI_int]
  rw [bite_f (by simp)]
  refine law0_SameTree_spec (Tt.mono p9) Tu (by omega) fun b hb => ?_
  simp only [rG_g, dB_bool]
  rw [hb.2 rfl, bite_f (by decide)]
  refine law0_Num_spec ?_
  simp only [rG_g, dI_int]
  rw [bite_f (by simp)]
  -- written over
  refine law0_SpoilImages_spec (oc.mono p49) lc (by omega) fun K1 k1 w1 => ?_
  have og9 := og.mono p69
  have hcg : ∀ l o, g = some (l, o) → ∀ o', c ≠ some (l, o') := fun l o e o' e' => by
    have q1 := og.ge e
    have q2 := oc.ltAny e'
    have := (p5).length_le
    omega
  have ogK : Own K1 H5.length tImg g (ng * 2) (imCells (chE A B)) := og9.keep fun l e => w1 l (fun o' e' => hcg l 0 e o' e')
  refine law0_SpoilImages_spec ogK lg (by omega) fun K2 k2 w2 => ?_
  have l47 := (p5.trans (p6.trans p7)).length_le
  have l67 := p7.length_le
  have wt2 : WT K2 H7.length t nt := wt.keep fun l hl hl8 => by
    rw [w2 l (fun o e => by have := og.ltAny e; omega), w1 l (fun o e => by have := oc.ltAny e; omega), pre_at p9 hl8]
  have l37 := p37.length_le
  have l35 := p35.length_le
  refine spoil_any wt2 fun K3 k3 w3 => ?_
  have p3K : H3 <+: K3 := pre_of p39 (by omega) fun l hl => by
    rw [w3 l (by omega), w2 l (fun o e => by have := og.ge e; omega), w1 l (fun o e => by have := oc.ge e; omega)]
  refine law0_SameTree_spec (x3.mono p3K) (A3.mono p3K) (by omega) fun b hb => ?_
  simp only [rG_g, dB_bool]
  rw [hb.2 rfl, bite_t rfl]
  refine law0_SameTree_spec (y3.mono p3K) (B3.mono p3K) (by omega) fun b hb => ?_
  simp only [rG_g, dB_bool]
  rw [hb.2 rfl, bite_t rfl]
  refine law0_SamePager_spec (oz.mono p3K) (L3.mono p3K) ?_
  simp only [rG_g, dB_bool]
  rw [bite_t rfl]
  refine law15_awake_spec fun K4 p4 => ?_
  simp only [rG_g, dB_bool]
  exact hQ _
end
end Go.Am
