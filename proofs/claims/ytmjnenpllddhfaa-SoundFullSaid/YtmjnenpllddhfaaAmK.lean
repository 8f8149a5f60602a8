import Derived.Test.YtmjnenpllddhfaaAmJ
set_option linter.unusedVariables false
set_option linter.unusedSimpArgs false
namespace Go.Am

section
variable {P : Program} {cx : Cx} {ops : Array Oper} {m : Nat} {σ0 al : List Nat} {φ0 : List LI} {H0 : Hp} {w0 : World} {K : List FV → Hp → Prop}

theorem getD_lt {L : Array Bool} {i : Nat} (h : L.getD i true = false) : i < L.size ∧ L.getD i false = false := by
  rcases Nat.lt_or_ge i L.size with q | q
  · simp [q] at h ⊢; exact h
  · simp [Array.getElem?_eq_none q] at h
theorem lis_set {L : Array Bool} {i j : Nat} (h : (L.setIfInBounds i true).getD j false = false) : L.getD j false = false := by
  cases hx : L.getD j false with
  | false => rfl
  | true => rw [getD_set_true hx] at h; cases h
theorem lis_self {L : Array Bool} {i : Nat} (h : i < L.size) : (L.setIfInBounds i true).getD i false = true := by simp [h]
theorem ne_of_lis {L : Array Bool} {i j : Nat} (hi : i < L.size) (h : (L.setIfInBounds i true).getD j false = false) : j ≠ i := by
  intro e; subst e; rw [lis_self hi] at h; cases h

theorem ready_iff {L : Array Bool} {i : Nat} (h : i ∈ Region.ready .any ops L) : i < L.size ∧ L.getD i false = false ∧ ∃ o, ops[i]? = some o ∧ ∀ e ∈ o.after, Region.binds .any e = true → Lis L e.on := by
  obtain ⟨h1, o, h2, h3⟩ := mem_ready.1 h
  exact ⟨(getD_lt h1).1, (getD_lt h1).2, o, h2, h3⟩

theorem closed_set {L : Array Bool} {i : Nat} {o : Oper} (hc : Closed ops L) (ho : ops[i]? = some o) (hr : ∀ e ∈ o.after, Region.binds .any e = true → Lis L e.on) : Closed ops (L.setIfInBounds i true) := by
  intro j oj hoj hl e he hb
  by_cases q : j = i
  · subst q
    rw [ho] at hoj; cases hoj
    exact getD_set_true (hr e he hb)
  · have hl' : Lis L j := by
      unfold Lis at hl ⊢
      rwa [getD_set_ne false (Ne.symm q)] at hl
    exact getD_set_true (hc j oj hoj hl' e he hb)

theorem all_listed (F : DrFacts cx ops m σ0 al) {L : Array Bool} (hs : L.size = ops.size) (h : Region.ready .any ops L = []) : ∀ i, i < ops.size → Lis L i := by
  intro i
  induction i using Nat.strongRecOn with
  | _ i ih =>
    intro hi
    cases hx : L.getD i false with
    | true => exact hx
    | false =>
      exfalso
      have : i ∈ Region.ready .any ops L := by
        rw [mem_ready]
        refine ⟨by simp [hs, hi] at hx ⊢; exact hx, ops[i], by simp [hi], fun e he hb => ?_⟩
        have := F.edge i ops[i] (by simp [hi]) e he hb
        exact ih e.on this (by omega)
      rw [h] at this; cases this

theorem waits_of_ready {L : Array Bool} (hc : Closed ops L) {i : Nat} {o : Oper} (ho : ops[i]? = some o) (hr : ∀ e ∈ o.after, Region.binds .any e = true → Lis L e.on) : ∀ b, has ((waits ops).getD i 0) b = true → Lis L b :=
  waits_listed hc i fun o' ho' => by rw [ho] at ho'; cases ho'; exact hr

theorem reK_ok {W : List Nat} {i : Nat} {H : Hp} {fr : List FV} : ∀ {js : List Nat} {X : Prop}, reK cx ops W i H fr js X → X ∧ ∀ j ∈ js, ∀ o, ops[j]? = some o → isEff cx o = false → has (W.getD i 0) j = false → again ops[i]? o (ev fr) = true → wantF ops fr o.guard = some true →
    ∃ v, dstV fr o.dst = v ∧ ∀ K : FV → Hp → Prop, K v H → opE cx o (ev fr) (fun s => fr.getD s .bad) H K
  | [], X, h => ⟨h, fun j hj => by cases hj⟩
  | j :: js, X, h => by
    unfold reK at h
    have rest : ∀ {X' : Prop}, reK cx ops W i H fr js X' → (∀ o, ops[j]? = some o → isEff cx o = false → has (W.getD i 0) j = false → again ops[i]? o (ev fr) = true → wantF ops fr o.guard = some true →
        ∃ v, dstV fr o.dst = v ∧ ∀ K : FV → Hp → Prop, K v H → opE cx o (ev fr) (fun s => fr.getD s .bad) H K) → X' ∧ ∀ j' ∈ j :: js, ∀ o, ops[j']? = some o → isEff cx o = false → has (W.getD i 0) j' = false → again ops[i]? o (ev fr) = true → wantF ops fr o.guard = some true →
        ∃ v, dstV fr o.dst = v ∧ ∀ K : FV → Hp → Prop, K v H → opE cx o (ev fr) (fun s => fr.getD s .bad) H K := by
      intro X' h hj
      obtain ⟨h1, h2⟩ := reK_ok h
      refine ⟨h1, fun j' hj' => ?_⟩
      rcases List.mem_cons.1 hj' with e | e
      · subst e; exact hj
      · exact h2 j' e
    split at h
    · rename_i o ho
      split at h
      · rename_i hc
        refine rest h fun o' ho' h1 h2 h3 _ => ?_
        rw [ho] at ho'; cases ho'
        rw [h1, h2, h3] at hc; cases hc
      · rename_i hc
        split at h
        · rename_i hw
          have he : isEff cx o = false := by
            cases q : isEff cx o with
            | false => rfl
            | true => rw [q] at hc; cases hc
          obtain ⟨v, h1, h2⟩ := opE_det he h
          rw [frc_eq] at h1
          obtain ⟨e, h1⟩ := h1
          refine rest h1 fun o' ho' _ _ _ _ => ?_
          rw [ho] at ho'; cases ho'
          exact ⟨v, e, h2⟩
        · rename_i hw
          refine rest h fun o' ho' _ _ _ h4 => ?_
          rw [ho] at ho'; cases ho'
          exact (hw h4).elim
    · rename_i ho
      refine rest h fun o' ho' => ?_
      rw [ho] at ho'; cases ho'

/-- the frame behind an operation, seen through the mask -/
theorem Inv.masked {φ : List LI} {H : Hp} {lam : Nat → Nat} {tmps : Array Value} {w : World} {fr fr2 : List FV} {p p' : Nat → Bool} {dst : Option Nat} {v : FV} (I : Inv φ0 H0 w0 φ H lam (setO (mask p fr) dst v) tmps w) (hl : fr2.length = fr.length)
    (hd : ∀ d, dst = some d → d < fr.length → p' d = false → fr2.getD d .bad = v) (ho : ∀ t, dst ≠ some t → p' t = false → p t = false ∧ fr2[t]? = fr[t]?) : Inv φ0 H0 w0 φ H lam (mask p' fr2) tmps w := by
  refine I.weaken (by simp [mask_length, setO_length, hl]) fun t u hu => ?_
  rw [mask_get] at hu
  cases hp : p' t with
  | true =>
    rw [hp] at hu; left
    cases hx : fr2[t]? <;> rw [hx] at hu <;> simp at hu
    exact hu.symm
  | false =>
    rw [hp] at hu
    dsimp only at hu
    right
    by_cases q : dst = some t
    · rw [q]
      have hlt : t < fr.length := by rw [← hl]; exact isSome_lt hu
      have := hd t q hlt hp
      rw [List.getD_eq_getElem?_getD, hu] at this
      simp only [setO]
      rw [List.getElem?_set_self (by simpa [mask_length] using hlt), ← this]; rfl
    · obtain ⟨h1, h2⟩ := ho t q hp
      have : (setO (mask p fr) dst v)[t]? = (mask p fr)[t]? := by
        cases hd' : dst with
        | none => rfl
        | some d => simp only [setO]; rw [List.getElem?_set_ne (fun e => q (by rw [hd', e]))]
      rw [this, mask_get, h1, ← h2]; exact hu

/-- what an operation looks at stands there already -/
theorem Sim.looks (F : DrFacts cx ops m σ0 al) {L : Array Bool} {seen σ : List Nat} {fr : List FV} {H : Hp} {tmps : Array Value} {w : World} (S : Sim P cx ops m σ0 al φ0 H0 w0 K L seen σ fr H tmps w) (hc : Closed ops L) {i : Nat} (hi : i < m) {o : Oper} (ho : ops[i]? = some o)
    (hr : ∀ e ∈ o.after, Region.binds .any e = true → Lis L e.on) : ∀ t ∈ o.looksAt ops, (mask (pend ops L seen) fr).getD t .bad = fr.getD t .bad := by
  intro t ht
  refine mask_getD ?_
  cases q : pend ops L seen t with
  | false => rfl
  | true =>
    obtain ⟨j, hj, h1, h2⟩ := pend_iff.1 q
    obtain ⟨o', ho', hl, _⟩ := F.op i hi
    rw [ho] at ho'; cases ho'
    have hjm : j < m := F.lt j (by rw [S.ord]; simp [hj])
    have := waits_of_ready hc ho hr j ((hl t ht).2 j hjm h2)
    unfold Lis at this
    rw [h1] at this; cases this

theorem ev_lp {fr : List FV} {a : Operand} {s p : Nat} (h : ev fr a = .lp s p) : ∃ t, a = .tmp t ∧ ((t = s ∧ ∃ cs, fr.getD t .bad = .bx cs) ∨ fr[t]? = some (.lp s p)) := by
  cases a with
  | tmp t =>
    refine ⟨t, rfl, ?_⟩
    have h : atFr fr t = .lp s p := h
    unfold atFr at h
    split at h
    · rename_i cs e; cases h; exact .inl ⟨rfl, cs, e⟩
    · exact .inr (getD_of h (by simp))
  | const v =>
    exfalso
    have h : ofValue v = .lp s p := h
    unfold ofValue at h
    split at h <;> cases h
  | global g => cases h
  | func f => cases h

/-- a told operation, seen through the mask -/
theorem Sim.pv (F : DrFacts cx ops m σ0 al) {L : Array Bool} {seen σ : List Nat} {fr : List FV} {H : Hp} {tmps : Array Value} {w : World} (S : Sim P cx ops m σ0 al φ0 H0 w0 K L seen σ fr H tmps w) (hc : Closed ops L) {i : Nat} (hi : i < m) {o : Oper} (ho : ops[i]? = some o)
    (hr : ∀ e ∈ o.after, Region.binds .any e = true → Lis L e.on) {v : FV} (h : PV cx o fr H v) : PV cx o (mask (pend ops L seen) fr) H v := by
  have hlook := S.looks F hc hi ho hr
  refine h.move (mask_length _ _) (ev_looks hlook) fun t a s p cs hload he hs => ?_
  obtain ⟨o', ho', hl, _⟩ := F.op i hi
  rw [ho] at ho'; cases ho'
  rw [mask_getD]
  · exact hs
  · cases q : pend ops L seen s with
    | false => rfl
    | true =>
      obtain ⟨j, hj, h1, h2⟩ := pend_iff.1 q
      have hal := S.box j hj s h2 cs hs
      obtain ⟨t', rfl, hcase⟩ := ev_lp he
      rcases hcase with ⟨rfl, _⟩ | hlp
      · exact ((hl t' (looks_op (by rw [hload]; simp [Op.operands]))).1 (by simp [isStore, hload]) hal).elim
      · exact (noLp_get (noLps_get S.lps s hal) t' p hlp).elim


theorem mask_bad {p : Nat → Bool} {fr : List FV} {t : Nat} (h : p t = true) : (mask p fr).getD t .bad = .bad := by
  rw [List.getD_eq_getElem?_getD, mask_get, h]
  cases fr[t]? <;> rfl
/-- the box that one stores into is laid already -/
theorem Sim.stores {L : Array Bool} {seen σ : List Nat} {fr : List FV} {H : Hp} {tmps : Array Value} {w : World} {K : List FV → Hp → Prop} (S : Sim P cx ops m σ0 al φ0 H0 w0 K L seen σ fr H tmps w) {o : Oper}
    (hlook : ∀ t ∈ o.looksAt ops, (mask (pend ops L seen) fr).getD t .bad = fr.getD t .bad) {s : Nat} (hs : stBox o (ev fr) = some s) (hb : ∃ cs, fr.getD s .bad = .bx cs) : pend ops L seen s = false := by
  cases q : pend ops L seen s with
  | false => rfl
  | true =>
    exfalso
    obtain ⟨cs, hb⟩ := hb
    unfold stBox at hs
    split at hs
    · rename_i t a x ho
      split at hs
      · rename_i s' p e
        cases hs
        obtain ⟨t', rfl, hcase⟩ := ev_lp e
        rcases hcase with ⟨rfl, _⟩ | hlp
        · have := hlook t' (looks_op (by rw [ho]; simp [Op.operands]))
          rw [mask_bad q, hb] at this; cases this
        · obtain ⟨j, hj, h1, h2⟩ := pend_iff.1 q
          exact noLp_get (noLps_get S.lps s (S.box j hj s h2 cs hb)) t' p hlp
      · cases hs
    · cases hs

theorem getD_bx {fr : List FV} {s : Nat} {cs : List GV} (h : fr.getD s .bad = .bx cs) : s < fr.length := by
  rcases Nat.lt_or_ge s fr.length with q | q
  · exact q
  · rw [List.getD_eq_getElem?_getD, List.getElem?_eq_none q] at h; cases h
theorem getD_upd {fr : List FV} {s : Nat} {cs cs' : List GV} (h : fr.getD s .bad = .bx cs) : (fr.set s (.bx cs')).getD s .bad = .bx cs' := by
  rw [List.getD_eq_getElem?_getD, List.getElem?_set_self (getD_bx h)]; rfl
theorem ev_upd {fr : List FV} {s : Nat} {cs cs' : List GV} (h : fr.getD s .bad = .bx cs) (x : Operand) : ev (fr.set s (.bx cs')) x = ev fr x := by
  cases x with
  | tmp t =>
    simp only [ev, atFr]
    by_cases e : t = s
    · subst e; rw [getD_upd h, h]
    · rw [set_getD e]
  | _ => rfl
theorem wantF_upd {fr : List FV} {s : Nat} {cs cs' : List GV} (h : fr.getD s .bad = .bx cs) (g : Option (Nat × Bool)) : wantF ops (fr.set s (.bx cs')) g = wantF ops fr g := by
  unfold wantF
  cases g with
  | none => rfl
  | some jw =>
    obtain ⟨j, want⟩ := jw
    dsimp only
    cases hd : (ops[j]?).bind (·.dst) with
    | none => rfl
    | some d =>
      dsimp only
      by_cases e : d = s
      · subst e; rw [getD_upd h, h]
      · rw [set_getD e]
theorem noLp_upd {d s : Nat} {cs : List GV} : ∀ {fr : List FV} {s : Nat}, noLp d fr = true → noLp d (fr.set s (.bx cs)) = true
  | [], _, _ => rfl
  | x :: xs, 0, h => by
    unfold noLp at h
    split at h
    · cases h
    · show noLp d (.bx cs :: xs) = true
      unfold noLp
      exact h
  | x :: xs, s + 1, h => by
    have h' := h
    unfold noLp at h'
    split at h'
    · cases h'
    · rename_i e
      show noLp d (x :: xs.set s (.bx cs)) = true
      unfold noLp
      rw [e]
      exact noLp_upd (s := s) h'
theorem noLps_upd {fr : List FV} {s : Nat} {cs : List GV} : ∀ {al : List Nat}, noLps fr al = true → noLps (fr.set s (.bx cs)) al = true
  | [], _ => rfl
  | a :: al, h => by
    unfold noLps at h ⊢
    split at h
    · rename_i e
      rw [noLp_upd (s := s) e]
      exact noLps_upd h
    · cases h

/-- the tail: in the order of the text -/
theorem tailAny (hC : CxOK P cx) (F : DrFacts cx ops m σ0 al) {Q : Exit → Act → World → Prop} {K : List FV → Hp → Prop} (hQ : ∀ fr' H' φ' lam' tmps' w', K fr' H' → Inv φ0 H0 w0 φ' H' lam' fr' tmps' w' → Q .normal ⟨tmps', []⟩ w') :
    ∀ (fuel j : Nat) (L : Array Bool) (fr : List FV) (H : Hp) (φ : List LI) (lam : Nat → Nat) (tmps : Array Value) (w : World), m ≤ j → j ≤ ops.size → ops.size ≤ j + fuel → L.size = ops.size → Closed ops L → (∀ i, i < ops.size → (L.getD i false = true ↔ i < j)) →
      opsK cx ops (ops.toList.drop j) fr H K → Inv φ0 H0 w0 φ H lam fr tmps w → wpAny P .any ops Q fuel L ⟨tmps, []⟩ w := by
  intro fuel
  induction fuel with
  | zero =>
    intro j L fr H φ lam tmps w hm hj hf hs hc hL h I
    have hj' : j = ops.size := by omega
    subst hj'
    rw [List.drop_of_length_le (by simp)] at h
    refine ⟨?_, hQ _ _ _ _ _ _ h I⟩
    cases hr : Region.ready .any ops L with
    | nil => rfl
    | cons i l =>
      have hi : i ∈ Region.ready .any ops L := by rw [hr]; simp
      obtain ⟨h1, h2, _⟩ := ready_iff hi
      rw [(hL i (by omega)).2 (by omega)] at h2; cases h2
  | succ fuel ih =>
    intro j L fr H φ lam tmps w hm hj hf hs hc hL h I
    refine ⟨fun hr => ?_, fun i hi => ?_⟩
    · have hall := all_listed F hs hr
      have hj' : j = ops.size := by
        rcases Nat.lt_or_ge j ops.size with q | q
        · have := (hL j q).1 (hall j q); omega
        · omega
      subst hj'
      rw [List.drop_of_length_le (by simp)] at h
      exact hQ _ _ _ _ _ _ h I
    · obtain ⟨h1, h2, o, ho, hro⟩ := ready_iff hi
      have hil : i < ops.size := by omega
      have hij : j ≤ i := by
        rcases Nat.lt_or_ge i j with q | q
        · rw [(hL i hil).2 q] at h2; cases h2
        · exact q
      have hij' : i = j := by
        rcases Nat.eq_or_lt_of_le hij with q | q
        · exact q.symm
        · have := waits_of_ready hc ho hro j (F.tail i hil (by omega) j q)
          have := (hL j (by omega)).1 this
          omega
      subst hij'
      rw [List.drop_eq_getElem_cons (by simpa using hil)] at h
      have hoj : ops.toList[i]'(by simpa using hil) = o := by
        have : ops[i]? = some o := ho
        rw [Array.getElem?_eq_getElem hil] at this
        simpa using this
      rw [hoj] at h
      have h' : wantK ops fr o.guard
        (fun fr => opK cx o fr H fun v fr H => putK fr o.dst v fun fr => opsK cx ops (ops.toList.drop (i + 1)) fr H K)
        (fun fr => putK fr o.dst .und fun fr => opsK cx ops (ops.toList.drop (i + 1)) fr H K) := h
      have hc' := closed_set hc ho hro
      have hL' : ∀ k, k < ops.size → ((L.setIfInBounds i true).getD k false = true ↔ k < i + 1) := by
        intro k hk
        by_cases q : k = i
        · subst q; rw [lis_self h1]; simp
        · rw [getD_set_ne false (Ne.symm q), hL k hk]; omega
      unfold wpOp
      rw [ho]
      dsimp only
      rcases wantK_ok I h' with ⟨hw, h'⟩ | ⟨hw, h'⟩
      · rw [if_pos hw]
        refine .inl (opK_ok hC.tys hC.env hC.dyn I [] h' fun v fr' H' u w' hk hres => ?_)
        rw [putK_eq] at hk
        obtain ⟨φ', lam', tmps', e, I'⟩ := hres.put (df := [])
        rw [e]
        exact ih (i + 1) _ _ _ _ _ _ _ (by omega) (by omega) (by omega) (by simpa using hs) hc' hL' hk I'
      · rw [if_neg (by rw [hw]; simp)]
        rw [putK_eq] at h'
        obtain ⟨φ', lam', tmps', e, I'⟩ := (Res.of I (v := .und) (u := undef) rfl o.dst).put (df := [])
        rw [e]
        exact ih (i + 1) _ _ _ _ _ _ _ (by omega) (by omega) (by omega) (by simpa using hs) hc' hL' h' I'

theorem mask_none {p : Nat → Bool} {fr : List FV} (h : ∀ t, p t = false) : mask p fr = fr := by
  apply List.ext_getElem?
  intro t
  rw [mask_get, h t]

theorem simAny (hC : CxOK P cx) (F : DrFacts cx ops m σ0 al) {Q : Exit → Act → World → Prop} {K : List FV → Hp → Prop} (hQ : ∀ fr' H' φ' lam' tmps' w', K fr' H' → Inv φ0 H0 w0 φ' H' lam' fr' tmps' w' → Q .normal ⟨tmps', []⟩ w') :
    ∀ (fuel : Nat) (rem : List Nat) (L : Array Bool) (seen σ : List Nat) (fr : List FV) (H : Hp) (tmps : Array Value) (w : World),
      Sim P cx ops m σ0 al φ0 H0 w0 (fun fr H => opsK cx ops (ops.toList.drop m) fr H K) L seen σ fr H tmps w → Closed ops L → L.size = ops.size → (∀ i, m ≤ i → i < ops.size → L.getD i false = false) → rem.Nodup → (∀ i, i ∈ rem ↔ i < m ∧ L.getD i false = false) → fuel = rem.length + (ops.size - m) →
      wpAny P .any ops Q fuel L ⟨tmps, []⟩ w := by
  intro fuel
  induction fuel with
  | zero =>
    intro rem L seen σ fr H tmps w S0 hc hs ht hnd hrem hf
    obtain ⟨seen, σ, fr, S, _⟩ := S0.advance F
    have hr0 : rem = [] := by apply List.eq_nil_of_length_eq_zero; omega
    subst hr0
    have hall : ∀ i, i < m → L.getD i false = true := fun i hi => by
      cases q : L.getD i false with
      | true => rfl
      | false => exact (List.not_mem_nil ((hrem i).2 ⟨hi, q⟩)).elim
    have hσ : σ = [] := by
      cases σ with
      | nil => rfl
      | cons e r =>
        have h1 := S.rest e (by simp)
        rw [hall e (F.lt e (by rw [S.ord]; simp))] at h1; cases h1
    subst hσ
    obtain ⟨φ, lam, I⟩ := S.inv
    rw [mask_none (fun t => by
      cases q : pend ops L seen t with
      | false => rfl
      | true =>
        obtain ⟨j, hj, h1, _⟩ := pend_iff.1 q
        rw [hall j (F.lt j (by rw [S.ord]; simp [hj]))] at h1; cases h1)] at I
    have hL : ∀ i, i < ops.size → (L.getD i false = true ↔ i < m) := fun i hi => by
      constructor
      · intro q
        rcases Nat.lt_or_ge i m with r | r
        · exact r
        · rw [ht i r hi] at q; cases q
      · exact hall i
    exact tailAny hC F hQ 0 m L fr H φ lam tmps w (Nat.le_refl _) F.le (by omega) hs hc hL S.go I
  | succ fuel ih =>
    intro rem L seen σ fr H tmps w S0 hc hs ht hnd hrem hf
    obtain ⟨seen, σ, fr, S, hhead⟩ := S0.advance F
    by_cases hrm : rem = []
    · subst hrm
      have hall : ∀ i, i < m → L.getD i false = true := fun i hi => by
        cases q : L.getD i false with
        | true => rfl
        | false => exact (List.not_mem_nil ((hrem i).2 ⟨hi, q⟩)).elim
      have hσ : σ = [] := by
        cases σ with
        | nil => rfl
        | cons e r =>
          have h1 := S.rest e (by simp)
          rw [hall e (F.lt e (by rw [S.ord]; simp))] at h1; cases h1
      subst hσ
      obtain ⟨φ, lam, I⟩ := S.inv
      rw [mask_none (fun t => by
        cases q : pend ops L seen t with
        | false => rfl
        | true =>
          obtain ⟨j, hj, h1, _⟩ := pend_iff.1 q
          rw [hall j (F.lt j (by rw [S.ord]; simp [hj]))] at h1; cases h1)] at I
      have hL : ∀ i, i < ops.size → (L.getD i false = true ↔ i < m) := fun i hi => by
        constructor
        · intro q
          rcases Nat.lt_or_ge i m with r | r
          · exact r
          · rw [ht i r hi] at q; cases q
        · exact hall i
      exact tailAny hC F hQ (fuel + 1) m L fr H φ lam tmps w (Nat.le_refl _) F.le (by simp at hf; omega) hs hc hL S.go I
    · obtain ⟨i0, hi0⟩ := List.exists_mem_of_ne_nil rem hrm
      obtain ⟨hi0m, hi0L⟩ := (hrem i0).1 hi0
      refine ⟨fun hr => ?_, fun i hi => ?_⟩
      · have h1 : Lis L i0 := all_listed F hs hr i0 (by have := F.le; omega)
        unfold Lis at h1
        rw [hi0L] at h1; cases h1
      · obtain ⟨h1, h2, o, ho, hro⟩ := ready_iff hi
        have hil : i < ops.size := by omega
        have him : i < m := by
          rcases Nat.lt_or_ge i m with q | q
          · exact q
          · have h3 : Lis L i0 := waits_of_ready hc ho hro i0 (F.tail i hil q i0 (by omega))
            unfold Lis at h3
            rw [hi0L] at h3; cases h3
        have hc' := closed_set hc ho hro
        have hs' : (L.setIfInBounds i true).size = ops.size := by simpa using hs
        have ht' : ∀ k, m ≤ k → k < ops.size → (L.setIfInBounds i true).getD k false = false := fun k hk hk2 => by
          rw [getD_set_ne false (by omega)]; exact ht k hk hk2
        have hirem : i ∈ rem := (hrem i).2 ⟨him, h2⟩
        have hnd' : (rem.erase i).Nodup := hnd.erase i
        have hrem' : ∀ k, k ∈ rem.erase i ↔ k < m ∧ (L.setIfInBounds i true).getD k false = false := fun k => by
          rw [hnd.mem_erase_iff, hrem k]
          constructor
          · rintro ⟨q1, q2, q3⟩
            exact ⟨q2, by rw [getD_set_ne false (Ne.symm q1)]; exact q3⟩
          · rintro ⟨q1, q2⟩
            exact ⟨ne_of_lis h1 q2, q1, lis_set q2⟩
        have hf' : fuel = (rem.erase i).length + (ops.size - m) := by
          rw [List.length_erase_of_mem hirem]
          have := List.length_pos_of_mem hirem
          omega
        have goOn : ∀ seen σ fr H tmps w, Sim P cx ops m σ0 al φ0 H0 w0 (fun fr H => opsK cx ops (ops.toList.drop m) fr H K) (L.setIfInBounds i true) seen σ fr H tmps w → wpAny P .any ops Q fuel (L.setIfInBounds i true) ⟨tmps, []⟩ w :=
          fun seen σ fr H tmps w S' => ih _ _ _ _ _ _ _ _ S' hc' hs' ht' hnd' hrem' hf'
        have hlook := S.looks F hc him ho hro
        obtain ⟨φ, lam, I⟩ := S.inv
        have hnodup := F.nodup
        rw [S.ord, List.nodup_append] at hnodup
        obtain ⟨o1, ho1, hl, hst, _, hal⟩ := F.op i him
        rw [ho] at ho1; cases ho1
        have hwF := wantF_of (ops := ops) (o := o) hlook
        have hi00 : i ∈ seen.reverse ++ σ := by rw [← S.ord]; exact F.all i him
        unfold wpOp
        rw [ho]
        dsimp only
        rcases List.mem_append.1 hi00 with hseen | hσ
        · -- told already
          have hseen : i ∈ seen := by simpa using hseen
          have hiσ : i ∉ σ := fun q => hnodup.2.2 i (by simpa using hseen) i q rfl
          obtain ⟨o2, ho2, he, hp⟩ := S.told i hseen h2
          rw [ho] at ho2; cases ho2
          have mkS : ∀ v φ' lam' tmps' w', Inv φ0 H0 w0 φ' H lam' (setO (mask (pend ops L seen) fr) o.dst v) tmps' w' → (∀ d, o.dst = some d → d < fr.length → fr.getD d .bad = v) →
              Sim P cx ops m σ0 al φ0 H0 w0 (fun fr H => opsK cx ops (ops.toList.drop m) fr H K) (L.setIfInBounds i true) seen σ fr H tmps' w' := by
            intro v φ' lam' tmps' w' I' hv
            refine ⟨S.ord, fun j hj => ?_, S.go, ⟨φ', lam', I'.masked rfl (fun d hd hlt _ => hv d hd hlt) (fun t htd hp' => ⟨?_, rfl⟩)⟩, fun j hj hLj => S.told j hj (lis_set hLj), S.lps, S.box⟩
            · rw [getD_set_ne false (fun e => hiσ (by rw [e]; exact hj))]; exact S.rest j hj
            · cases q : pend ops L seen t with
              | false => rfl
              | true =>
                obtain ⟨j, hj, q1, q2⟩ := pend_iff.1 q
                have hji : j ≠ i := fun e => by subst e; exact htd ((dstAt_of ho).1 q2)
                rw [pend_iff.2 ⟨j, hj, by rw [getD_set_ne false (Ne.symm hji)]; exact q1, q2⟩] at hp'; cases hp'
          rcases hp with ⟨hw, v, hv, hpv⟩ | ⟨hw, hv⟩
          · rw [if_pos (wanted_F I (by rw [hwF]; exact hw))]
            refine .inl (opK_ok hC.tys hC.env hC.dyn I [] ((S.pv F hc him ho hro hpv).run he (noStore he) (fun ha d hd => noLp_of (mask_length _ _) (mask_weak _ _) (noLps_get S.lps d (hal ha d hd))) (fun v' f h => v' = v ∧ f = mask (pend ops L seen) fr ∧ h = H) ⟨rfl, rfl, rfl⟩) fun v' fr' H' u w' hk hres => ?_)
            obtain ⟨rfl, rfl, rfl⟩ := hk
            obtain ⟨φ', lam', tmps', e, I'⟩ := hres.put (df := [])
            rw [e]
            exact goOn _ _ _ _ _ _ (mkS _ _ _ _ _ I' hv)
          · rw [if_neg (by rw [wanted_F I (show wantF ops _ o.guard = some false by rw [hwF]; exact hw)]; simp)]
            obtain ⟨φ', lam', tmps', e, I'⟩ := (Res.of I (v := .und) (u := undef) rfl o.dst).put (df := [])
            rw [e]
            exact goOn _ _ _ _ _ _ (mkS _ _ _ _ _ I' hv)
        · rcases hhead with rfl | ⟨e, rest, rfl, hE⟩
          · cases hσ
          · have hspec := effOK_spec (pre := seen.reverse) (post := rest) (i := e) (by rw [← S.ord]; exact F.eff)
            rcases List.mem_cons.1 hσ with rfl | hrest
            · -- one that turns the heap
              have he : isEff cx o = true := by unfold opAt at hE; rw [ho] at hE; exact hE
              have hsj : ∀ j ∈ seen, j < m ∧ j ≠ i ∧ has ((waits ops).getD j 0) i = false := fun j hj => by
                refine ⟨F.lt j (by rw [S.ord]; simp [hj]), fun e => ?_, hspec.2.2 j (by simpa using hj)⟩
                subst e
                exact hnodup.2.2 j (by simpa using hj) j (by simp) rfl
              have hrest2 : ∀ j ∈ rest, j ≠ i := fun j hj e => by
                subst e
                exact (List.nodup_cons.1 hnodup.2.1).1 hj
              have mkE : ∀ v H' φ' lam' tmps' w', goK cx ops (waits ops) al rest (i :: seen) (setO fr o.dst v) H' (fun fr H => opsK cx ops (ops.toList.drop m) fr H K) →
                  (∀ d, o.dst = some d → (∀ cs, fr.getD d .bad ≠ .bx cs) ∧ (∀ cs, v = .bx cs → d ∈ al) ∧ noLps (setO fr o.dst v) al = true) →
                  Inv φ0 H0 w0 φ' H' lam' (setO (mask (pend ops L seen) fr) o.dst v) tmps' w' → (∀ j ∈ seen, L.getD j false = false → Pend cx ops (setO fr o.dst v) H' j) →
                  Sim P cx ops m σ0 al φ0 H0 w0 (fun fr H => opsK cx ops (ops.toList.drop m) fr H K) (L.setIfInBounds i true) (i :: seen) rest (setO fr o.dst v) H' tmps' w' := by
                intro v H' φ' lam' tmps' w' hgo hput I' hpend
                refine ⟨by rw [S.ord]; simp, fun j hj => ?_, hgo, ⟨φ', lam', I'.masked (setO_length _ _ _) (fun d hd hlt _ => ?_) (fun t htd hp' => ⟨?_, ?_⟩)⟩, fun j hj hLj => ?_, ?_, fun j hj d hdj cs hcs => ?_⟩
                · rw [getD_set_ne false (Ne.symm (hrest2 j hj))]; exact S.rest j (by simp [hj])
                · rw [hd]; simp only [setO]; rw [List.getD_eq_getElem?_getD, List.getElem?_set_self hlt]; rfl
                · cases q : pend ops L seen t with
                  | false => rfl
                  | true =>
                    obtain ⟨j, hj, q1, q2⟩ := pend_iff.1 q
                    have hji := (hsj j hj).2.1
                    rw [pend_iff.2 ⟨j, by simp [hj], by rw [getD_set_ne false (Ne.symm hji)]; exact q1, q2⟩] at hp'; cases hp'
                · cases hd : o.dst with
                  | none => rfl
                  | some d => simp only [setO]; rw [List.getElem?_set_ne (fun e => htd (by rw [hd, e]))]
                · rcases List.mem_cons.1 hj with e | hj
                  · exact (ne_of_lis h1 hLj e).elim
                  · exact hpend j hj (lis_set hLj)
                · cases hd : o.dst with
                  | none => exact S.lps
                  | some d => rw [← hd]; exact (hput d hd).2.2
                · rcases List.mem_cons.1 hj with e | hj
                  · subst e
                    have hd := (dstAt_of ho).1 hdj
                    rw [hd] at hcs
                    simp only [setO] at hcs
                    by_cases q : d < fr.length
                    · rw [List.getD_eq_getElem?_getD, List.getElem?_set_self q] at hcs
                      exact (hput d hd).2.1 cs (by simpa using hcs)
                    · rw [List.getD_eq_getElem?_getD, List.getElem?_eq_none (by rw [List.length_set]; exact Nat.le_of_not_lt q)] at hcs
                      cases hcs
                  · refine S.box j hj d hdj cs ?_
                    rw [setO_getD (fun d' hd' e => by
                      subst e
                      exact (hsj j hj).2.1 (F.dst j i (hsj j hj).1 him d hdj ((dstAt_of ho).2 hd')))] at hcs
                    exact hcs
              have hgo' : wantK ops fr o.guard
                (fun fr => opK cx o fr H fun v fr H' => putG al o.dst v fr fun fr => reK cx ops (waits ops) i H' fr (match isEff cx o with | true => seen | false => []) (goK cx ops (waits ops) al rest (i :: seen) fr H' (fun fr H => opsK cx ops (ops.toList.drop m) fr H K)))
                (fun fr => putG al o.dst .und fr fun fr => goK cx ops (waits ops) al rest (i :: seen) fr H (fun fr H => opsK cx ops (ops.toList.drop m) fr H K)) := by
                have := S.go
                simp only [goK, ho] at this
                exact this
              rcases wantK_F hgo' with ⟨hw, h⟩ | ⟨hw, h⟩
              · rw [if_pos (wanted_F I (by rw [hwF]; exact hw))]
                refine .inl (opK_ok hC.tys hC.env hC.dyn I [] (effK he (ev_looks hlook) (fun s h1 h2 => mask_getD (S.stores hlook h1 h2)) h) fun v fr' H' u w' hk hres => ?_)
                obtain ⟨uu, rfl, hk, hcase⟩ := hk
                rw [he] at hk
                have hwij : ∀ j, L.getD j false = false → has ((waits ops).getD i 0) j = false := fun j hLj => by
                  cases q : has ((waits ops).getD i 0) j with
                  | false => rfl
                  | true =>
                    have := waits_of_ready hc ho hro j q
                    unfold Lis at this
                    rw [hLj] at this; cases this
                rcases hcase with ⟨rfl, hst0⟩ | ⟨s, cs', cs0, rfl, hst0, hb0, rfl⟩
                · simp only [applyU] at hk hres
                  obtain ⟨hk, hput⟩ := putG_ok hk
                  obtain ⟨hgo2, hre⟩ := reK_ok hk
                  obtain ⟨φ', lam', tmps', e, I'⟩ := hres.put (df := [])
                  rw [e]
                  refine goOn _ _ _ _ _ _ (mkE _ _ _ _ _ _ hgo2 hput I' fun j hj hLj => ?_)
                  obtain ⟨q1, q2, q3⟩ := hsj j hj
                  obtain ⟨oj, hoj, hej, hpj⟩ := (S.told j hj hLj).set F him ho q1 q2 q3 (v := v) (fun d hd => (hput d hd).1)
                  refine ⟨oj, hoj, hej, ?_⟩
                  rcases hpj with ⟨hwj, vj, hvj, hpvj⟩ | hpj
                  · left
                    refine ⟨hwj, ?_⟩
                    cases hrd : readsH oj (ev (setO fr o.dst v)) with
                    | false => exact ⟨vj, hvj, hpvj.heap hej hrd⟩
                    | true =>
                      have hst1 : stBox o (ev (setO fr o.dst v)) = none := by
                        have hx : ∀ x ∈ o.op.operands, ev (setO fr o.dst v) x = ev fr x := ev_looks fun t ht => setO_getD fun d hd e => by
                          subst e
                          have := (hl t ht).2 i him ((dstAt_of ho).2 hd)
                          rw [hspec.2.1] at this; cases this
                        unfold stBox at hst0 ⊢
                        cases hop : o.op with
                        | store t a x =>
                          rw [hop] at hst0 hx
                          dsimp only at hst0 ⊢
                          rw [hx a (by simp [Op.operands])]
                          exact hst0
                        | _ => rfl
                      have hag : again ops[i]? oj (ev (setO fr o.dst v)) = true := by
                        rw [ho]; simp only [again, hst1]; exact hrd
                      obtain ⟨v3, hv3, hone⟩ := hre j hj oj hoj hej (hwij j hLj) hag hwj
                      refine ⟨v3, fun d hd _ => by rw [← hv3, hd]; rfl, .inl ⟨?_, hone⟩⟩
                      unfold readsH at hrd
                      unfold isAl
                      cases hop : oj.op <;> rw [hop] at hrd <;> first | rfl | cases hrd
                  · exact .inr hpj
                · have hps := S.stores hlook hst0 ⟨cs0, hb0⟩
                  have hdn : o.dst = none := hst (by
                    unfold stBox at hst0
                    unfold isStore
                    cases hop : o.op <;> rw [hop] at hst0 <;> first | rfl | cases hst0)
                  simp only [applyU] at hk hres
                  obtain ⟨hk, _⟩ := putG_ok hk
                  obtain ⟨hgo2, hre⟩ := reK_ok hk
                  obtain ⟨φ', lam', tmps', e, I'⟩ := hres.put (df := [])
                  rw [e]
                  rw [hdn] at hgo2 hre I'
                  simp only [setO] at hgo2 hre I'
                  refine goOn (i :: seen) rest (fr.set s (.bx cs')) _ _ _ ⟨by rw [S.ord]; simp, fun j hj => ?_, hgo2, ⟨φ', lam', I'.weaken (by simp [mask_length]) fun t v' hv' => ?_⟩, fun j hj hLj => ?_, noLps_upd S.lps, fun j hj d hdj cs hcs => ?_⟩
                  · rw [getD_set_ne false (Ne.symm (hrest2 j hj))]; exact S.rest j (by simp [hj])
                  · rw [mask_get] at hv'
                    cases hp' : pend ops (L.setIfInBounds i true) (i :: seen) t with
                    | true =>
                      rw [hp'] at hv'; left
                      cases hx : (fr.set s (.bx cs'))[t]? <;> rw [hx] at hv' <;> simp at hv'
                      exact hv'.symm
                    | false =>
                      rw [hp'] at hv'
                      dsimp only at hv'
                      right
                      have hpt : pend ops L seen t = false := by
                        cases q : pend ops L seen t with
                        | false => rfl
                        | true =>
                          obtain ⟨j, hj, q1, q2⟩ := pend_iff.1 q
                          have hji := (hsj j hj).2.1
                          rw [pend_iff.2 ⟨j, by simp [hj], by rw [getD_set_ne false (Ne.symm hji)]; exact q1, q2⟩] at hp'; cases hp'
                      by_cases ts : t = s
                      · subst ts
                        rw [List.getElem?_set_self (getD_bx hb0)] at hv'
                        rw [List.getElem?_set_self (by rw [mask_length]; exact getD_bx hb0)]
                        exact hv'
                      · rw [List.getElem?_set_ne (Ne.symm ts)] at hv' ⊢
                        rw [mask_get, hpt]; exact hv'
                  · rcases List.mem_cons.1 hj with e | hj
                    · exact (ne_of_lis h1 hLj e).elim
                    · have hLj := lis_set hLj
                      obtain ⟨oj, hoj, hej, hpj⟩ := S.told j hj hLj
                      have hds : ∀ d, oj.dst = some d → d ≠ s := fun d hd e => by
                        subst e
                        rw [pend_iff.2 ⟨j, hj, hLj, (dstAt_of hoj).2 hd⟩] at hps; cases hps
                      refine ⟨oj, hoj, hej, ?_⟩
                      rw [wantF_upd hb0]
                      rcases hpj with ⟨hwj, vj, hvj, hpvj⟩ | ⟨hwj, hvj⟩
                      · left
                        refine ⟨hwj, ?_⟩
                        cases hin : inBox oj (ev fr) s with
                        | false =>
                          refine ⟨vj, fun d hd hlt => by rw [set_getD (hds d hd)]; exact hvj d hd (by simpa using hlt), hpvj.move (by simp) (fun x _ => ev_upd hb0 x) (fun t a s' p cs hload he' hs' => ?_)⟩
                          have hss : s' ≠ s := fun e => by
                            subst e
                            unfold inBox at hin
                            rw [hload] at hin
                            dsimp only at hin
                            rw [he'] at hin
                            simp at hin
                          rw [set_getD hss]; exact hs'
                        | true =>
                          have hev' : ev (fr.set s (.bx cs')) = ev fr := funext fun x => ev_upd hb0 x
                          have hag : again ops[i]? oj (ev (fr.set s (.bx cs'))) = true := by
                            rw [ho, hev']; simp only [again, hst0]; exact hin
                          obtain ⟨v3, hv3, hone⟩ := hre j hj oj hoj hej (hwij j hLj) hag (by rw [wantF_upd hb0]; exact hwj)
                          refine ⟨v3, fun d hd _ => by rw [← hv3, hd]; rfl, .inl ⟨?_, hone⟩⟩
                          unfold inBox at hin
                          unfold isAl
                          cases hop : oj.op <;> rw [hop] at hin <;> first | rfl | cases hin
                      · exact .inr ⟨hwj, fun d hd hlt => by rw [set_getD (hds d hd)]; exact hvj d hd (by simpa using hlt)⟩
                  · rcases List.mem_cons.1 hj with e | hj
                    · subst e
                      have hd := (dstAt_of ho).1 hdj
                      rw [hdn] at hd; cases hd
                    · by_cases e : d = s
                      · subst e; exact S.box j hj d hdj cs0 hb0
                      · rw [set_getD e] at hcs; exact S.box j hj d hdj cs hcs
              · rw [if_neg (by rw [wanted_F I (show wantF ops _ o.guard = some false by rw [hwF]; exact hw)]; simp)]
                obtain ⟨hgo2, hput⟩ := putG_ok h
                obtain ⟨φ', lam', tmps', e, I'⟩ := (Res.of I (v := .und) (u := undef) rfl o.dst).put (df := [])
                rw [e]
                refine goOn _ _ _ _ _ _ (mkE _ _ _ _ _ _ hgo2 hput I' fun j hj hLj => ?_)
                obtain ⟨q1, q2, q3⟩ := hsj j hj
                exact (S.told j hj hLj).set F him ho q1 q2 q3 (fun d hd => (hput d hd).1)
            · have := waits_of_ready hc ho hro e (hspec.1 hE i hrest)
              unfold Lis at this
              rw [S.rest e (by simp)] at this; cases this

/-- REGIONS WHOSE ORDER IS OPEN -/
theorem drOK (hC : CxOK P cx) (hm : P.follows .mixedOrders = true) : DrOK P cx := by
  intro ops fr H K φ0 H0 w0 φ lam tmps w Q h I hQ t
  unfold drK drGo at h
  obtain ⟨h1, h⟩ := ck_iff.1 h
  obtain ⟨h2, h⟩ := ck_iff.1 h
  have F := drFacts h1
  simp only [Region.schedule, hm, Bool.true_or, if_true]
  refine wpAny_sound ops.size t _ _ _ ?_
  have hrep : ∀ i, (Array.replicate ops.size false).getD i false = false := fun i => by
    rcases Nat.lt_or_ge i ops.size with q | q
    · simp [q]
    · simp [q]
  refine simAny hC F hQ ops.size (List.range (tailFrom (waits ops) ops.size)) _ [] _ fr H tmps w ⟨rfl, fun i _ => hrep i, h, ⟨φ, lam, ?_⟩, fun i hi => (by cases hi), h2, fun i hi => (by cases hi)⟩ ?_ (by simp) (fun i _ _ => hrep i) List.nodup_range (fun i => by rw [List.mem_range]; exact ⟨fun q => ⟨q, hrep i⟩, fun q => q.1⟩) (by have := F.le; simp; omega)
  · rw [mask_none (fun t => by simp [pend])]; exact I
  · intro i o ho hl
    unfold Lis at hl
    rw [hrep i] at hl; cases hl

end
end Go.Am
