import Derived.Test.YtiemhjehieipdaaGreatM1
import Derived.Lib.Strings
import Derived.SliceStrings
import Derived.ChangeSlices
import Derived.ChangeArms
import Derived.WideShapes
import Derived.Carry
import Derived.Below
import Derived.SizedLaws
set_option linter.unusedVariables false
set_option linter.unusedSimpArgs false
namespace Go.Am

section
variable {P : Program} {cx : Cx} {ops : Array Oper} {m : Nat} {σ0 al : List Nat} {φ0 : List LI} {H0 : Hp} {w0 : World} {K : List FV → Hp → Prop}

theorem getD_lt {L : Array Bool} {i : Nat} (h : L.getD i true = false) : i < L.size ∧ L.getD i false = false := by
  rcases Nat.lt_or_ge i L.size with q | q
  · simp [q] at h ⊢; exact h
  · simp [Array.getElem?_eq_none q] at h
theorem lis_set {L : Array Bool} {i j : Nat} (h : (L.setIfInBounds i true).getD j false = false) : L.getD j false = false := by
  cases hx : L.getD j false with
  | false => rfl
  | true => rw [getD_set_true hx] at h; cases h
theorem lis_self {L : Array Bool} {i : Nat} (h : i < L.size) : (L.setIfInBounds i true).getD i false = true := by simp [h]
theorem ne_of_lis {L : Array Bool} {i j : Nat} (hi : i < L.size) (h : (L.setIfInBounds i true).getD j false = false) : j ≠ i := by
  intro e; subst e; rw [lis_self hi] at h; cases h

theorem ready_iff {L : Array Bool} {i : Nat} (h : i ∈ Region.ready .any ops L) : i < L.size ∧ L.getD i false = false ∧ ∃ o, ops[i]? = some o ∧ ∀ e ∈ o.after, Region.binds .any e = true → Lis L e.on := by
  obtain ⟨h1, o, h2, h3⟩ := mem_ready.1 h
  exact ⟨(getD_lt h1).1, (getD_lt h1).2, o, h2, h3⟩

theorem closed_set {L : Array Bool} {i : Nat} {o : Oper} (hc : Closed ops L) (ho : ops[i]? = some o) (hr : ∀ e ∈ o.after, Region.binds .any e = true → Lis L e.on) : Closed ops (L.setIfInBounds i true) := by
  intro j oj hoj hl e he hb
  by_cases q : j = i
  · subst q
    rw [ho] at hoj; cases hoj
    exact getD_set_true (hr e he hb)
  · have hl' : Lis L j := by
      unfold Lis at hl ⊢
      rwa [getD_set_ne false (Ne.symm q)] at hl
    exact getD_set_true (hc j oj hoj hl' e he hb)

theorem all_listed (F : DrFacts cx ops m σ0 al) {L : Array Bool} (hs : L.size = ops.size) (h : Region.ready .any ops L = []) : ∀ i, i < ops.size → Lis L i := by
  intro i
  induction i using Nat.strongRecOn with
  | _ i ih =>
    intro hi
    cases hx : L.getD i false with
    | true => exact hx
    | false =>
      exfalso
      have : i ∈ Region.ready .any ops L := by
        rw [mem_ready]
        refine ⟨by simp [hs, hi] at hx ⊢; exact hx, ops[i], by simp [hi], fun e he hb => ?_⟩
        have := F.edge i ops[i] (by simp [hi]) e he hb
        exact ih e.on this (by omega)
      rw [h] at this; cases this

theorem waits_of_ready {L : Array Bool} (hc : Closed ops L) {i : Nat} {o : Oper} (ho : ops[i]? = some o) (hr : ∀ e ∈ o.after, Region.binds .any e = true → Lis L e.on) : ∀ b, has ((waits ops).getD i 0) b = true → Lis L b :=
  waits_listed hc i fun o' ho' => by rw [ho] at ho'; cases ho'; exact hr

theorem reK_ok {W : List Nat} {i : Nat} {H : Hp} {fr : List FV} : ∀ {js : List Nat} {X : Prop}, reK cx ops W i H fr js X → X ∧ ∀ j ∈ js, ∀ o, ops[j]? = some o → isEff cx o = false → has (W.getD i 0) j = false → again ops[i]? o (ev fr) = true → wantF ops fr o.guard = some true →
    ∃ v, dstV fr o.dst = v ∧ ∀ K : FV → Hp → Prop, K v H → opE cx o (ev fr) (fun s => fr.getD s .bad) H K
  | [], X, h => ⟨h, fun j hj => by cases hj⟩
  | j :: js, X, h => by
    unfold reK at h
    have rest : ∀ {X' : Prop}, reK cx ops W i H fr js X' → (∀ o, ops[j]? = some o → isEff cx o = false → has (W.getD i 0) j = false → again ops[i]? o (ev fr) = true → wantF ops fr o.guard = some true →
        ∃ v, dstV fr o.dst = v ∧ ∀ K : FV → Hp → Prop, K v H → opE cx o (ev fr) (fun s => fr.getD s .bad) H K) → X' ∧ ∀ j' ∈ j :: js, ∀ o, ops[j']? = some o → isEff cx o = false → has (W.getD i 0) j' = false → again ops[i]? o (ev fr) = true → wantF ops fr o.guard = some true →
        ∃ v, dstV fr o.dst = v ∧ ∀ K : FV → Hp → Prop, K v H → opE cx o (ev fr) (fun s => fr.getD s .bad) H K := by
      intro X' h hj
      obtain ⟨h1, h2⟩ := reK_ok h
      refine ⟨h1, fun j' hj' => ?_⟩
      rcases List.mem_cons.1 hj' with e | e
      · subst e; exact hj
      · exact h2 j' e
    split at h
    · rename_i o ho
      split at h
      · rename_i hc
        refine rest h fun o' ho' h1 h2 h3 _ => ?_
        rw [ho] at ho'; cases ho'
        rw [h1, h2, h3] at hc; cases hc
      · rename_i hc
        split at h
        · rename_i hw
          have he : isEff cx o = false := by
            cases q : isEff cx o with
            | false => rfl
            | true => rw [q] at hc; cases hc
          obtain ⟨v, h1, h2⟩ := opE_det he h
          rw [frc_eq] at h1
          obtain ⟨e, h1⟩ := h1
          refine rest h1 fun o' ho' _ _ _ _ => ?_
          rw [ho] at ho'; cases ho'
          exact ⟨v, e, h2⟩
        · rename_i hw
          refine rest h fun o' ho' _ _ _ h4 => ?_
          rw [ho] at ho'; cases ho'
          exact (hw h4).elim
    · rename_i ho
      refine rest h fun o' ho' => ?_
      rw [ho] at ho'; cases ho'

/-- the frame behind an operation, seen through the mask -/
theorem Inv.masked {φ : List LI} {H : Hp} {lam : Nat → Nat} {tmps : Array Value} {w : World} {fr fr2 : List FV} {p p' : Nat → Bool} {dst : Option Nat} {v : FV} (I : Inv φ0 H0 w0 φ H lam (setO (mask p fr) dst v) tmps w) (hl : fr2.length = fr.length)
    (hd : ∀ d, dst = some d → d < fr.length → p' d = false → fr2.getD d .bad = v) (ho : ∀ t, dst ≠ some t → p' t = false → p t = false ∧ fr2[t]? = fr[t]?) : Inv φ0 H0 w0 φ H lam (mask p' fr2) tmps w := by
  refine I.weaken (by simp [mask_length, setO_length, hl]) fun t u hu => ?_
  rw [mask_get] at hu
  cases hp : p' t with
  | true =>
    rw [hp] at hu; left
    cases hx : fr2[t]? <;> rw [hx] at hu <;> simp at hu
    exact hu.symm
  | false =>
    rw [hp] at hu
    dsimp only at hu
    right
    by_cases q : dst = some t
    · rw [q]
      have hlt : t < fr.length := by rw [← hl]; exact isSome_lt hu
      have := hd t q hlt hp
      rw [List.getD_eq_getElem?_getD, hu] at this
      simp only [setO]
      rw [List.getElem?_set_self (by simpa [mask_length] using hlt), ← this]; rfl
    · obtain ⟨h1, h2⟩ := ho t q hp
      have : (setO (mask p fr) dst v)[t]? = (mask p fr)[t]? := by
        cases hd' : dst with
        | none => rfl
        | some d => simp only [setO]; rw [List.getElem?_set_ne (fun e => q (by rw [hd', e]))]
      rw [this, mask_get, h1, ← h2]; exact hu

/-- what an operation looks at stands there already -/
theorem Sim.looks (F : DrFacts cx ops m σ0 al) {L : Array Bool} {seen σ : List Nat} {fr : List FV} {H : Hp} {tmps : Array Value} {w : World} (S : Sim P cx ops m σ0 al φ0 H0 w0 K L seen σ fr H tmps w) (hc : Closed ops L) {i : Nat} (hi : i < m) {o : Oper} (ho : ops[i]? = some o)
    (hr : ∀ e ∈ o.after, Region.binds .any e = true → Lis L e.on) : ∀ t ∈ o.looksAt ops, (mask (pend ops L seen) fr).getD t .bad = fr.getD t .bad := by
  intro t ht
  refine mask_getD ?_
  cases q : pend ops L seen t with
  | false => rfl
  | true =>
    obtain ⟨j, hj, h1, h2⟩ := pend_iff.1 q
    obtain ⟨o', ho', hl, _⟩ := F.op i hi
    rw [ho] at ho'; cases ho'
    have hjm : j < m := F.lt j (by rw [S.ord]; simp [hj])
    have := waits_of_ready hc ho hr j ((hl t ht).2 j hjm h2)
    unfold Lis at this
    rw [h1] at this; cases this

theorem ev_lp {fr : List FV} {a : Operand} {s p : Nat} (h : ev fr a = .lp s p) : ∃ t, a = .tmp t ∧ ((t = s ∧ ∃ cs, fr.getD t .bad = .bx cs) ∨ fr[t]? = some (.lp s p)) := by
  cases a with
  | tmp t =>
    refine ⟨t, rfl, ?_⟩
    have h : atFr fr t = .lp s p := h
    unfold atFr at h
    split at h
    · rename_i cs e; cases h; exact .inl ⟨rfl, cs, e⟩
    · exact .inr (getD_of h (by simp))
  | const v =>
    exfalso
    have h : ofValue v = .lp s p := h
    unfold ofValue at h
    split at h <;> cases h
  | global g => cases h
  | func f => cases h

/-- a told operation, seen through the mask -/
theorem Sim.pv (F : DrFacts cx ops m σ0 al) {L : Array Bool} {seen σ : List Nat} {fr : List FV} {H : Hp} {tmps : Array Value} {w : World} (S : Sim P cx ops m σ0 al φ0 H0 w0 K L seen σ fr H tmps w) (hc : Closed ops L) {i : Nat} (hi : i < m) {o : Oper} (ho : ops[i]? = some o)
    (hr : ∀ e ∈ o.after, Region.binds .any e = true → Lis L e.on) {v : FV} (h : PV cx o fr H v) : PV cx o (mask (pend ops L seen) fr) H v := by
  have hlook := S.looks F hc hi ho hr
  refine h.move (mask_length _ _) (ev_looks hlook) fun t a s p cs hload he hs => ?_
  obtain ⟨o', ho', hl, _⟩ := F.op i hi
  rw [ho] at ho'; cases ho'
  rw [mask_getD]
  · exact hs
  · cases q : pend ops L seen s with
    | false => rfl
    | true =>
      obtain ⟨j, hj, h1, h2⟩ := pend_iff.1 q
      have hal := S.box j hj s h2 cs hs
      obtain ⟨t', rfl, hcase⟩ := ev_lp he
      rcases hcase with ⟨rfl, _⟩ | hlp
      · exact ((hl t' (looks_op (by rw [hload]; simp [Op.operands]))).1 (by simp [isStore, hload]) hal).elim
      · exact (noLp_get (noLps_get S.lps s hal) t' p hlp).elim


theorem mask_bad {p : Nat → Bool} {fr : List FV} {t : Nat} (h : p t = true) : (mask p fr).getD t .bad = .bad := by
  rw [List.getD_eq_getElem?_getD, mask_get, h]
  cases fr[t]? <;> rfl
/-- the box that one stores into is laid already -/
theorem Sim.stores {L : Array Bool} {seen σ : List Nat} {fr : List FV} {H : Hp} {tmps : Array Value} {w : World} {K : List FV → Hp → Prop} (S : Sim P cx ops m σ0 al φ0 H0 w0 K L seen σ fr H tmps w) {o : Oper}
    (hlook : ∀ t ∈ o.looksAt ops, (mask (pend ops L seen) fr).getD t .bad = fr.getD t .bad) {s : Nat} (hs : stBox o (ev fr) = some s) (hb : ∃ cs, fr.getD s .bad = .bx cs) : pend ops L seen s = false := by
  cases q : pend ops L seen s with
  | false => rfl
  | true =>
    exfalso
    obtain ⟨cs, hb⟩ := hb
    unfold stBox at hs
    split at hs
    · rename_i t a x ho
      split at hs
      · rename_i s' p e
        cases hs
        obtain ⟨t', rfl, hcase⟩ := ev_lp e
        rcases hcase with ⟨rfl, _⟩ | hlp
        · have := hlook t' (looks_op (by rw [ho]; simp [Op.operands]))
          rw [mask_bad q, hb] at this; cases this
        · obtain ⟨j, hj, h1, h2⟩ := pend_iff.1 q
          exact noLp_get (noLps_get S.lps s (S.box j hj s h2 cs hb)) t' p hlp
      · cases hs
    · cases hs

theorem getD_bx {fr : List FV} {s : Nat} {cs : List GV} (h : fr.getD s .bad = .bx cs) : s < fr.length := by
  rcases Nat.lt_or_ge s fr.length with q | q
  · exact q
  · rw [List.getD_eq_getElem?_getD, List.getElem?_eq_none q] at h; cases h
theorem getD_upd {fr : List FV} {s : Nat} {cs cs' : List GV} (h : fr.getD s .bad = .bx cs) : (fr.set s (.bx cs')).getD s .bad = .bx cs' := by
  rw [List.getD_eq_getElem?_getD, List.getElem?_set_self (getD_bx h)]; rfl
theorem ev_upd {fr : List FV} {s : Nat} {cs cs' : List GV} (h : fr.getD s .bad = .bx cs) (x : Operand) : ev (fr.set s (.bx cs')) x = ev fr x := by
  cases x with
  | tmp t =>
    simp only [ev, atFr]
    by_cases e : t = s
    · subst e; rw [getD_upd h, h]
    · rw [set_getD e]
  | _ => rfl
theorem wantF_upd {fr : List FV} {s : Nat} {cs cs' : List GV} (h : fr.getD s .bad = .bx cs) (g : Option (Nat × Bool)) : wantF ops (fr.set s (.bx cs')) g = wantF ops fr g := by
  unfold wantF
  cases g with
  | none => rfl
  | some jw =>
    obtain ⟨j, want⟩ := jw
    dsimp only
    cases hd : (ops[j]?).bind (·.dst) with
    | none => rfl
    | some d =>
      dsimp only
      by_cases e : d = s
      · subst e; rw [getD_upd h, h]
      · rw [set_getD e]
theorem noLp_upd {d s : Nat} {cs : List GV} : ∀ {fr : List FV} {s : Nat}, noLp d fr = true → noLp d (fr.set s (.bx cs)) = true
  | [], _, _ => rfl
  | x :: xs, 0, h => by
    unfold noLp at h
    split at h
    · cases h
    · show noLp d (.bx cs :: xs) = true
      unfold noLp
      exact h
  | x :: xs, s + 1, h => by
    have h' := h
    unfold noLp at h'
    split at h'
    · cases h'
    · rename_i e
      show noLp d (x :: xs.set s (.bx cs)) = true
      unfold noLp
      rw [e]
      exact noLp_upd (s := s) h'
theorem noLps_upd {fr : List FV} {s : Nat} {cs : List GV} : ∀ {al : List Nat}, noLps fr al = true → noLps (fr.set s (.bx cs)) al = true
  | [], _ => rfl
  | a :: al, h => by
    unfold noLps at h ⊢
    split at h
    · rename_i e
      rw [noLp_upd (s := s) e]
      exact noLps_upd h
    · cases h

/-- the tail: in the order of the text -/
theorem tailAny (hC : CxOK P cx) (F : DrFacts cx ops m σ0 al) {Q : Exit → Act → World → Prop} {K : List FV → Hp → Prop} (hQ : ∀ fr' H' φ' lam' tmps' w', K fr' H' → Inv φ0 H0 w0 φ' H' lam' fr' tmps' w' → Q .normal ⟨tmps', []⟩ w') :
    ∀ (fuel j : Nat) (L : Array Bool) (fr : List FV) (H : Hp) (φ : List LI) (lam : Nat → Nat) (tmps : Array Value) (w : World), m ≤ j → j ≤ ops.size → ops.size ≤ j + fuel → L.size = ops.size → Closed ops L → (∀ i, i < ops.size → (L.getD i false = true ↔ i < j)) →
      opsK cx ops (ops.toList.drop j) fr H K → Inv φ0 H0 w0 φ H lam fr tmps w → wpAny P .any ops Q fuel L ⟨tmps, []⟩ w := by
  intro fuel
  induction fuel with
  | zero =>
    intro j L fr H φ lam tmps w hm hj hf hs hc hL h I
    have hj' : j = ops.size := by omega
    subst hj'
    rw [List.drop_of_length_le (by simp)] at h
    refine ⟨?_, hQ _ _ _ _ _ _ h I⟩
    cases hr : Region.ready .any ops L with
    | nil => rfl
    | cons i l =>
      have hi : i ∈ Region.ready .any ops L := by rw [hr]; simp
      obtain ⟨h1, h2, _⟩ := ready_iff hi
      rw [(hL i (by omega)).2 (by omega)] at h2; cases h2
  | succ fuel ih =>
    intro j L fr H φ lam tmps w hm hj hf hs hc hL h I
    refine ⟨fun hr => ?_, fun i hi => ?_⟩
    · have hall := all_listed F hs hr
      have hj' : j = ops.size := by
        rcases Nat.lt_or_ge j ops.size with q | q
        · have := (hL j q).1 (hall j q); omega
        · omega
      subst hj'
      rw [List.drop_of_length_le (by simp)] at h
      exact hQ _ _ _ _ _ _ h I
    · obtain ⟨h1, h2, o, ho, hro⟩ := ready_iff hi
      have hil : i < ops.size := by omega
      have hij : j ≤ i := by
        rcases Nat.lt_or_ge i j with q | q
        · rw [(hL i hil).2 q] at h2; cases h2
        · exact q
      have hij' : i = j := by
        rcases Nat.eq_or_lt_of_le hij with q | q
        · exact q.symm
        · have := waits_of_ready hc ho hro j (F.tail i hil (by omega) j q)
          have := (hL j (by omega)).1 this
          omega
      subst hij'
      rw [List.drop_eq_getElem_cons (by simpa using hil)] at h
      have hoj : ops.toList[i]'(by simpa using hil) = o := by
        have : ops[i]? = some o := ho
        rw [Array.getElem?_eq_getElem hil] at this
        simpa using this
      rw [hoj] at h
      have h' : wantK ops fr o.guard
        (fun fr => opK cx o fr H fun v fr H => putK fr o.dst v fun fr => opsK cx ops (ops.toList.drop (i + 1)) fr H K)
        (fun fr => putK fr o.dst .und fun fr => opsK cx ops (ops.toList.drop (i + 1)) fr H K) := h
      have hc' := closed_set hc ho hro
      have hL' : ∀ k, k < ops.size → ((L.setIfInBounds i true).getD k false = true ↔ k < i + 1) := by
        intro k hk
        by_cases q : k = i
        · subst q; rw [lis_self h1]; simp
        · rw [getD_set_ne false (Ne.symm q), hL k hk]; omega
      unfold wpOp
      rw [ho]
      dsimp only
      rcases wantK_ok I h' with ⟨hw, h'⟩ | ⟨hw, h'⟩
      · rw [if_pos hw]
        refine .inl (opK_ok hC.tys hC.env hC.dyn I [] h' fun v fr' H' u w' hk hres => ?_)
        rw [putK_eq] at hk
        obtain ⟨φ', lam', tmps', e, I'⟩ := hres.put (df := [])
        rw [e]
        exact ih (i + 1) _ _ _ _ _ _ _ (by omega) (by omega) (by omega) (by simpa using hs) hc' hL' hk I'
      · rw [if_neg (by rw [hw]; simp)]
        rw [putK_eq] at h'
        obtain ⟨φ', lam', tmps', e, I'⟩ := (Res.of I (v := .und) (u := undef) rfl o.dst).put (df := [])
        rw [e]
        exact ih (i + 1) _ _ _ _ _ _ _ (by omega) (by omega) (by omega) (by simpa using hs) hc' hL' h' I'

theorem mask_none {p : Nat → Bool} {fr : List FV} (h : ∀ t, p t = false) : mask p fr = fr := by
  apply List.ext_getElem?
  intro t
  rw [mask_get, h t]

theorem simAny (hC : CxOK P cx) {Q : Exit → Act → World → Prop} {K : List FV → Hp → Prop} (hQ : ∀ fr' H' φ' lam' tmps' w', K fr' H' → Inv φ0 H0 w0 φ' H' lam' fr' tmps' w' → Q .normal ⟨tmps', []⟩ w') :
    ∀ (fuel : Nat) (σ0 : List Nat) (F : DrFacts cx ops m σ0 al) (rem : List Nat) (L : Array Bool) (seen σ : List Nat) (fr : List FV) (H : Hp) (tmps : Array Value) (w : World),
      Sim P cx ops m σ0 al φ0 H0 w0 (fun fr H => opsK cx ops (ops.toList.drop m) fr H K) L seen σ fr H tmps w → Closed ops L → L.size = ops.size → (∀ i, m ≤ i → i < ops.size → L.getD i false = false) → rem.Nodup → (∀ i, i ∈ rem ↔ i < m ∧ L.getD i false = false) → fuel = rem.length + (ops.size - m) →
      wpAny P .any ops Q fuel L ⟨tmps, []⟩ w := by
  intro fuel
  induction fuel with
  | zero =>
    intro σ0 F rem L seen σ fr H tmps w S0 hc hs ht hnd hrem hf
    obtain ⟨seen, σ, fr, S, _⟩ := S0.advance F
    have hr0 : rem = [] := by apply List.eq_nil_of_length_eq_zero; omega
    subst hr0
    have hall : ∀ i, i < m → L.getD i false = true := fun i hi => by
      cases q : L.getD i false with
      | true => rfl
      | false => exact (List.not_mem_nil ((hrem i).2 ⟨hi, q⟩)).elim
    have hσ : σ = [] := by
      cases σ with
      | nil => rfl
      | cons e r =>
        have h1 := S.rest e (by simp)
        rw [hall e (F.lt e (by rw [S.ord]; simp))] at h1; cases h1
    subst hσ
    obtain ⟨φ, lam, I⟩ := S.inv
    rw [mask_none (fun t => by
      cases q : pend ops L seen t with
      | false => rfl
      | true =>
        obtain ⟨j, hj, h1, _⟩ := pend_iff.1 q
        rw [hall j (F.lt j (by rw [S.ord]; simp [hj]))] at h1; cases h1)] at I
    have hL : ∀ i, i < ops.size → (L.getD i false = true ↔ i < m) := fun i hi => by
      constructor
      · intro q
        rcases Nat.lt_or_ge i m with r | r
        · exact r
        · rw [ht i r hi] at q; cases q
      · exact hall i
    exact tailAny hC F hQ 0 m L fr H φ lam tmps w (Nat.le_refl _) F.le (by omega) hs hc hL S.go I
  | succ fuel ih =>
    intro σ0 F rem L seen σ fr H tmps w S0 hc hs ht hnd hrem hf
    obtain ⟨seen, σ, fr, S, hhead⟩ := S0.advance F
    by_cases hrm : rem = []
    · subst hrm
      have hall : ∀ i, i < m → L.getD i false = true := fun i hi => by
        cases q : L.getD i false with
        | true => rfl
        | false => exact (List.not_mem_nil ((hrem i).2 ⟨hi, q⟩)).elim
      have hσ : σ = [] := by
        cases σ with
        | nil => rfl
        | cons e r =>
          have h1 := S.rest e (by simp)
          rw [hall e (F.lt e (by rw [S.ord]; simp))] at h1; cases h1
      subst hσ
      obtain ⟨φ, lam, I⟩ := S.inv
      rw [mask_none (fun t => by
        cases q : pend ops L seen t with
        | false => rfl
        | true =>
          obtain ⟨j, hj, h1, _⟩ := pend_iff.1 q
          rw [hall j (F.lt j (by rw [S.ord]; simp [hj]))] at h1; cases h1)] at I
      have hL : ∀ i, i < ops.size → (L.getD i false = true ↔ i < m) := fun i hi => by
        constructor
        · intro q
          rcases Nat.lt_or_ge i m with r | r
          · exact r
          · rw [ht i r hi] at q; cases q
        · exact hall i
      exact tailAny hC F hQ (fuel + 1) m L fr H φ lam tmps w (Nat.le_refl _) F.le (by simp at hf; omega) hs hc hL S.go I
    · obtain ⟨i0, hi0⟩ := List.exists_mem_of_ne_nil rem hrm
      obtain ⟨hi0m, hi0L⟩ := (hrem i0).1 hi0
      refine ⟨fun hr => ?_, fun i hi => ?_⟩
      · have h1 : Lis L i0 := all_listed F hs hr i0 (by have := F.le; omega)
        unfold Lis at h1
        rw [hi0L] at h1; cases h1
      · obtain ⟨h1, h2, o, ho, hro⟩ := ready_iff hi
        have hil : i < ops.size := by omega
        have him : i < m := by
          rcases Nat.lt_or_ge i m with q | q
          · exact q
          · have h3 : Lis L i0 := waits_of_ready hc ho hro i0 (F.tail i hil q i0 (by omega))
            unfold Lis at h3
            rw [hi0L] at h3; cases h3
        have hc' := closed_set hc ho hro
        have hs' : (L.setIfInBounds i true).size = ops.size := by simpa using hs
        have ht' : ∀ k, m ≤ k → k < ops.size → (L.setIfInBounds i true).getD k false = false := fun k hk hk2 => by
          rw [getD_set_ne false (by omega)]; exact ht k hk hk2
        have hirem : i ∈ rem := (hrem i).2 ⟨him, h2⟩
        have hnd' : (rem.erase i).Nodup := hnd.erase i
        have hrem' : ∀ k, k ∈ rem.erase i ↔ k < m ∧ (L.setIfInBounds i true).getD k false = false := fun k => by
          rw [hnd.mem_erase_iff, hrem k]
          constructor
          · rintro ⟨q1, q2, q3⟩
            exact ⟨q2, by rw [getD_set_ne false (Ne.symm q1)]; exact q3⟩
          · rintro ⟨q1, q2⟩
            exact ⟨ne_of_lis h1 q2, q1, lis_set q2⟩
        have hf' : fuel = (rem.erase i).length + (ops.size - m) := by
          rw [List.length_erase_of_mem hirem]
          have := List.length_pos_of_mem hirem
          omega
        have goOn : ∀ σ0 (F : DrFacts cx ops m σ0 al) seen σ fr H tmps w, Sim P cx ops m σ0 al φ0 H0 w0 (fun fr H => opsK cx ops (ops.toList.drop m) fr H K) (L.setIfInBounds i true) seen σ fr H tmps w → wpAny P .any ops Q fuel (L.setIfInBounds i true) ⟨tmps, []⟩ w :=
          fun σ0 F seen σ fr H tmps w S' => ih σ0 F _ _ _ _ _ _ _ _ S' hc' hs' ht' hnd' hrem' hf'
        have hlook := S.looks F hc him ho hro
        obtain ⟨φ, lam, I⟩ := S.inv
        have hnodup := F.nodup
        rw [S.ord, List.nodup_append] at hnodup
        obtain ⟨o1, ho1, hl, hst, _, hal⟩ := F.op i him
        rw [ho] at ho1; cases ho1
        have hwF := wantF_of (ops := ops) (o := o) hlook
        have hi00 : i ∈ seen.reverse ++ σ := by rw [← S.ord]; exact F.all i him
        unfold wpOp
        rw [ho]
        dsimp only
        rcases List.mem_append.1 hi00 with hseen | hσ
        · -- told already
          have hseen : i ∈ seen := by simpa using hseen
          have hiσ : i ∉ σ := fun q => hnodup.2.2 i (by simpa using hseen) i q rfl
          obtain ⟨o2, ho2, he, hp⟩ := S.told i hseen h2
          rw [ho] at ho2; cases ho2
          have mkS : ∀ v φ' lam' tmps' w', Inv φ0 H0 w0 φ' H lam' (setO (mask (pend ops L seen) fr) o.dst v) tmps' w' → (∀ d, o.dst = some d → d < fr.length → fr.getD d .bad = v) →
              Sim P cx ops m σ0 al φ0 H0 w0 (fun fr H => opsK cx ops (ops.toList.drop m) fr H K) (L.setIfInBounds i true) seen σ fr H tmps' w' := by
            intro v φ' lam' tmps' w' I' hv
            refine ⟨S.ord, fun j hj => ?_, S.go, ⟨φ', lam', I'.masked rfl (fun d hd hlt _ => hv d hd hlt) (fun t htd hp' => ⟨?_, rfl⟩)⟩, fun j hj hLj => S.told j hj (lis_set hLj), S.lps, S.box⟩
            · rw [getD_set_ne false (fun e => hiσ (by rw [e]; exact hj))]; exact S.rest j hj
            · cases q : pend ops L seen t with
              | false => rfl
              | true =>
                obtain ⟨j, hj, q1, q2⟩ := pend_iff.1 q
                have hji : j ≠ i := fun e => by subst e; exact htd ((dstAt_of ho).1 q2)
                rw [pend_iff.2 ⟨j, hj, by rw [getD_set_ne false (Ne.symm hji)]; exact q1, q2⟩] at hp'; cases hp'
          rcases hp with ⟨hw, v, hv, hpv⟩ | ⟨hw, hv⟩
          · rw [if_pos (wanted_F I (by rw [hwF]; exact hw))]
            refine .inl (opK_ok hC.tys hC.env hC.dyn I [] ((S.pv F hc him ho hro hpv).run he (noStore he) (fun ha d hd => noLp_of (mask_length _ _) (mask_weak _ _) (noLps_get S.lps d (hal ha d hd))) (fun v' f h => v' = v ∧ f = mask (pend ops L seen) fr ∧ h = H) ⟨rfl, rfl, rfl⟩) fun v' fr' H' u w' hk hres => ?_)
            obtain ⟨rfl, rfl, rfl⟩ := hk
            obtain ⟨φ', lam', tmps', e, I'⟩ := hres.put (df := [])
            rw [e]
            exact goOn _ F _ _ _ _ _ _ (mkS _ _ _ _ _ I' hv)
          · rw [if_neg (by rw [wanted_F I (show wantF ops _ o.guard = some false by rw [hwF]; exact hw)]; simp)]
            obtain ⟨φ', lam', tmps', e, I'⟩ := (Res.of I (v := .und) (u := undef) rfl o.dst).put (df := [])
            rw [e]
            exact goOn _ F _ _ _ _ _ _ (mkS _ _ _ _ _ I' hv)
        · rcases hhead with rfl | ⟨e, rest, rfl, hE⟩
          · cases hσ
          · have hsw : ∃ σ1 rest1, DrFacts cx ops m σ1 al ∧ Sim P cx ops m σ1 al φ0 H0 w0 (fun fr H => opsK cx ops (ops.toList.drop m) fr H K) L seen (i :: rest1) fr H tmps w ∧ opAt ops i false (isEff cx) = true := by
              rcases List.mem_cons.1 hσ with rfl | hrest
              · exact ⟨σ0, rest, F, S, hE⟩
              · have hsp := (effOK_spec (pre := seen.reverse) (post := rest) (i := e) (by rw [← S.ord]; exact F.eff)).1 hE
                have bad : has ((waits ops).getD i 0) e = true → False := fun q => by
                  have := waits_of_ready hc ho hro e q
                  unfold Lis at this
                  rw [S.rest e (by simp)] at this; cases this
                rcases hsp with q | q
                · exact (bad (q i hrest)).elim
                · cases rest with
                  | nil => cases q
                  | cons j l =>
                    have q' := q
                    obtain ⟨hs1, q1, _⟩ := twin_iff.1 q
                    rcases List.mem_cons.1 hrest with rfl | hr
                    · refine ⟨seen.reverse ++ i :: e :: l, e :: l, DrFacts.swap (by rw [← S.ord]; exact F) q', ⟨rfl, fun k hk => S.rest k ?_, go_swap hs1 S.go, S.inv, S.told, S.lps, S.box⟩, (split_iff.1 hs1).2.1⟩
                      simp only [List.mem_cons] at hk ⊢
                      grind
                    · exact (bad (q1 i hr)).elim
            clear hσ hi00 hnodup hE
            obtain ⟨σ1, rest1, F1, S1, hE⟩ := hsw
            clear S F
            have hspec := effOK_spec (pre := seen.reverse) (post := rest1) (i := i) (by rw [← S1.ord]; exact F1.eff)
            have hnodup := F1.nodup
            rw [S1.ord, List.nodup_append] at hnodup
            · -- one that turns the heap
              have he : isEff cx o = true := by unfold opAt at hE; rw [ho] at hE; exact hE
              have hsj : ∀ j ∈ seen, j < m ∧ j ≠ i ∧ has ((waits ops).getD j 0) i = false := fun j hj => by
                refine ⟨F1.lt j (by rw [S1.ord]; simp [hj]), fun e => ?_, hspec.2.2 j (by simpa using hj)⟩
                subst e
                exact hnodup.2.2 j (by simpa using hj) j (by simp) rfl
              have hrest2 : ∀ j ∈ rest1, j ≠ i := fun j hj e => by
                subst e
                exact (List.nodup_cons.1 hnodup.2.1).1 hj
              have mkE : ∀ v H' φ' lam' tmps' w', goK cx ops (waits ops) al rest1 (i :: seen) (setO fr o.dst v) H' (fun fr H => opsK cx ops (ops.toList.drop m) fr H K) →
                  (∀ d, o.dst = some d → (∀ cs, fr.getD d .bad ≠ .bx cs) ∧ (∀ cs, v = .bx cs → d ∈ al) ∧ noLps (setO fr o.dst v) al = true) →
                  Inv φ0 H0 w0 φ' H' lam' (setO (mask (pend ops L seen) fr) o.dst v) tmps' w' → (∀ j ∈ seen, L.getD j false = false → Pend cx ops (setO fr o.dst v) H' j) →
                  Sim P cx ops m σ1 al φ0 H0 w0 (fun fr H => opsK cx ops (ops.toList.drop m) fr H K) (L.setIfInBounds i true) (i :: seen) rest1 (setO fr o.dst v) H' tmps' w' := by
                intro v H' φ' lam' tmps' w' hgo hput I' hpend
                refine ⟨by rw [S1.ord]; simp, fun j hj => ?_, hgo, ⟨φ', lam', I'.masked (setO_length _ _ _) (fun d hd hlt _ => ?_) (fun t htd hp' => ⟨?_, ?_⟩)⟩, fun j hj hLj => ?_, ?_, fun j hj d hdj cs hcs => ?_⟩
                · rw [getD_set_ne false (Ne.symm (hrest2 j hj))]; exact S1.rest j (by simp [hj])
                · rw [hd]; simp only [setO]; rw [List.getD_eq_getElem?_getD, List.getElem?_set_self hlt]; rfl
                · cases q : pend ops L seen t with
                  | false => rfl
                  | true =>
                    obtain ⟨j, hj, q1, q2⟩ := pend_iff.1 q
                    have hji := (hsj j hj).2.1
                    rw [pend_iff.2 ⟨j, by simp [hj], by rw [getD_set_ne false (Ne.symm hji)]; exact q1, q2⟩] at hp'; cases hp'
                · cases hd : o.dst with
                  | none => rfl
                  | some d => simp only [setO]; rw [List.getElem?_set_ne (fun e => htd (by rw [hd, e]))]
                · rcases List.mem_cons.1 hj with e | hj
                  · exact (ne_of_lis h1 hLj e).elim
                  · exact hpend j hj (lis_set hLj)
                · cases hd : o.dst with
                  | none => exact S1.lps
                  | some d => rw [← hd]; exact (hput d hd).2.2
                · rcases List.mem_cons.1 hj with e | hj
                  · subst e
                    have hd := (dstAt_of ho).1 hdj
                    rw [hd] at hcs
                    simp only [setO] at hcs
                    by_cases q : d < fr.length
                    · rw [List.getD_eq_getElem?_getD, List.getElem?_set_self q] at hcs
                      exact (hput d hd).2.1 cs (by simpa using hcs)
                    · rw [List.getD_eq_getElem?_getD, List.getElem?_eq_none (by rw [List.length_set]; exact Nat.le_of_not_lt q)] at hcs
                      cases hcs
                  · refine S1.box j hj d hdj cs ?_
                    rw [setO_getD (fun d' hd' e => by
                      subst e
                      exact (hsj j hj).2.1 (F1.dst j i (hsj j hj).1 him d hdj ((dstAt_of ho).2 hd')))] at hcs
                    exact hcs
              have hgo' : wantK ops fr o.guard
                (fun fr => opK cx o fr H fun v fr H' => putG al o.dst v fr fun fr => reK cx ops (waits ops) i H' fr (match isEff cx o with | true => seen | false => []) (goK cx ops (waits ops) al rest1 (i :: seen) fr H' (fun fr H => opsK cx ops (ops.toList.drop m) fr H K)))
                (fun fr => putG al o.dst .und fr fun fr => goK cx ops (waits ops) al rest1 (i :: seen) fr H (fun fr H => opsK cx ops (ops.toList.drop m) fr H K)) := by
                have := go_head (pre := seen.reverse) (by rw [← S1.ord]; exact F1.eff) S1.go
                simp only [stp, ho] at this
                exact this
              rcases wantK_F hgo' with ⟨hw, h⟩ | ⟨hw, h⟩
              · rw [if_pos (wanted_F I (by rw [hwF]; exact hw))]
                refine .inl (opK_ok hC.tys hC.env hC.dyn I [] (effK he (ev_looks hlook) (fun s h1 h2 => mask_getD (S1.stores hlook h1 h2)) h) fun v fr' H' u w' hk hres => ?_)
                obtain ⟨uu, rfl, hk, hcase⟩ := hk
                rw [he] at hk
                have hwij : ∀ j, L.getD j false = false → has ((waits ops).getD i 0) j = false := fun j hLj => by
                  cases q : has ((waits ops).getD i 0) j with
                  | false => rfl
                  | true =>
                    have := waits_of_ready hc ho hro j q
                    unfold Lis at this
                    rw [hLj] at this; cases this
                rcases hcase with ⟨rfl, hst0⟩ | ⟨s, cs', cs0, rfl, hst0, hb0, rfl⟩
                · simp only [applyU] at hk hres
                  obtain ⟨hk, hput⟩ := putG_ok hk
                  obtain ⟨hgo2, hre⟩ := reK_ok hk
                  obtain ⟨φ', lam', tmps', e, I'⟩ := hres.put (df := [])
                  rw [e]
                  refine goOn _ F1 _ _ _ _ _ _ (mkE _ _ _ _ _ _ hgo2 hput I' fun j hj hLj => ?_)
                  obtain ⟨q1, q2, q3⟩ := hsj j hj
                  obtain ⟨oj, hoj, hej, hpj⟩ := (S1.told j hj hLj).set F1 him ho q1 q2 q3 (v := v) (fun d hd => (hput d hd).1)
                  refine ⟨oj, hoj, hej, ?_⟩
                  rcases hpj with ⟨hwj, vj, hvj, hpvj⟩ | hpj
                  · left
                    refine ⟨hwj, ?_⟩
                    cases hrd : readsH oj (ev (setO fr o.dst v)) with
                    | false => exact ⟨vj, hvj, hpvj.heap hej hrd⟩
                    | true =>
                      have hst1 : stBox o (ev (setO fr o.dst v)) = none := by
                        have hx : ∀ x ∈ o.op.operands, ev (setO fr o.dst v) x = ev fr x := ev_looks fun t ht => setO_getD fun d hd e => by
                          subst e
                          have := (hl t ht).2 i him ((dstAt_of ho).2 hd)
                          rw [hspec.2.1] at this; cases this
                        unfold stBox at hst0 ⊢
                        cases hop : o.op with
                        | store t a x =>
                          rw [hop] at hst0 hx
                          dsimp only at hst0 ⊢
                          rw [hx a (by simp [Op.operands])]
                          exact hst0
                        | _ => rfl
                      have hag : again ops[i]? oj (ev (setO fr o.dst v)) = true := by
                        rw [ho]; simp only [again, hst1]; exact hrd
                      obtain ⟨v3, hv3, hone⟩ := hre j hj oj hoj hej (hwij j hLj) hag hwj
                      refine ⟨v3, fun d hd _ => by rw [← hv3, hd]; rfl, .inl ⟨?_, hone⟩⟩
                      unfold readsH at hrd
                      unfold isAl
                      cases hop : oj.op <;> rw [hop] at hrd <;> first | rfl | cases hrd
                  · exact .inr hpj
                · have hps := S1.stores hlook hst0 ⟨cs0, hb0⟩
                  have hdn : o.dst = none := hst (by
                    unfold stBox at hst0
                    unfold isStore
                    cases hop : o.op <;> rw [hop] at hst0 <;> first | rfl | cases hst0)
                  simp only [applyU] at hk hres
                  obtain ⟨hk, _⟩ := putG_ok hk
                  obtain ⟨hgo2, hre⟩ := reK_ok hk
                  obtain ⟨φ', lam', tmps', e, I'⟩ := hres.put (df := [])
                  rw [e]
                  rw [hdn] at hgo2 hre I'
                  simp only [setO] at hgo2 hre I'
                  refine goOn _ F1 (i :: seen) rest1 (fr.set s (.bx cs')) _ _ _ ⟨by rw [S1.ord]; simp, fun j hj => ?_, hgo2, ⟨φ', lam', I'.weaken (by simp [mask_length]) fun t v' hv' => ?_⟩, fun j hj hLj => ?_, noLps_upd S1.lps, fun j hj d hdj cs hcs => ?_⟩
                  · rw [getD_set_ne false (Ne.symm (hrest2 j hj))]; exact S1.rest j (by simp [hj])
                  · rw [mask_get] at hv'
                    cases hp' : pend ops (L.setIfInBounds i true) (i :: seen) t with
                    | true =>
                      rw [hp'] at hv'; left
                      cases hx : (fr.set s (.bx cs'))[t]? <;> rw [hx] at hv' <;> simp at hv'
                      exact hv'.symm
                    | false =>
                      rw [hp'] at hv'
                      dsimp only at hv'
                      right
                      have hpt : pend ops L seen t = false := by
                        cases q : pend ops L seen t with
                        | false => rfl
                        | true =>
                          obtain ⟨j, hj, q1, q2⟩ := pend_iff.1 q
                          have hji := (hsj j hj).2.1
                          rw [pend_iff.2 ⟨j, by simp [hj], by rw [getD_set_ne false (Ne.symm hji)]; exact q1, q2⟩] at hp'; cases hp'
                      by_cases ts : t = s
                      · subst ts
                        rw [List.getElem?_set_self (getD_bx hb0)] at hv'
                        rw [List.getElem?_set_self (by rw [mask_length]; exact getD_bx hb0)]
                        exact hv'
                      · rw [List.getElem?_set_ne (Ne.symm ts)] at hv' ⊢
                        rw [mask_get, hpt]; exact hv'
                  · rcases List.mem_cons.1 hj with e | hj
                    · exact (ne_of_lis h1 hLj e).elim
                    · have hLj := lis_set hLj
                      obtain ⟨oj, hoj, hej, hpj⟩ := S1.told j hj hLj
                      have hds : ∀ d, oj.dst = some d → d ≠ s := fun d hd e => by
                        subst e
                        rw [pend_iff.2 ⟨j, hj, hLj, (dstAt_of hoj).2 hd⟩] at hps; cases hps
                      refine ⟨oj, hoj, hej, ?_⟩
                      rw [wantF_upd hb0]
                      rcases hpj with ⟨hwj, vj, hvj, hpvj⟩ | ⟨hwj, hvj⟩
                      · left
                        refine ⟨hwj, ?_⟩
                        cases hin : inBox oj (ev fr) s with
                        | false =>
                          refine ⟨vj, fun d hd hlt => by rw [set_getD (hds d hd)]; exact hvj d hd (by simpa using hlt), hpvj.move (by simp) (fun x _ => ev_upd hb0 x) (fun t a s' p cs hload he' hs' => ?_)⟩
                          have hss : s' ≠ s := fun e => by
                            subst e
                            unfold inBox at hin
                            rw [hload] at hin
                            dsimp only at hin
                            rw [he'] at hin
                            simp at hin
                          rw [set_getD hss]; exact hs'
                        | true =>
                          have hev' : ev (fr.set s (.bx cs')) = ev fr := funext fun x => ev_upd hb0 x
                          have hag : again ops[i]? oj (ev (fr.set s (.bx cs'))) = true := by
                            rw [ho, hev']; simp only [again, hst0]; exact hin
                          obtain ⟨v3, hv3, hone⟩ := hre j hj oj hoj hej (hwij j hLj) hag (by rw [wantF_upd hb0]; exact hwj)
                          refine ⟨v3, fun d hd _ => by rw [← hv3, hd]; rfl, .inl ⟨?_, hone⟩⟩
                          unfold inBox at hin
                          unfold isAl
                          cases hop : oj.op <;> rw [hop] at hin <;> first | rfl | cases hin
                      · exact .inr ⟨hwj, fun d hd hlt => by rw [set_getD (hds d hd)]; exact hvj d hd (by simpa using hlt)⟩
                  · rcases List.mem_cons.1 hj with e | hj
                    · subst e
                      have hd := (dstAt_of ho).1 hdj
                      rw [hdn] at hd; cases hd
                    · by_cases e : d = s
                      · subst e; exact S1.box j hj d hdj cs0 hb0
                      · rw [set_getD e] at hcs; exact S1.box j hj d hdj cs hcs
              · rw [if_neg (by rw [wanted_F I (show wantF ops _ o.guard = some false by rw [hwF]; exact hw)]; simp)]
                obtain ⟨hgo2, hput⟩ := putG_ok h
                obtain ⟨φ', lam', tmps', e, I'⟩ := (Res.of I (v := .und) (u := undef) rfl o.dst).put (df := [])
                rw [e]
                refine goOn _ F1 _ _ _ _ _ _ (mkE _ _ _ _ _ _ hgo2 hput I' fun j hj hLj => ?_)
                obtain ⟨q1, q2, q3⟩ := hsj j hj
                exact (S1.told j hj hLj).set F1 him ho q1 q2 q3 (fun d hd => (hput d hd).1)

/-- REGIONS WHOSE ORDER IS OPEN -/
theorem drOK (hC : CxOK P cx) (hm : P.follows .mixedOrders = true) : DrOK P cx := by
  intro ops fr H K φ0 H0 w0 φ lam tmps w Q h I hQ t
  unfold drK drGo at h
  obtain ⟨h1, h⟩ := ck_iff.1 h
  obtain ⟨h2, h⟩ := ck_iff.1 h
  have F := drFacts h1
  simp only [Region.schedule, hm, Bool.true_or, if_true]
  refine wpAny_sound ops.size t _ _ _ ?_
  have hrep : ∀ i, (Array.replicate ops.size false).getD i false = false := fun i => by
    rcases Nat.lt_or_ge i ops.size with q | q
    · simp [q]
    · simp [q]
  refine simAny hC hQ ops.size _ F (List.range (tailFrom (waits ops) ops.size)) _ [] _ fr H tmps w ⟨rfl, fun i _ => hrep i, h, ⟨φ, lam, ?_⟩, fun i hi => (by cases hi), h2, fun i hi => (by cases hi)⟩ ?_ (by simp) (fun i _ _ => hrep i) List.nodup_range (fun i => by rw [List.mem_range]; exact ⟨fun q => ⟨q, hrep i⟩, fun q => q.1⟩) (by have := F.le; simp; omega)
  · rw [mask_none (fun t => by simp [pend])]; exact I
  · intro i o ho hl
    unfold Lis at hl
    rw [hrep i] at hl; cases hl

end
end Go.Am
namespace Go.Am

/-! ## the table of types, checked -/
def zOne : LK → Value → Bool
  | .bool, .bool b => !b
  | .int k, .int k' n => decide (k = k') && decide (n = 0)
  | .str, .string ⟨⟨[]⟩⟩ => true
  | .ptr, .pointer none => true
  | .sl _, .slice none 0 0 => true
  | .map, .map none => true
  | .fn, .nilFunc => true
  | .iface, .nilIface => true
  | _, _ => false
def zEq : List LK → List Value → Bool
  | [], [] => true
  | k :: ks, v :: vs => match zOne k v with | true => zEq ks vs | false => false
  | _, _ => false
def tyChk (P : Program) (x : TI) (t : Nat) : Bool := match x.ok with
  | false => true
  | true => match P.info? t, P.underlying t with
    | some i, some d => Nat.beq i.size x.lv.length && (match i.zero with | some z => zEq x.lv z.cells.toList | none => false) && Nat.beq i.bytes x.by_ && descOK x d
    | _, _ => false
def cmpChk (P : Program) (x : TI) (t : Nat) : Bool := match x.cmp with
  | false => true
  | true => match P.underlying t with
    | some (.struct fs) => flatFs P x.lv 0 fs.toList && !P.stoodInHeld t && !P.eqGuardType P.depth t
    | _ => false
def msOne (P : Program) (t : Nat) (e : String × Nat × Bool) : Bool := match P.info? t with
  | some i => match i.methods.find? (·.name == e.1) with
    | some m => (match m.path.toList with | [] => true | _ => false) && (match m.func with | some (f, b) => Nat.beq f e.2.1 && (b == e.2.2) | none => false)
    | none => false
  | none => false
def msChk (P : Program) (x : TI) (t : Nat) : Bool := match x.ms with | [] => true | l => l.all (msOne P t)
def tysChk (P : Program) : List TI → Nat → Bool
  | [], _ => true
  | x :: xs, t => match tyChk P x t with | true => (match cmpChk P x t with | true => (match msChk P x t with | true => tysChk P xs (t + 1) | false => false) | false => false) | false => false
theorem mth_mem : ∀ {l : List (String × Nat × Bool)} {n : String} {f : Nat} {b : Bool}, mth l n = some (f, b) → (n, f, b) ∈ l
  | [], _, _, _, h => by cases h
  | (n', f', b') :: l, n, f, b, h => by
    unfold mth at h
    split at h
    · rename_i e
      have e : n' = n := by simpa using e
      cases h; subst e; simp
    · exact List.mem_cons_of_mem _ (mth_mem h)
theorem msChk_ok {P : Program} {x : TI} {t : Nat} (h : msChk P x t = true) : MsOK P x t := by
  intro n f b hm
  have hmem := mth_mem hm
  unfold msChk at h
  split at h
  · rename_i e; rw [e] at hmem; cases hmem
  · rw [List.all_eq_true] at h
    have := h _ hmem
    unfold msOne at this
    split at this
    · rename_i i hi
      split at this
      · rename_i m hf
        simp only [Bool.and_eq_true] at this
        obtain ⟨h1, h2⟩ := this
        refine ⟨i, m, hi, hf, ?_, ?_⟩
        · split at h1
          · rename_i e; exact Array.ext' e
          · cases h1
        · split at h2
          · rename_i f' b' e
            simp only [Bool.and_eq_true] at h2
            rw [e, beq_eq h2.1]
            have := h2.2
            simp at this
            rw [this]
          · cases h2
      · cases this
    · cases this

theorem zOne_eq {k : LK} {v : Value} (h : zOne k v = true) : v = zV k := by
  unfold zOne at h
  split at h <;> simp_all [zV]
theorem zEq_eq : ∀ {ks : List LK} {vs : List Value}, zEq ks vs = true → vs = ks.map zV
  | [], [], _ => rfl
  | [], _ :: _, h => by simp [zEq] at h
  | _ :: _, [], h => by simp [zEq] at h
  | k :: ks, v :: vs, h => by
    unfold zEq at h
    split at h
    · rename_i e; rw [zOne_eq e, zEq_eq h]; rfl
    · cases h
theorem tyChk_ok {P : Program} {x : TI} {t : Nat} (h : tyChk P x t = true) : TyOK P x t := by
  intro hok
  unfold tyChk at h
  rw [hok] at h
  dsimp only at h
  split at h
  · rename_i i d hi hd
    simp only [Bool.and_eq_true] at h
    obtain ⟨⟨⟨h1, h2⟩, h3⟩, h4⟩ := h
    split at h2
    · rename_i z hz
      exact ⟨i, z, d, hi, beq_eq h1, hz, zEq_eq h2, beq_eq h3, hd, h4⟩
    · cases h2
  · cases h
theorem cmpChk_ok {P : Program} {x : TI} {t : Nat} (h : cmpChk P x t = true) : CmpOK P x t := by
  intro hx
  unfold cmpChk at h
  rw [hx] at h
  dsimp only at h
  split at h
  · rename_i fs hd
    simp only [Bool.and_eq_true, Bool.not_eq_true'] at h
    exact ⟨fs, hd, h.1.1, h.1.2, h.2⟩
  · cases h
theorem tysChk_ok {P : Program} : ∀ {xs : List TI} {t : Nat}, tysChk P xs t = true → ∀ j, TyOK P (xs.getD j default) (t + j) ∧ CmpOK P (xs.getD j default) (t + j) ∧ MsOK P (xs.getD j default) (t + j)
  | [], t, _, j => by
    refine ⟨?_, ?_, ?_⟩
    · intro h
      simp [default, TI.ok] at h
      cases h
    · intro h
      simp [default, TI.cmp] at h
      cases h
    · intro n f b h
      simp [default, mth] at h
      cases h
  | x :: xs, t, h, j => by
    unfold tysChk at h
    split at h
    · rename_i e
      split at h
      · rename_i e2
        split at h
        · rename_i e3
          cases j with
          | zero => exact ⟨tyChk_ok e, cmpChk_ok e2, msChk_ok e3⟩
          | succ j =>
            have := tysChk_ok h j
            rw [show t + 1 + j = t + (j + 1) by omega] at this
            simpa using this
        · cases h
      · cases h
    · cases h
theorem tysOK {P : Program} {tys : List TI} (h : tysChk P tys 0 = true) : TysOK P tys := ⟨fun t => by
  have := (tysChk_ok h t).1
  simpa using this, fun t => by
  have := (tysChk_ok h t).2.1
  simpa using this, fun t => by
  have := (tysChk_ok h t).2.2
  simpa using this⟩

/-- a program, for which it is all shown once -/
structure ProgOK (P : Program) (tys : List TI) : Prop where
  tys : TysOK P tys
  mix : P.follows .mixedOrders = true

theorem ProgOK.sound {P : Program} {tys : List TI} (h : ProgOK P tys) {f : FuncId} {fn : Func} {cx : Cx} (ht : cx.tys = tys) (he : ∀ f s, cx.env.lookup f = some s → SoundC P f s) (hd : ∀ f, SoundC P f (cx.dyn f)) (hf : P.funcs[f]? = some fn) (hres : fn.results = cx.res.toArray) : Sound P f fun xs H Q => ∃ k, callK cx fn k xs H Q := by
  have hC : CxOK P cx := ⟨by rw [ht]; exact h.tys, he, hd⟩
  exact Sound.ex fun n => sound_of hC (drOK hC h.mix) hf hres n

theorem noDyn_ok (P : Program) (f : FuncId) : SoundC P f (noDyn f) := fun as H Q h => h.elim

/-- what a context's functions are -/
def EnvOK (P : Program) (l : List (Nat × Sm)) : Prop := ∀ f s, l.lookup f = some s → SoundC P f s
theorem EnvOK.nil (P : Program) : EnvOK P [] := fun f s h => by cases h
theorem EnvOK.cons {P : Program} {f : Nat} {s : Sm} {l : List (Nat × Sm)} (h : SoundC P f s) (hl : EnvOK P l) : EnvOK P ((f, s) :: l) := by
  intro f' s' h'
  rw [List.lookup_cons] at h'
  split at h'
  · rename_i e
    have e : f' = f := by simpa using e
    cases h'; subst e; exact h
  · exact hl f' s' h'
theorem dynOf_ok {P : Program} {l : List (Nat × Sm)} (h : EnvOK P l) (f : FuncId) : SoundC P f (dynOf l f) := by
  unfold dynOf
  split
  · rename_i s e; exact h f s e
  · exact fun as H Q h => h.elim

end Go.Am
namespace Go.Am

/-! the words, at what is known -/
@[simp] theorem bite_true (x y : Prop) : bite true x y = x := propext Iff.rfl
@[simp] theorem bite_false (x y : Prop) : bite false x y = y := propext Iff.rfl
theorem bite_t {b : Bool} {x y : Prop} (h : b = true) : bite b x y = x := by subst h; rfl
theorem bite_f {b : Bool} {x y : Prop} (h : b = false) : bite b x y = y := by subst h; rfl
theorem bite_of {b : Bool} {x y : Prop} (h1 : b = true → x) (h2 : b = false → y) : bite b x y := by cases b <;> simp_all [bite]
@[simp] theorem chk_true (x : Prop) : chk true x = x := propext Iff.rfl
theorem chk_of {b : Bool} {x : Prop} (h1 : b = true) (h2 : x) : chk b x := by subst h1; exact h2
@[simp] theorem dB_bool (b : Bool) (K : Bool → Prop) : dB (.bool b) K = K b := propext Iff.rfl
@[simp] theorem dI_int (k : IntKind) (n : Int) (K : Int → Prop) : dI k (.int k n) K = K n := by simp [dI]
@[simp] theorem dS_str (s : ByteArray) (K : ByteArray → Prop) : dS (.str s) K = K s := propext Iff.rfl
@[simp] theorem dP_ptr (a : Pl) (K : Pl → Prop) : dP (.ptr a) K = K a := propext Iff.rfl
@[simp] theorem dL_sl (z : Nat) (a : Pl) (n : Nat) (K : Pl → Nat → Prop) : dL z (.sl a n z) K = K a n := by simp [dL]
@[simp] theorem dL_nil (z n z' : Nat) (K : Pl → Nat → Prop) : dL z (.sl none n z') K = K none n := by simp [dL]
@[simp] theorem dM_map (m : Option Nat) (K : Option Nat → Prop) : dM (.map m) K = K m := propext Iff.rfl
@[simp] theorem dF_fn (f : Nat) (c : List (Nat × Nat)) (K : Nat → List (Nat × Nat) → Prop) : dF (.fn f c) K = K f c := propext Iff.rfl
@[simp] theorem pS_some (l o : Nat) (K : Nat → Nat → Prop) : pS (some (l, o)) K = K l o := propext Iff.rfl
@[simp] theorem uC_cons (c : GV) (cs : List GV) (K : GV → List GV → Prop) : uC (c :: cs) K = K c cs := propext Iff.rfl
@[simp] theorem uN_nil (x : Prop) : uN [] x = x := propext Iff.rfl
@[simp] theorem rG_g (v : GV) (K : GV → Prop) : rG (.g v) K = K v := propext Iff.rfl
@[simp] theorem rA_agg (cs : List GV) (K : List GV → Prop) : rA (.agg cs) K = K cs := propext Iff.rfl
@[simp] theorem rT_tup (vs : List RV) (K : List RV → Prop) : rT (.tup vs) K = K vs := propext Iff.rfl
@[simp] theorem uR_cons (v : RV) (vs : List RV) (K : RV → List RV → Prop) : uR (v :: vs) K = K v vs := propext Iff.rfl
@[simp] theorem uE_nil (x : Prop) : uE [] x = x := propext Iff.rfl
@[simp] theorem rS_s (v : GV) (K : GV → Prop) : rS (.s v) K = K v := propext Iff.rfl
@[simp] theorem rC_a (cs : List GV) (K : List GV → Prop) : rC (.a cs) K = K cs := propext Iff.rfl
@[simp] theorem nI_def (n : Nat) : nI n = (n : Int) := rfl
@[simp] theorem tN_def (n : Int) : tN n = n.toNat := rfl
@[simp] theorem eqI_def (a b : Int) : eqI a b = decide (a = b) := by unfold eqI; rw [Bool.eq_iff_iff]; simp
@[simp] theorem ltI_def (a b : Int) : ltI a b = decide (a < b) := rfl
@[simp] theorem leI_def (a b : Int) : leI a b = decide (a ≤ b) := rfl
@[simp] theorem leN_def (a b : Nat) : leN a b = decide (a ≤ b) := rfl
@[simp] theorem eqB_def (a b : Bool) : eqB a b = (a == b) := rfl
@[simp] theorem sz_def (s : ByteArray) : sz s = (s.size : Int) := rfl
@[simp] theorem szN_def (s : ByteArray) : szN s = s.size := rfl
@[simp] theorem ln_def (H : Hp) : ln H = H.length := rfl
@[simp] theorem pu_def (H : Hp) (x : Obj) : pu H x = H ++ [x] := rfl
@[simp] theorem shf_none (m : Nat) : shf none m = none := rfl
@[simp] theorem shf_some (l o m : Nat) : shf (some (l, o)) m = some (l, o + m) := rfl
@[simp] theorem isNone_none : isNone (none : Pl) = true := rfl
@[simp] theorem isNone_some (p : Nat × Nat) : isNone (some p : Pl) = false := rfl

/-! texts -/
def bs (s : ByteArray) : List UInt8 := s.data.toList
theorem toList_bs (s : ByteArray) : s.toList = bs s := Lib.toList_data s
theorem bs_inj {a b : ByteArray} (h : bs a = bs b) : a = b := by
  obtain ⟨⟨x⟩⟩ := a
  obtain ⟨⟨y⟩⟩ := b
  simp [bs] at h
  rw [h]
@[simp] theorem bs_mkS (l : List UInt8) : bs (mkS l) = l := rfl
@[simp] theorem mkS_bs (s : ByteArray) : mkS (bs s) = s := bs_inj rfl
@[simp] theorem bs_length (s : ByteArray) : (bs s).length = s.size := by simp [bs]
@[simp] theorem size_mkS (l : List UInt8) : (mkS l).size = l.length := by rw [← bs_length]; rfl
theorem mkS_inj {a b : List UInt8} (h : mkS a = mkS b) : a = b := by rw [← bs_mkS a, h]; rfl
@[simp] theorem strEq_def (a b : ByteArray) : strEq a b = decide (a = b) := by
  unfold strEq
  rw [toList_bs, toList_bs, Bool.eq_iff_iff]
  simp only [beq_iff_eq, decide_eq_true_eq]
  exact ⟨bs_inj, fun h => by rw [h]⟩
theorem strLt_bs (a b : ByteArray) : strLt a b = Op.bytesLess (bs a) (bs b) := by unfold strLt; rw [toList_bs, toList_bs]
theorem less_tri : ∀ x y : List UInt8, (Op.bytesLess x y = true ∧ x ≠ y ∧ Op.bytesLess y x = false) ∨ (x = y ∧ Op.bytesLess x y = false ∧ Op.bytesLess y x = false) ∨ (Op.bytesLess y x = true ∧ x ≠ y ∧ Op.bytesLess x y = false)
  | [], [] => .inr (.inl ⟨rfl, rfl, rfl⟩)
  | [], _ :: _ => .inl ⟨rfl, by simp, rfl⟩
  | _ :: _, [] => .inr (.inr ⟨rfl, by simp, rfl⟩)
  | a :: x, b :: y => by
    simp only [Op.bytesLess]
    rcases Nat.lt_trichotomy a.toNat b.toNat with h | h | h
    · have h1 : a < b := h
      have h2 : ¬ b < a := fun q => by have : b.toNat < a.toNat := q; omega
      have h3 : a ≠ b := fun q => by subst q; omega
      left
      simp [h1, h2, h3, Ne.symm h3]
    · have h3 : a = b := UInt8.toNat_inj.1 h
      subst h3
      have h2 : ¬ a < a := fun q => by have : a.toNat < a.toNat := q; omega
      simp only [h2, decide_false, Bool.false_or, beq_self_eq_true, Bool.true_and, List.cons.injEq, true_and, ne_eq]
      exact less_tri x y
    · have h1 : b < a := h
      have h2 : ¬ a < b := fun q => by have : a.toNat < b.toNat := q; omega
      have h3 : a ≠ b := fun q => by subst q; omega
      right; right
      simp [h1, h2, h3, Ne.symm h3]
theorem strLt_not (a b : ByteArray) : strLt a b = !(strLt b a || decide (b = a)) := by
  rw [strLt_bs, strLt_bs]
  rcases less_tri (bs a) (bs b) with ⟨h1, h2, h3⟩ | ⟨h1, h2, h3⟩ | ⟨h1, h2, h3⟩
  · rw [h1, h3]; simp; intro e; exact h2 (by rw [e])
  · rw [h2, h3]; simp; exact (bs_inj h1).symm
  · rw [h1, h3]; simp

/-! numbers -/
theorem wrap64 {n : Int} (h1 : -9223372036854775808 ≤ n) (h2 : n ≤ 9223372036854775807) : wrapI .i64 n = n := by
  show (if (true && decide (n % (18446744073709551616 : Int) ≥ 9223372036854775808)) = true then n % (18446744073709551616 : Int) - 18446744073709551616 else n % (18446744073709551616 : Int)) = n
  rw [Bool.true_and]
  by_cases h : n % (18446744073709551616 : Int) ≥ 9223372036854775808
  · rw [if_pos (decide_eq_true h)]; omega
  · rw [if_neg (by simpa using h)]; omega
theorem wrap_succ {k : Nat} (h : k ≤ 4611686018427387904) : wrapI .i64 ((k : Int) + 1) = ((k + 1 : Nat) : Int) := by
  rw [wrap64 (by omega) (by omega)]; rfl
theorem wrap_pred {k : Nat} (h : k ≤ 4611686018427387904) : wrapI .i64 (((k + 1 : Nat) : Int) - 1) = (k : Int) := by
  rw [wrap64 (by omega) (by omega)]; omega
theorem wrap8 {n : Int} : wrapI .u8 n = n % 256 := by
  simp [wrapI, IntKind.wrap, IntKind.bits, IntKind.signed]
theorem wrap8_of {n : Int} (h1 : 0 ≤ n) (h2 : n ≤ 255) : wrapI .u8 n = n := by rw [wrap8]; omega

/-! rows -/
theorem gt_some {H : Hp} {l o : Nat} {own : Bool} {t : TypeId} {cs : List GV} (h : H[l]? = some (.row own t cs)) : gt H l o = cs[o]? := by unfold gt; rw [h]
theorem cells_get {H : Hp} {l o n : Nat} {cs : List GV} (h : cells? H (some (l, o)) n = some cs) {j : Nat} (hj : j < n) : gt H l (o + j) = cs[j]? := by
  unfold cells? at h
  simp only at h
  split at h
  · rename_i own t ds hl
    split at h
    · cases h
      rw [gt_some hl, List.getElem?_take, if_pos hj, List.getElem?_drop]
    · cases h
  · cases h
theorem cells_len {H : Hp} {a : Pl} {n : Nat} {cs : List GV} (h : cells? H a n = some cs) : cs.length = n := by
  unfold cells? at h
  split at h
  · split at h
    · cases h; simp_all
    · cases h
  · split at h
    · split at h
      · cases h; simp; omega
      · cases h
    · cases h
theorem cells_lt {H : Hp} {l o n : Nat} {cs : List GV} (h : cells? H (some (l, o)) n = some cs) : l < H.length := by
  unfold cells? at h
  simp only at h
  split at h
  · rename_i own t ds hl
    exact (List.getElem?_eq_some_iff.1 hl).1
  · cases h
theorem cells_at {H H' : Hp} {a : Pl} {n : Nat} (h : ∀ l o, a = some (l, o) → H'[l]? = H[l]?) : cells? H' a n = cells? H a n := by
  unfold cells?
  cases a with
  | none => rfl
  | some p => obtain ⟨l, o⟩ := p; simp only [h l o rfl]
theorem cells_mono {H H' : Hp} (hp : H <+: H') {a : Pl} {n : Nat} {cs : List GV} (h : cells? H a n = some cs) : cells? H' a n = some cs := by
  cases a with
  | none => exact h
  | some p =>
    obtain ⟨l, o⟩ := p
    have hl := cells_lt h
    rw [← h]
    refine cells_at fun l' o' e => ?_
    cases e
    obtain ⟨E, rfl⟩ := hp
    rw [List.getElem?_append_left hl]
theorem pre_at {H H' : Hp} (hp : H <+: H') {l : Nat} (hl : l < H.length) : H'[l]? = H[l]? := by
  obtain ⟨E, rfl⟩ := hp
  rw [List.getElem?_append_left hl]
theorem pre_len {H H' : Hp} (hp : H <+: H') : H.length ≤ H'.length := hp.length_le
theorem pre_pu (H : Hp) (x : Obj) : H <+: H ++ [x] := List.prefix_append _ _
theorem pre_set {H0 H : Hp} (hp : H0 <+: H) {l : Nat} (hl : H0.length ≤ l) (x : Obj) : H0 <+: H.set l x := by
  obtain ⟨E, rfl⟩ := hp
  exact ⟨E.set (l - H0.length) x, by rw [List.set_append_right _ _ hl]⟩
theorem rd_of {H : Hp} {l o : Nat} {v : GV} {K : GV → Prop} (h : gt H l o = some v) : rd H l o K = K v := by unfold rd; rw [h]

/-- a slice of texts; of numbers -/
structure Ss (H : Hp) (a : Pl) (n : Nat) (xs : List ByteArray) : Prop where
  cells : cells? H a n = some (xs.map GV.str)
  len : n = xs.length
  lim : n * 16 ≤ 140737488351232
structure Is (H : Hp) (a : Pl) (n : Nat) (xs : List Int) : Prop where
  cells : cells? H a n = some (xs.map (GV.int .i64))
  len : n = xs.length
  lim : n * 8 ≤ 140737488351232
theorem Ss.mono {H H' : Hp} (hp : H <+: H') {a : Pl} {n : Nat} {xs : List ByteArray} (h : Ss H a n xs) : Ss H' a n xs := ⟨cells_mono hp h.cells, h.len, h.lim⟩
theorem Is.mono {H H' : Hp} (hp : H <+: H') {a : Pl} {n : Nat} {xs : List Int} (h : Is H a n xs) : Is H' a n xs := ⟨cells_mono hp h.cells, h.len, h.lim⟩
theorem Ss.nil (H : Hp) : Ss H none 0 [] := ⟨rfl, rfl, by omega⟩
theorem Is.nil (H : Hp) : Is H none 0 [] := ⟨rfl, rfl, by omega⟩

section
variable {H : Hp} {a : Pl} {n : Nat}
theorem Ss.rd {xs : List ByteArray} (h : Ss H a n xs) (k : Nat) {i : Int} (hi : i = k) (hk : k < xs.length) (K : ByteArray → Prop) :
    (chk (leI 0 i && ltI i (nI n)) (pS a fun n0 n1 => Am.rd H n0 (n1 + tN i * 1) fun v => dS v K)) = K xs[k] := by
  subst hi
  have hn := h.len
  have hkn : k < n := by omega
  simp only [leI_def, ltI_def, nI_def, tN_def, Int.toNat_natCast, Nat.mul_one]
  rw [decide_eq_true (show (0 : Int) ≤ k by omega), decide_eq_true (show (k : Int) < n by omega)]
  cases a with
  | none => have := cells_len h.cells; have h2 := h.cells; simp [cells?] at h2; omega
  | some p =>
    obtain ⟨l, o⟩ := p
    simp only [Bool.and_self, chk_true, pS_some]
    rw [rd_of (v := .str xs[k]) (by rw [cells_get h.cells hkn]; simp [hk]), dS_str]
theorem Is.rd {xs : List Int} (h : Is H a n xs) (k : Nat) {i : Int} (hi : i = k) (hk : k < xs.length) (K : Int → Prop) :
    (chk (leI 0 i && ltI i (nI n)) (pS a fun n0 n1 => Am.rd H n0 (n1 + tN i * 1) fun v => dI .i64 v K)) = K xs[k] := by
  subst hi
  have hn := h.len
  have hkn : k < n := by omega
  simp only [leI_def, ltI_def, nI_def, tN_def, Int.toNat_natCast, Nat.mul_one]
  rw [decide_eq_true (show (0 : Int) ≤ k by omega), decide_eq_true (show (k : Int) < n by omega)]
  cases a with
  | none => have := cells_len h.cells; have h2 := h.cells; simp [cells?] at h2; omega
  | some p =>
    obtain ⟨l, o⟩ := p
    simp only [Bool.and_self, chk_true, pS_some]
    rw [rd_of (v := .int .i64 xs[k]) (by rw [cells_get h.cells hkn]; simp [hk]), dI_int]
end

/-! rows that one may write -/
/-- a slice whose row is one's own, from its first cell to its last; its number is b at least -/
def Own (H : Hp) (b : Nat) (t : TypeId) (a : Pl) (n : Nat) (cs : List GV) : Prop :=
  (a = none ∧ n = 0 ∧ cs = []) ∨ ∃ l, a = some (l, 0) ∧ b ≤ l ∧ H[l]? = some (.row true t cs) ∧ cs.length = n
theorem Own.len {H : Hp} {b : Nat} {t : TypeId} {a : Pl} {n : Nat} {cs : List GV} (h : Own H b t a n cs) : cs.length = n := by
  rcases h with ⟨_, rfl, rfl⟩ | ⟨_, _, _, _, h⟩
  · rfl
  · exact h
theorem Own.cells {H : Hp} {b : Nat} {t : TypeId} {a : Pl} {n : Nat} {cs : List GV} (h : Own H b t a n cs) : cells? H a n = some cs := by
  rcases h with ⟨rfl, rfl, rfl⟩ | ⟨l, rfl, _, hl, rfl⟩
  · rfl
  · simp [cells?, hl]
theorem Own.keep {H H' : Hp} {b : Nat} {t : TypeId} {a : Pl} {n : Nat} {cs : List GV} (h : Own H b t a n cs) (hk : ∀ l, a = some (l, 0) → H'[l]? = H[l]?) : Own H' b t a n cs := by
  rcases h with h | ⟨l, rfl, hb, hl, hn⟩
  · exact .inl h
  · exact .inr ⟨l, rfl, hb, by rw [hk l rfl]; exact hl, hn⟩
theorem Own.lt {H : Hp} {b : Nat} {t : TypeId} {l : Nat} {n : Nat} {cs : List GV} (h : Own H b t (some (l, 0)) n cs) : l < H.length := by
  rcases h with ⟨h, _⟩ | ⟨l', e, _, hl, _⟩
  · cases h
  · cases e; exact (List.getElem?_eq_some_iff.1 hl).1
/-- the heap goes on: of what was there the row of a alone has turned -/
structure Ex (H0 : Hp) (a : Pl) (H H' : Hp) : Prop where
  pre : H0 <+: H'
  len : H.length ≤ H'.length
  row : ∀ l, l < H.length → a ≠ some (l, 0) → H'[l]? = H[l]?

/-- append: a new row -/
theorem ap_own {H0 H : Hp} {t by_ : Nat} {a : Pl} {n m : Nat} {cs ds : List GV} {K : Pl → Nat → Hp → Prop} (h0 : H0 <+: H) (h : Own H H0.length t a n cs) (hm : ds.length = m) (hl : (n + m) * by_ ≤ Lim)
    (hK : ∀ a' H', Own H' H0.length t a' (n + m) (cs ++ ds) → Ex H0 a H H' → (∀ l o, a' = some (l, o) → H.length ≤ l) → K a' (n + m) H') : ap H t 1 by_ a n ds m K := by
  unfold ap app?
  rw [if_pos ⟨hl, by omega⟩]
  rcases h with ⟨rfl, rfl, rfl⟩ | ⟨l, rfl, hb, hrow, rfl⟩
  · simp only [Nat.zero_add] at hK ⊢
    by_cases hm0 : m = 0
    · subst hm0
      obtain rfl : ds = [] := List.eq_nil_of_length_eq_zero hm
      simp only [if_pos]
      exact hK none H (.inl ⟨rfl, rfl, rfl⟩) ⟨h0, Nat.le_refl _, fun _ _ _ => rfl⟩ (fun _ _ e => by cases e)
    · simp only [if_pos, if_neg hm0]
      refine hK _ _ (.inr ⟨H.length, rfl, pre_len h0, by simp, by simpa using hm⟩) ⟨h0.trans (List.prefix_append _ _), by simp, fun l hl _ => by rw [List.getElem?_append_left hl]⟩ (fun _ _ e => by cases e; exact Nat.le_refl _)
  · simp only [hrow]
    rw [if_pos (by simp)]
    have hlt := (List.getElem?_eq_some_iff.1 hrow).1
    refine hK _ _ (.inr ⟨H.length, rfl, pre_len h0, by simp, by simp [hm]⟩) ⟨(pre_set h0 hb .dead).trans (List.prefix_append _ _), by simp, fun l' hl' hne => ?_⟩ (fun _ _ e => by cases e; exact Nat.le_refl _)
    have hll : l ≠ l' := fun e => hne (by rw [e])
    rw [List.getElem?_append_left (by simpa using hl'), List.getElem?_set_ne hll]
theorem ap0_of {H : Hp} {t by_ : Nat} {cs : List GV} {m : Nat} {K : Hp → Prop} (hl : m * by_ ≤ Lim) (hm : cs.length = m) (hK : K (H ++ [.row true t cs])) : ap0 H t 1 by_ cs m K := ⟨⟨hl, by omega⟩, hK⟩
theorem rdN_of {H : Hp} {a : Pl} {n : Nat} {cs : List GV} {K : List GV → Prop} (h : cells? H a n = some cs) : rdN H a n K = K cs := by unfold rdN; rw [h]
theorem st_of {H : Hp} {l o : Nat} {t : TypeId} {cs : List GV} (v : GV) (h : H[l]? = some (.row true t cs)) (ho : o < cs.length) : st? H l o v = some (H.set l (.row true t (cs.set o v))) := by
  unfold st?; rw [h]; simp [ho]
theorem wr_of {H : Hp} {l o : Nat} {t : TypeId} {cs : List GV} {v : GV} {K : Hp → Prop} (h : H[l]? = some (.row true t cs)) (ho : o < cs.length) : wr H l o v K = K (H.set l (.row true t (cs.set o v))) := by
  unfold wr; rw [st_of v h ho]

/-- a row of bytes, as a text -/
def u8s (l : List UInt8) : List GV := l.map fun b => .int .u8 b.toNat
theorem u8s_append (x y : List UInt8) : u8s (x ++ y) = u8s x ++ u8s y := by simp [u8s]
theorem bytesOf_eq (s : ByteArray) : bytesOf s = u8s (bs s) := rfl
theorem bytesK_u8s {K : List UInt8 → Prop} : ∀ l : List UInt8, bytesK (u8s l) K = K l := by
  intro l
  induction l generalizing K with
  | nil => rfl
  | cons b l ih =>
    show (dI .u8 (.int .u8 b.toNat) fun n => bytesK (u8s l) fun r => K (bof n :: r)) = _
    rw [dI_int, ih]
    simp [bof]
theorem txt_u8s (l : List UInt8) (K : ByteArray → Prop) : txt (u8s l) K = K (mkS l) := by unfold txt; rw [bytesK_u8s]
theorem u8_eq {n : Int} (h1 : 0 ≤ n) (h2 : n ≤ 255) : GV.int .u8 (wrapI .u8 n) = .int .u8 ((bof n).toNat : Int) := by
  rw [wrap8_of h1 h2]
  congr 1
  simp [bof]
  omega
end Go.Am
namespace Go.Am
open Go.RowKit Go.ChangeShapes Go.WideShapes

/-- no row may be written -/
def NoOwn (H : Hp) : Prop := ∀ (l : Nat) (o : Obj) (i : LI), H[l]? = some o → ¬ o.mut i

/-- where a slice value stands, there are blocks -/
def Zc (W : World) (v : Value) : Prop := ∀ a n c, v = .slice (some a) n c → 0 < W.heap.size
theorem zc_of_ok {P : Program} {W : World} {r : Reach} {b : Nat} {t : TypeId} {v : Value} (h : Cell.okWide P W r b t v) : Zc W v := by
  intro a n c e
  subst e
  have key : W.has P r b a (match P.underlying t with | some (.slice e) => e | _ => 0) c := by
    unfold Cell.okWide Cell.ok at h
    cases hu : P.underlying t with
    | none => rw [hu] at h; exact h.elim
    | some d =>
      rw [hu] at h
      cases d <;> first | exact h.elim | exact h.2.2
  obtain ⟨_, hs, row, cells, hsh, _⟩ := key
  unfold World.shape? at hsh
  rcases Nat.lt_or_ge a.block W.heap.size with h1 | h1
  · omega
  · simp [Array.getElem?_eq_none h1] at hsh
theorem cell_lt {W : World} {a : Addr} {v : Value} (h : W.cell? a = some v) : a.spot = none ∧ a.block < W.heap.size := by
  unfold World.cell? at h
  rcases Nat.lt_or_ge a.block W.heap.size with h1 | h1
  · refine ⟨?_, h1⟩
    split at h
    · split at h
      · cases h
      · rename_i q; simpa using q
    · cases h
  · simp [Array.getElem?_eq_none h1] at h
theorem add_none {a : Addr} (hs : a.spot = none) (j : Nat) : a.add j = ⟨a.block, a.off + j, none⟩ := by
  unfold Addr.add
  split
  · rename_i e; subst e; obtain ⟨b, o, s⟩ := a; simp only at hs; subst hs; rfl
  · rfl

theorem Is2.one_inv {φ : List LI} {c : GV} {xs : List Value} (h : Is2 φ [c] xs) : ∃ x, xs = [x] ∧ c.is φ x := by
  obtain ⟨x, r, rfl, h1, h2⟩ := h.cons_inv
  rw [h2.nil_inv]; exact ⟨x, rfl, h1⟩

section
variable {Hh : Type} {enc : TypeId × Value → Hh} {P : Program} {W : World} {held : Bool}

/-- a slice whose cells are told, as a row that one may not write -/
theorem open_row {φ : List LI} {H : Hp} (hr : RepH φ H W) (hn : NoOwn H) {a : Addr} {len cap z : Nat} (hl : len ≤ cap) (hz : 0 < W.heap.size) (hsp : 0 < cap → a.spot = none ∧ a.block < W.heap.size) (cs : List GV) (hc : cs.length = len * z)
    (hcell : ∀ j v, cs[j]? = some v → ∃ x, W.cell? (a.add j) = some x ∧ v.is φ x) :
    ∃ φ' H' p, φ <+: φ' ∧ H <+: H' ∧ RepH φ' H' W ∧ NoOwn H' ∧ GV.is φ' (.sl p len z) (.slice (some a) len cap) ∧ cells? H' p (len * z) = some cs := by
  have hno : ∀ b, ¬ ownB φ H b := fun b ⟨l, o, i, h1, _, _, h2⟩ => hn l o i h1 h2
  have hN : ∀ cs : List GV, NoOwn (H ++ [.row false 0 cs]) := fun cs l o i h hm => by
    rcases get_snoc h with ⟨_, h⟩ | ⟨_, h⟩
    · exact hn l o i h hm
    · cases h; exact absurd hm.1 (by decide)
  rcases Nat.eq_zero_or_pos cap with h0 | h0
  · obtain rfl : len = 0 := by omega
    rw [Nat.zero_mul] at hc
    obtain rfl : cs = [] := List.eq_nil_of_length_eq_zero hc
    subst h0
    obtain ⟨R, _, _⟩ := hr.snoc (w' := W) (own := false) (t := 0) (cs := []) (i := ⟨0, 0, false, 0, 0⟩) (Nat.le_refl _) (fun _ _ => rfl)
      ⟨rfl, rfl, hz, ⟨fun j v hj => by simp at hj, fun q => by cases q⟩⟩ (fun q => by cases q) (hno _)
    refine ⟨_, _, some (H.length, 0), List.prefix_append _ _, List.prefix_append _ _, R, hN _, ?_, ?_⟩
    · refine ⟨⟨0, 0, false, 0, 0⟩, a, 0, ?_, rfl, .inr rfl, Nat.le_refl _, by simp, fun q => by cases q⟩
      rw [← hr.len]; simp
    · simp [cells?]
  · obtain ⟨hs, hb⟩ := hsp h0
    obtain ⟨R, _, _⟩ := hr.snoc (w' := W) (own := false) (t := 0) (cs := cs) (i := ⟨a.block, a.off, false, cs.length, 0⟩) (Nat.le_refl _) (fun _ _ => rfl)
      ⟨rfl, rfl, hb, ⟨fun j v hj => by
        obtain ⟨x, h1, h2⟩ := hcell j v hj
        exact ⟨x, by rw [← add_none hs j]; exact h1, GV.is.mono (List.prefix_append _ _) h2⟩, fun q => by cases q⟩⟩ (fun q => by cases q) (hno _)
    refine ⟨_, _, some (H.length, 0), List.prefix_append _ _, List.prefix_append _ _, R, hN _, ?_, ?_⟩
    · refine ⟨⟨a.block, a.off, false, cs.length, 0⟩, a, cap, ?_, rfl, .inl ?_, hl, ?_, fun q => by cases q⟩
      · rw [← hr.len]; simp
      · have := add_none hs 0; simpa [Addr.add] using this
      · show cs.length ≤ _; rw [hc]; have := Nat.mul_le_mul_right z hl; omega
    · simp [cells?, hc]
      rw [← hc, List.take_length]

/-- a slice of texts -/
theorem open_texts {t e : TypeId} (ht : P.underlying t = some (.slice e)) (he : P.underlying e = some .string) (hc : P.cellsOf e = 1) (hb : P.bytesOf e = 16) {fuel : Nat} {cs : List Value} {x : DataW Hh × List MemPlace}
    (h : DataW.trod enc P W 0 (fun _ => true) held fuel t cs = some x) (hz : ∀ v ∈ cs, Zc W v) (hw : (DataW.weights P t x.1).all (· ≤ reachBytes) = true) {φ : List LI} {H : Hp} (hr : RepH φ H W) (hn : NoOwn H) :
    ∃ φ' H' p n xs v, cs = [v] ∧ φ <+: φ' ∧ H <+: H' ∧ RepH φ' H' W ∧ NoOwn H' ∧ GV.is φ' (.sl p n 1) v ∧ Ss H' p n xs := by
  rcases open_strings ht he hc h with ⟨rfl, rfl⟩ | ⟨a, len, cap, ss, rfl, _, hl, _, hlen, rfl, hcell, _⟩
  · exact ⟨φ, H, none, 0, [], _, rfl, List.prefix_refl _, List.prefix_refl _, hr, hn, ⟨rfl, rfl⟩, Ss.nil H⟩
  · simp only [if_true] at hlen
    obtain ⟨φ', H', p, h1, h2, h3, h4, h5, h6⟩ := open_row (z := 1) hr hn hl (hz (.slice (some a) len cap) (List.mem_singleton.2 rfl) _ _ _ rfl) (fun h0 => by have := hcell 0 (by omega); exact cell_lt (a := a.add 0) this) ((ss.take len).map GV.str) (by simp; omega) (fun j v hj => by
      rw [List.getElem?_map] at hj
      cases hg : (ss.take len)[j]? with
      | none => rw [hg] at hj; cases hj
      | some s =>
        rw [hg] at hj
        simp at hj
        subst hj
        have hjl : j < ss.length := by have := (List.getElem?_eq_some_iff.1 hg).1; simp at this; omega
        have := hcell j hjl
        rw [List.getElem?_take] at hg
        split at hg
        · rw [List.getD_eq_getElem?_getD, hg] at this
          exact ⟨_, this, rfl⟩
        · cases hg)
    rw [Nat.mul_one] at h6
    refine ⟨φ', H', p, len, ss.take len, _, rfl, h1, h2, h3, h4, h5, h6, by simp; omega, ?_⟩
    simp only [DataW.weights, ht] at hw
    rw [List.all_cons, Bool.and_eq_true] at hw
    have := hw.1
    simp only [decide_eq_true_eq, strs, List.length_map, List.length_take, List.length_drop, hb] at this
    unfold reachBytes at this
    omega
/-- a slice of numbers -/
theorem open_nums {t e : TypeId} (ht : P.underlying t = some (.slice e)) (he : P.underlying e = some (.int .i64)) (hc : P.cellsOf e = 1) (hb : P.bytesOf e = 8) {fuel : Nat} {cs : List Value} {x : DataW Hh × List MemPlace}
    (h : DataW.trod enc P W 0 (fun _ => true) held fuel t cs = some x) (hz : ∀ v ∈ cs, Zc W v) (hw : (DataW.weights P t x.1).all (· ≤ reachBytes) = true) {φ : List LI} {H : Hp} (hr : RepH φ H W) (hn : NoOwn H) :
    ∃ φ' H' p n xs v, cs = [v] ∧ φ <+: φ' ∧ H <+: H' ∧ RepH φ' H' W ∧ NoOwn H' ∧ GV.is φ' (.sl p n 1) v ∧ Is H' p n xs := by
  rcases open_ints ht he hc h with ⟨rfl, rfl⟩ | ⟨a, len, cap, ss, rfl, _, hl, _, hlen, rfl, hcell, _⟩
  · exact ⟨φ, H, none, 0, [], _, rfl, List.prefix_refl _, List.prefix_refl _, hr, hn, ⟨rfl, rfl⟩, Is.nil H⟩
  · simp only [if_true] at hlen
    obtain ⟨φ', H', p, h1, h2, h3, h4, h5, h6⟩ := open_row (z := 1) hr hn hl (hz (.slice (some a) len cap) (List.mem_singleton.2 rfl) _ _ _ rfl) (fun h0 => by have := hcell 0 (by omega); exact cell_lt (a := a.add 0) this) ((ss.take len).map (GV.int .i64)) (by simp; omega) (fun j v hj => by
      rw [List.getElem?_map] at hj
      cases hg : (ss.take len)[j]? with
      | none => rw [hg] at hj; cases hj
      | some s =>
        rw [hg] at hj
        simp at hj
        subst hj
        have hjl : j < ss.length := by have := (List.getElem?_eq_some_iff.1 hg).1; simp at this; omega
        have := hcell j hjl
        rw [List.getElem?_take] at hg
        split at hg
        · rw [List.getD_eq_getElem?_getD, hg] at this
          exact ⟨_, this, rfl⟩
        · cases hg)
    rw [Nat.mul_one] at h6
    refine ⟨φ', H', p, len, ss.take len, _, rfl, h1, h2, h3, h4, h5, h6, by simp; omega, ?_⟩
    simp only [DataW.weights, ht] at hw
    rw [List.all_cons, Bool.and_eq_true] at hw
    have := hw.1
    simp only [decide_eq_true_eq, lits, List.length_map, List.length_take, List.length_drop, hb] at this
    unfold reachBytes at this
    omega

theorem all_each {ts : List TypeId} {ds : List (DataW Hh)} (h : (DataW.weightsEach P ts ds).all (· ≤ reachBytes) = true) {j : Nat} {t : TypeId} {d : DataW Hh} (ht : ts[j]? = some t) (hd : ds[j]? = some d) : (DataW.weights P t d).all (· ≤ reachBytes) = true :=
  List.all_eq_true.2 fun n hn => List.all_eq_true.1 h n (DataW.weights_mem_each ht hd n hn)

/-- what stands behind a call that wrote no row -/
theorem below_of {φ φ' : List LI} {H H' : Hp} {W' : World} (hn : NoOwn H) (B : Back φ H W φ' H' W') : Below W.heap.size W W' :=
  ⟨B.keeps.os, B.keeps.tape, B.keeps.output, B.keeps.size, fun k hk => B.keeps.block k hk fun ⟨l, o, i, h1, _, _, h2⟩ => hn l o i h1 h2⟩

/-- a law that answers true -/
theorem law_calls {f : FuncId} {s : Sm} (hS : Sound P f s) {φ : List LI} {H : Hp} (hr : RepH φ H W) (hn : NoOwn H) {args : List FV} {vs : List Value} (ha : All2 (FV.is φ) args vs) (h : s args H fun r _ => r = .g (.bool true)) :
    Calls P f vs.toArray W fun e W' => e = .returned (.bool true) ∧ Below W.heap.size W W' := by
  refine (hS args H _ h φ W vs hr ha).mono ?_
  rintro e W' ⟨r, H', φ', x, rfl, rfl, hx, B⟩
  exact ⟨by rw [show x = .bool true from hx], below_of hn B⟩

theorem rep_nil (W : World) : RepH [] [] W := ⟨rfl, fun l o h _ => by simp at h, fun l l' o o' i i' h => by simp at h⟩
theorem noOwn_nil : NoOwn [] := fun l o i h => by simp at h
end
end Go.Am
