import Derived.Test.YtmjnenpllddhfaaAmI
set_option linter.unusedVariables false
set_option linter.unusedSimpArgs false
namespace Go.Am

/-- what is told, but not carried out yet -/
def pend (ops : Array Oper) (L : Array Bool) (seen : List Nat) (t : Nat) : Bool := seen.any fun i => !(L.getD i false) && mem t (dstAt ops i)
theorem pend_iff {ops : Array Oper} {L : Array Bool} {seen : List Nat} {t : Nat} : pend ops L seen t = true ↔ ∃ i ∈ seen, L.getD i false = false ∧ t ∈ dstAt ops i := by
  simp [pend, mem_iff]
theorem dstAt_of {ops : Array Oper} {i d : Nat} {o : Oper} (ho : ops[i]? = some o) : d ∈ dstAt ops i ↔ o.dst = some d := by
  unfold dstAt; rw [ho]; dsimp only
  cases o.dst with
  | none => simp
  | some d' => simp [eq_comm]

/-- an operation told, not carried out -/
def Pend (cx : Cx) (ops : Array Oper) (fr : List FV) (H : Hp) (i : Nat) : Prop :=
  ∃ o, ops[i]? = some o ∧ isEff cx o = false ∧ ((wantF ops fr o.guard = some true ∧ ∃ v, (∀ d, o.dst = some d → d < fr.length → fr.getD d .bad = v) ∧ PV cx o fr H v) ∨ (wantF ops fr o.guard = some false ∧ ∀ d, o.dst = some d → d < fr.length → fr.getD d .bad = .und))

structure Sim (P : Program) (cx : Cx) (ops : Array Oper) (m : Nat) (σ0 al : List Nat) (φ0 : List LI) (H0 : Hp) (w0 : World) (K : List FV → Hp → Prop) (L : Array Bool) (seen σ : List Nat) (fr : List FV) (H : Hp) (tmps : Array Value) (w : World) : Prop where
  ord : σ0 = seen.reverse ++ σ
  rest : ∀ i ∈ σ, L.getD i false = false
  go : goK cx ops (waits ops) al σ seen fr H K
  inv : ∃ φ lam, Inv φ0 H0 w0 φ H lam (mask (pend ops L seen) fr) tmps w
  told : ∀ i ∈ seen, L.getD i false = false → Pend cx ops fr H i
  lps : noLps fr al = true
  box : ∀ i ∈ seen, ∀ d, d ∈ dstAt ops i → ∀ cs, fr.getD d .bad = .bx cs → d ∈ al

section
variable {P : Program} {cx : Cx} {ops : Array Oper} {m : Nat} {σ0 al : List Nat} {φ0 : List LI} {H0 : Hp} {w0 : World} {K : List FV → Hp → Prop}

theorem setO_length (fr : List FV) (dst : Option Nat) (v : FV) : (setO fr dst v).length = fr.length := by cases dst <;> simp [setO]
theorem setO_getD {fr : List FV} {dst : Option Nat} {v : FV} {t : Nat} (h : ∀ d, dst = some d → t ≠ d) : (setO fr dst v).getD t .bad = fr.getD t .bad := by
  cases dst with
  | none => rfl
  | some d => exact set_getD (h d rfl)

/-- a told operation is told still when another is told -/
theorem Pend.set {fr : List FV} {H : Hp} {j : Nat} (F : DrFacts cx ops m σ0 al) {i : Nat} (hi : i < m) {oi : Oper} (hoi : ops[i]? = some oi) (hj : j < m) (hne : j ≠ i) (hw : has ((waits ops).getD j 0) i = false) (h : Pend cx ops fr H j) {v : FV}
    (hb : ∀ d, oi.dst = some d → ∀ cs, fr.getD d .bad ≠ .bx cs) : Pend cx ops (setO fr oi.dst v) H j := by
  obtain ⟨o, ho, he, h⟩ := h
  obtain ⟨o', ho', hl, _⟩ := F.op j hj
  rw [ho] at ho'; cases ho'
  have hlook : ∀ t ∈ o.looksAt ops, (setO fr oi.dst v).getD t .bad = fr.getD t .bad := fun t ht => setO_getD fun d hd e => by
    subst e
    have := (hl t ht).2 i hi ((dstAt_of hoi).2 hd)
    rw [hw] at this; cases this
  have hdst : ∀ d, o.dst = some d → (setO fr oi.dst v).getD d .bad = fr.getD d .bad := fun d hd => setO_getD fun d' hd' e => by
    subst e
    exact hne (F.dst j i hj hi d ((dstAt_of ho).2 hd) ((dstAt_of hoi).2 hd'))
  refine ⟨o, ho, he, ?_⟩
  rw [wantF_of hlook]
  rcases h with ⟨h1, u, h2, h3⟩ | ⟨h1, h2⟩
  · refine .inl ⟨h1, u, fun d hd hlt => by rw [hdst d hd]; exact h2 d hd (by rw [setO_length] at hlt; exact hlt), h3.move (setO_length _ _ _) (ev_looks hlook) (fun t a s p cs _ _ hs => ?_)⟩
    rw [setO_getD fun d hd e => by subst e; exact hb s hd cs hs]
    exact hs
  · exact .inr ⟨h1, fun d hd hlt => by rw [hdst d hd]; exact h2 d hd (by rw [setO_length] at hlt; exact hlt)⟩

/-- all that can be told ahead is told -/
theorem Sim.advance (F : DrFacts cx ops m σ0 al) {L : Array Bool} : ∀ {σ seen : List Nat} {fr : List FV} {H : Hp} {tmps : Array Value} {w : World}, Sim P cx ops m σ0 al φ0 H0 w0 K L seen σ fr H tmps w →
    ∃ seen' σ' fr', Sim P cx ops m σ0 al φ0 H0 w0 K L seen' σ' fr' H tmps w ∧ (σ' = [] ∨ ∃ e rest, σ' = e :: rest ∧ opAt ops e false (isEff cx) = true)
  | [], seen, fr, H, tmps, w, S => ⟨seen, [], fr, S, .inl rfl⟩
  | i :: σ, seen, fr, H, tmps, w, S => by
    cases hE : opAt ops i false (isEff cx) with
    | true => exact ⟨seen, i :: σ, fr, S, .inr ⟨i, σ, rfl, hE⟩⟩
    | false =>
      have hi0 : i ∈ σ0 := by rw [S.ord]; simp
      have hi := F.lt i hi0
      obtain ⟨o, ho, hl, hst, hg, hal⟩ := F.op i hi
      have he : isEff cx o = false := by unfold opAt at hE; rw [ho] at hE; exact hE
      obtain ⟨_, hself, hbefore⟩ := effOK_spec (pre := seen.reverse) (post := σ) (i := i) (by rw [← S.ord]; exact F.eff)
      have hseen : ∀ j ∈ seen, j < m ∧ j ≠ i ∧ has ((waits ops).getD j 0) i = false := fun j hj => by
        have hj0 : j ∈ σ0 := by rw [S.ord]; simp [hj]
        refine ⟨F.lt j hj0, fun e => ?_, hbefore j (by simpa using hj)⟩
        subst e
        have := F.nodup
        rw [S.ord, List.nodup_append] at this
        exact this.2.2 j (by simpa using hj) j (by simp) rfl
      have hLi := S.rest i (by simp)
      -- the step
      have fin : ∀ v, goK cx ops (waits ops) al σ (i :: seen) (setO fr o.dst v) H K → (∀ d, o.dst = some d → (∀ cs, fr.getD d .bad ≠ .bx cs) ∧ (∀ cs, v = .bx cs → d ∈ al) ∧ noLps (setO fr o.dst v) al = true) →
          Pend cx ops (setO fr o.dst v) H i → Sim P cx ops m σ0 al φ0 H0 w0 K L (i :: seen) σ (setO fr o.dst v) H tmps w := by
        intro v hgo hput hp
        refine ⟨by rw [S.ord]; simp, fun j hj => S.rest j (by simp [hj]), hgo, ?_, ?_, ?_, ?_⟩
        · obtain ⟨φ, lam, I⟩ := S.inv
          refine ⟨φ, lam, I.weaken (by simp [mask_length, setO_length]) (fun t u ht => ?_)⟩
          rw [mask_get] at ht
          cases hp' : pend ops L (i :: seen) t with
          | true =>
            rw [hp'] at ht
            left
            cases hx : (setO fr o.dst v)[t]? <;> rw [hx] at ht <;> simp at ht
            exact ht.symm
          | false =>
            rw [hp'] at ht
            right
            have hp2 : pend ops L seen t = false := by
              cases q : pend ops L seen t with
              | false => rfl
              | true =>
                obtain ⟨j, hj, h1, h2⟩ := pend_iff.1 q
                rw [pend_iff.2 ⟨j, by simp [hj], h1, h2⟩] at hp'; cases hp'
            rw [mask_get, hp2]
            have htd : ∀ d, o.dst = some d → t ≠ d := fun d hd e => by
              subst e
              rw [pend_iff.2 ⟨i, by simp, hLi, (dstAt_of ho).2 hd⟩] at hp'; cases hp'
            cases hd : o.dst with
            | none => rw [hd] at ht; exact ht
            | some d => rw [hd] at ht; simp only [setO] at ht; rw [List.getElem?_set_ne (Ne.symm (htd d hd))] at ht; exact ht
        · intro j hj hLj
          rcases List.mem_cons.1 hj with e | hj
          · subst e; exact hp
          · obtain ⟨h1, h2, h3⟩ := hseen j hj
            exact (S.told j hj hLj).set F hi ho h1 h2 h3 (fun d hd => (hput d hd).1)
        · cases hd : o.dst with
          | none => exact S.lps
          | some d => rw [← hd]; exact (hput d hd).2.2
        · intro j hj d hdj cs hcs
          rcases List.mem_cons.1 hj with e | hj
          · subst e
            have hd := (dstAt_of ho).1 hdj
            rw [hd] at hcs
            simp only [setO] at hcs
            by_cases q : d < fr.length
            · rw [List.getD_eq_getElem?_getD, List.getElem?_set_self q] at hcs
              exact (hput d hd).2.1 cs (by simpa using hcs)
            · rw [List.getD_eq_getElem?_getD, List.getElem?_eq_none (by simp; omega)] at hcs
              cases hcs
          · obtain ⟨h1, h2, h3⟩ := hseen j hj
            refine S.box j hj d hdj cs ?_
            rw [setO_getD (fun d' hd' e => by
              subst e
              exact h2 (F.dst j i h1 hi d hdj ((dstAt_of ho).2 hd')))] at hcs
            exact hcs
      have hlook : ∀ (v : FV), ∀ t ∈ o.looksAt ops, (setO fr o.dst v).getD t .bad = fr.getD t .bad := fun v t ht => setO_getD fun d hd e => by
        subst e
        have := (hl t ht).2 i hi ((dstAt_of ho).2 hd)
        rw [hself] at this; cases this
      have hgo := S.go
      have hgo' : wantK ops fr o.guard
        (fun fr => opK cx o fr H fun v fr H' => putG al o.dst v fr fun fr => reK cx ops (waits ops) i H' fr (match isEff cx o with | true => seen | false => []) (goK cx ops (waits ops) al σ (i :: seen) fr H' K))
        (fun fr => putG al o.dst .und fr fun fr => goK cx ops (waits ops) al σ (i :: seen) fr H K) := by
        have := hgo
        simp only [goK, ho] at this
        exact this
      rcases wantK_F hgo' with ⟨hw, h⟩ | ⟨hw, h⟩
      · obtain ⟨v, h1, hpv⟩ := opK_det he (noStore he) h
        rw [he] at h1
        obtain ⟨h2, h3⟩ := putG_ok h1
        refine Sim.advance F (fin v h2 h3 ⟨o, ho, he, .inl ⟨by rw [wantF_of (hlook v)]; exact hw, v, fun d hd hlt => ?_, hpv.move (setO_length _ _ _) (ev_looks (hlook v)) (fun t a s p cs _ _ hs => ?_)⟩⟩)
        · rw [hd] at hlt ⊢
          simp only [setO] at hlt ⊢
          rw [List.getD_eq_getElem?_getD, List.getElem?_set_self (by simpa using hlt)]; rfl
        · rw [setO_getD fun d hd e => by subst e; exact (h3 s hd).1 cs hs]
          exact hs
      · obtain ⟨h2, h3⟩ := putG_ok h
        refine Sim.advance F (fin .und h2 h3 ⟨o, ho, he, .inr ⟨by rw [wantF_of (hlook .und)]; exact hw, fun d hd hlt => ?_⟩⟩)
        rw [hd] at hlt ⊢
        simp only [setO] at hlt ⊢
        rw [List.getD_eq_getElem?_getD, List.getElem?_set_self (by simpa using hlt)]; rfl

end
end Go.Am
