import Derived.Test.YtmjnenpllddhfaaAmH
set_option linter.unusedVariables false
set_option linter.unusedSimpArgs false
namespace Go.Am

def mask (p : Nat → Bool) (fr : List FV) : List FV := fr.mapIdx fun t v => match p t with | true => .bad | false => v
theorem mask_length (p : Nat → Bool) (fr : List FV) : (mask p fr).length = fr.length := by simp [mask]
theorem mask_get (p : Nat → Bool) (fr : List FV) (t : Nat) : (mask p fr)[t]? = match p t with | true => (fr[t]?).map fun _ => .bad | false => fr[t]? := by
  unfold mask
  rw [List.getElem?_mapIdx]
  cases p t <;> simp
theorem mask_getD {p : Nat → Bool} {fr : List FV} {t : Nat} (h : p t = false) : (mask p fr).getD t .bad = fr.getD t .bad := by
  rw [List.getD_eq_getElem?_getD, mask_get, h, ← List.getD_eq_getElem?_getD]
theorem ev_of {fr fr' : List FV} {x : Operand} (h : ∀ t, x = .tmp t → fr'.getD t .bad = fr.getD t .bad) : ev fr' x = ev fr x := by
  cases x with
  | tmp t => simp only [ev, atFr, h t rfl]
  | _ => rfl
theorem set_getD {fr : List FV} {d t : Nat} {v : FV} (h : t ≠ d) : (fr.set d v).getD t .bad = fr.getD t .bad := by
  rw [List.getD_eq_getElem?_getD, List.getElem?_set_ne (Ne.symm h), ← List.getD_eq_getElem?_getD]
theorem noLp_of {d : Nat} : ∀ {fr fr' : List FV}, fr'.length = fr.length → (∀ (t : Nat) v, fr'[t]? = some v → v = .bad ∨ fr[t]? = some v) → noLp d fr = true → noLp d fr' = true
  | [], [], _, _, _ => rfl
  | [], _ :: _, h, _, _ => by simp at h
  | _ :: _, [], h, _, _ => by simp at h
  | x :: xs, y :: ys, hl, hp, h => by
    have h1 : x.isLp d = false ∧ noLp d xs = true := by
      unfold noLp at h
      split at h
      · cases h
      · rename_i e; exact ⟨e, h⟩
    have h2 : y.isLp d = false := by
      rcases hp 0 y (by simp) with e | e
      · subst e; rfl
      · simp at e; subst e; exact h1.1
    unfold noLp
    rw [h2]
    exact noLp_of (by simpa using hl) (fun t v ht => by have := hp (t + 1) v (by simpa using ht); simpa using this) h1.2
theorem mask_weak (p : Nat → Bool) (fr : List FV) : ∀ (t : Nat) v, (mask p fr)[t]? = some v → v = .bad ∨ fr[t]? = some v := by
  intro t v h
  rw [mask_get] at h
  cases hp : p t <;> rw [hp] at h
  · exact .inr h
  · left
    cases hx : fr[t]? <;> rw [hx] at h <;> simp at h
    exact h.symm
theorem noLps_get {fr : List FV} : ∀ {al : List Nat}, noLps fr al = true → ∀ d ∈ al, noLp d fr = true
  | [], _, d, h => by cases h
  | a :: al, hn, d, h => by
    unfold noLps at hn
    split at hn
    · rename_i e
      cases h with
      | head => exact e
      | tail _ h => exact noLps_get hn d h
    · cases hn

section
variable {P : Program} {cx : Cx}
theorem opK_opE {o : Oper} (h1 : isAl cx o = false) (h2 : isEff cx o = false) (h3 : isStore o = false) (fr : List FV) (H : Hp) (K : FV → List FV → Hp → Prop) : opK cx o fr H K = opE cx o (ev fr) (fun s => fr.getD s .bad) H fun v H => K v fr H := by
  unfold opK
  unfold isAl at h1
  unfold isEff at h2
  unfold isStore at h3
  cases ho : o.op <;> rw [ho] at h1 h2 h3 <;> dsimp only at h1 h2 h3 <;> first
    | rfl
    | (cases h3; done)
    | (rw [h2] at h1; cases h1; done)

/-- what an operation that is still to be carried out will give -/
def PV (cx : Cx) (o : Oper) (fr : List FV) (H : Hp) (v : FV) : Prop :=
  (isAl cx o = false ∧ ∀ K : FV → Hp → Prop, K v H → opE cx o (ev fr) (fun s => fr.getD s .bad) H K) ∨
  (isAl cx o = true ∧ ∃ d, o.dst = some d ∧ d < fr.length ∧ ∀ fr', fr'.length = fr.length → noLp d fr' = true → (∀ x ∈ o.op.operands, ev fr' x = ev fr x) → ∀ H' K, K v fr' H' → opK cx o fr' H' K)

theorem opK_det {o : Oper} {fr : List FV} {H : Hp} {K : FV → List FV → Hp → Prop} (he : isEff cx o = false) (hs : isStore o = false) (h : opK cx o fr H K) : ∃ v, K v fr H ∧ PV cx o fr H v := by
  cases ha : isAl cx o with
  | false =>
    rw [opK_opE ha he hs] at h
    obtain ⟨v, h1, h2⟩ := opE_det he h
    exact ⟨v, h1, .inl ⟨ha, h2⟩⟩
  | true =>
    have mk : ∀ {t : Nat} {cs : List GV}, cx.isEsc o.dst = false → mkK cx o fr H t cs K → ∃ d, o.dst = some d ∧ d < fr.length ∧ K (.bx cs) fr H ∧ ∀ fr', fr'.length = fr.length → noLp d fr' = true → ∀ H' (K' : FV → List FV → Hp → Prop), K' (.bx cs) fr' H' → mkK cx o fr' H' t cs K' := by
      intro t cs hesc hm
      unfold mkK at hm
      rw [hesc] at hm
      dsimp only at hm
      cases hd : o.dst with
      | none => rw [hd] at hm; exact hm.elim
      | some d =>
        rw [hd] at hm hesc
        obtain ⟨h1, hm⟩ := ck_iff.1 hm
        obtain ⟨h2, hm⟩ := ck_iff.1 hm
        refine ⟨d, rfl, by exact (show d + 1 ≤ fr.length by simpa [Nat.blt] using h2), hm, fun fr' hl hn H' K' hK => ?_⟩
        unfold mkK
        rw [hd, hesc]
        exact ck_iff.2 ⟨hn, ck_iff.2 ⟨by rw [hl]; exact h2, hK⟩⟩
    unfold isAl at ha
    unfold isEff at he
    cases ho : o.op <;> rw [ho] at ha he <;> dsimp only at ha he <;> try (cases ha; done)
    case alloc t =>
      unfold opK at h
      rw [ho] at h
      obtain ⟨b, h⟩ := ck_iff.1 h
      obtain ⟨d, hd, hl, hk, hall⟩ := mk he h
      refine ⟨_, hk, .inr ⟨by unfold isAl; rw [ho]; exact ha, d, hd, hl, fun fr' h1 h2 h3 H' K' hK => ?_⟩⟩
      unfold opK; rw [ho]
      exact ck_iff.2 ⟨b, hall fr' h1 h2 H' K' hK⟩
    case box t x =>
      unfold opK at h
      rw [ho] at h
      obtain ⟨cs, h, hone⟩ := cellsK_det h
      obtain ⟨d, hd, hl, hk, hall⟩ := mk he h
      refine ⟨_, hk, .inr ⟨by unfold isAl; rw [ho]; exact ha, d, hd, hl, fun fr' h1 h2 h3 H' K' hK => ?_⟩⟩
      unfold opK; rw [ho]
      have hx := h3 x (by rw [ho]; simp [Op.operands])
      show cellsK (ev fr' x) fun cs => mkK cx o fr' H' t cs K'
      rw [hx]
      exact hone _ (hall fr' h1 h2 H' K' hK)

theorem PV.box {o : Oper} {fr : List FV} {H : Hp} {v : FV} (h : PV cx o fr H v) {t : TypeId} {a : Operand} {s p : Nat} (ho : o.op = .load t a) (he : ev fr a = .lp s p) : ∃ cs, fr.getD s .bad = .bx cs := by
  rcases h with ⟨_, h⟩ | ⟨ha, _⟩
  · have := h (fun _ _ => True) trivial
    unfold opE at this
    rw [ho] at this
    have h2 := (ck_iff.1 this).2
    rw [he] at h2
    have h3 : (match fr.getD s .bad with | .bx cs => cutK cs p (cx.ty t).lv.length (cx.ty t).agg fun _ => True | _ => False) := h2
    split at h3
    · rename_i cs e; exact ⟨cs, e⟩
    · exact h3.elim
  · unfold isAl at ha; rw [ho] at ha; cases ha

/-- in another frame that shows it the same -/
theorem PV.move {o : Oper} {fr fr' : List FV} {H : Hp} {v : FV} (h : PV cx o fr H v) (hl : fr'.length = fr.length) (hev : ∀ x ∈ o.op.operands, ev fr' x = ev fr x)
    (hb : ∀ t a s p cs, o.op = .load t a → ev fr a = .lp s p → fr.getD s .bad = .bx cs → fr'.getD s .bad = .bx cs) : PV cx o fr' H v := by
  have hbox := fun {t a s p} => h.box (t := t) (a := a) (s := s) (p := p)
  rcases h with ⟨ha, h⟩ | ⟨ha, d, hd, hlt, h⟩
  · refine .inl ⟨ha, fun K hK => ?_⟩
    rw [opE_congr (E := ev fr) (B := fun s => fr.getD s .bad) H K hev (fun t a s p ho he => by
      obtain ⟨cs, e⟩ := hbox ho he
      show fr'.getD s .bad = fr.getD s .bad
      rw [hb t a s p cs ho he e, e])]
    exact h K hK
  · exact .inr ⟨ha, d, hd, by rw [hl]; exact hlt, fun fr2 h1 h2 h3 => h fr2 (by rw [h1, hl]) h2 (fun x hx => by rw [h3 x hx, hev x hx])⟩

theorem PV.heap {o : Oper} {fr : List FV} {H H' : Hp} {v : FV} (h : PV cx o fr H v) (he : isEff cx o = false) (hr : readsH o (ev fr) = false) : PV cx o fr H' v := by
  rcases h with ⟨ha, h⟩ | h
  · exact .inl ⟨ha, opE_heap he hr h⟩
  · exact .inr h

theorem PV.run {o : Oper} {fr : List FV} {H : Hp} {v : FV} (h : PV cx o fr H v) (he : isEff cx o = false) (hs : isStore o = false) (hn : isAl cx o = true → ∀ d, o.dst = some d → noLp d fr = true) (K : FV → List FV → Hp → Prop) (hK : K v fr H) : opK cx o fr H K := by
  rcases h with ⟨ha, h⟩ | ⟨ha, d, hd, _, h⟩
  · rw [opK_opE ha he hs]; exact h _ hK
  · exact h fr rfl (hn ha d hd) (fun _ _ => rfl) H K hK

theorem noStore {o : Oper} (h : isEff cx o = false) : isStore o = false := by
  unfold isEff at h
  unfold isStore
  cases ho : o.op <;> rw [ho] at h <;> first | rfl | cases h

/-- a box turned, or none -/
def applyU (fr : List FV) : Option (Nat × List GV) → List FV
  | none => fr
  | some (s, cs) => fr.set s (.bx cs)
theorem stCells_mono {l : Nat} {K K' : Hp → Prop} (hk : ∀ H, K H → K' H) : ∀ (ns : List GV) (H : Hp) (p : Nat), stCells l H p ns K → stCells l H p ns K'
  | [], H, p, h => hk H h
  | c :: cs, H, p, h => by
    have h' : wr H l p c fun H => stCells l H (p + 1) cs K := h
    show wr H l p c fun H => stCells l H (p + 1) cs K'
    unfold wr at h' ⊢
    split at h'
    · exact stCells_mono hk cs _ _ h'
    · exact h'.elim

/-- what turns the heap, or a box, in another frame -/
theorem effK {o : Oper} {fr fr' : List FV} {H : Hp} {K : FV → List FV → Hp → Prop} (he : isEff cx o = true) (hev : ∀ x ∈ o.op.operands, ev fr' x = ev fr x) (hbx : ∀ s, stBox o (ev fr) = some s → (∃ cs, fr.getD s .bad = .bx cs) → fr'.getD s .bad = fr.getD s .bad) (h : opK cx o fr H K) :
    opK cx o fr' H fun v f H' => ∃ u, f = applyU fr' u ∧ K v (applyU fr u) H' ∧ ((u = none ∧ stBox o (ev fr) = none) ∨ ∃ s cs cs0, u = some (s, cs) ∧ stBox o (ev fr) = some s ∧ fr.getD s .bad = .bx cs0 ∧ H' = H) := by
  unfold opK at h ⊢
  have gen : ∀ (h : opE cx o (ev fr) (fun s => fr.getD s .bad) H fun v H => K v fr H), (∀ t a, o.op ≠ .load t a) → stBox o (ev fr) = none → opE cx o (ev fr') (fun s => fr'.getD s .bad) H fun v H' =>
      ∃ u, fr' = applyU fr' u ∧ K v (applyU fr u) H' ∧ ((u = none ∧ stBox o (ev fr) = none) ∨ ∃ s cs cs0, u = some (s, cs) ∧ stBox o (ev fr) = some s ∧ fr.getD s .bad = .bx cs0 ∧ H' = H) := by
    intro h hn hs
    have e : (fun (v : FV) (H' : Hp) => ∃ u, fr' = applyU fr' u ∧ K v (applyU fr u) H' ∧ ((u = none ∧ stBox o (ev fr) = none) ∨ ∃ s cs cs0, u = some (s, cs) ∧ stBox o (ev fr) = some s ∧ fr.getD s .bad = .bx cs0 ∧ H' = H)) = fun v H' => K v fr H' := by
      funext v H'
      apply propext
      constructor
      · rintro ⟨u, _, hk, ⟨rfl, _⟩ | ⟨s, cs, cs0, _, h2, _⟩⟩
        · exact hk
        · rw [hs] at h2; cases h2
      · exact fun q => ⟨none, rfl, q, .inl ⟨rfl, hs⟩⟩
    rw [e]
    rw [opE_congr (E := ev fr) (B := fun s => fr.getD s .bad) H _ hev (fun t a s p ho => (hn t a ho).elim)]
    exact h
  unfold isEff at he
  cases ho : o.op <;> rw [ho] at h he <;> dsimp only at h he ⊢ <;> try (cases he; done)
  case alloc t =>
    obtain ⟨b, h⟩ := ck_iff.1 h
    refine ck_iff.2 ⟨b, ?_⟩
    unfold mkK at h ⊢
    rw [he] at h ⊢
    exact ⟨none, rfl, h, .inl ⟨rfl, by simp [stBox, ho]⟩⟩
  case box t x =>
    obtain ⟨cs, h, hone⟩ := cellsK_det h
    rw [hev x (by rw [ho]; simp [Op.operands])]
    refine hone _ ?_
    unfold mkK at h ⊢
    rw [he] at h ⊢
    exact ⟨none, rfl, h, .inl ⟨rfl, by simp [stBox, ho]⟩⟩
  case store t a x =>
    obtain ⟨ns, h, hone⟩ := cellsK_det h
    rw [hev x (by rw [ho]; simp [Op.operands])]
    refine hone _ ?_
    obtain ⟨b1, h⟩ := ck_iff.1 h
    obtain ⟨b2, h⟩ := ck_iff.1 h
    refine ck_iff.2 ⟨b1, ck_iff.2 ⟨b2, ?_⟩⟩
    rw [hev a (by rw [ho]; simp [Op.operands])]
    unfold storeK at h ⊢
    split at h
    · rename_i s p e1
      have hst : stBox o (ev fr) = some s := by simp [stBox, ho, e1]
      split at h
      · rename_i cs0 e2
        obtain ⟨cs', h, one⟩ := fillK_det h
        rw [setK_eq] at h
        have hb := hbx s hst ⟨cs0, e2⟩
        rw [hb, e2]
        refine one _ ?_
        rw [setK_eq]
        exact ⟨some (s, cs'), rfl, h, .inr ⟨s, cs', cs0, rfl, hst, e2, rfl⟩⟩
      · exact h.elim
    · rename_i l p e1
      exact stCells_mono (fun H' q => ⟨none, rfl, q, .inl ⟨rfl, by simp [stBox, ho, e1]⟩⟩) _ _ _ h
    · exact h.elim
  all_goals exact gen h (fun t a q => by rw [ho] at q; cases q) (by simp [stBox, ho])

/-- a guard, in a frame -/
theorem wantK_F {ops : Array Oper} {fr : List FV} {g : Option (Nat × Bool)} {yes no : List FV → Prop} (h : wantK ops fr g yes no) : (wantF ops fr g = some true ∧ yes fr) ∨ (wantF ops fr g = some false ∧ no fr) := by
  unfold wantK at h
  unfold wantF
  cases g with
  | none => exact .inl ⟨rfl, h⟩
  | some jw =>
    obtain ⟨j, want⟩ := jw
    dsimp only at h ⊢
    split at h
    · rename_i d hd
      split at h
      · rename_i b hb
        have hs := getD_of hb (by simp)
        cases b with
        | true =>
          rw [bite_iff, if_pos rfl, setK_eq, set_self hs] at h
          cases want with
          | true => exact .inl ⟨by simp [hb], h⟩
          | false => exact .inr ⟨by simp [hb], h⟩
        | false =>
          rw [bite_iff, if_neg (by simp), setK_eq, set_self hs] at h
          cases want with
          | true => exact .inr ⟨by simp [hb], h⟩
          | false => exact .inl ⟨by simp [hb], h⟩
      · rename_i hb
        exact .inr ⟨by simp [hb], h⟩
      · exact h.elim
    · exact h.elim

theorem wanted_F {φ0 φ : List LI} {H0 H : Hp} {w0 w : World} {lam : Nat → Nat} {fr : List FV} {tmps : Array Value} (I : Inv φ0 H0 w0 φ H lam fr tmps w) {ops : Array Oper} {o : Oper} {b : Bool} (h : wantF ops fr o.guard = some b) : Region.wanted o (yielded ops tmps) = b := by
  unfold wantF at h
  unfold Region.wanted
  cases hg : o.guard with
  | none => rw [hg] at h; simp at h; simp [h]
  | some jw =>
    obtain ⟨j, want⟩ := jw
    rw [hg] at h
    dsimp only at h ⊢
    split at h
    · rename_i d hd
      split at h
      · rename_i b' hb
        have hs := getD_of hb (by simp)
        have hv : tmps.getD d undef = .bool b' := I.slot d _ hs
        have hlt := isSome_lt hs
        have hy : yielded ops tmps j = some b' := by
          unfold yielded
          rw [hd]
          have : tmps[d]? = some (.bool b') := by
            rw [Array.getElem?_eq_getElem (by rw [← I.size]; exact hlt)]
            simpa [Array.getD, show d < tmps.size by rw [← I.size]; exact hlt] using hv
          simp [this]
        rw [hy]
        simp only [Option.some.injEq] at h
        rw [← h]
        cases b' <;> cases want <;> rfl
      · rename_i hb
        have hs := getD_of hb (by simp)
        have hv : tmps.getD d undef = undef := I.slot d _ hs
        simp only [Option.some.injEq] at h
        rw [← h, yielded_und hd (by rw [← I.size]; exact isSome_lt hs) hv]
        rfl
      · cases h
    · cases h

theorem wantF_of {ops : Array Oper} {fr fr' : List FV} {o : Oper} (h : ∀ t ∈ o.looksAt ops, fr'.getD t .bad = fr.getD t .bad) : wantF ops fr' o.guard = wantF ops fr o.guard := by
  unfold wantF
  cases hg : o.guard with
  | none => rfl
  | some jw =>
    obtain ⟨j, want⟩ := jw
    dsimp only
    cases hd : (ops[j]?).bind (·.dst) with
    | none => rfl
    | some d =>
      dsimp only
      rw [h d (by simp [Oper.looksAt, hg, hd])]

theorem looks_op {ops : Array Oper} {o : Oper} {t : Nat} (h : Operand.tmp t ∈ o.op.operands) : t ∈ o.looksAt ops :=
  List.mem_append_left _ (List.mem_filterMap.2 ⟨.tmp t, by simpa using h, rfl⟩)
theorem ev_looks {ops : Array Oper} {fr fr' : List FV} {o : Oper} (h : ∀ t ∈ o.looksAt ops, fr'.getD t .bad = fr.getD t .bad) : ∀ x ∈ o.op.operands, ev fr' x = ev fr x := by
  intro x hx
  exact ev_of fun t e => h t (looks_op (by rw [← e]; exact hx))

theorem putG_ok {al : List Nat} {dst : Option Nat} {v : FV} {fr : List FV} {K : List FV → Prop} (h : putG al dst v fr K) : K (setO fr dst v) ∧
    ∀ d, dst = some d → (∀ cs, fr.getD d .bad ≠ .bx cs) ∧ (∀ cs, v = .bx cs → d ∈ al) ∧ noLps (setO fr dst v) al = true := by
  cases dst with
  | none => exact ⟨h, fun d e => by cases e⟩
  | some d =>
    obtain ⟨h1, h⟩ := ck_iff.1 h
    obtain ⟨h2, h⟩ := ck_iff.1 h
    rw [frc_eq, setK_eq] at h
    obtain ⟨h3, h⟩ := ck_iff.1 h
    refine ⟨h, fun d' e => ?_⟩
    cases e
    exact ⟨fun cs e => (by rw [e] at h1; cases h1), fun cs e => (by subst e; exact mem_iff.1 h2), h3⟩

end
end Go.Am
