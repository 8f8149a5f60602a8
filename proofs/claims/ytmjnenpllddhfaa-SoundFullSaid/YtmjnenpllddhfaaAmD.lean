import Derived.Test.YtmjnenpllddhfaaAmC
set_option linter.unusedVariables false
set_option linter.unusedSimpArgs false
namespace Go.Am

section
variable {P : Program} {cx : Cx} {φ : List LI} {H : Hp} {lam : Nat → Nat} {fr : List FV} {w : World} {φ0 : List LI} {H0 : Hp} {w0 : World} {tmps : Array Value}

theorem set_self {α : Type} {l : List α} {d : Nat} {v : α} (h : l[d]? = some v) : l.set d v = l := by
  apply List.ext_getElem?
  intro j
  rw [List.getElem?_set]
  split
  · rename_i e; subst e; split
    · exact h.symm
    · rename_i q; exact (q (isSome_lt h)).elim
  · rfl

theorem yielded_und {ops : Array Oper} {tmps : Array Value} {j d : Nat} (hd : (ops[j]?).bind (·.dst) = some d) (hl : d < tmps.size) (hv : tmps.getD d undef = undef) : yielded ops tmps j = none := by
  unfold yielded
  rw [hd]
  have : tmps[d]? = some undef := by
    rw [Array.getElem?_eq_getElem hl]
    simpa [Array.getD, hl] using hv
  simp [this, undef]

/-- what a guard asks -/
theorem wantK_ok (I : Inv φ0 H0 w0 φ H lam fr tmps w) {ops : Array Oper} {o : Oper} {yes no : List FV → Prop} (h : wantK ops fr o.guard yes no) :
    (Region.wanted o (yielded ops tmps) = true ∧ yes fr) ∨ (Region.wanted o (yielded ops tmps) = false ∧ no fr) := by
  unfold wantK at h
  unfold Region.wanted
  cases hg : o.guard with
  | none => rw [hg] at h; exact .inl ⟨rfl, h⟩
  | some jw =>
    obtain ⟨j, want⟩ := jw
    rw [hg] at h
    dsimp only at h ⊢
    split at h
    · rename_i d hd
      split at h
      · rename_i b hb
        have hs := getD_of hb (by simp)
        have hv := I.slot d _ hs
        have hlt := isSome_lt hs
        have hv : tmps.getD d undef = .bool b := hv
        have hy : yielded ops tmps j = some b := by
          unfold yielded
          rw [hd]
          have : tmps[d]? = some (.bool b) := by
            rw [Array.getElem?_eq_getElem (by rw [← I.size]; exact hlt)]
            simpa [Array.getD, show d < tmps.size by rw [← I.size]; exact hlt] using hv
          simp [this]
        rw [hy]
        cases b with
        | true =>
          rw [bite_iff, if_pos rfl, setK_eq, set_self hs] at h
          cases want with
          | true => exact .inl ⟨rfl, h⟩
          | false => exact .inr ⟨rfl, h⟩
        | false =>
          rw [bite_iff, if_neg (by simp), setK_eq, set_self hs] at h
          cases want with
          | true => exact .inr ⟨rfl, h⟩
          | false => exact .inl ⟨rfl, h⟩
      · rename_i hb
        have hs := getD_of hb (by simp)
        have hv : tmps.getD d undef = undef := I.slot d _ hs
        rw [yielded_und hd (by rw [← I.size]; exact isSome_lt hs) hv]
        exact .inr ⟨rfl, h⟩
      · exact h.elim
    · exact h.elim

def setO (fr : List FV) : Option Nat → FV → List FV
  | some d, v => fr.set d v
  | none, _ => fr
theorem putK_eq (fr : List FV) (d : Option Nat) (v : FV) (K : List FV → Prop) : putK fr d v K = K (setO fr d v) := by
  cases d with
  | none => rfl
  | some d => simp [putK, frc_eq, setK_eq, setO]

theorem Res.put {dst : Option Tmp} {v : FV} {u : Value} {df : List Deferred} (h : Res φ0 H0 w0 dst v fr H tmps u w) : ∃ φ lam tmps', (⟨tmps, df⟩ : Act).put dst u = ⟨tmps', df⟩ ∧ Inv φ0 H0 w0 φ H lam (setO fr dst v) tmps' w := by
  obtain ⟨φ, lam, h⟩ := h
  cases dst with
  | none => exact ⟨φ, lam, tmps, rfl, h⟩
  | some d => exact ⟨φ, lam, _, rfl, h⟩

/-- what a context must be -/
structure CxOK (P : Program) (cx : Cx) : Prop where
  tys : TysOK P cx.tys
  env : ∀ f s, cx.env.lookup f = some s → SoundC P f s
  dyn : ∀ f, SoundC P f (cx.dyn f)

theorem opsK_ok (hC : CxOK P cx) {ops : Array Oper} {Q : Exit → Act → World → Prop} {df : List Deferred} : ∀ {os : List Oper} {is : List Nat}, All2 (fun o i => ops[i]? = some o) os is → ∀ {φ : List LI} {H : Hp} {lam : Nat → Nat} {fr : List FV} {w : World} {tmps : Array Value} {K : List FV → Hp → Prop},
    opsK cx ops os fr H K → Inv φ0 H0 w0 φ H lam fr tmps w → (∀ fr' H' φ' lam' tmps' w', K fr' H' → Inv φ0 H0 w0 φ' H' lam' fr' tmps' w' → Q .normal ⟨tmps', df⟩ w') → wpOps P ops Q is ⟨tmps, df⟩ w
  | [], _, hal, φ, H, lam, fr, w, tmps, K, h, I, hQ => by
    cases hal.nil_inv
    exact hQ _ _ _ _ _ _ h I
  | o :: os, _, hal, φ, H, lam, fr, w, tmps, K, h, I, hQ => by
    obtain ⟨i, is, rfl, hi, hal⟩ := hal.cons_inv
    simp only [wpOps, hi]
    have h' : wantK ops fr o.guard
      (fun fr => opK cx o fr H fun v fr H => putK fr o.dst v fun fr => opsK cx ops os fr H K)
      (fun fr => putK fr o.dst .und fun fr => opsK cx ops os fr H K) := h
    rcases wantK_ok I h' with ⟨hw, h'⟩ | ⟨hw, h'⟩
    · rw [if_pos hw]
      refine .inl (opK_ok hC.tys hC.env hC.dyn I df h' fun v fr' H' u w' hk hres => ?_)
      rw [putK_eq] at hk
      obtain ⟨φ', lam', tmps', e, I'⟩ := hres.put (df := df)
      rw [e]
      exact opsK_ok hC hal hk I' hQ
    · rw [if_neg (by rw [hw]; simp)]
      rw [putK_eq] at h'
      obtain ⟨φ', lam', tmps', e, I'⟩ := (Res.of I (v := .und) (u := undef) rfl o.dst).put (df := df)
      rw [e]
      exact opsK_ok hC hal h' I' hQ

theorem range_all2 (ops : Array Oper) : All2 (fun (o : Oper) i => ops[i]? = some o) ops.toList (List.range ops.size) := by
  apply All2.of_get
  · simp
  · intro j a b h1 h2
    rw [List.getElem?_range (by have := isSome_lt h1; simpa using this)] at h2
    cases h2
    simpa using h1

/-- regions whose order is open -/
def DrOK (P : Program) (cx : Cx) : Prop :=
  ∀ (ops : Array Oper) (fr : List FV) (H : Hp) (K : List FV → Hp → Prop) φ0 H0 w0 φ lam tmps w (Q : Exit → Act → World → Prop), drK cx ops fr H K → Inv φ0 H0 w0 φ H lam fr tmps w →
    (∀ fr' H' φ' lam' tmps' w', K fr' H' → Inv φ0 H0 w0 φ' H' lam' fr' tmps' w' → Q .normal ⟨tmps', []⟩ w') → ∀ t, wpOps P ops Q (Region.schedule (P.follows .mixedOrders) ops t) ⟨tmps, []⟩ w

theorem regK_ok (hC : CxOK P cx) (hd : DrOK P cx) {id : Nat} {ops : Array Oper} {d : Bool} {K : List FV → Hp → Prop} (h : regK cx (drK cx) ops d fr H K) (I : Inv φ0 H0 w0 φ H lam fr tmps w) (b : Frame) (k : List Item) (cs : List Frame) :
    ∃ fr' H' φ' lam' tmps' w', K fr' H' ∧ Inv φ0 H0 w0 φ' H' lam' fr' tmps' w' ∧ Steps P (lone (b.at ⟨tmps, []⟩ (.code (.region id ops d) :: k)) cs w) (lone (b.at ⟨tmps', []⟩ k) cs w') := by
  let Q : Exit → Act → World → Prop := fun e a w => e = .normal ∧ ∃ fr' H' φ' lam' tmps', a = ⟨tmps', []⟩ ∧ K fr' H' ∧ Inv φ0 H0 w0 φ' H' lam' fr' tmps' w
  have fin : (Code.region id ops d).wp P Q ⟨tmps, []⟩ w → ∃ fr' H' φ' lam' tmps' w', K fr' H' ∧ Inv φ0 H0 w0 φ' H' lam' fr' tmps' w' ∧ Steps P (lone (b.at ⟨tmps, []⟩ (.code (.region id ops d) :: k)) cs w) (lone (b.at ⟨tmps', []⟩ k) cs w') := by
    intro hw
    obtain ⟨e, a', w', ⟨rfl, fr', H', φ', lam', tmps', rfl, hk, I'⟩, harr⟩ := hw b k cs
    exact ⟨fr', H', φ', lam', tmps', w', hk, I', harr⟩
  cases d with
  | false => exact fin (wp_region (opsK_ok hC (range_all2 ops) h I fun fr' H' φ' lam' tmps' w' hk I' => ⟨rfl, fr', H', φ', lam', tmps', rfl, hk, I'⟩))
  | true =>
    refine fin (wp_region_draw fun t => ?_)
    exact hd ops fr H K φ0 H0 w0 φ lam tmps w.drew Q h (I.back (Back.drew I.rep)) (fun fr' H' φ' lam' tmps' w' hk I' => ⟨rfl, fr', H', φ', lam', tmps', rfl, hk, I'⟩) t

/-- some temporaries forgotten -/
theorem Inv.weaken (I : Inv φ0 H0 w0 φ H lam fr tmps w) {fr' : List FV} (hl : fr'.length = fr.length) (hp : ∀ (t : Nat) v, fr'[t]? = some v → v = .bad ∨ fr[t]? = some v) : Inv φ0 H0 w0 φ H lam fr' tmps w where
  pre := I.pre
  rep := I.rep
  keeps := I.keeps
  own := I.own
  row := I.row
  size := by rw [hl, I.size]
  slot d v hd := by
    have hb : ∀ b, boxB fr' lam b → boxB fr lam b := fun b ⟨s, cs, hs, e⟩ => by
      rcases hp s _ hs with q | q
      · cases q
      · exact ⟨s, cs, q, e⟩
    rcases hp d v hd with q | q
    · subst q; trivial
    · have hs := I.slot d v q
      cases v with
      | bx cs => exact hs
      | _ => exact FOK.of (VOK.step (List.prefix_refl _) (fun _ _ _ => rfl) (fun b _ _ h1 h2 => ⟨rfl, h1, fun q => h2 (hb b q)⟩) hs)
  apart s s' cs cs' hs hs' hne := by
    rcases hp s _ hs with q | q
    · cases q
    rcases hp s' _ hs' with q' | q'
    · cases q'
    exact I.apart s s' cs cs' q q' hne

theorem keepK_ok : ∀ {fr : List FV} {i : Nat} {l : List Nat} {K : List FV → Prop}, keepK fr i l K → ∃ fr', K fr' ∧ fr'.length = fr.length ∧ ∀ (t : Nat) v, fr'[t]? = some v → v = .bad ∨ fr[t]? = some v
  | [], i, l, K, h => ⟨[], h, rfl, by simp⟩
  | x :: xs, i, l, K, h => by
    have h' : (match l.contains i with
      | true => keepK xs (i + 1) l fun ys => K (x :: ys)
      | false => keepK xs (i + 1) l fun ys => K (.bad :: ys)) := h
    split at h'
    · obtain ⟨ys, hk, hl, hp⟩ := keepK_ok h'
      refine ⟨_, hk, by simp [hl], fun t v ht => ?_⟩
      cases t with
      | zero => right; simpa using ht
      | succ t => simpa using hp t v (by simpa using ht)
    · obtain ⟨ys, hk, hl, hp⟩ := keepK_ok h'
      refine ⟨_, hk, by simp [hl], fun t v ht => ?_⟩
      cases t with
      | zero => left; simp at ht; exact ht.symm
      | succ t => simpa using hp t v (by simpa using ht)

theorem popTo_ok {id : Nat} : ∀ {k k' : List Item}, popTo id k = some k' → exitTo id k = some k'
  | [], k', h => by simp [popTo] at h
  | x :: k, k', h => by
    cases x <;> simp only [popTo] at h <;> first
      | (cases h; done)
      | (simp only [exitTo]
         split at h
         · rename_i e; rw [if_pos e]; exact h
         · rename_i e; rw [if_neg e]; exact popTo_ok h)
      | (simp only [exitTo]; exact popTo_ok h)

theorem step_scope {b : Frame} {a : Act} {k : List Item} {cs : List Frame} {c : Code} : Go.step P (lone (b.at a (.code (.scope c) :: k)) cs w) = .next (lone (b.at a (.code c :: .inScope c :: k)) cs w) :=
  step_lone_go (by simp [stepG, stepG.exec, Frame.at])
theorem step_inScope {b : Frame} {a : Act} {k : List Item} {cs : List Frame} {c : Code} : Go.step P (lone (b.at a (.inScope c :: k)) cs w) = .next (lone (b.at a k) cs w) :=
  step_lone_go (by simp [stepG, stepG.exec, Frame.at])

theorem knowK_ok (I : Inv φ0 H0 w0 φ H lam fr tmps w) {c : Operand} {b : Bool} {K : List FV → Prop} (he : ev fr c = .g (.bool b)) (h : knowK fr c b K) : K fr := by
  cases c with
  | tmp d =>
    rw [knowK, setK_eq] at h
    have : fr[d]? = some (.g (.bool b)) := by
      have he : atFr fr d = .g (.bool b) := he
      unfold atFr at he
      split at he
      · cases he
      · exact getD_of he (by simp)
    rwa [set_self this] at h
  | _ => exact h


/-! ## the walk -/
/-- the call ends as it should -/
def Ends (P : Program) (f : FuncId) (cs : List Frame) (m : Machine) (R : Ending → World → Prop) : Prop :=
  ∃ v w' fr, R (.returned v) w' ∧ Steps P m (lone fr cs w') ∧ fr.fn = f ∧ fr.leaving P w' (.returned v)
theorem Ends.of_steps {f : FuncId} {cs : List Frame} {m m' : Machine} {R : Ending → World → Prop} (h : Steps P m m') (h' : Ends P f cs m' R) : Ends P f cs m R := by
  obtain ⟨v, w', fr, h1, h2, h3⟩ := h'
  exact ⟨v, w', fr, h1, h.trans h2, h3⟩
theorem Ends.of_step {f : FuncId} {cs : List Frame} {m m' : Machine} {R : Ending → World → Prop} (h : Go.step P m = .next m') (h' : Ends P f cs m' R) : Ends P f cs m R := Ends.of_steps (.one h) h'

theorem Ends.skip {f : FuncId} {cs : List Frame} {b : Frame} {a : Act} {k : List Item} {m' : Machine} {R : Ending → World → Prop} (h : Go.step P (lone (b.at a k) cs w) = .next m') (h' : Ends P f cs (lone (b.at a k) cs w) R) : Ends P f cs m' R := by
  obtain ⟨v, w', fr, h1, ⟨n, hn⟩, h3, h4⟩ := h'
  refine ⟨v, w', fr, h1, ?_, h3, h4⟩
  cases n with
  | zero =>
    simp only [runN, Stepped.next.injEq] at hn
    have e : b.at a k = fr := by
      have := congrArg (fun m : Machine => m.gs.map (·.frame)) hn
      simpa [lone] using this
    have := h4.1
    rw [← e] at this
    simp [Frame.at] at this
  | succ n =>
    simp only [runN, h] at hn
    exact ⟨n, hn⟩

def resV (tmps : Array Value) : ResultVar → Sem Value
  | .tmp t => pure (tmps.getD t undef)
  | .cell a t => do loadVar t (← asAddr (tmps.getD a undef))

theorem resK_ok (hT : TysOK P cx.tys) (I : Inv φ0 H0 w0 φ H lam fr tmps w) : ∀ {rs : List ResultVar} {K : List RV → Prop}, resK cx fr rs K →
    ∃ vs us, K vs ∧ (rs.mapM (resV tmps)).run P w = .ok us w ∧ All2 (RV.is φ) vs us
  | [], K, h => ⟨[], [], h, by simp, .nil⟩
  | .tmp t :: rs, K, h => by
    have hv := I.at t
    have h' : (match atFr fr t with
      | .g v => resK cx fr rs fun vs => K (.s v :: vs)
      | .agg cs => resK cx fr rs fun vs => K (.a cs :: vs)
      | _ => False) := h
    split at h'
    · rename_i v e
      rw [e] at hv
      obtain ⟨vs, us, h1, h2, h3⟩ := resK_ok hT I h'
      exact ⟨_, _, h1, by simp [List.mapM_cons, resV, h2], .cons (a := .s v) hv h3⟩
    · rename_i v e
      rw [e] at hv
      obtain ⟨vs, us, h1, h2, h3⟩ := resK_ok hT I h'
      exact ⟨_, _, h1, by simp [List.mapM_cons, resV, h2], .cons (a := .a v) hv h3⟩
    · exact h'.elim
  | .cell a t :: rs, K, h => by
    have hv := I.at a
    have h' : (match atFr fr a with
      | .lp s p => match fr.getD s .bad with
        | .bx cs => ck (cx.okT t) <| cutK cs p (cx.ty t).lv.length (cx.ty t).agg fun v => match v with
          | .g v => resK cx fr rs fun vs => K (.s v :: vs)
          | .agg cs => resK cx fr rs fun vs => K (.a cs :: vs)
          | _ => False
        | _ => False
      | _ => False) := h
    split at h'
    · rename_i s p e
      rw [e] at hv
      have hv : tmps.getD a undef = .pointer (some ⟨lam s, p, none⟩) := hv
      split at h'
      · rename_i cs hcs
        obtain ⟨e2, _, _, c, t', hb, his⟩ := I.slot s _ (getD_of hcs (by simp))
        rw [ck_iff] at h'
        obtain ⟨ht, h'⟩ := h'
        obtain ⟨v, u, hk, hr, hvv⟩ := cut_load (P := P) (H := H) hT ht his (w := w) (b := lam s) (o := p) (fun j y hy => by rw [cell_of hb]; simpa using hy) h'
        have hres : (resV tmps (.cell a t)).run P w = .ok u w := by
          simp only [resV, hv, Sem.run_bind, asAddr, Sem.run_pure, Result.andThen_ok, hr]
        have hvv := hvv 0 lam fr w
        split at hk
        · obtain ⟨vs, us, h1, h2, h3⟩ := resK_ok hT I hk
          exact ⟨_, _, h1, by simp [List.mapM_cons, hres, h2], .cons (a := .s _) hvv h3⟩
        · obtain ⟨vs, us, h1, h2, h3⟩ := resK_ok hT I hk
          exact ⟨_, _, h1, by simp [List.mapM_cons, hres, h2], .cons (a := .a _) hvv h3⟩
        · exact hk.elim
      · exact h'.elim
    · exact h'.elim

theorem finK_ok (hT : TysOK P cx.tys) (I : Inv φ0 H0 w0 φ H lam fr tmps w) {fn : Func} (hres : fn.results = cx.res.toArray) {Q : Post} (h : finK cx fr H Q) :
    ∃ r u, Q r H ∧ (results fn tmps).run P w = .ok u w ∧ r.is φ u := by
  obtain ⟨vs, us, hk, hr, hall⟩ := resK_ok hT I h
  have hrun : (results fn tmps).run P w = .ok (if h : us.toArray.size = 1 then us.toArray[0] else .tuple us.toArray) w := by
    have e : results fn tmps = (do let vs ← fn.results.mapM (resV tmps); pure (if h : vs.size = 1 then vs[0] else .tuple vs)) := rfl
    rw [e, hres, Array.mapM_eq_mapM_toList]
    simp [hr]
  have hlen := hall.length
  split at hk
  · obtain ⟨u, us', rfl, hu, hn⟩ := hall.cons_inv
    cases hn.nil_inv
    exact ⟨_, u, hk, by simpa using hrun, hu⟩
  · obtain ⟨u, us', rfl, hu, hn⟩ := hall.cons_inv
    cases hn.nil_inv
    exact ⟨_, u, hk, by simpa using hrun, hu⟩
  · rename_i hn1 hn2
    refine ⟨_, .tuple us.toArray, hk, ?_, ⟨_, rfl, hall⟩⟩
    rw [hrun]
    have : us.length ≠ 1 := by
      intro e1
      rw [e1] at hlen
      match vs, hlen with
      | [.s v], _ => exact hn1 v rfl
      | [.a v], _ => exact hn2 v rfl
    simp [this]

section walk
variable {f : FuncId} {fn : Func} {Q : Post} {cs : List Frame} {b : Frame}

/-- what a part of the walk must do -/
def Good (P : Program) (f : FuncId) (b : Frame) (cs : List Frame) (φ0 : List LI) (H0 : Hp) (w0 : World) (Q : Post) (go : List Item → List FV → Hp → Prop) : Prop :=
  ∀ k fr H φ lam tmps w, go k fr H → Inv φ0 H0 w0 φ H lam fr tmps w → Ends P f cs (lone (b.at ⟨tmps, []⟩ k) cs w) (PostOf φ0 H0 w0 Q)

theorem fin_ok (hC : CxOK P cx) (hf : P.funcs[f]? = some fn) (hres : fn.results = cx.res.toArray) (hbf : b.fn = f) (hbk : b.kind = .normal) {fr : List FV} {H : Hp} {φ : List LI} {lam : Nat → Nat} {tmps : Array Value} {w : World} (k : List Item) (h : finK cx fr H Q) (I : Inv φ0 H0 w0 φ H lam fr tmps w) :
    Ends P f cs (lone { b.at ⟨tmps, []⟩ k with mode := .returning } cs w) (PostOf φ0 H0 w0 Q) := by
  obtain ⟨r, u, hq, hr, hru⟩ := finK_ok hC.tys I hres h
  exact ⟨u, w, _, ⟨r, H, φ, u, hq, rfl, hru, ⟨I.pre, I.rep, I.keeps, I.own, I.row⟩⟩, Steps.refl _ _, hbf, rfl, rfl, hbk, fn, by show P.funcs[b.fn]? = _; rw [hbf]; exact hf, hr⟩

theorem step_ok (hC : CxOK P cx) (hd : DrOK P cx) (hf : P.funcs[f]? = some fn) (hres : fn.results = cx.res.toArray) (hbf : b.fn = f) (hbk : b.kind = .normal) {rec go : List Item → List FV → Hp → Prop} (hrec : Good P f b cs φ0 H0 w0 Q rec) (hgo : Good P f b cs φ0 H0 w0 Q go) : Good P f b cs φ0 H0 w0 Q (step cx Q (drK cx) rec go) := by
  intro k fr H φ lam tmps w h I
  unfold step at h
  split at h
  · exact Ends.of_step step_end (fin_ok hC hf hres hbf hbk [] h I)
  · exact Ends.of_step step_ret (fin_ok hC hf hres hbf hbk _ h I)
  · exact Ends.of_step step_skip (hgo _ _ _ _ _ _ _ h I)
  · exact Ends.of_step step_label (hgo _ _ _ _ _ _ _ h I)
  · exact Ends.of_step step_inBlock (hgo _ _ _ _ _ _ _ h I)
  · exact Ends.of_step step_inScope (hgo _ _ _ _ _ _ _ h I)
  · exact Ends.of_step step_seq (hgo _ _ _ _ _ _ _ h I)
  · rename_i c x y k
    have hv := I.ev [] c
    split at h
    · rename_i t e
      rw [e] at hv
      refine Ends.of_step (step_cond (t := t) hv) ?_
      cases t with
      | true => exact hgo _ _ _ _ _ _ _ (knowK_ok I e h) I
      | false => exact hgo _ _ _ _ _ _ _ (knowK_ok I e h) I
    · exact h.elim
  · exact Ends.of_step step_block (hgo _ _ _ _ _ _ _ h I)
  · obtain ⟨fr', hk, hl, hp⟩ := keepK_ok h
    have := hrec _ _ _ _ _ _ _ hk (I.weaken hl hp)
    exact Ends.of_step step_loop (Ends.skip step_inLoop this)
  · obtain ⟨fr', hk, hl, hp⟩ := keepK_ok h
    exact hrec _ _ _ _ _ _ _ hk (I.weaken hl hp)
  · exact Ends.of_step step_scope (hgo _ _ _ _ _ _ _ h I)
  · split at h
    · rename_i k' e
      exact Ends.of_step (step_exit (popTo_ok e)) (hgo _ _ _ _ _ _ _ h I)
    · exact h.elim
  · split at h
    · obtain ⟨fr', hk, hl, hp⟩ := keepK_ok h
      exact hrec _ _ _ _ _ _ _ hk (I.weaken hl hp)
    · obtain ⟨fr', H', φ', lam', tmps', w', hk, I', hs⟩ := regK_ok hC hd h I b _ cs
      exact Ends.of_steps hs (hgo _ _ _ _ _ _ _ hk I')
  · exact h.elim

theorem walk_ok (hC : CxOK P cx) (hd : DrOK P cx) (hf : P.funcs[f]? = some fn) (hres : fn.results = cx.res.toArray) (hbf : b.fn = f) (hbk : b.kind = .normal) {rec : List Item → List FV → Hp → Prop} (hrec : Good P f b cs φ0 H0 w0 Q rec) : ∀ g, Good P f b cs φ0 H0 w0 Q (walk cx Q rec g)
  | 0 => fun k fr H φ lam tmps w h I => h.elim
  | g + 1 => step_ok hC hd hf hres hbf hbk hrec (walk_ok hC hd hf hres hbf hbk hrec g)

theorem runK_ok (hC : CxOK P cx) (hd : DrOK P cx) (hf : P.funcs[f]? = some fn) (hres : fn.results = cx.res.toArray) (hbf : b.fn = f) (hbk : b.kind = .normal) : ∀ n, Good P f b cs φ0 H0 w0 Q (runK cx Q n)
  | 0 => fun k fr H φ lam tmps w h I => h.elim
  | n + 1 => by
    have ih := walk_ok hC hd hf hres hbf hbk (runK_ok hC hd hf hres hbf hbk n) gas
    intro k fr H φ lam tmps w h I
    change runF cx Q (runK cx Q n) k fr H at h
    unfold runF at h
    split at h
    · exact Ends.of_step step_inLoop (ih _ _ _ _ _ _ _ h I)
    · obtain ⟨fr', H', φ', lam', tmps', w', hk, I', hs⟩ := regK_ok hC hd h I b _ cs
      exact Ends.of_steps hs (ih _ _ _ _ _ _ _ hk I')
    · exact ih _ _ _ _ _ _ _ h I
end walk


theorem start_inv {as : List FV} {vs : List Value} {n : Nat} (hr : RepH φ H w) (ha : All2 (FV.is φ) as vs) :
    Inv φ H w φ H (fun _ => 0) (as ++ List.replicate (n - as.length) .bad) (vs.toArray ++ Array.replicate (n - vs.toArray.size) undef) w where
  pre := List.prefix_refl _
  rep := hr
  keeps := Keeps.refl _ _
  own _ h := .inl h
  row _ h := .inl h
  size := by have := ha.length; simp [this]
  slot d v hd := by
    have hl := ha.length
    rcases Nat.lt_or_ge d as.length with q | q
    · rw [List.getElem?_append_left q] at hd
      obtain ⟨u, hu, hvu⟩ := ha.get hd
      have e : (vs.toArray ++ Array.replicate (n - vs.toArray.size) undef).getD d undef = u := by
        have : vs[d]? = some u := hu
        have hlt : d < vs.length := by omega
        have : vs[d] = u := by simpa [List.getElem?_eq_getElem hlt] using this
        simp [Array.getElem?_append, hlt, this]
      rw [e]
      cases v with
      | g v => exact hvu
      | agg cs => exact hvu
      | tup vs => exact hvu
      | _ => exact hvu.elim
    · rw [List.getElem?_append_right q, List.getElem?_replicate] at hd
      split at hd
      · cases hd; trivial
      · cases hd
  apart s s' cs cs' hs hs' hne := by
    have : ∀ {s : Nat} {cs : List GV}, (as ++ List.replicate (n - as.length) .bad)[s]? = some (FV.bx cs) → False := by
      intro s cs hs
      rcases Nat.lt_or_ge s as.length with q | q
      · rw [List.getElem?_append_left q] at hs
        obtain ⟨u, hu, hvu⟩ := ha.get hs
        exact hvu
      · rw [List.getElem?_append_right q, List.getElem?_replicate] at hs
        split at hs <;> cases hs
    exact (this hs).elim

/-- A FUNCTION TOLD BY THE MACHINE IS AS IT IS TOLD -/
theorem sound_of {f : FuncId} {fn : Func} (hC : CxOK P cx) (hd : DrOK P cx) (hf : P.funcs[f]? = some fn) (hres : fn.results = cx.res.toArray) (n : Nat) : Sound P f (callK cx fn n) := by
  intro as H Q h φ w vs hr ha cs
  unfold callK at h
  split at h
  · rename_i c hb
    let b : Frame := { (default : Frame) with fn := f, kind := .normal }
    have henter : Frame.enter P f vs.toArray .normal = b.at { tmps := vs.toArray ++ Array.replicate (fn.ntmps - vs.toArray.size) undef, defers := [] } [.code c] := by
      simp [Frame.enter, Frame.at, hf, hb, b]
    obtain ⟨v, w', fr, h1, h2, h3, h4⟩ := runK_ok (P := P) (cs := cs) (b := b) hC hd hf hres rfl rfl n _ _ _ _ _ _ _ h (start_inv hr ha)
    refine ⟨.returned v, w', fr, h1, ?_, h3, h4⟩
    rw [henter]
    exact h2
  · exact h.elim

theorem Sound.ex {f : FuncId} {s : Nat → Sm} (h : ∀ n, Sound P f (s n)) : Sound P f (fun xs H Q => ∃ k, s k xs H Q) := by
  intro as H Q ⟨k, hk⟩
  exact h k as H Q hk

end
end Go.Am
