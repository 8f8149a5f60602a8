import Derived.Test.YtmjnenpllddhfaaAm2
set_option linter.unusedVariables false
set_option linter.unusedSimpArgs false
namespace Go.Am

def boxB (fr : List FV) (lam : Nat → Nat) (b : Nat) : Prop := ∃ s cs, fr[s]? = some (.bx cs) ∧ lam s = b

/-- what a temporary's value is (but for boxes) -/
def VOK (n0 : Nat) (φ : List LI) (H : Hp) (lam : Nat → Nat) (fr : List FV) (w : World) : FV → Value → Prop
  | .g v, u => v.is φ u
  | .agg cs, u => ∃ us : Array Value, u = .agg us ∧ Is2 φ cs us.toList
  | .tup vs, u => ∃ us : Array Value, u = .tuple us ∧ All2 (RV.is φ) vs us.toList
  | .lp s o, u => u = .pointer (some ⟨lam s, o, none⟩)
  | .bs cs n z, u => ∃ b c t fz, u = .slice (some ⟨b, 0, none⟩) n n ∧ n0 ≤ b ∧ w.heap[b]? = some (.cells c t fz) ∧ Is2 φ cs c.toList ∧ cs.length = n * z ∧ ¬ ownB φ H b ∧ ¬ boxB fr lam b
  | .bx _, _ => False
  | .bad, _ => True
  | .und, u => u = undef

def FOK (n0 : Nat) (φ : List LI) (H : Hp) (lam : Nat → Nat) (fr : List FV) (w : World) (d : Nat) : FV → Value → Prop
  | .bx cs, u => u = .pointer (some ⟨lam d, 0, none⟩) ∧ n0 ≤ lam d ∧ ¬ rowB φ H (lam d) ∧ ∃ c t, w.heap[lam d]? = some (.cells c t (0, 0)) ∧ Is2 φ cs c.toList
  | v, u => VOK n0 φ H lam fr w v u

theorem FOK.of {n0 : Nat} {φ : List LI} {H : Hp} {lam : Nat → Nat} {fr : List FV} {w : World} {d : Nat} {v : FV} {u : Value} (h : VOK n0 φ H lam fr w v u) : FOK n0 φ H lam fr w d v u := by
  cases v <;> first | exact h | exact h.elim

/-- from the function's beginning (0) to now -/
structure Inv (φ0 : List LI) (H0 : Hp) (w0 : World) (φ : List LI) (H : Hp) (lam : Nat → Nat) (fr : List FV) (tmps : Array Value) (w : World) : Prop where
  pre : φ0 <+: φ
  rep : RepH φ H w
  keeps : Keeps (ownB φ0 H0) w0 w
  own : ∀ b, ownB φ H b → ownB φ0 H0 b ∨ w0.heap.size ≤ b
  row : ∀ b, rowB φ H b → rowB φ0 H0 b ∨ w0.heap.size ≤ b
  size : fr.length = tmps.size
  slot : ∀ (d : Nat) (v : FV), fr[d]? = some v → FOK w0.heap.size φ H lam fr w d v (tmps.getD d undef)
  apart : ∀ (s s' : Nat) (cs cs' : List GV), fr[s]? = some (.bx cs) → fr[s']? = some (.bx cs') → s ≠ s' → lam s ≠ lam s'

variable {φ0 : List LI} {H0 : Hp} {w0 : World} {φ : List LI} {H : Hp} {lam : Nat → Nat} {fr : List FV} {tmps : Array Value} {w : World}

theorem Inv.boxLt (I : Inv φ0 H0 w0 φ H lam fr tmps w) {b : Nat} (hb : boxB fr lam b) : b < w.heap.size ∧ w0.heap.size ≤ b ∧ ¬ rowB φ H b := by
  obtain ⟨s, cs, hs, rfl⟩ := hb
  obtain ⟨_, h1, h2, c, t, hc, _⟩ := I.slot s _ hs
  exact ⟨(Array.getElem?_eq_some_iff.1 hc).1, h1, h2⟩

theorem getD_of {fr : List FV} {d : Nat} {v : FV} (h : fr.getD d .bad = v) (hv : v ≠ .bad) : fr[d]? = some v := by
  rw [List.getD_eq_getElem?_getD] at h
  cases hx : fr[d]? with
  | none => rw [hx] at h; exact (hv h.symm).elim
  | some x => rw [hx] at h; simpa using h

theorem isSome_lt {α : Type} {l : List α} {d : Nat} {v : α} (h : l[d]? = some v) : d < l.length := by
  rcases Nat.lt_or_ge d l.length with h1 | h1
  · exact h1
  · simp [List.getElem?_eq_none h1] at h

theorem Inv.at (I : Inv φ0 H0 w0 φ H lam fr tmps w) (t : Nat) : VOK w0.heap.size φ H lam fr w (atFr fr t) (tmps.getD t undef) := by
  unfold atFr
  cases hx : fr[t]? with
  | none =>
    rw [List.getD_eq_getElem?_getD, hx]
    simp [VOK]
  | some v =>
    have hs := I.slot t v hx
    rw [List.getD_eq_getElem?_getD, hx]
    simp only [Option.getD_some]
    cases v with
    | bx cs => exact hs.1
    | _ => exact hs

theorem ofValue_ok (n0 : Nat) (φ : List LI) (H : Hp) (lam : Nat → Nat) (fr : List FV) (w : World) (v : Value) : VOK n0 φ H lam fr w (ofValue v) v := by
  unfold ofValue
  split <;> simp [VOK, GV.is]

theorem Inv.ev (I : Inv φ0 H0 w0 φ H lam fr tmps w) (df : List Deferred) (x : Operand) : VOK w0.heap.size φ H lam fr w (Am.ev fr x) (Act.eval ⟨tmps, df⟩ x) := by
  cases x with
  | tmp t => exact I.at t
  | const v => exact ofValue_ok _ _ _ _ _ _ v
  | global g => simp [Am.ev, VOK]
  | func f => simp only [Am.ev, VOK, Act.eval, GV.is]; exact ⟨[], by simp, .nil⟩

/-- what is known of a value, in a state that has gone on -/
theorem VOK.step {n0 : Nat} {φ' : List LI} {H' : Hp} {lam' : Nat → Nat} {fr' : List FV} {w' : World} {v : FV} {u : Value} (hp : φ <+: φ')
    (hlp : ∀ s o, v = .lp s o → lam' s = lam s) (hbs : ∀ b, n0 ≤ b → b < w.heap.size → ¬ ownB φ H b → ¬ boxB fr lam b → w'.heap[b]? = w.heap[b]? ∧ ¬ ownB φ' H' b ∧ ¬ boxB fr' lam' b)
    (h : VOK n0 φ H lam fr w v u) : VOK n0 φ' H' lam' fr' w' v u := by
  cases v with
  | g v => exact GV.is.mono hp h
  | agg cs => obtain ⟨us, h1, h2⟩ := h; exact ⟨us, h1, Is2.mono hp h2⟩
  | tup vs => obtain ⟨us, h1, h2⟩ := h; exact ⟨us, h1, h2.imp fun _ _ => RV.is.mono hp⟩
  | lp s o =>
    have h' : u = .pointer (some ⟨lam s, o, none⟩) := h
    show u = .pointer (some ⟨lam' s, o, none⟩)
    rw [hlp s o rfl]; exact h'
  | bs cs n z =>
    obtain ⟨b, c, t, fz, h1, h2, h3, h4, h6, h7, h8⟩ := h
    obtain ⟨k1, k2, k3⟩ := hbs b h2 (Array.getElem?_eq_some_iff.1 h3).1 h7 h8
    exact ⟨b, c, t, fz, h1, h2, by rw [k1]; exact h3, Is2.mono hp h4, h6, k2, k3⟩
  | bx cs => exact h.elim
  | bad => trivial
  | und => exact h

/-- the rows, the world go on; the frame stays -/
theorem Inv.go (I : Inv φ0 H0 w0 φ H lam fr tmps w) {φ' : List LI} {H' : Hp} {w' : World} (hp : φ <+: φ') (hr : RepH φ' H' w') (hk : Keeps (ownB φ H) w w')
    (ho : ∀ b, ownB φ' H' b → ownB φ H b ∨ w.heap.size ≤ b) (hrow : ∀ b, rowB φ' H' b → rowB φ H b ∨ (w0.heap.size ≤ b ∧ ¬ boxB fr lam b)) : Inv φ0 H0 w0 φ' H' lam fr tmps w' where
  pre := I.pre.trans hp
  rep := hr
  keeps := I.keeps.trans hk I.own
  own b hb := by
    rcases ho b hb with h1 | h1
    · exact I.own b h1
    · exact .inr (Nat.le_trans I.keeps.size h1)
  row b hb := by
    rcases hrow b hb with h1 | h1
    · exact I.row b h1
    · exact .inr h1.1
  size := I.size
  slot d v hd := by
    have hs := I.slot d v hd
    cases v with
    | bx cs =>
      obtain ⟨h1, h2, h3, c, t, h4, h5⟩ := hs
      have hlt := (Array.getElem?_eq_some_iff.1 h4).1
      refine ⟨h1, h2, fun h => ?_, c, t, ?_, Is2.mono hp h5⟩
      · rcases hrow _ h with q | q
        · exact h3 q
        · exact q.2 ⟨d, cs, hd, rfl⟩
      · rw [hk.block _ hlt (fun q => h3 q.row)]; exact h4
    | _ =>
      refine FOK.of (VOK.step hp (fun _ _ _ => rfl) (fun b hb hlt h1 h2 => ⟨hk.block b hlt h1, fun q => ?_, h2⟩) hs)
      rcases ho b q with r | r
      · exact h1 r
      · omega
  apart := I.apart

theorem Inv.back (I : Inv φ0 H0 w0 φ H lam fr tmps w) {φ' : List LI} {H' : Hp} {w' : World} (B : Back φ H w φ' H' w') : Inv φ0 H0 w0 φ' H' lam fr tmps w' :=
  I.go B.pre B.rep B.keeps B.own fun b hb => by
    rcases B.row b hb with h | h
    · exact .inl h
    · exact .inr ⟨Nat.le_trans I.keeps.size h, fun q => by have := (I.boxLt q).1; omega⟩

theorem boxB_set {d : Nat} {v : FV} (hv : ∀ cs, v ≠ .bx cs) {b : Nat} : boxB (fr.set d v) lam b → boxB fr lam b := by
  intro ⟨s, cs, hs, hb⟩
  rcases set_get hs with ⟨_, e⟩ | ⟨_, q⟩
  · exact (hv _ e.symm).elim
  · exact ⟨s, cs, q, hb⟩

theorem getD_set_same' {tmps : Array Value} {d : Nat} {u : Value} (h : d < tmps.size) : (tmps.setIfInBounds d u).getD d undef = u := by simp [h]
theorem getD_set_other' {tmps : Array Value} {d d' : Nat} {u : Value} (h : d' ≠ d) : (tmps.setIfInBounds d u).getD d' undef = tmps.getD d' undef := by
  simp [Array.getElem?_setIfInBounds, Ne.symm h]

/-- a value into a temporary -/
theorem Inv.put (I : Inv φ0 H0 w0 φ H lam fr tmps w) {d : Nat} {v : FV} {u : Value} (hv : VOK w0.heap.size φ H lam fr w v u) : Inv φ0 H0 w0 φ H lam (fr.set d v) (tmps.setIfInBounds d u) w where
  pre := I.pre
  rep := I.rep
  keeps := I.keeps
  own := I.own
  row := I.row
  size := by simp [I.size]
  slot d' v' hd' := by
    have hnb : ∀ cs, v ≠ .bx cs := fun cs e => by subst e; exact hv
    have key : ∀ v u, VOK w0.heap.size φ H lam fr w v u → VOK w0.heap.size φ H lam (fr.set d _) w v u := fun v u h =>
      VOK.step (List.prefix_refl _) (fun _ _ _ => rfl) (fun b _ _ h1 h2 => ⟨rfl, h1, fun q => h2 (boxB_set hnb q)⟩) h
    have hlt := isSome_lt hd'
    rcases set_get hd' with ⟨rfl, e⟩ | ⟨hne, q⟩
    · subst e
      rw [getD_set_same' (by rw [← I.size]; simpa using hlt)]
      exact FOK.of (key _ _ hv)
    · rw [getD_set_other' hne]
      have hs := I.slot d' v' q
      cases v' with
      | bx cs => exact hs
      | _ => exact FOK.of (key _ _ hs)
  apart s s' cs cs' hs hs' hne := by
    have hnb : ∀ cs, v ≠ .bx cs := fun cs e => by subst e; exact hv
    rcases set_get hs with ⟨_, e⟩ | ⟨_, q⟩
    · exact (hnb _ e.symm).elim
    rcases set_get hs' with ⟨_, e⟩ | ⟨_, q'⟩
    · exact (hnb _ e.symm).elim
    exact I.apart s s' cs cs' q q' hne

/-- a temporary forgotten -/
theorem Inv.forget (I : Inv φ0 H0 w0 φ H lam fr tmps w) (d : Nat) : Inv φ0 H0 w0 φ H lam (fr.set d .bad) tmps w where
  pre := I.pre
  rep := I.rep
  keeps := I.keeps
  own := I.own
  row := I.row
  size := by simp [I.size]
  slot d' v' hd' := by
    have key : ∀ v u, VOK w0.heap.size φ H lam fr w v u → VOK w0.heap.size φ H lam (fr.set d .bad) w v u := fun v u h =>
      VOK.step (List.prefix_refl _) (fun _ _ _ => rfl) (fun b _ _ h1 h2 => ⟨rfl, h1, fun q => h2 (boxB_set (fun cs e => by cases e) q)⟩) h
    rcases set_get hd' with ⟨rfl, e⟩ | ⟨_, q⟩
    · subst e; trivial
    · have hs := I.slot d' v' q
      cases v' with
      | bx cs => exact hs
      | _ => exact FOK.of (key _ _ hs)
  apart s s' cs cs' hs hs' hne := by
    rcases set_get hs with ⟨_, e⟩ | ⟨_, q⟩
    · cases e
    rcases set_get hs' with ⟨_, e⟩ | ⟨_, q'⟩
    · cases e
    exact I.apart s s' cs cs' q q' hne

theorem noLp_get {s : Nat} : ∀ {fr : List FV}, noLp s fr = true → ∀ (d o : Nat), fr[d]? ≠ some (.lp s o)
  | [], _, d, o, h => by simp at h
  | x :: xs, hn, d, o, h => by
    unfold noLp at hn
    split at hn
    · simp at hn
    · rename_i hx
      cases d with
      | zero => simp at h; subst h; simp [FV.isLp] at hx
      | succ d => simp at h; exact noLp_get hn d o h

/-- a new box -/
theorem Inv.box (I : Inv φ0 H0 w0 φ H lam fr tmps w) {d : Nat} {cs : List GV} {c : Array Value} {t : TypeId} (hn : noLp d fr = true) (hd : d < fr.length) (hcs : Is2 φ cs c.toList) :
    Inv φ0 H0 w0 φ H (fun s => if s = d then w.heap.size else lam s) (fr.set d (.bx cs)) (tmps.setIfInBounds d (.pointer (some ⟨w.heap.size, 0, none⟩))) (w.alloc (.cells c t)) := by
  have hk : Keeps (ownB φ H) w (w.alloc (.cells c t)) := keeps_alloc _ _ _
  have I1 : Inv φ0 H0 w0 φ H lam fr tmps (w.alloc (.cells c t)) := I.go (List.prefix_refl _)
    ⟨I.rep.len, fun l own t' cs' hl => by obtain ⟨i, hi, hr⟩ := I.rep.row l own t' cs' hl; exact ⟨i, hi, hr.keep (heap_alloc_old w _ _ (I.rep.blockLt ⟨l, own, t', cs', i, hl, hi, rfl⟩)) hk.size⟩, I.rep.apart⟩ hk (fun _ h => .inl h) (fun _ h => .inl h)
  have hbox : ∀ b, boxB (fr.set d (.bx cs)) (fun s => if s = d then w.heap.size else lam s) b → boxB fr lam b ∨ b = w.heap.size := by
    intro b ⟨s, cs', hs, hb⟩
    rcases set_get hs with ⟨rfl, e⟩ | ⟨hne, q⟩
    · right; simpa using hb.symm
    · left; exact ⟨s, cs', q, by simpa [hne] using hb⟩
  have hrowlt : ∀ b, rowB φ H b → b < w.heap.size := fun b h => I.rep.blockLt h
  refine ⟨I1.pre, I1.rep, I1.keeps, I1.own, I1.row, by simp [I.size], ?_, ?_⟩
  · intro d' v' hd'
    rcases set_get hd' with ⟨rfl, e⟩ | ⟨hne, q⟩
    · subst e
      rw [getD_set_same' (by rw [← I.size]; exact hd)]
      refine ⟨by simp, by simpa using I.keeps.size, fun h => by have := hrowlt _ h; simp at this, c, t, ?_, hcs⟩
      simpa using heap_alloc_new w (.cells c t)
    · rw [getD_set_other' hne]
      have hs := I1.slot d' v' q
      have hs0 := I.slot d' v' q
      cases v' with
      | bx cs' =>
        obtain ⟨h1, h2, h3, c', t', h4, h5⟩ := hs
        exact ⟨by simpa [hne] using h1, by simpa [hne] using h2, by simpa [hne] using h3, c', t', by simpa [hne] using h4, h5⟩
      | _ =>
        refine FOK.of (VOK.step (w := w) (fr := fr) (lam := lam) (H := H) (List.prefix_refl _) (fun s o e => ?_) (fun b hb hlt h1 h2 => ⟨heap_alloc_old w _ b hlt, h1, fun h => ?_⟩) hs0)
        · have : s ≠ d := fun e' => by subst e'; rw [e] at q; exact noLp_get hn d' o q
          simp [this]
        · rcases hbox b h with r | r
          · exact h2 r
          · omega
  · intro s s' cs1 cs2 hs hs' hne
    rcases set_get hs with ⟨rfl, e⟩ | ⟨n1, q⟩ <;> rcases set_get hs' with ⟨rfl, e'⟩ | ⟨n2, q'⟩
    · exact (hne rfl).elim
    · have := (I.boxLt ⟨s', cs2, q', rfl⟩).1; simp [n2]; omega
    · have := (I.boxLt ⟨s, cs1, q, rfl⟩).1; simp [n1]; omega
    · simp [n1, n2]; exact I.apart s s' cs1 cs2 q q' hne

/-- a box written -/
theorem Inv.boxTurn (I : Inv φ0 H0 w0 φ H lam fr tmps w) {s : Nat} {cs cs' : List GV} {c : Array Value} {t : TypeId} {w' : World} (hs : fr[s]? = some (.bx cs))
    (hk : Keeps (fun b => b = lam s) w w') (hb : w'.heap[lam s]? = some (.cells c t (0, 0))) (hcs : Is2 φ cs' c.toList) : Inv φ0 H0 w0 φ H lam (fr.set s (.bx cs')) tmps w' := by
  obtain ⟨h1, h2, h3, c0, t0, h4, h5⟩ := I.slot s _ hs
  have hlt := (Array.getElem?_eq_some_iff.1 h4).1
  have hbox : ∀ b, boxB (fr.set s (.bx cs')) lam b → boxB fr lam b := by
    intro b ⟨s', cs1, hs', hb'⟩
    rcases set_get hs' with ⟨rfl, e⟩ | ⟨_, q⟩
    · exact ⟨s', cs, hs, hb'⟩
    · exact ⟨s', cs1, q, hb'⟩
  refine ⟨I.pre, ⟨I.rep.len, fun l own t' cs1 hl => ?_, I.rep.apart⟩, ?_, I.own, I.row, by simp [I.size], ?_, ?_⟩
  · obtain ⟨i, hi, hr⟩ := I.rep.row l own t' cs1 hl
    have hrb : rowB φ H i.b := ⟨l, own, t', cs1, i, hl, hi, rfl⟩
    exact ⟨i, hi, hr.keep (hk.block _ (I.rep.blockLt hrb) (fun e => h3 (e ▸ hrb))) hk.size⟩
  · exact I.keeps.trans hk (fun b hb => .inr (hb ▸ h2))
  · intro d v hd
    rcases set_get hd with ⟨rfl, e⟩ | ⟨hne, q⟩
    · subst e; exact ⟨h1, h2, h3, c, t, hb, hcs⟩
    · have hsd := I.slot d v q
      cases v with
      | bx cs1 =>
        obtain ⟨k1, k2, k3, c1, t1, k4, k5⟩ := hsd
        exact ⟨k1, k2, k3, c1, t1, by rw [hk.block _ (Array.getElem?_eq_some_iff.1 k4).1 (fun e => I.apart d s cs1 cs q hs hne e)]; exact k4, k5⟩
      | _ => exact FOK.of (VOK.step (List.prefix_refl _) (fun _ _ _ => rfl) (fun b _ hlt' g1 g2 => ⟨hk.block b hlt' (fun e => g2 ⟨s, cs, hs, e.symm⟩), g1, fun h => g2 (hbox b h)⟩) hsd)
  · intro s1 s2 cs1 cs2 hs1 hs2 hne
    have o : ∀ {s' : Nat} {cs1 : List GV}, (fr.set s (.bx cs'))[s']? = some (.bx cs1) → ∃ cs, fr[s']? = some (.bx cs) := by
      intro s' cs1 hs'
      rcases set_get hs' with ⟨rfl, e⟩ | ⟨_, q⟩
      · exact ⟨cs, hs⟩
      · exact ⟨cs1, q⟩
    obtain ⟨_, q1⟩ := o hs1
    obtain ⟨_, q2⟩ := o hs2
    exact I.apart s1 s2 _ _ q1 q2 hne

end Go.Am
