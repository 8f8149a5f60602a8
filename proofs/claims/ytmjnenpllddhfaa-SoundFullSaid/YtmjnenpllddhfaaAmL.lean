import Derived.Test.YtmjnenpllddhfaaAmK
set_option linter.unusedVariables false
set_option linter.unusedSimpArgs false
namespace Go.Am

/-! ## the table of types, checked -/
def zOne : LK → Value → Bool
  | .bool, .bool b => !b
  | .int k, .int k' n => decide (k = k') && decide (n = 0)
  | .str, .string ⟨⟨[]⟩⟩ => true
  | .ptr, .pointer none => true
  | .sl _, .slice none 0 0 => true
  | .map, .map none => true
  | .fn, .nilFunc => true
  | .iface, .nilIface => true
  | _, _ => false
def zEq : List LK → List Value → Bool
  | [], [] => true
  | k :: ks, v :: vs => match zOne k v with | true => zEq ks vs | false => false
  | _, _ => false
def tyChk (P : Program) (x : TI) (t : Nat) : Bool := match x.ok with
  | false => true
  | true => match P.info? t, P.underlying t with
    | some i, some d => Nat.beq i.size x.lv.length && (match i.zero with | some z => zEq x.lv z.cells.toList | none => false) && Nat.beq i.bytes x.by_ && descOK x d
    | _, _ => false
def tysChk (P : Program) : List TI → Nat → Bool
  | [], _ => true
  | x :: xs, t => match tyChk P x t with | true => tysChk P xs (t + 1) | false => false

theorem zOne_eq {k : LK} {v : Value} (h : zOne k v = true) : v = zV k := by
  unfold zOne at h
  split at h <;> simp_all [zV]
theorem zEq_eq : ∀ {ks : List LK} {vs : List Value}, zEq ks vs = true → vs = ks.map zV
  | [], [], _ => rfl
  | [], _ :: _, h => by simp [zEq] at h
  | _ :: _, [], h => by simp [zEq] at h
  | k :: ks, v :: vs, h => by
    unfold zEq at h
    split at h
    · rename_i e; rw [zOne_eq e, zEq_eq h]; rfl
    · cases h
theorem tyChk_ok {P : Program} {x : TI} {t : Nat} (h : tyChk P x t = true) : TyOK P x t := by
  intro hok
  unfold tyChk at h
  rw [hok] at h
  dsimp only at h
  split at h
  · rename_i i d hi hd
    simp only [Bool.and_eq_true] at h
    obtain ⟨⟨⟨h1, h2⟩, h3⟩, h4⟩ := h
    split at h2
    · rename_i z hz
      exact ⟨i, z, d, hi, beq_eq h1, hz, zEq_eq h2, beq_eq h3, hd, h4⟩
    · cases h2
  · cases h
theorem tysChk_ok {P : Program} : ∀ {xs : List TI} {t : Nat}, tysChk P xs t = true → ∀ j, TyOK P (xs.getD j default) (t + j)
  | [], t, _, j => by
    intro h
    simp [default, TI.ok] at h
    cases h
  | x :: xs, t, h, j => by
    unfold tysChk at h
    split at h
    · rename_i e
      cases j with
      | zero => exact tyChk_ok e
      | succ j =>
        have := tysChk_ok h j
        rw [show t + 1 + j = t + (j + 1) by omega] at this
        simpa using this
    · cases h
theorem tysOK {P : Program} {tys : List TI} (h : tysChk P tys 0 = true) : TysOK P tys := fun t => by
  have := tysChk_ok h t
  simpa using this

/-- a program, for which it is all shown once -/
structure ProgOK (P : Program) (tys : List TI) : Prop where
  tys : TysOK P tys
  mix : P.follows .mixedOrders = true

theorem ProgOK.sound {P : Program} {tys : List TI} (h : ProgOK P tys) {f : FuncId} {fn : Func} {cx : Cx} (ht : cx.tys = tys) (he : ∀ f s, cx.env.lookup f = some s → SoundC P f s) (hd : ∀ f, SoundC P f (cx.dyn f)) (hf : P.funcs[f]? = some fn) (hres : fn.results = cx.res.toArray) : Sound P f fun xs H Q => ∃ k, callK cx fn k xs H Q := by
  have hC : CxOK P cx := ⟨by rw [ht]; exact h.tys, he, hd⟩
  exact Sound.ex fun n => sound_of hC (drOK hC h.mix) hf hres n

theorem noDyn_ok (P : Program) (f : FuncId) : SoundC P f (noDyn f) := fun as H Q h => h.elim

/-- what a context's functions are -/
def EnvOK (P : Program) (l : List (Nat × Sm)) : Prop := ∀ f s, l.lookup f = some s → SoundC P f s
theorem EnvOK.nil (P : Program) : EnvOK P [] := fun f s h => by cases h
theorem EnvOK.cons {P : Program} {f : Nat} {s : Sm} {l : List (Nat × Sm)} (h : SoundC P f s) (hl : EnvOK P l) : EnvOK P ((f, s) :: l) := by
  intro f' s' h'
  rw [List.lookup_cons] at h'
  split at h'
  · rename_i e
    have e : f' = f := by simpa using e
    cases h'; subst e; exact h
  · exact hl f' s' h'
theorem dynOf_ok {P : Program} {l : List (Nat × Sm)} (h : EnvOK P l) (f : FuncId) : SoundC P f (dynOf l f) := by
  unfold dynOf
  split
  · rename_i s e; exact h f s e
  · exact fun as H Q h => h.elim

end Go.Am
