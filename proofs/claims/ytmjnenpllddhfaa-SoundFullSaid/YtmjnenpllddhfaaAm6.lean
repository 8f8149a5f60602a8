import Derived.Test.YtmjnenpllddhfaaAm5
set_option linter.unusedVariables false
set_option linter.unusedSimpArgs false
namespace Go.Am

section
variable {P : Program} {cx : Cx} {n0 : Nat} {φ : List LI} {H : Hp} {lam : Nat → Nat} {fr : List FV} {w : World}

theorem eqGuard_ok (op : BinOp) (t : TypeId) (x y : Operand) (a b : Value) (h1 : a ≠ .nilIface) (h2 : ∀ cs, a ≠ .agg cs) : (eqGuard op t x y a b).run P w = .ok () w := by
  cases a <;> first | exact (h1 rfl).elim | exact (h2 _ rfl).elim | simp [eqGuard]

theorem eq_ptr (d : Nat) {t e : TypeId} (hd : P.underlying t = some (.pointer e)) (p : Option Addr) : (Op.equalIn (d + 1) t (.pointer p) (.pointer none)).run P w = .ok p.isNone w := by
  cases p <;> simp [Op.equalIn, run_underlying hd]
theorem eq_sl (d : Nat) {t e : TypeId} (hd : P.underlying t = some (.slice e)) (p : Option Addr) (l c : Nat) : (Op.equalIn (d + 1) t (.slice p l c) (.slice none 0 0)).run P w = .ok p.isNone w := by
  cases p <;> simp [Op.equalIn, run_underlying hd]

theorem binK_ok (hT : TysOK P cx.tys) {t : TypeId} {op : BinOp} {x y : FV} {K : FV → Prop} {ox oy : Operand} {ux uy : Value} (h : binK cx t op x y K) (hx : VOK n0 φ H lam fr w x ux) (hy : VOK n0 φ H lam fr w y uy) :
    ∃ v u, K v ∧ (do eqGuard op t ox oy ux uy; binOp op t ux uy : Sem Value).run P w = .ok u w ∧ VOK n0 φ H lam fr w v u := by
  unfold binK at h
  split at h
  · rename_i k a k' b
    cases hx; cases hy
    have hg := eqGuard_ok (P := P) (w := w) op t ox oy (.int k a) (.int k' b) (by simp) (by simp)
    split at h
    · obtain ⟨h1, h⟩ := chk_iff.1 h
      have h1 := leI_iff.1 h1
      refine ⟨_, _, h, ?_, rfl⟩
      simp [hg, binOp, Op.shift, show ¬ b < 0 by omega, shlI]
    · obtain ⟨h1, h⟩ := chk_iff.1 h
      have h1 := leI_iff.1 h1
      refine ⟨_, _, h, ?_, rfl⟩
      simp [hg, binOp, Op.shift, show ¬ b < 0 by omega, shrI]
    · rename_i n1 n2
      split at h
      · rename_i e
        subst e
        have hb : ∀ {u : Value}, (binOp op t (.int k a) (.int k b)).run P w = .ok u w → (do eqGuard op t ox oy (.int k a) (.int k b); binOp op t (.int k a) (.int k b) : Sem Value).run P w = .ok u w := by
          intro u q; simp [hg, q]
        cases op <;> dsimp only at h <;> first
          | exact h.elim
          | (obtain ⟨h1, h⟩ := chk_iff.1 h
             have hne : b ≠ 0 := by simpa [eqI] using h1
             refine ⟨_, _, h, hb ?_, rfl⟩
             simp [binOp, Op.intDiv, hne, wrapI]; done)
          | (refine ⟨_, _, h, hb ?_, rfl⟩
             simp [binOp, Op.intArith, Op.intBits, Op.intCmp, wrapI, bitsI, eqI, ltI, leI, bne]; done)
          | (refine ⟨_, _, h, hb ?_, rfl⟩
             rfl)
      · exact h.elim
  · rename_i a b
    cases hx; cases hy
    have hg := eqGuard_ok (P := P) (w := w) op t ox oy (.string a) (.string b) (by simp) (by simp)
    cases op <;> first
      | exact h.elim
      | (refine ⟨_, _, h, ?_, rfl⟩
         simp [hg, binOp, Op.stringOp, strEq, strLt]; done)
      | (obtain ⟨h1, h⟩ := h
         refine ⟨_, _, h, ?_, rfl⟩
         simp [hg, binOp, Op.stringOp, IntKind.max, IntKind.bits, IntKind.signed]
         omega)
  · rename_i a b
    cases hx; cases hy
    have hg := eqGuard_ok (P := P) (w := w) op t ox oy (.bool a) (.bool b) (by simp) (by simp)
    obtain ⟨ht, h⟩ := ck_iff.1 h
    have hd : P.underlying t = some .bool := by
      have h0 : (cx.ty t).ok = true ∧ isLv (cx.ty t) .bool = true ∧ (cx.ty t).agg = false := by
        unfold TI.isBool at ht
        split at ht
        · rename_i e1 e2; simp [TI.ok, isLv, e1, e2]
        · cases ht
      obtain ⟨d, hd, hok⟩ := run_under hT h0.1
      rw [hd]
      have e := isLv_eq h0.2.1
      cases d <;> simp [descOK, isLv, e, h0.2.2, isSlLv] at hok ⊢
    cases op <;> first
      | exact h.elim
      | (refine ⟨_, _, h, ?_, rfl⟩
         simp [hg, binOp, run_equal_bool w t a b hd, eqB]; done)
  · rename_i a
    cases hy
    obtain ⟨ht, h⟩ := ck_iff.1 h
    have hd := desc_pointer hT ht
    have hux : ∃ p : Option Addr, ux = .pointer p ∧ p.isNone = isNone a := by
      cases a with
      | none => cases hx; exact ⟨none, rfl, rfl⟩
      | some q => obtain ⟨i, _, rfl⟩ := hx; exact ⟨_, rfl, rfl⟩
    obtain ⟨p, rfl, hp⟩ := hux
    have hg := eqGuard_ok (P := P) (w := w) op t ox oy (.pointer p) (.pointer none) (by simp) (by simp)
    have he : (Op.equal t (.pointer p) (.pointer none)).run P w = .ok (isNone a) w := by
      rw [← hp]
      exact eq_ptr 9999 hd p
    cases op <;> first
      | exact h.elim
      | (refine ⟨_, _, h, ?_, rfl⟩
         simp [hg, binOp, he]; done)
  · rename_i a n z n' z'
    obtain ⟨_, rfl⟩ := hy
    obtain ⟨ht, h⟩ := ck_iff.1 h
    have hd := desc_slice hT ht
    have hux : ∃ (p : Option Addr) (l c : Nat), ux = .slice p l c ∧ p.isNone = isNone a := by
      cases a with
      | none => obtain ⟨_, rfl⟩ := hx; exact ⟨none, 0, 0, rfl, rfl⟩
      | some q => obtain ⟨i, _⟩ := q; obtain ⟨_, _, _, _, rfl, _⟩ := hx; exact ⟨_, _, _, rfl, rfl⟩
    obtain ⟨p, l, c, rfl, hp⟩ := hux
    have hg := eqGuard_ok (P := P) (w := w) op t ox oy (.slice p l c) (.slice none 0 0) (by simp) (by simp)
    have he : (Op.equal t (.slice p l c) (.slice none 0 0)).run P w = .ok (isNone a) w := by
      rw [← hp]
      exact eq_sl 9999 hd p l c
    cases op <;> first
      | exact h.elim
      | (refine ⟨_, _, h, ?_, rfl⟩
         simp [hg, binOp, he]; done)
  · exact h.elim

theorem unK_ok {op : UnOp} {x : FV} {K : FV → Prop} {ux : Value} (h : unK op x K) (hx : VOK n0 φ H lam fr w x ux) : ∃ v u, K v ∧ (Op.unary op ux).run P w = .ok u w ∧ VOK n0 φ H lam fr w v u := by
  unfold unK at h
  split at h
  · cases hx; exact ⟨_, _, h, by simp [Op.unary], rfl⟩
  · cases hx; exact ⟨_, _, h, by simp [Op.unary, Op.intArith, wrapI], rfl⟩
  · cases hx; exact ⟨_, _, h, by simp [Op.unary, Op.intBits, bitsI], rfl⟩
  · exact h.elim

end
end Go.Am
