import Derived.Test.YtmjnenpllddhfaaAmF
set_option linter.unusedVariables false
set_option linter.unusedSimpArgs false
namespace Go.Am

section
variable {E E' : Operand → FV}
theorem argsK_congr : ∀ {xs : List Operand}, (∀ x ∈ xs, E' x = E x) → ∀ (H : Hp) (K : List FV → Hp → Prop), argsK E' xs H K = argsK E xs H K
  | [], _, H, K => rfl
  | x :: xs, h, H, K => by
    have hx := h x (by simp)
    have ih := argsK_congr (xs := xs) (fun y hy => h y (by simp [hy]))
    simp only [argsK, hx, ih]
theorem bldK_congr {cx : Cx} {t : Nat} : ∀ {ps : List (Nat × Operand)}, (∀ x ∈ ps.map (·.2), E' x = E x) → ∀ (zs : List GV) (K : List GV → Prop), bldK cx E' t zs ps K = bldK cx E t zs ps K
  | [], _, zs, K => rfl
  | (i, x) :: ps, h, zs, K => by
    have hx := h x (by simp)
    have ih := bldK_congr (cx := cx) (t := t) (ps := ps) (fun y hy => h y (by simp at hy ⊢; exact .inr hy))
    simp only [bldK, hx, ih]
theorem blsK_congr {z : Nat} : ∀ {ps : List (Nat × Operand)}, (∀ x ∈ ps.map (·.2), E' x = E x) → ∀ (zs : List GV) (K : List GV → Prop), blsK E' z zs ps K = blsK E z zs ps K
  | [], _, zs, K => rfl
  | (i, x) :: ps, h, zs, K => by
    have hx := h x (by simp)
    have ih := blsK_congr (z := z) (ps := ps) (fun y hy => h y (by simp at hy ⊢; exact .inr hy))
    simp only [blsK, hx, ih]
theorem capsK_congr : ∀ {xs : List Operand}, (∀ x ∈ xs, E' x = E x) → ∀ (K : List (Nat × Nat) → Prop), capsK E' xs K = capsK E xs K
  | [], _, K => rfl
  | x :: xs, h, K => by
    have hx := h x (by simp)
    have ih := capsK_congr (xs := xs) (fun y hy => h y (by simp [hy]))
    simp only [capsK, hx, ih]
theorem bndK_congr {x : Option Operand} {d : Nat} (h : ∀ y, x = some y → E' y = E y) (K : Nat → Prop) : bndK E' x d K = bndK E x d K := by
  cases x with
  | none => rfl
  | some x => simp only [bndK, h x rfl]
theorem evT_congr {cx : Cx} {t : Nat} {x : Operand} (h : E' x = E x) : evT cx t E' x = evT cx t E x := by
  unfold evT; split
  · rfl
  · exact h

theorem opE_congr {cx : Cx} {o : Oper} {B B' : Nat → FV} (H : Hp) (K : FV → Hp → Prop) (h : ∀ x ∈ o.op.operands, E' x = E x) (hB : ∀ t a s p, o.op = .load t a → E a = .lp s p → B' s = B s) : opE cx o E' B' H K = opE cx o E B H K := by
  unfold opE
  cases ho : o.op <;> rw [ho] at h <;> simp only [Op.operands] at h <;> dsimp only
  case move x => rw [evT_congr (h x (by simp))]
  case assign x => rw [evT_congr (h x (by simp))]
  case pick c a b => rw [h c (by simp), h a (by simp), h b (by simp)]
  case build t ps =>
    have := bldK_congr (cx := cx) (t := t) (ps := ps.toList) (E := E) (E' := E') (fun x hx => h x (by simpa using hx))
    simp only [this]
  case buildSlice t n ps =>
    have := fun z => blsK_congr (z := z) (ps := ps.toList) (E := E) (E' := E') (fun x hx => h x (by simpa using hx))
    simp only [this]
  case load t a =>
    have ha := h a (by simp)
    rw [ha]
    congr 1
    cases he : E a with
    | lp s p => simp only [loadK, hB t a s p ho he]
    | g v => cases v <;> first | rfl | (rename_i q; cases q <;> rfl)
    | _ => rfl
  case nilCheck x => rw [h x (by simp)]
  case binOp op t x y yt => rw [h x (by simp), h y (by simp)]
  case unOp op t x => rw [h x (by simp)]
  case convert s d x => rw [h x (by simp)]
  case makeInterface t x => rw [h x (by simp)]
  case makeFunc fn first caps =>
    have := capsK_congr (xs := caps.toList) (E := E) (E' := E') (fun x hx => h x (by simp; right; simpa using hx))
    simp only [this]
  case makeSlice t l c => rw [h l (by simp), h c (by simp)]
  case slice t x lo hi mx =>
    have hx := h x (by simp)
    have h1 := fun d => bndK_congr (x := lo) (d := d) (E := E) (E' := E') (fun y e => h y (by simp [e]))
    have h2 := fun d => bndK_congr (x := hi) (d := d) (E := E) (E' := E') (fun y e => h y (by simp [e]))
    rw [hx]
    cases mx with
    | some m =>
      have h3 := fun d => bndK_congr (x := some m) (d := d) (E := E) (E' := E') (fun y e => h y (by cases e; simp))
      cases hi with
      | none => cases E x <;> first | rfl | (rename_i g; cases g <;> rfl)
      | some y =>
        cases E x with
        | g g => cases g with
          | sl a n z => simp only [slice3K, h1, h2, h3]
          | _ => rfl
        | _ => rfl
    | none => simp only [sliceK, h1, h2]
  case fieldAddr t x f => rw [h x (by simp)]
  case field t x f => rw [h x (by simp)]
  case indexAddr t x i => rw [h x (by simp), h i (by simp)]
  case index t x i => rw [h x (by simp), h i (by simp)]
  case extract x i => rw [h x (by simp)]
  case call c =>
    simp only [Call.operands] at h
    have hargs : ∀ x ∈ c.args.toList, E' x = E x := fun x hx => h x (by simp; right; simpa using hx)
    have h1 := argsK_congr (xs := c.args.toList) (E := E) (E' := E') hargs
    cases hc : c.callee with
    | value f =>
      rw [hc] at h
      have hf := h f (by simp)
      cases f <;> dsimp only <;> simp only [h1, hf]
    | builtin b =>
      dsimp only
      split
      · rename_i x ha
        rw [hargs x (by rw [ha]; simp)]
      · rename_i x ha
        rw [hargs x (by rw [ha]; simp)]
      · rename_i x y ha
        rw [hargs x (by rw [ha]; simp), hargs y (by rw [ha]; simp)]
      · rename_i x y ha
        rw [hargs x (by rw [ha]; simp), hargs y (by rw [ha]; simp)]
      · rename_i x y ha
        rw [hargs x (by rw [ha]; simp), hargs y (by rw [ha]; simp)]
      · rfl
    | invoke r n => rfl

/-- what does not read the heap is the same in another -/
theorem opE_heap {cx : Cx} {o : Oper} {B : Nat → FV} {H H' : Hp} {v : FV} (he : isEff cx o = false) (hr : readsH o E = false) (h : ∀ K : FV → Hp → Prop, K v H → opE cx o E B H K) : ∀ K : FV → Hp → Prop, K v H' → opE cx o E B H' K := by
  intro K hK
  have h1 := h (fun v' h' => v' = v ∧ h' = H) ⟨rfl, rfl⟩
  obtain ⟨v2, ⟨rfl, _⟩, _⟩ := opE_det he h1
  have h2 := h (fun v' h' => v' = v2) rfl
  have h3 : opE cx o E B H' (fun v' h' => v' = v2) := by
    unfold opE at h2 ⊢
    unfold readsH at hr
    unfold isEff at he
    cases ho : o.op with
    | buildSlice t n ps =>
      rw [ho] at h2 he; dsimp only at h2 he ⊢
      simp only [he] at h2 ⊢; exact h2
    | load t a =>
      rw [ho] at h2 hr; dsimp only at h2 hr ⊢
      cases hx : E a with
      | g v => rw [hx] at hr; cases hr
      | _ => rw [hx] at h2; exact h2
    | convert s d x =>
      rw [ho] at h2 hr he; dsimp only at h2 hr he ⊢
      have hk : (cx.ty d).k ≠ 1 := fun e => by rw [e] at he; cases he
      unfold convK at h2 ⊢
      rw [ck_iff, ck_iff] at h2 ⊢
      refine ⟨h2.1, h2.2.1, ?_⟩
      have h3 := h2.2.2
      split at h3
      · exact h3
      · exact h3
      · rename_i e1 e2; rw [e2] at hr; cases hr
      · exact h3
      · rename_i e1 e2; exact (hk e1).elim
      · exact h3.elim
    | slice t x lo hi mx =>
      rw [ho] at h2 hr; dsimp only at h2 ⊢
      cases mx with
      | some m =>
        cases hi with
        | none =>
          dsimp only at h2
          cases hx : E x with
          | g g => rw [hx] at h2; cases g <;> exact h2.elim
          | _ => rw [hx] at h2; exact h2.elim
        | some y =>
          dsimp only at hr
          cases hx : E x with
          | g g =>
            rw [hx] at h2 hr
            cases g <;> first | exact h2.elim | cases hr
          | _ => rw [hx] at h2; exact h2.elim
      | none =>
        cases hi with
        | none => exact h2
        | some y =>
          dsimp only at hr
          cases hx : E x with
          | g g =>
            rw [hx] at h2 hr
            cases g <;> first | exact h2 | cases hr
          | _ => rw [hx] at h2; exact h2
    | call c =>
      rw [ho] at h2 he; dsimp only at h2 he ⊢
      cases hc : c.callee with
      | value f => rw [hc] at he; cases he
      | invoke r n => rw [hc] at he; cases he
      | builtin b =>
        rw [hc] at h2 he
        rcases hl : c.args.toList with _ | ⟨x, _ | ⟨y, _ | ⟨z, l⟩⟩⟩ <;> rw [hl] at h2 <;> cases b <;> first | exact h2 | (cases he; done) | exact h2.elim
    | makeSlice t l c => rw [ho] at he; cases he
    | _ => rw [ho] at h2; exact h2
  obtain ⟨v3, rfl, h4⟩ := opE_det (K := fun v' _ => v' = v2) (by exact he) h3
  exact h4 K hK
end

end Go.Am
