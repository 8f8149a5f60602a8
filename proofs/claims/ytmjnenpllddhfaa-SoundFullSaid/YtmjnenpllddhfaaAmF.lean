import Derived.Test.YtmjnenpllddhfaaAmE
set_option linter.unusedVariables false
set_option linter.unusedSimpArgs false
namespace Go.Am

theorem convK_det {cx : Cx} {s d : Nat} {x : FV} {H : Hp} {K : FV → Hp → Prop} (hk : Nat.beq (cx.ty d).k 1 = false) (h : convK cx s d x H K) : ∃ v, K v H ∧ ∀ K' : FV → Hp → Prop, K' v H → convK cx s d x H K' := by
  unfold convK at h
  rw [ck_iff, ck_iff] at h
  obtain ⟨b1, b2, h⟩ := h
  have key : ∀ {K' : FV → Hp → Prop}, _ → convK cx s d x H K' := fun {K'} q => ck_iff.2 ⟨b1, ck_iff.2 ⟨b2, q⟩⟩
  split at h
  · rename_i e1 e2
    obtain ⟨b, h⟩ := ck_iff.1 h
    exact ⟨_, h, fun K' hK => key (by rw [e1, e2]; exact ck_iff.2 ⟨b, hK⟩)⟩
  · rename_i e1
    exact ⟨_, h, fun K' hK => key (by rw [e1]; exact hK)⟩
  · rename_i e1
    obtain ⟨b3, h⟩ := ck_iff.1 h
    obtain ⟨b4, h⟩ := ck_iff.1 h
    unfold rdN at h
    split at h
    · rename_i cs hc
      obtain ⟨bs, h, o⟩ := bytesK_det h
      refine ⟨_, h, fun K' hK => key ?_⟩
      rw [e1]
      refine ck_iff.2 ⟨b3, ck_iff.2 ⟨b4, ?_⟩⟩
      unfold rdN; rw [hc]; exact o (fun s => K' (.g (.str (mkS s))) H) hK
    · exact h.elim
  · rename_i e1
    obtain ⟨b3, h⟩ := ck_iff.1 h
    obtain ⟨b4, h⟩ := ck_iff.1 h
    obtain ⟨b5, h⟩ := ck_iff.1 h
    obtain ⟨bs, h, o⟩ := bytesK_det h
    refine ⟨_, h, fun K' hK => key ?_⟩
    rw [e1]
    exact ck_iff.2 ⟨b3, ck_iff.2 ⟨b4, ck_iff.2 ⟨b5, o (fun s => K' (.g (.str (mkS s))) H) hK⟩⟩⟩
  · rename_i e1
    rw [e1] at hk; cases hk
  · exact h.elim

theorem opE_det {cx : Cx} {o : Oper} {E : Operand → FV} {B : Nat → FV} {H : Hp} {K : FV → Hp → Prop} (he : isEff cx o = false) (h : opE cx o E B H K) : ∃ v, K v H ∧ ∀ K' : FV → Hp → Prop, K' v H → opE cx o E B H K' := by
  have key : ∀ {K' : FV → Hp → Prop} {X : Prop}, X → X = opE cx o E B H K' → opE cx o E B H K' := fun hX e => e ▸ hX
  unfold opE at h
  unfold isEff at he
  cases ho : o.op with
  | move x => rw [ho] at h; exact ⟨_, h, fun K' hK => by unfold opE; rw [ho]; exact hK⟩
  | assign x => rw [ho] at h; exact ⟨_, h, fun K' hK => by unfold opE; rw [ho]; exact hK⟩
  | pick c a b =>
    rw [ho] at h; dsimp only at h
    split at h
    · rename_i t e
      cases t with
      | true => exact ⟨_, h, fun K' hK => by unfold opE; rw [ho]; dsimp only; rw [e]; exact hK⟩
      | false => exact ⟨_, h, fun K' hK => by unfold opE; rw [ho]; dsimp only; rw [e]; exact hK⟩
    · exact h.elim
  | build t ps =>
    rw [ho] at h
    obtain ⟨b1, h⟩ := ck_iff.1 h
    obtain ⟨b2, h⟩ := ck_iff.1 h
    obtain ⟨b3, h⟩ := ck_iff.1 h
    obtain ⟨v, h1, h2⟩ := bldK_det h
    exact ⟨_, h1, fun K' hK => by unfold opE; rw [ho]; exact ck_iff.2 ⟨b1, ck_iff.2 ⟨b2, ck_iff.2 ⟨b3, h2 (fun cs => K' (.agg cs) H) hK⟩⟩⟩⟩
  | buildSlice t n ps =>
    rw [ho] at h he
    have he : cx.isEsc o.dst = false := he
    obtain ⟨b1, h⟩ := ck_iff.1 h
    obtain ⟨b2, h⟩ := ck_iff.1 h
    obtain ⟨b3, h⟩ := ck_iff.1 h
    obtain ⟨v, h1, h2⟩ := blsK_det h
    rw [he] at h1
    refine ⟨_, h1, fun K' hK => ?_⟩
    unfold opE; rw [ho]
    exact ck_iff.2 ⟨b1, ck_iff.2 ⟨b2, ck_iff.2 ⟨b3, h2 _ (by rw [he]; exact hK)⟩⟩⟩
  | load t a =>
    rw [ho] at h
    obtain ⟨b1, h⟩ := ck_iff.1 h
    obtain ⟨v, h1, h2⟩ := loadK_det h
    exact ⟨_, h1, fun K' hK => by unfold opE; rw [ho]; exact ck_iff.2 ⟨b1, h2 (fun v => K' v H) hK⟩⟩
  | nilCheck x =>
    rw [ho] at h; dsimp only at h
    split at h
    · rename_i s p e
      exact ⟨_, h, fun K' hK => by unfold opE; rw [ho]; dsimp only; rw [e]; exact hK⟩
    · rename_i a e
      cases a with
      | none => exact h.elim
      | some p => exact ⟨_, h, fun K' hK => by unfold opE; rw [ho]; dsimp only; rw [e]; exact hK⟩
    · exact h.elim
  | binOp op t x y yt =>
    rw [ho] at h
    obtain ⟨v, h1, h2⟩ := binK_det h
    exact ⟨_, h1, fun K' hK => by unfold opE; rw [ho]; exact h2 (fun v => K' v H) hK⟩
  | unOp op t x =>
    rw [ho] at h
    obtain ⟨v, h1, h2⟩ := unK_det h
    exact ⟨_, h1, fun K' hK => by unfold opE; rw [ho]; exact h2 (fun v => K' v H) hK⟩
  | convert s d x =>
    rw [ho] at h he
    obtain ⟨v, h1, h2⟩ := convK_det he h
    exact ⟨_, h1, fun K' hK => by unfold opE; rw [ho]; exact h2 K' hK⟩
  | makeInterface t x =>
    rw [ho] at h
    obtain ⟨b1, h⟩ := ck_iff.1 h
    obtain ⟨b2, h⟩ := ck_iff.1 h
    split at h
    · rename_i v e
      exact ⟨_, h, fun K' hK => by unfold opE; rw [ho]; refine ck_iff.2 ⟨b1, ck_iff.2 ⟨b2, ?_⟩⟩; rw [e]; exact hK⟩
    · exact h.elim
  | makeFunc fn first caps =>
    rw [ho] at h; dsimp only at h
    split at h
    · rename_i f e
      obtain ⟨v, h1, h2⟩ := capsK_det h
      exact ⟨_, h1, fun K' hK => by unfold opE; rw [ho]; dsimp only; rw [e]; exact h2 (fun cs => K' (.g (.fn f cs)) H) hK⟩
    · exact h.elim
  | makeSlice t l c => rw [ho] at he; cases he
  | slice t x lo hi mx =>
    rw [ho] at h
    cases mx with
    | some m =>
      obtain ⟨v, h1, h2⟩ := slice3K_det h
      exact ⟨_, h1, fun K' hK => by unfold opE; rw [ho]; exact h2 (fun v => K' v H) hK⟩
    | none =>
      obtain ⟨v, h1, h2⟩ := sliceK_det h
      exact ⟨_, h1, fun K' hK => by unfold opE; rw [ho]; exact h2 (fun v => K' v H) hK⟩
  | fieldAddr t x f =>
    rw [ho] at h; dsimp only at h
    split at h
    · rename_i p e hf
      obtain ⟨b1, h⟩ := ck_iff.1 h
      obtain ⟨b2, h⟩ := ck_iff.1 h
      obtain ⟨b3, h⟩ := ck_iff.1 h
      obtain ⟨v, h1, h2⟩ := fldK_det h
      exact ⟨_, h1, fun K' hK => by unfold opE; rw [ho]; dsimp only; rw [hf]; exact ck_iff.2 ⟨b1, ck_iff.2 ⟨b2, ck_iff.2 ⟨b3, h2 (fun v => K' v H) hK⟩⟩⟩⟩
    · exact h.elim
  | field t x f =>
    rw [ho] at h; dsimp only at h
    split at h
    · rename_i p t' cs hf e
      obtain ⟨b1, h⟩ := ck_iff.1 h
      obtain ⟨b2, h⟩ := ck_iff.1 h
      obtain ⟨v, h1, h2⟩ := cutK_det h
      exact ⟨_, h1, fun K' hK => by unfold opE; rw [ho]; dsimp only; rw [hf, e]; exact ck_iff.2 ⟨b1, ck_iff.2 ⟨b2, h2 (fun v => K' v H) hK⟩⟩⟩
    · exact h.elim
  | indexAddr t x i =>
    rw [ho] at h
    obtain ⟨v, h1, h2⟩ := idxK_det h
    exact ⟨_, h1, fun K' hK => by unfold opE; rw [ho]; exact h2 (fun v => K' v H) hK⟩
  | index t x i =>
    rw [ho] at h; dsimp only at h
    split at h
    · rename_i s k j e1 e2
      obtain ⟨b1, h⟩ := ck_iff.1 h
      obtain ⟨b2, h⟩ := chk_iff.1 h
      exact ⟨_, h, fun K' hK => by unfold opE; rw [ho]; dsimp only; rw [e1, e2]; exact ck_iff.2 ⟨b1, chk_iff.2 ⟨b2, hK⟩⟩⟩
    · exact h.elim
  | extract x i =>
    rw [ho] at h; dsimp only at h
    split at h
    · rename_i vs e
      split at h
      · rename_i v hg
        exact ⟨_, h, fun K' hK => by unfold opE; rw [ho]; dsimp only; rw [e]; dsimp only; rw [hg]; exact hK⟩
      · rename_i cs hg
        exact ⟨_, h, fun K' hK => by unfold opE; rw [ho]; dsimp only; rw [e]; dsimp only; rw [hg]; exact hK⟩
      · exact h.elim
    · exact h.elim
  | call c =>
    rw [ho] at h he
    dsimp only at h he
    cases hc : c.callee with
    | value f => rw [hc] at he; cases he
    | invoke r n => rw [hc] at he; cases he
    | builtin b =>
      rw [hc] at h he
      dsimp only at h
      split at h
      · rename_i x ha
        split at h
        · rename_i t e
          obtain ⟨v, h1, h2⟩ := lenK_det h
          exact ⟨_, h1, fun K' hK => by unfold opE; rw [ho]; dsimp only; rw [hc]; dsimp only; rw [ha]; dsimp only; rw [e]; exact h2 (fun v => K' v H) hK⟩
        · exact h.elim
      · cases he
      · rename_i x y ha
        obtain ⟨v, h1, h2⟩ := min2K_det h
        exact ⟨_, h1, fun K' hK => by unfold opE; rw [ho]; dsimp only; rw [hc]; dsimp only; rw [ha]; exact h2 (fun v => K' v H) hK⟩
      · rename_i x y ha
        obtain ⟨v, h1, h2⟩ := min2K_det h
        exact ⟨_, h1, fun K' hK => by unfold opE; rw [ho]; dsimp only; rw [hc]; dsimp only; rw [ha]; exact h2 (fun v => K' v H) hK⟩
      · cases he
      · exact h.elim
  | _ => rw [ho] at h; exact h.elim

end Go.Am
