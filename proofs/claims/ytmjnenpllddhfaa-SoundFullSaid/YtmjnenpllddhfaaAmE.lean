import Derived.Test.YtmjnenpllddhfaaAmD
set_option linter.unusedVariables false
set_option linter.unusedSimpArgs false
namespace Go.Am
/-! regions whose order is open -/

/-- what is handed on is one value -/
def One {α : Type} (X : (α → Prop) → Prop) (v : α) : Prop := ∀ K : α → Prop, K v → X K

theorem ck_det {α : Type} {b : Bool} {X : (α → Prop) → Prop} {K : α → Prop} (hX : ∀ {K}, X K → ∃ v, K v ∧ One X v) (h : ck b (X K)) : ∃ v, K v ∧ One (fun K => ck b (X K)) v := by
  obtain ⟨hb, h⟩ := ck_iff.1 h
  obtain ⟨v, h1, h2⟩ := hX h
  exact ⟨v, h1, fun K hK => ck_iff.2 ⟨hb, h2 K hK⟩⟩
theorem dLeaf_det {k : LK} {v : GV} {K : GV → Prop} (h : dLeaf k v K) : ∃ v', K v' ∧ One (dLeaf k v) v' := by
  cases k <;> cases v <;> first
    | exact h.elim
    | exact ⟨_, h, fun K hK => hK⟩
    | exact ⟨_, h.2, fun K hK => ⟨h.1, hK⟩⟩
theorem ldLeaves_det {H : Hp} {l : Nat} : ∀ {ks : List LK} {p : Nat} {K : List GV → Prop}, ldLeaves H l p ks K → ∃ cs, K cs ∧ One (ldLeaves H l p ks) cs
  | [], p, K, h => ⟨_, h, fun K hK => hK⟩
  | k :: ks, p, K, h => by
    have h' : rd H l p fun c => dLeaf k c fun c => ldLeaves H l (p + 1) ks fun r => K (c :: r) := h
    unfold rd at h'
    split at h'
    · rename_i v hv
      obtain ⟨c, h1, h2⟩ := dLeaf_det h'
      obtain ⟨cs, h3, h4⟩ := ldLeaves_det h1
      refine ⟨_, h3, fun K hK => ?_⟩
      show rd H l p fun c => dLeaf k c fun c => ldLeaves H l (p + 1) ks fun r => K (c :: r)
      unfold rd
      rw [hv]
      exact h2 _ (h4 _ hK)
    · exact h'.elim
theorem oneK_det {cs : List GV} {agg : Bool} {K : FV → Prop} (h : oneK cs agg K) : ∃ v, K v ∧ One (oneK cs agg) v := by
  cases agg with
  | true => exact ⟨_, h, fun K hK => hK⟩
  | false => match cs, h with
    | [v], h => exact ⟨_, h, fun K hK => hK⟩
theorem cutK_det {cs : List GV} {p n : Nat} {agg : Bool} {K : FV → Prop} (h : cutK cs p n agg K) : ∃ v, K v ∧ One (cutK cs p n agg) v := by
  rcases cutK_ok h with ⟨rfl, h1, h2⟩ | ⟨rfl, v, h1, h2⟩
  · exact ⟨_, h2, fun K hK => ck_iff.2 ⟨Nat.ble_eq_true_of_le h1, hK⟩⟩
  · refine ⟨_, h2, fun K hK => ?_⟩
    show (match cs[p]? with | some v => K (.g v) | none => False)
    rw [h1]; exact hK
theorem loadK_det {cx : Cx} {t : Nat} {x : FV} {B : Nat → FV} {H : Hp} {K : FV → Prop} (h : loadK cx t x B H K) : ∃ v, K v ∧ One (loadK cx t x B H) v := by
  unfold loadK at h
  split at h
  · rename_i s p
    split at h
    · rename_i cs hb
      obtain ⟨v, h1, h2⟩ := cutK_det h
      exact ⟨v, h1, fun K hK => by simp only [loadK, hb]; exact h2 K hK⟩
    · exact h.elim
  · obtain ⟨cs, h1, h2⟩ := ldLeaves_det h
    obtain ⟨v, h3, h4⟩ := oneK_det h1
    exact ⟨v, h3, fun K hK => h2 _ (h4 K hK)⟩
  · exact h.elim
theorem cellsK_det {x : FV} {K : List GV → Prop} (h : cellsK x K) : ∃ v, K v ∧ One (cellsK x) v := by
  cases x <;> first | exact h.elim | exact ⟨_, h, fun K hK => hK⟩
theorem fillK_det : ∀ {zs : List GV} {p : Nat} {cs : List GV} {K : List GV → Prop}, fillK zs p cs K → ∃ v, K v ∧ One (fillK zs p cs) v
  | zs, p, [], K, h => by cases zs <;> cases p <;> exact ⟨_, h, fun K hK => hK⟩
  | [], p, c :: cs, K, h => by cases p <;> exact h.elim
  | z :: zs, p + 1, c :: cs, K, h => by
    have h' : fillK zs p (c :: cs) fun r => K (z :: r) := h
    obtain ⟨v, h1, h2⟩ := fillK_det h'
    exact ⟨_, h1, fun K hK => h2 (fun r => K (z :: r)) hK⟩
  | _ :: zs, 0, c :: cs, K, h => by
    have h' : fillK zs 0 cs fun r => K (c :: r) := h
    obtain ⟨v, h1, h2⟩ := fillK_det h'
    exact ⟨_, h1, fun K hK => h2 (fun r => K (c :: r)) hK⟩
theorem bldK_det {cx : Cx} {E : Operand → FV} {t : Nat} : ∀ {ps : List (Nat × Operand)} {zs : List GV} {K : List GV → Prop}, bldK cx E t zs ps K → ∃ v, K v ∧ One (bldK cx E t zs ps) v
  | [], zs, K, h => ⟨_, h, fun K hK => hK⟩
  | (i, x) :: ps, zs, K, h => by
    have h' : (match (cx.ty t).fs[i]? with
      | some (p, e) => cellsK (E x) fun cs => ck (cx.okT e) (ck (Nat.beq cs.length (cx.ty e).lv.length) (fillK zs p cs fun zs => bldK cx E t zs ps K))
      | none => False) := h
    split at h'
    · rename_i p e hf
      obtain ⟨cs, h1, h2⟩ := cellsK_det h'
      obtain ⟨b1, h1⟩ := ck_iff.1 h1
      obtain ⟨b2, h1⟩ := ck_iff.1 h1
      obtain ⟨zs', h3, h4⟩ := fillK_det h1
      obtain ⟨v, h5, h6⟩ := bldK_det h3
      refine ⟨v, h5, fun K hK => ?_⟩
      show (match (cx.ty t).fs[i]? with
        | some (p, e) => cellsK (E x) fun cs => ck (cx.okT e) (ck (Nat.beq cs.length (cx.ty e).lv.length) (fillK zs p cs fun zs => bldK cx E t zs ps K))
        | none => False)
      rw [hf]
      exact h2 _ (ck_iff.2 ⟨b1, ck_iff.2 ⟨b2, h4 _ (h6 K hK)⟩⟩)
    · exact h'.elim
theorem blsK_det {E : Operand → FV} {z : Nat} : ∀ {ps : List (Nat × Operand)} {zs : List GV} {K : List GV → Prop}, blsK E z zs ps K → ∃ v, K v ∧ One (blsK E z zs ps) v
  | [], zs, K, h => ⟨_, h, fun K hK => hK⟩
  | (i, x) :: ps, zs, K, h => by
    have h' : cellsK (E x) fun cs => ck (Nat.beq cs.length z) (fillK zs (i * z) cs fun zs => blsK E z zs ps K) := h
    obtain ⟨cs, h1, h2⟩ := cellsK_det h'
    obtain ⟨b1, h1⟩ := ck_iff.1 h1
    obtain ⟨zs', h3, h4⟩ := fillK_det h1
    obtain ⟨v, h5, h6⟩ := blsK_det h3
    exact ⟨v, h5, fun K hK => h2 _ (ck_iff.2 ⟨b1, h4 _ (h6 K hK)⟩)⟩
theorem capsK_det {E : Operand → FV} : ∀ {xs : List Operand} {K : List (Nat × Nat) → Prop}, capsK E xs K → ∃ v, K v ∧ One (capsK E xs) v
  | [], K, h => ⟨_, h, fun K hK => hK⟩
  | x :: xs, K, h => by
    have h' : (match E x with | .g (.ptr (some p)) => capsK E xs fun r => K (p :: r) | _ => False) := h
    split at h'
    · rename_i p e
      obtain ⟨v, h1, h2⟩ := capsK_det h'
      refine ⟨_, h1, fun K hK => ?_⟩
      show (match E x with | .g (.ptr (some p)) => capsK E xs fun r => K (p :: r) | _ => False)
      rw [e]; exact h2 (fun r => K (p :: r)) hK
    · exact h'.elim
theorem chk_det {α : Type} {b : Bool} {v : α} {K : α → Prop} (h : chk b (K v)) : K v ∧ One (fun K => chk b (K v)) v := ⟨(chk_iff.1 h).2, fun K hK => chk_iff.2 ⟨(chk_iff.1 h).1, hK⟩⟩

theorem binK_det {cx : Cx} {t : Nat} {op : BinOp} {x y : FV} {K : FV → Prop} (h : binK cx t op x y K) : ∃ v, K v ∧ One (binK cx t op x y) v := by
  unfold binK at h
  split at h
  · rename_i k a k' b
    split at h
    · obtain ⟨h1, h2⟩ := chk_det h; exact ⟨_, h1, h2⟩
    · obtain ⟨h1, h2⟩ := chk_det h; exact ⟨_, h1, h2⟩
    · split at h
      · rename_i e
        subst e
        cases op <;> dsimp only at h <;> first
          | exact h.elim
          | (obtain ⟨h1, h2⟩ := chk_iff.1 h; exact ⟨_, h2, fun K hK => by simp only [binK, if_pos]; exact chk_iff.2 ⟨h1, hK⟩⟩)
          | exact ⟨_, h, fun K hK => by simpa only [binK, if_pos] using hK⟩
          | (rename_i q _; exact (q rfl).elim)
      · exact h.elim
  · cases op <;> first
      | exact h.elim
      | exact ⟨_, h.2, fun K hK => ⟨h.1, hK⟩⟩
      | exact ⟨_, h, fun K hK => hK⟩
  · obtain ⟨hb, h⟩ := ck_iff.1 h
    cases op <;> first
      | exact h.elim
      | exact ⟨_, h, fun K hK => ck_iff.2 ⟨hb, hK⟩⟩
  · obtain ⟨hb, h⟩ := ck_iff.1 h
    cases op <;> first
      | exact h.elim
      | exact ⟨_, h, fun K hK => ck_iff.2 ⟨hb, hK⟩⟩
  · obtain ⟨hb, h⟩ := ck_iff.1 h
    cases op <;> first
      | exact h.elim
      | exact ⟨_, h, fun K hK => ck_iff.2 ⟨hb, hK⟩⟩
  · exact h.elim
theorem unK_det {op : UnOp} {x : FV} {K : FV → Prop} (h : unK op x K) : ∃ v, K v ∧ One (unK op x) v := by
  unfold unK at h
  split at h
  · exact ⟨_, h, fun K hK => hK⟩
  · exact ⟨_, h, fun K hK => hK⟩
  · exact ⟨_, h, fun K hK => hK⟩
  · exact h.elim
theorem bytesK_det : ∀ {cs : List GV} {K : List UInt8 → Prop}, bytesK cs K → ∃ v, K v ∧ One (bytesK cs) v
  | [], K, h => ⟨_, h, fun K hK => hK⟩
  | c :: cs, K, h => by
    cases c <;> first | exact h.elim | skip
    rename_i k n
    obtain ⟨e, h'⟩ : k = .u8 ∧ bytesK cs fun r => K (bof n :: r) := h
    obtain ⟨v, h1, h2⟩ := bytesK_det h'
    exact ⟨_, h1, fun K hK => ⟨e, h2 (fun r => K (bof n :: r)) hK⟩⟩
theorem bndK_det {E : Operand → FV} {x : Option Operand} {d : Nat} {K : Nat → Prop} (h : bndK E x d K) : ∃ v, K v ∧ One (bndK E x d) v := by
  cases x with
  | none => exact ⟨_, h, fun K hK => hK⟩
  | some x =>
    have h' : (match E x with | .g (.int _ n) => chk (leI 0 n) (K (tN n)) | _ => False) := h
    split at h'
    · rename_i k n e
      obtain ⟨h1, h2⟩ := chk_iff.1 h'
      refine ⟨_, h2, fun K hK => ?_⟩
      show (match E x with | .g (.int _ n) => chk (leI 0 n) (K (tN n)) | _ => False)
      rw [e]; exact chk_iff.2 ⟨h1, hK⟩
    · exact h'.elim
theorem sliceK_det {cx : Cx} {t : Nat} {x : FV} {lo hi : Option Operand} {E : Operand → FV} {H : Hp} {K : FV → Prop} (h : sliceK cx t x lo hi E H K) : ∃ v, K v ∧ One (sliceK cx t x lo hi E H) v := by
  unfold sliceK at h
  split at h
  · obtain ⟨b1, h⟩ := ck_iff.1 h
    obtain ⟨v1, h, o1⟩ := bndK_det h
    obtain ⟨v2, h, o2⟩ := bndK_det h
    obtain ⟨b2, h⟩ := chk_iff.1 h
    exact ⟨_, h, fun K hK => ck_iff.2 ⟨b1, o1 _ (o2 _ (chk_iff.2 ⟨b2, hK⟩))⟩⟩
  · obtain ⟨b1, h⟩ := ck_iff.1 h
    obtain ⟨b2, h⟩ := ck_iff.1 h
    obtain ⟨b3, h⟩ := chk_iff.1 h
    split at h
    · obtain ⟨v2, h, o2⟩ := bndK_det h
      obtain ⟨b4, h⟩ := chk_iff.1 h
      exact ⟨_, h, fun K hK => ck_iff.2 ⟨b1, ck_iff.2 ⟨b2, chk_iff.2 ⟨b3, o2 _ (chk_iff.2 ⟨b4, hK⟩)⟩⟩⟩⟩
    · obtain ⟨v1, h, o1⟩ := bndK_det h
      obtain ⟨v2, h, o2⟩ := bndK_det h
      obtain ⟨b4, h⟩ := chk_iff.1 h
      exact ⟨_, h, fun K hK => ck_iff.2 ⟨b1, ck_iff.2 ⟨b2, chk_iff.2 ⟨b3, o1 _ (o2 _ (chk_iff.2 ⟨b4, hK⟩))⟩⟩⟩⟩
  · exact h.elim
theorem slice3K_det {cx : Cx} {t : Nat} {x : FV} {lo hi : Option Operand} {mx : Operand} {E : Operand → FV} {H : Hp} {K : FV → Prop} (h : slice3K cx t x lo hi mx E H K) : ∃ v, K v ∧ One (slice3K cx t x lo hi mx E H) v := by
  unfold slice3K at h
  split at h
  · obtain ⟨b1, h⟩ := ck_iff.1 h
    obtain ⟨b2, h⟩ := ck_iff.1 h
    obtain ⟨b3, h⟩ := chk_iff.1 h
    obtain ⟨v0, h, o0⟩ := bndK_det h
    obtain ⟨v1, h, o1⟩ := bndK_det h
    obtain ⟨v2, h, o2⟩ := bndK_det h
    obtain ⟨b4, h⟩ := chk_iff.1 h
    exact ⟨_, h, fun K hK => ck_iff.2 ⟨b1, ck_iff.2 ⟨b2, chk_iff.2 ⟨b3, o0 _ (o1 _ (o2 _ (chk_iff.2 ⟨b4, hK⟩)))⟩⟩⟩⟩
  · exact h.elim
theorem fldK_det {x : FV} {p : Nat} {K : FV → Prop} (h : fldK x p K) : ∃ v, K v ∧ One (fldK x p) v := by
  unfold fldK at h
  split at h
  · exact ⟨_, h, fun K hK => hK⟩
  · exact ⟨_, h, fun K hK => hK⟩
  · exact h.elim
theorem idxK_det {cx : Cx} {t : Nat} {x i : FV} {K : FV → Prop} (h : idxK cx t x i K) : ∃ v, K v ∧ One (idxK cx t x i) v := by
  unfold idxK at h
  split at h
  · rename_i a n z' k j
    obtain ⟨b1, h⟩ := ck_iff.1 h
    obtain ⟨b2, h⟩ := chk_iff.1 h
    obtain ⟨b3, h⟩ := chk_iff.1 h
    cases a with
    | none => exact h.elim
    | some p => exact ⟨_, h, fun K hK => ck_iff.2 ⟨b1, chk_iff.2 ⟨b2, chk_iff.2 ⟨b3, hK⟩⟩⟩⟩
  · exact h.elim
theorem lenK_det {cx : Cx} {t : Nat} {x : FV} {K : FV → Prop} (h : lenK cx t x K) : ∃ v, K v ∧ One (lenK cx t x) v := by
  unfold lenK at h
  split at h
  · obtain ⟨b, h⟩ := ck_iff.1 h; exact ⟨_, h, fun K hK => ck_iff.2 ⟨b, hK⟩⟩
  · obtain ⟨b, h⟩ := ck_iff.1 h; exact ⟨_, h, fun K hK => ck_iff.2 ⟨b, hK⟩⟩
  · obtain ⟨b, h⟩ := ck_iff.1 h; exact ⟨_, h, fun K hK => ck_iff.2 ⟨b, hK⟩⟩
  · exact h.elim
theorem min2K_det {mx : Bool} {x y : FV} {K : FV → Prop} (h : min2K mx x y K) : ∃ v, K v ∧ One (min2K mx x y) v := by
  unfold min2K at h
  split at h
  · exact ⟨_, h, fun K hK => hK⟩
  · exact h.elim

end Go.Am
