import Derived.Test.YtmjnenpllddhfaaAm7
set_option linter.unusedVariables false
set_option linter.unusedSimpArgs false
namespace Go.Am

section
variable {P : Program} {cx : Cx} {n0 : Nat} {φ : List LI} {H : Hp} {lam : Nat → Nat} {fr : List FV} {w : World}

theorem fsEq_get : ∀ {l : List (Nat × Nat)} {fs : List Field} {f : Nat} {p t : Nat}, fsEq l fs = true → l[f]? = some (p, t) → ∃ g, fs[f]? = some g ∧ g.offset = p ∧ g.type = t
  | [], _, f, p, t, _, h => by simp at h
  | (a, b) :: l, [], f, p, t, h, _ => by simp [fsEq] at h
  | (a, b) :: l, g :: fs, f, p, t, h, hf => by
    simp only [fsEq, Bool.and_eq_true] at h
    cases f with
    | zero => simp at hf; exact ⟨g, by simp, by rw [← hf.1]; exact (beq_eq h.1.1).symm, by rw [← hf.2]; exact (beq_eq h.1.2).symm⟩
    | succ f => simp at hf ⊢; exact fsEq_get h.2 hf

theorem okT_of_agg {t : TypeId} (h : (cx.ty t).agg = true) : cx.okT t = true := by
  unfold Cx.okT TI.ok; rw [h]
/-- a struct's field -/
theorem desc_field (hT : TysOK P cx.tys) {t : TypeId} (ht : (cx.ty t).agg = true) {f p e : Nat} (hf : (cx.ty t).fs[f]? = some (p, e)) :
    ∃ fs g, P.underlying t = some (.struct fs) ∧ fs[f]? = some g ∧ g.offset = p ∧ g.type = e := by
  obtain ⟨d, hd, hok⟩ := run_under hT (okT_of_agg ht)
  have key : ∀ fs, d = .struct fs → ∃ g, fs[f]? = some g ∧ g.offset = p ∧ g.type = e := by
    intro fs e'; subst e'
    simp only [descOK, Bool.and_eq_true] at hok
    obtain ⟨g, h1, h2⟩ := fsEq_get hok.2 hf
    exact ⟨g, by simpa using h1, h2⟩
  cases d with
  | struct fs => obtain ⟨g, h⟩ := key fs rfl; exact ⟨fs, g, hd, h⟩
  | array n el =>
    simp only [descOK, Bool.and_eq_true] at hok
    have := hok.2
    split at this
    · rename_i e'; rw [e'] at hf; simp at hf
    · cases this
  | _ => simp [descOK, ht] at hok

theorem fldK_ok (hT : TysOK P cx.tys) {t e : TypeId} {x : FV} {f p : Nat} {K : FV → Prop} {ux : Value} (ht : (cx.ty t).agg = true) (he : cx.okT e = true) (hpos : 1 ≤ (cx.ty e).lv.length) (hf : (cx.ty t).fs[f]? = some (p, e)) (h : fldK x p K) (hx : VOK n0 φ H lam fr w x ux) :
    ∃ v u, K v ∧ (Instr.fieldAt t ux f).run P w = .ok u w ∧ VOK n0 φ H lam fr w v u := by
  obtain ⟨fs, g, hd, hg, rfl, rfl⟩ := desc_field hT ht hf
  have hs := run_sizeOf hT he w
  have hne : (cx.ty g.type).lv.length ≠ 0 := by omega
  have run : ∀ b o, (Instr.fieldAt t (.pointer (some ⟨b, o, none⟩)) f).run P w = .ok (.pointer (some ⟨b, o + g.offset, none⟩)) w := by
    intro b o
    simp [Instr.fieldAt, run_underlying hd, hg, Instr.sureAddr, fieldPlace, hs, hne, add_at]
  unfold fldK at h
  split at h
  · cases hx; exact ⟨_, _, h, run _ _, rfl⟩
  · obtain ⟨i, hi, rfl⟩ := hx
    exact ⟨_, _, h, run _ _, i, hi, by simp [Nat.add_assoc]⟩
  · exact h.elim

theorem field_ok (hT : TysOK P cx.tys) {t e : TypeId} {cs : List GV} {f p : Nat} {K : FV → Prop} {ux : Value} (ht : (cx.ty t).agg = true) (he : cx.okT e = true) (hf : (cx.ty t).fs[f]? = some (p, e)) (h : cutK cs p (cx.ty e).lv.length (cx.ty e).agg K) (hx : VOK n0 φ H lam fr w (.agg cs) ux) :
    ∃ v u, K v ∧ (Instr.field t ux f).run P w = .ok u w ∧ VOK n0 φ H lam fr w v u := by
  obtain ⟨fs, g, hd, hg, rfl, rfl⟩ := desc_field hT ht hf
  obtain ⟨us, rfl, his⟩ := hx
  have hs := run_sizeOf hT he w
  have ha := run_isAgg hT he w
  rcases cutK_ok h with ⟨h1, h2, h3⟩ | ⟨h1, v, h2, h3⟩
  · rw [h1] at ha
    refine ⟨_, _, h3, ?_, ⟨us.extract g.offset (g.offset + (cx.ty g.type).lv.length), rfl, ?_⟩⟩
    · simp [Instr.field, run_underlying hd, hg, asAgg, part, ha, hs]
    · have := (his.drop g.offset).take (cx.ty g.type).lv.length
      simpa [List.extract_eq_take_drop] using this
  · rw [h1] at ha
    obtain ⟨x, hx, hvx⟩ := his.get h2
    refine ⟨_, x, h3, ?_, hvx⟩
    have : us[g.offset]? = some x := by simpa using hx
    simp [Instr.field, run_underlying hd, hg, asAgg, part, ha, this]

theorem isSl_iff {t : TypeId} (h : cx.isSl t = true) : (cx.ty t).isA 1 = true ∧ cx.okT (cx.ty t).el = true := by
  unfold Cx.isSl at h; split at h
  · rename_i e1 e2; exact ⟨e1, e2⟩
  · cases h

theorem idxK_ok (hT : TysOK P cx.tys) {t : TypeId} {x i : FV} {K : FV → Prop} {ux ui : Value} (h : idxK cx t x i K) (hx : VOK n0 φ H lam fr w x ux) (hi : VOK n0 φ H lam fr w i ui) :
    ∃ v u, K v ∧ (Instr.indexAt t ux ui).run P w = .ok u w ∧ VOK n0 φ H lam fr w v u := by
  unfold idxK at h
  split at h
  · rename_i a n z' k j
    cases hi
    obtain ⟨ht, h⟩ := ck_iff.1 h
    obtain ⟨hz, h⟩ := chk_iff.1 h
    obtain ⟨hj, h⟩ := chk_iff.1 h
    rw [Bool.and_eq_true] at hj
    have h1 := leI_iff.1 hj.1
    have h2 : j < n := ltI_iff.1 hj.2
    have ht := isSl_iff ht
    have hd := desc_slice hT ht.1
    have hs := run_sizeOf hT ht.2 w
    cases a with
    | none => exact h.elim
    | some pl =>
      obtain ⟨l, o⟩ := pl
      obtain ⟨i, ad, c, hi, rfl, hq, hnc, _⟩ := hx
      obtain rfl : ad = ⟨i.b, i.p + o, none⟩ := by rcases hq with q | q; exact q; omega
      refine ⟨_, _, h, ?_, i, hi, rfl⟩
      simp only [Instr.indexAt, Sem.run_bind, asIntOf_int, Result.andThen_ok, run_underlying hd, Sem.run_pure, Sem.run_ite, h1, h2, and_self, if_true, hs, add_at]
      simp [tN, Nat.add_assoc]
  · exact h.elim

theorem index_ok (hT : TysOK P cx.tys) {t : TypeId} {s : ByteArray} {k : IntKind} {j : Int} (ht : (cx.ty t).isA 3 = true) (h1 : 0 ≤ j) (h2 : j < s.size) :
    (Instr.index t (.string s) (.int k j)).run P w = .ok (.int .u8 (byt s (tN j))) w := by
  have hd := desc_string hT ht
  have hlt : j.toNat < s.size := by omega
  simp [Instr.index, asIntOf, run_underlying hd, h1, ByteArray.getElem?_lt' s j.toNat hlt, byt, tN]
  show (s.data[j.toNat].toNat : Int) = _
  rw [Array.getElem?_eq_getElem (show j.toNat < s.data.size from hlt)]
  simp

theorem extract_ok {vs : List RV} {i : Nat} {us : Array Value} (h : All2 (RV.is φ) vs us.toList) {r : RV} (hr : vs[i]? = some r) : ∃ u, (Instr.extract (.tuple us) i).run P w = .ok u w ∧ r.is φ u := by
  obtain ⟨u, hu, hru⟩ := h.get hr
  have hu' : us[i]? = some u := by simpa using hu
  exact ⟨u, by simp [Instr.extract, hu'], hru⟩

theorem capsK_ok {φ0 : List LI} {H0 : Hp} {w0 : World} {tmps : Array Value} (I : Inv φ0 H0 w0 φ H lam fr tmps w) (df : List Deferred) : ∀ {xs : List Operand} {K : List (Nat × Nat) → Prop}, capsK (ev fr) xs K →
    ∃ caps, K caps ∧ All2 (capIs φ) caps (xs.map (Act.eval ⟨tmps, df⟩))
  | [], K, h => ⟨[], h, .nil⟩
  | x :: xs, K, h => by
    have hv := I.ev df x
    have h' : (match ev fr x with | .g (.ptr (some p)) => capsK (ev fr) xs fun r => K (p :: r) | _ => False) := h
    split at h'
    · rename_i p e
      rw [e] at hv
      obtain ⟨caps, h1, h2⟩ := capsK_ok I df h'
      exact ⟨p :: caps, h1, .cons hv h2⟩
    · exact h'.elim

end
end Go.Am
