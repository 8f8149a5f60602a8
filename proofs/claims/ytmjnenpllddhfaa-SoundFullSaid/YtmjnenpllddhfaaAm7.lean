import Derived.Test.YtmjnenpllddhfaaAm6
set_option linter.unusedVariables false
set_option linter.unusedSimpArgs false
namespace Go.Am

section
variable {P : Program} {cx : Cx} {n0 : Nat} {φ : List LI} {H : Hp} {lam : Nat → Nat} {fr : List FV} {w : World}

theorem min2K_ok {mx : Bool} {x y : FV} {K : FV → Prop} {ux uy : Value} (h : min2K mx x y K) (hx : VOK n0 φ H lam fr w x ux) (hy : VOK n0 φ H lam fr w y uy) :
    ∃ v u, K v ∧ (match mx with | true => Builtin.max2 ux uy | false => Builtin.min2 ux uy).run P w = .ok u w ∧ VOK n0 φ H lam fr w v u := by
  unfold min2K at h
  split at h
  · cases hx; cases hy
    cases mx with
    | true => exact ⟨_, _, h, by simp [Builtin.max2, mxI], rfl⟩
    | false => exact ⟨_, _, h, by simp [Builtin.min2, mnI], rfl⟩
  · exact h.elim

theorem lenK_ok (hT : TysOK P cx.tys) {t ty : TypeId} {x : FV} {K : FV → Prop} {ux : Value} (h : lenK cx t x K) (hx : VOK n0 φ H lam fr w x ux) :
    ∃ v u, K v ∧ (Builtin.len_ #[t] ty #[ux]).run P w = .ok u w ∧ VOK n0 φ H lam fr w v u := by
  unfold lenK at h
  split at h
  · obtain ⟨ht, h⟩ := ck_iff.1 h
    cases hx
    exact ⟨_, _, h, by simp [Builtin.len_, run_underlying (desc_string hT ht), goInt, sz], rfl⟩
  · rename_i a n z
    obtain ⟨ht, h⟩ := ck_iff.1 h
    have hd := desc_slice hT ht
    have hux : ∃ (p : Option Addr) (c : Nat), ux = .slice p n c := by
      cases a with
      | none => obtain ⟨e, rfl⟩ := hx; subst e; exact ⟨none, 0, rfl⟩
      | some q => obtain ⟨i, _⟩ := q; obtain ⟨_, _, _, _, rfl, _⟩ := hx; exact ⟨_, _, rfl⟩
    obtain ⟨p, c, rfl⟩ := hux
    exact ⟨_, _, h, by simp [Builtin.len_, run_underlying hd, goInt, nI], rfl⟩
  · rename_i cs n z
    obtain ⟨ht, h⟩ := ck_iff.1 h
    have hd := desc_slice hT ht
    obtain ⟨b, c, t', fz, rfl, _⟩ := hx
    exact ⟨_, _, h, by simp [Builtin.len_, run_underlying hd, goInt, nI], rfl⟩
  · exact h.elim

theorem run_loadAt (t : TypeId) (a : Addr) : (Instr.loadAt t (.pointer (some a))).run P w = (loadVar t a).run P w := by simp [Instr.loadAt, Instr.sureAddr]
theorem run_storeAt (t : TypeId) (a : Addr) (x : Value) : (Instr.storeAt t (.pointer (some a)) x).run P w = (storeVar t a x).run P w := by simp [Instr.storeAt, Instr.sureAddr]

theorem loadK_ok (hT : TysOK P cx.tys) {φ0 : List LI} {H0 : Hp} {w0 : World} {tmps : Array Value} (I : Inv φ0 H0 w0 φ H lam fr tmps w) {t : TypeId} {x : FV} {K : FV → Prop} {ux : Value} (ht : cx.okT t = true) (h : loadK cx t x (fun s => fr.getD s .bad) H K) (hx : VOK w0.heap.size φ H lam fr w x ux) :
    ∃ v u, K v ∧ (Instr.loadAt t ux).run P w = .ok u w ∧ VOK w0.heap.size φ H lam fr w v u := by
  unfold loadK at h
  split at h
  · rename_i s p
    dsimp only at h
    split at h
    · rename_i cs hcs
      obtain ⟨e, _, _, c, t', hb, his⟩ := I.slot s _ (getD_of hcs (by simp))
      cases hx
      obtain ⟨v, u, hk, hr, hv⟩ := cut_load (P := P) (H := H) hT ht his (w := w) (b := lam s) (o := p) (fun j y hy => by rw [cell_of hb]; simpa using hy) h
      exact ⟨v, u, hk, (run_loadAt _ _).trans hr, hv _ _ _ _⟩
    · exact h.elim
  · rename_i l p
    obtain ⟨i, hi, rfl⟩ := hx
    obtain ⟨cs, xs, h1, his, hl, hc⟩ := ldLeaves_ok I.rep hi h
    rcases oneK_ok h1 with ⟨ha, hk⟩ | ⟨ha, v, rfl, hk⟩
    · exact ⟨_, _, hk, (run_loadAt _ _).trans (run_loadVar_agg hT ht ha hc hl), ⟨_, rfl, by simpa using his⟩⟩
    · obtain ⟨x, xs, rfl, hvx, _⟩ := his.cons_inv
      exact ⟨_, _, hk, (run_loadAt _ _).trans (run_loadVar_one hT ht ha (hc 0 x (by simp))), hvx⟩
  · exact h.elim

theorem asIntOf_int (k : IntKind) (n : Int) : (asIntOf (.int k n)).run P w = .ok (k, n) w := rfl



def isBnd (a : Act) (d : Nat) : Option Operand → Nat → Prop
  | none, m => m = d
  | some x, m => ∃ k, a.eval x = .int k m
/-- a bound of a slice expression -/
theorem bndK_ok {φ0 : List LI} {H0 : Hp} {w0 : World} {tmps : Array Value} (I : Inv φ0 H0 w0 φ H lam fr tmps w) (df : List Deferred) {x : Option Operand} {d : Nat} {K : Nat → Prop} (h : bndK (ev fr) x d K) :
    ∃ m : Nat, K m ∧ isBnd ⟨tmps, df⟩ d x m := by
  cases x with
  | none => exact ⟨d, h, rfl⟩
  | some x =>
    have hv := I.ev df x
    have h' : (match ev fr x with | .g (.int _ n) => chk (leI 0 n) (K (tN n)) | _ => False) := h
    split at h'
    · rename_i k n e
      rw [e] at hv
      obtain ⟨h1, h⟩ := chk_iff.1 h'
      have h1 := leI_iff.1 h1
      refine ⟨_, h, k, ?_⟩
      rw [hv]; simp [tN]; omega
    · exact h'.elim

theorem run_bound {k : IntKind} {m y : Nat} {code : BoundsCode} (h : m ≤ y) : (Instr.sliceBound (.int k m) y code).run P w = .ok m w := by
  simp [Instr.sliceBound, asIntOf, h]

/-- the bounds of a slice expression -/
theorem run_bounds {tmps : Array Value} (df : List Deferred) {lo hi : Option Operand} {isS : Bool} {len cap l h : Nat}
    (hlo : isBnd ⟨tmps, df⟩ 0 lo l) (hhi : isBnd ⟨tmps, df⟩ len hi h) (h1 : l ≤ h) (h2 : h ≤ cap) :
    (Instr.sliceBounds isS len cap (lo.map (Act.eval ⟨tmps, df⟩)) (hi.map (Act.eval ⟨tmps, df⟩)) none).run P w = .ok (l, h, cap) w := by
  cases lo <;> cases hi <;> simp only [isBnd] at hlo hhi
  · subst hlo; subst hhi; simp [Instr.sliceBounds]
  · subst hlo; obtain ⟨k, e⟩ := hhi; simp [Instr.sliceBounds, e, run_bound h2]
  · subst hhi; obtain ⟨k, e⟩ := hlo; simp [Instr.sliceBounds, e, run_bound h1]
  · obtain ⟨k, e⟩ := hhi; obtain ⟨k', e'⟩ := hlo; simp [Instr.sliceBounds, e, e', run_bound h1, run_bound h2]

theorem run_sliceAt {t : TypeId} {d : TypeDesc} (hd : P.underlying t = some d) (hn : ∀ n e, d ≠ .array n e) (x : Value) (lo hi mx : Option Value) : (Instr.sliceAt t x lo hi mx).run P w = (Instr.slice t x lo hi mx).run P w := by
  unfold Instr.sliceAt
  rw [Sem.run_bind, run_underlying hd]
  cases d <;> first | rfl | exact (hn _ _ rfl).elim

theorem okz_or {a : Pl} {z' z : Nat} (h : okz a z' z = true) : z' = z ∨ a = none := by
  unfold okz at h
  split at h
  · rename_i e; exact .inl (by simpa using e)
  · split at h
    · exact .inr rfl
    · cases h

theorem room_le (hr : RepH φ H w) {l o m : Nat} {i : LI} (hi : φ[l]? = some i) (h : room H (some (l, o)) m = true) : o + m ≤ i.u := by
  unfold room at h
  simp only at h
  split at h
  · rename_i own t cs hl
    obtain ⟨i', hi', _, h2, _⟩ := hr.row l own t cs hl
    rw [hi] at hi'; cases hi'
    have := leN_iff.1 h; omega
  · cases h

theorem sliceK_ok (hT : TysOK P cx.tys) {φ0 : List LI} {H0 : Hp} {w0 : World} {tmps : Array Value} (I : Inv φ0 H0 w0 φ H lam fr tmps w) (df : List Deferred) {t : TypeId} {x : FV} {lo hi : Option Operand} {K : FV → Prop} {ux : Value}
    (h : sliceK cx t x lo hi (ev fr) H K) (hx : VOK w0.heap.size φ H lam fr w x ux) :
    ∃ v u, K v ∧ (Instr.sliceAt t ux (lo.map (Act.eval ⟨tmps, df⟩)) (hi.map (Act.eval ⟨tmps, df⟩)) none).run P w = .ok u w ∧ VOK w0.heap.size φ H lam fr w v u := by
  unfold sliceK at h
  split at h
  · rename_i s
    cases hx
    obtain ⟨ht, h⟩ := ck_iff.1 h
    have hd := desc_string hT ht
    obtain ⟨hh, h, hhi⟩ := bndK_ok I df h
    obtain ⟨l, h, hlo⟩ := bndK_ok I df h
    obtain ⟨hc, h⟩ := chk_iff.1 h
    rw [Bool.and_eq_true] at hc
    have h1 := leN_iff.1 hc.1
    have h2 : hh ≤ s.size := leN_iff.1 hc.2
    refine ⟨_, _, h, ?_, rfl⟩
    rw [run_sliceAt hd (by simp)]
    have hb := run_bounds (P := P) (w := w) df (isS := false) (len := s.size) hlo hhi h1 h2
    simp [Instr.slice, run_underlying hd, hb, sub]
  · rename_i a n z'
    obtain ⟨ht, h⟩ := ck_iff.1 h
    obtain ⟨hz0, h⟩ := ck_iff.1 h
    obtain ⟨hz, h⟩ := chk_iff.1 h
    have hz0 := Nat.le_of_ble_eq_true hz0
    have hsl : (cx.ty t).isA 1 = true ∧ cx.okT (cx.ty t).el = true := by
      unfold Cx.isSl at ht; split at ht
      · rename_i e1 e2; exact ⟨e1, e2⟩
      · cases ht
    have hd := desc_slice hT hsl.1
    have hsz := run_sizeOf hT hsl.2 w
    generalize (cx.ty (cx.ty t).el).lv.length = z at *
    generalize (cx.ty t).el = e at *
    -- what the bounds say
    have hB : ∃ l hh : Nat, K (.g (.sl (shf a (l * z)) (hh - l) z)) ∧ isBnd ⟨tmps, df⟩ 0 lo l ∧ isBnd ⟨tmps, df⟩ n hi hh ∧ l ≤ hh ∧ (hh ≤ n ∨ room H a (hh * z) = true) := by
      split at h
      · obtain ⟨l, h, hlo⟩ := bndK_ok I df h
        obtain ⟨hc, h⟩ := chk_iff.1 h
        exact ⟨l, n, h, hlo, rfl, leN_iff.1 hc, .inl (Nat.le_refl _)⟩
      · rename_i y
        obtain ⟨hh, h, hhi⟩ := bndK_ok I df h
        obtain ⟨l, h, hlo⟩ := bndK_ok I df h
        obtain ⟨hc, h⟩ := chk_iff.1 h
        rw [Bool.and_eq_true, Bool.or_eq_true] at hc
        exact ⟨l, hh, h, hlo, hhi, leN_iff.1 hc.1, hc.2.imp leN_iff.1 id⟩
    obtain ⟨l, hh, hk, hlo, hhi, h1, h2⟩ := hB
    cases a with
    | none =>
      obtain ⟨rfl, rfl⟩ := hx
      have h2' : hh ≤ 0 := by
        rcases h2 with q | q
        · exact q
        · have q := leN_iff.1 (show leN (hh * z) 0 = true from q)
          have := Nat.le_of_mul_le_mul_right (by omega : hh * z ≤ 0 * z) hz0; omega
      have hb := run_bounds (P := P) (w := w) df (isS := true) (len := 0) hlo hhi h1 h2'
      have e1 : hh = 0 := by omega
      have e2 : l = 0 := by omega
      subst e1; subst e2
      refine ⟨_, _, hk, ?_, ⟨rfl, rfl⟩⟩
      rw [run_sliceAt hd (by simp)]
      simp [Instr.slice, run_underlying hd, hb, hsz]
    | some p =>
      obtain ⟨r, o⟩ := p
      obtain ⟨i, ad, c, hi', rfl, hq, hnc, hu, hown⟩ := hx
      have hz' : z' = z := by rcases okz_or hz with q | q; exact q; cases q
      subst hz'
      have h2' : hh ≤ c := by
        rcases h2 with q | q
        · omega
        · have := room_le I.rep hi' q
          exact Nat.le_of_mul_le_mul_right (by omega : hh * z' ≤ c * z') hz0
      have hb := run_bounds (P := P) (w := w) df (isS := true) (len := n) hlo hhi h1 h2'
      have hle : l * z' ≤ c * z' := Nat.mul_le_mul_right _ (by omega)
      have hsub : (c - l) * z' = c * z' - l * z' := Nat.sub_mul _ _ _
      refine ⟨_, .slice (some (if c = l then ad else ad.add (l * z'))) (hh - l) (c - l), hk, ?_, ⟨i, _, _, hi', rfl, ?_, by omega, ?_, ?_⟩⟩
      · rw [run_sliceAt hd (by simp)]
        simp only [Instr.slice, Sem.run_bind, run_underlying hd, Result.andThen_ok, hb, hsz, Sem.run_pure]
        split <;> simp
      · by_cases e : c = l
        · right; omega
        · left
          rw [if_neg e]
          rcases hq with q | q
          · subst q; rw [add_at, Nat.add_assoc]
          · omega
      · show i.u ≤ o + l * z' + (c - l) * z'
        omega
      · intro hw
        obtain ⟨g1, g2⟩ := hown hw
        refine ⟨g1, ?_⟩
        show o + l * z' + (c - l) * z' ≤ i.s
        omega
  · exact h.elim


theorem ends_le (hr : RepH φ H w) {l o k : Nat} {i : LI} (hi : φ[l]? = some i) (h : ends H (some (l, o)) k = true) : i.u ≤ o + k := by
  unfold ends at h
  simp only at h
  split at h
  · rename_i own t cs hl
    obtain ⟨i', hi', _, h2, _⟩ := hr.row l own t cs hl
    rw [hi] at hi'; cases hi'
    have := leN_iff.1 h; omega
  · cases h

theorem run_bounds3 {tmps : Array Value} (df : List Deferred) {lo : Option Operand} {hi mx : Operand} {len cap l h m d d' : Nat}
    (hlo : isBnd ⟨tmps, df⟩ 0 lo l) (hhi : isBnd ⟨tmps, df⟩ d (some hi) h) (hmx : isBnd ⟨tmps, df⟩ d' (some mx) m) (h1 : l ≤ h) (h2 : h ≤ m) (h3 : m ≤ cap) :
    (Instr.sliceBounds true len cap (lo.map (Act.eval ⟨tmps, df⟩)) ((some hi).map (Act.eval ⟨tmps, df⟩)) ((some mx).map (Act.eval ⟨tmps, df⟩))).run P w = .ok (l, h, m) w := by
  obtain ⟨k1, e1⟩ := hhi
  obtain ⟨k2, e2⟩ := hmx
  cases lo <;> simp only [isBnd] at hlo
  · subst hlo; simp [Instr.sliceBounds, e1, e2, run_bound h2, run_bound h3]
  · obtain ⟨k, e⟩ := hlo; simp [Instr.sliceBounds, e, e1, e2, run_bound h1, run_bound h2, run_bound h3]

theorem slice3K_ok (hT : TysOK P cx.tys) {φ0 : List LI} {H0 : Hp} {w0 : World} {tmps : Array Value} (I : Inv φ0 H0 w0 φ H lam fr tmps w) (df : List Deferred) {t : TypeId} {x : FV} {lo hi : Option Operand} {mx : Operand} {K : FV → Prop} {ux : Value}
    (h : slice3K cx t x lo hi mx (ev fr) H K) (hx : VOK w0.heap.size φ H lam fr w x ux) :
    ∃ v u, K v ∧ (Instr.sliceAt t ux (lo.map (Act.eval ⟨tmps, df⟩)) (hi.map (Act.eval ⟨tmps, df⟩)) ((some mx).map (Act.eval ⟨tmps, df⟩))).run P w = .ok u w ∧ VOK w0.heap.size φ H lam fr w v u := by
  unfold slice3K at h
  split at h
  · rename_i a n z' hi
    obtain ⟨ht, h⟩ := ck_iff.1 h
    obtain ⟨hz0, h⟩ := ck_iff.1 h
    obtain ⟨hz, h⟩ := chk_iff.1 h
    have hz0 := Nat.le_of_ble_eq_true hz0
    have hsl : (cx.ty t).isA 1 = true ∧ cx.okT (cx.ty t).el = true := by
      unfold Cx.isSl at ht; split at ht
      · rename_i e1 e2; exact ⟨e1, e2⟩
      · cases ht
    have hd := desc_slice hT hsl.1
    have hsz := run_sizeOf hT hsl.2 w
    obtain ⟨m, h, hmx⟩ := bndK_ok I df h
    obtain ⟨hh, h, hhi⟩ := bndK_ok I df h
    obtain ⟨l, h, hlo⟩ := bndK_ok I df h
    obtain ⟨hc, hk⟩ := chk_iff.1 h
    simp only [Bool.and_eq_true] at hc
    obtain ⟨c1, c2, c3, c4⟩ := hc
    have c1 := leN_iff.1 c1
    have c2 := leN_iff.1 c2
    have c3 := leN_iff.1 c3
    generalize (cx.ty (cx.ty t).el).lv.length = z at *
    generalize (cx.ty t).el = e at *
    cases a with
    | none =>
      obtain ⟨e0, rfl⟩ := hx
      have e3 : m = 0 := by omega
      have e1 : hh = 0 := by omega
      have e2 : l = 0 := by omega
      subst e1; subst e2; subst e3
      have hb := run_bounds3 (P := P) (w := w) df (len := 0) (cap := 0) hlo hhi hmx c1 c2 (by omega)
      simp only [Option.map_some] at hb
      refine ⟨_, _, hk, ?_, ⟨by omega, rfl⟩⟩
      rw [run_sliceAt hd (by simp)]
      simp [Instr.slice, run_underlying hd, hb, hsz]
    | some p =>
      obtain ⟨r, o⟩ := p
      obtain ⟨i, ad, c, hi', rfl, hq, hnc, hu, hown⟩ := hx
      have hz' : z' = z := by rcases okz_or hz with q | q; exact q; cases q
      subst hz'
      have hend := ends_le I.rep hi' c4
      have hb := run_bounds3 (P := P) (w := w) df (len := n) (cap := c) hlo hhi hmx c1 c2 (by omega)
      have hle : l * z' ≤ m * z' := Nat.mul_le_mul_right _ (by omega)
      have hle2 : m * z' ≤ c * z' := Nat.mul_le_mul_right _ (by omega)
      have hsub : (m - l) * z' = m * z' - l * z' := Nat.sub_mul _ _ _
      refine ⟨_, .slice (some (if m = l then ad else ad.add (l * z'))) (hh - l) (m - l), hk, ?_, ⟨i, _, _, hi', rfl, ?_, by omega, ?_, ?_⟩⟩
      · rw [run_sliceAt hd (by simp)]
        simp only [Instr.slice, Sem.run_bind, run_underlying hd, Result.andThen_ok, hb, hsz, Sem.run_pure]
        split <;> simp
      · by_cases e : m = l
        · right; omega
        · left
          rw [if_neg e]
          rcases hq with q | q
          · subst q; rw [add_at, Nat.add_assoc]
          · omega
      · show i.u ≤ o + l * z' + (m - l) * z'
        omega
      · intro hw
        obtain ⟨g1, g2⟩ := hown hw
        refine ⟨g1, ?_⟩
        show o + l * z' + (m - l) * z' ≤ i.s
        omega
  · exact h.elim

end
end Go.Am
