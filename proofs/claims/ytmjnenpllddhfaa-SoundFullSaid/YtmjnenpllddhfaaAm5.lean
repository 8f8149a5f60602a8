import Derived.Test.YtmjnenpllddhfaaAm4
set_option linter.unusedVariables false
set_option linter.unusedSimpArgs false
namespace Go.Am

theorem add_at (b o j : Nat) : (⟨b, o, none⟩ : Addr).add j = ⟨b, o + j, none⟩ := by unfold Addr.add; split <;> simp_all

theorem dLeaf_ok {k : LK} {v : GV} {K : GV → Prop} (h : dLeaf k v K) : ∃ v', K v' ∧ ∀ φ x, v.is φ x → v'.is φ x := by
  cases k with
  | bool => cases v <;> first | exact ⟨_, h, fun _ _ q => q⟩ | exact h.elim
  | int k => cases v <;> first | exact h.elim | (obtain ⟨e, h⟩ := h; subst e; exact ⟨_, h, fun _ _ q => q⟩)
  | str => cases v <;> first | exact ⟨_, h, fun _ _ q => q⟩ | exact h.elim
  | ptr => cases v <;> first | exact ⟨_, h, fun _ _ q => q⟩ | exact h.elim
  | map => cases v <;> first | exact ⟨_, h, fun _ _ q => q⟩ | exact h.elim
  | fn => exact ⟨_, h, fun _ _ q => q⟩
  | iface => exact ⟨_, h, fun _ _ q => q⟩
  | sl z =>
    cases v <;> first | exact h.elim | skip
    rename_i a n z'
    obtain ⟨e, h⟩ := h
    refine ⟨_, h, fun φ x q => ?_⟩
    rcases e with e | e
    · subst e; exact q
    · subst e; exact q

theorem dLeaves_ok : ∀ {ks : List LK} {cs : List GV} {K : List GV → Prop}, dLeaves ks cs K → ∃ cs', K cs' ∧ ∀ φ xs, Is2 φ cs xs → Is2 φ cs' xs
  | [], [], K, h => ⟨[], h, fun _ _ q => q⟩
  | [], c :: cs, K, h => h.elim
  | k :: ks, [], K, h => h.elim
  | k :: ks, c :: cs, K, h => by
    have h' : dLeaf k c fun c => dLeaves ks cs fun r => K (c :: r) := h
    obtain ⟨c', h1, hc⟩ := dLeaf_ok h'
    obtain ⟨cs', h2, hcs⟩ := dLeaves_ok h1
    refine ⟨c' :: cs', h2, fun φ xs q => ?_⟩
    cases q with
    | cons q q' => exact .cons (hc _ _ q) (hcs _ _ q')

theorem dParts_ok (cx : Cx) : ∀ {ts : List (Nat × Nat)} {vs : List RV} {K : List RV → Prop}, dParts cx ts vs K → ∃ vs', K vs' ∧ ∀ φ xs, All2 (RV.is φ) vs xs → All2 (RV.is φ) vs' xs
  | [], [], K, h => ⟨[], h, fun _ _ q => q⟩
  | [], v :: vs, K, h => h.elim
  | t :: ts, [], K, h => h.elim
  | t :: ts, v :: vs, K, h => by
    obtain ⟨t0, t⟩ := t
    have h' : (match (cx.ty t).agg with
      | true => rC v fun cs => dLeaves (cx.ty t).lv cs fun cs => dParts cx ts vs fun vs => K (.a cs :: vs)
      | false => rS v fun v => match (cx.ty t).lv with | [k] => dLeaf k v fun v => dParts cx ts vs fun vs => K (.s v :: vs) | _ => False) := h
    cases v with
    | a cs =>
      split at h'
      · obtain ⟨cs', h1, hc⟩ := dLeaves_ok h'
        obtain ⟨vs', h2, hvs⟩ := dParts_ok cx h1
        refine ⟨.a cs' :: vs', h2, fun φ xs q => ?_⟩
        cases q with
        | cons q q' => obtain ⟨us, e, q⟩ := q; exact .cons ⟨us, e, hc _ _ q⟩ (hvs _ _ q')
      · exact h'.elim
    | s v =>
      split at h'
      · exact h'.elim
      · have h'' : (match (cx.ty t).lv with | [k] => dLeaf k v fun v => dParts cx ts vs fun vs => K (.s v :: vs) | _ => False) := h'
        split at h''
        · obtain ⟨v', h1, hc⟩ := dLeaf_ok h''
          obtain ⟨vs', h2, hvs⟩ := dParts_ok cx h1
          refine ⟨.s v' :: vs', h2, fun φ xs q => ?_⟩
          cases q with
          | cons q q' => exact .cons (hc _ _ q) (hvs _ _ q')
        · exact h''.elim

theorem dRes_ok (cx : Cx) {t : Nat} {r : FV} {K : FV → Prop} (h : dRes cx t r K) : ∃ r', K r' ∧ ∀ n0 φ H lam fr w x, r.is φ x → VOK n0 φ H lam fr w r' x := by
  unfold dRes at h
  split at h
  · split at h
    · exact ⟨_, h, fun _ _ _ _ _ _ _ _ => trivial⟩
    · cases r <;> first | exact h.elim | skip
      obtain ⟨vs', h1, hvs⟩ := dParts_ok cx h
      refine ⟨.tup vs', h1, fun n0 φ H lam fr w x q => ?_⟩
      obtain ⟨us, e, q⟩ := q
      exact ⟨us, e, hvs _ _ q⟩
  · split at h
    · cases r <;> first | exact h.elim | skip
      obtain ⟨cs', h1, hc⟩ := dLeaves_ok h
      refine ⟨.agg cs', h1, fun n0 φ H lam fr w x q => ?_⟩
      obtain ⟨us, e, q⟩ := q
      exact ⟨us, e, hc _ _ q⟩
    · cases r <;> first | exact h.elim | skip
      rename_i v
      have h'' : (match (cx.ty t).lv with | [k] => dLeaf k v fun v => K (.g v) | _ => False) := h
      split at h''
      · obtain ⟨v', h1, hc⟩ := dLeaf_ok h''
        exact ⟨.g v', h1, fun n0 φ H lam fr w x q => hc _ _ q⟩
      · exact h''.elim

/-! ## memory -/
variable {P : Program} {cx : Cx} {φ : List LI} {H : Hp} {w : World}

theorem ldLeaves_ok (hr : RepH φ H w) {l : Nat} {i : LI} (hi : φ[l]? = some i) : ∀ {ks : List LK} {p : Nat} {K : List GV → Prop}, ldLeaves H l p ks K →
    ∃ cs xs, K cs ∧ Is2 φ cs xs ∧ xs.length = ks.length ∧ ∀ j x, xs[j]? = some x → w.cell? ⟨i.b, i.p + p + j, none⟩ = some x
  | [], p, K, h => ⟨[], [], h, .nil, rfl, by simp⟩
  | k :: ks, p, K, h => by
    have h' : rd H l p fun c => dLeaf k c fun c => ldLeaves H l (p + 1) ks fun r => K (c :: r) := h
    unfold rd at h'
    split at h'
    · rename_i v hv
      obtain ⟨i', x, hi', hx, hvx⟩ := hr.get hv
      rw [hi] at hi'; cases hi'
      obtain ⟨v', h1, hv'⟩ := dLeaf_ok h'
      obtain ⟨cs, xs, h2, his, hl, hc⟩ := ldLeaves_ok hr hi h1
      refine ⟨v' :: cs, x :: xs, h2, .cons (hv' _ _ hvx) his, by simp [hl], ?_⟩
      intro j y hy
      cases j with
      | zero => simp at hy; subst hy; exact hx
      | succ j => have := hc j y (by simpa using hy); rwa [show i.p + p + (j + 1) = i.p + (p + 1) + j by omega]
    · exact h'.elim

section
theorem run_loadVar_agg (hT : TysOK P cx.tys) {t : Nat} (ht : cx.okT t = true) (ha : (cx.ty t).agg = true) {b o : Nat} {xs : List Value} (hx : ∀ j x, xs[j]? = some x → w.cell? ⟨b, o + j, none⟩ = some x) (hl : xs.length = (cx.ty t).lv.length) :
    (loadVar t ⟨b, o, none⟩).run P w = .ok (.agg xs.toArray) w := by
  have h := run_loadCells_list (P := P) w ⟨b, o, none⟩ xs (fun j v hv => by rw [add_at]; exact hx j v hv)
  rw [hl] at h
  simp [loadVar, run_isAgg hT ht, ha, run_sizeOf hT ht, h]
theorem run_loadVar_one (hT : TysOK P cx.tys) {t : Nat} (ht : cx.okT t = true) (ha : (cx.ty t).agg = false) {b o : Nat} {x : Value} (hx : w.cell? ⟨b, o, none⟩ = some x) :
    (loadVar t ⟨b, o, none⟩).run P w = .ok x w := by
  simp [loadVar, run_isAgg hT ht, ha, hx]
end

theorem oneK_ok {cs : List GV} {agg : Bool} {K : FV → Prop} (h : oneK cs agg K) : (agg = true ∧ K (.agg cs)) ∨ (agg = false ∧ ∃ v, cs = [v] ∧ K (.g v)) := by
  cases agg with
  | true => exact .inl ⟨rfl, h⟩
  | false => match cs, h with
    | [v], h => exact .inr ⟨rfl, v, rfl, h⟩
theorem cutK_ok {cs : List GV} {p n : Nat} {agg : Bool} {K : FV → Prop} (h : cutK cs p n agg K) : (agg = true ∧ p + n ≤ cs.length ∧ K (.agg ((cs.drop p).take n))) ∨ (agg = false ∧ ∃ v, cs[p]? = some v ∧ K (.g v)) := by
  cases agg with
  | true => obtain ⟨h1, h2⟩ := ck_iff.1 h; exact .inl ⟨rfl, Nat.le_of_ble_eq_true h1, h2⟩
  | false =>
    have h' : (match cs[p]? with | some v => K (.g v) | none => False) := h
    split at h'
    · rename_i v e; exact .inr ⟨rfl, v, e, h'⟩
    · exact h'.elim

/-- a place in a row of cells, read -/
theorem cut_load (hT : TysOK P cx.tys) {t : Nat} (ht : cx.okT t = true) {b o : Nat} {cs : List GV} {ys : List Value} (his : Is2 φ cs ys) (hy : ∀ j y, ys[j]? = some y → w.cell? ⟨b, j, none⟩ = some y) {K : FV → Prop}
    (h : cutK cs o (cx.ty t).lv.length (cx.ty t).agg K) : ∃ v u, K v ∧ (loadVar t ⟨b, o, none⟩).run P w = .ok u w ∧ ∀ n0 lam fr w', VOK n0 φ H lam fr w' v u := by
  rcases cutK_ok h with ⟨ha, hle, hk⟩ | ⟨ha, v, hv, hk⟩
  · have h1 := (his.drop o).take (cx.ty t).lv.length
    refine ⟨_, .agg ((ys.drop o).take (cx.ty t).lv.length).toArray, hk, run_loadVar_agg hT ht ha ?_ ?_, fun n0 lam fr w' => ⟨_, rfl, by simpa using h1⟩⟩
    · intro j x hx
      rw [List.getElem?_take] at hx
      split at hx
      · exact hy _ _ (by simpa using hx)
      · simp at hx
    · have := his.length; simp; omega
  · obtain ⟨x, hx, hvx⟩ := his.get hv
    exact ⟨_, x, hk, run_loadVar_one hT ht ha (hy _ _ hx), fun n0 lam fr w' => hvx⟩

theorem heap_setCell_at {w : World} {b o : Nat} {c : Array Value} {t : TypeId} {fz : Nat × Nat} {v : Value} (h : w.heap[b]? = some (.cells c t fz)) : (w.setCell ⟨b, o, none⟩ v).heap[b]? = some (.cells (c.setIfInBounds o v) t fz) := by
  simp [World.setCell, Array.getElem?_modify, h]

theorem keeps_setCell (w : World) (b o : Nat) (v : Value) : Keeps (fun b' => b' = b) w (w.setCell ⟨b, o, none⟩ v) :=
  ⟨rfl, rfl, rfl, by simp, fun b' _ hn => heap_setCell_other w ⟨b, o, none⟩ b' v hn⟩

theorem st_one (hr : RepH φ H w) {l o : Nat} {i : LI} (hi : φ[l]? = some i) {v : GV} {x : Value} (hv : v.is φ x) {H' : Hp} (h : st? H l o v = some H') :
    ∃ w', (store ⟨i.b, i.p + o, none⟩ x).run P w = .ok () w' ∧ Back φ H w φ H' w' := by
  unfold st? at h
  split at h
  · rename_i t cs hl
    split at h
    · rename_i ho
      cases h
      obtain ⟨i', hi', h1, h2, h3, hp, c, t', fz, hb, ht', hs, hf, hle, his⟩ := hr.row l true t cs hl
      rw [hi] at hi'; cases hi'
      have hpos : 0 < i.s := by omega
      have hcell : w.cell? ⟨i.b, i.p + o, none⟩ = some c[o] := by
        rw [hp, Nat.zero_add, cell_of hb, Array.getElem?_eq_getElem (by omega)]
      have hfr : w.frozen? ⟨i.b, i.p + o, none⟩ = false := by
        obtain ⟨f1, f2⟩ := fz
        simp only [World.frozen?, hb]
        by_cases q : f1 ≤ i.p + o ∧ i.p + o < f2
        · have := hf _ q.1 q.2; omega
        · simp; omega
      refine ⟨w.setCell ⟨i.b, i.p + o, none⟩ x, ?_, ?_⟩
      · rw [run_store P w _ x _ hv.one.2, hcell]
        simp [hfr]
      · refine Back.turn hr hl hi hpos (keeps_setCell w i.b _ x) ⟨h1, by simp [h2], by simp [h3], hp, c.setIfInBounds o x, t', fz, ?_, ht', by simp [hs], hf, by simp; omega, ?_⟩
        · rw [hp, Nat.zero_add]; exact heap_setCell_at hb
        · have := his.set hv o
          rw [List.length_set, Array.toList_setIfInBounds]
          rwa [show (c.toList.take cs.length).set o x = (c.toList.set o x).take cs.length from by rw [List.take_set]] at this
    · cases h
  · cases h

theorem stCells_ok : ∀ (ns : List GV) (xs : List Value) (k : Nat) {H : Hp} {w : World} {l p0 : Nat} {i : LI} {K : Hp → Prop}, stCells l H (p0 + k) ns K → RepH φ H w → φ[l]? = some i → Is2 φ ns xs →
    ∃ H' w', K H' ∧ (storeCells ⟨i.b, i.p + p0, none⟩ xs k).run P w = .ok () w' ∧ Back φ H w φ H' w'
  | [], xs, k, H, w, l, p0, i, K, h, hr, hi, his => by
    cases his.nil_inv
    exact ⟨H, w, h, by simp [storeCells], Back.refl hr⟩
  | n :: ns, xs, k, H, w, l, p0, i, K, h, hr, hi, his => by
    obtain ⟨x, xs, rfl, hx, his⟩ := his.cons_inv
    have h' : wr H l (p0 + k) n fun H => stCells l H (p0 + k + 1) ns K := h
    unfold wr at h'
    split at h'
    · rename_i H1 he
      obtain ⟨w1, hw1, B⟩ := st_one (P := P) hr hi hx he
      obtain ⟨H', w', hk, hrun, B'⟩ := stCells_ok ns xs (k + 1) (p0 := p0) h' B.rep hi his
      refine ⟨H', w', hk, ?_, B.trans B'⟩
      rw [Nat.add_comm] at hw1
      simp only [storeCells, Sem.run_bind, add_at]
      rw [show i.p + p0 + k = i.p + (p0 + k) by omega, show i.p + (p0 + k) = p0 + k + i.p by omega, hw1]
      simp only [Result.andThen_ok, hrun]
    · exact h'.elim

end Go.Am
