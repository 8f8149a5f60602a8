import Derived.Test.YtmjnenpllddhfaaAm8
import Derived.Laws.Tables
set_option linter.unusedVariables false
set_option linter.unusedSimpArgs false
namespace Go.Am

theorem foldl_fill (off : Nat) : ∀ (vs : List Value) (k : Nat) (cells : Array Value), off + k + vs.length ≤ cells.size →
    ((vs.zipIdx k).foldl (fun (cs : Array Value) (c, j) => cs.setIfInBounds (off + j) c) cells).toList = cells.toList.take (off + k) ++ vs ++ cells.toList.drop (off + k + vs.length)
  | [], k, cells, h => by simp
  | v :: vs, k, cells, h => by
    simp only [List.zipIdx_cons, List.foldl_cons]
    rw [foldl_fill off vs (k + 1) _ (by simp at h ⊢; omega)]
    rw [Array.toList_setIfInBounds]
    have := list_set_append cells.toList (off + k) v vs (by simp at h ⊢; omega)
    rw [show off + (k + 1) = off + k + 1 by omega, ← this]
    simp

theorem fill_one {place : Nat → Option (Nat × Nat)} {i off : Nat} {v : Value} {rest : List (Nat × Value)} {cells : Array Value} (hp : place i = some (off, v.cells.size)) (hle : off + v.cells.size ≤ cells.size) :
    Instr.fill place cells ((i, v) :: rest) = Instr.fill place (cells.toList.take off ++ v.cells.toList ++ cells.toList.drop (off + v.cells.size)).toArray rest := by
  simp only [Instr.fill, hp]
  have h : ¬ (off + v.cells.size > cells.size) := by omega
  simp only [ne_eq, not_true_eq_false, decide_false, Bool.false_or, h, Bool.false_eq_true, if_false]
  congr 1
  apply Array.ext'
  rw [← Array.foldl_toList, Array.toList_zipIdx]
  have := foldl_fill off v.cells.toList 0 cells (by simpa using hle)
  simpa using this

section
variable {P : Program} {cx : Cx} {φ : List LI} {H : Hp} {lam : Nat → Nat} {fr : List FV} {w : World} {φ0 : List LI} {H0 : Hp} {w0 : World} {tmps : Array Value}

theorem Is2.fill {zs cs : List GV} {ys xs : List Value} (hz : Is2 φ zs ys) (hc : Is2 φ cs xs) (p n : Nat) : Is2 φ (zs.take p ++ cs ++ zs.drop n) (ys.take p ++ xs ++ ys.drop n) :=
  ((hz.take p).append hc).append (hz.drop n)

theorem bldK_ok (I : Inv φ0 H0 w0 φ H lam fr tmps w) (df : List Deferred) (t : Nat) (place : Nat → Option (Nat × Nat)) (hp : ∀ i p e, (cx.ty t).fs[i]? = some (p, e) → place i = some (p, (cx.ty e).lv.length)) :
    ∀ {parts : List (Nat × Operand)} {zs : List GV} {cells : Array Value} {K : List GV → Prop}, bldK cx (ev fr) t zs parts K → Is2 φ zs cells.toList → (∀ p : Nat, ∀ e, (p, e) ∈ (cx.ty t).fs → p + (cx.ty e).lv.length ≤ zs.length) →
      ∃ zs' cells', K zs' ∧ Instr.fill place cells (parts.map fun (i, x) => (i, Act.eval ⟨tmps, df⟩ x)) = some cells' ∧ Is2 φ zs' cells'.toList
  | [], zs, cells, K, h, his, _ => ⟨zs, cells, h, rfl, his⟩
  | (i, x) :: ps, zs, cells, K, h, his, hb => by
    have hv := I.ev df x
    have h' : (match (cx.ty t).fs[i]? with
      | some (p, e) => cellsK (ev fr x) fun cs => ck (cx.okT e) (ck (Nat.beq cs.length (cx.ty e).lv.length) (fillK zs p cs fun zs => bldK cx (ev fr) t zs ps K))
      | none => False) := h
    split at h'
    · rename_i p e hf
      obtain ⟨cs, h1, hcs⟩ := cellsK_ok h' hv
      obtain ⟨_, h1⟩ := ck_iff.1 h1
      obtain ⟨hl, h1⟩ := ck_iff.1 h1
      have hl := beq_eq hl
      obtain ⟨zs', h2, hzl, hle, rfl⟩ := fillK_ok h1
      have hcl := hcs.length
      have hsz : (Act.eval ⟨tmps, df⟩ x).cells.size = (cx.ty e).lv.length := by rw [← hl, hcl]; simp
      have hbp := hb p e (List.mem_of_getElem? hf)
      have hzlen := his.length
      have hf' := hp i p e hf
      rw [← hsz] at hf'
      obtain ⟨zs'', cells', h3, h4, h5⟩ := bldK_ok I df t place hp (cells := ((cells.toList.take p ++ (Act.eval ⟨tmps, df⟩ x).cells.toList ++ cells.toList.drop (p + (Act.eval ⟨tmps, df⟩ x).cells.size)).toArray)) h2
        (by simpa [hsz, hl] using Is2.fill his hcs p (p + cs.length)) (by rw [hzl]; exact hb)
      refine ⟨zs'', cells', h3, ?_, h5⟩
      rw [List.map_cons, fill_one hf' (by simp at hzlen; omega)]
      exact h4
    · exact h'.elim

theorem blsK_ok (I : Inv φ0 H0 w0 φ H lam fr tmps w) (df : List Deferred) {z : Nat} (hz1 : 1 ≤ z) :
    ∀ {parts : List (Nat × Operand)} {zs : List GV} {cells : Array Value} {K : List GV → Prop}, blsK (ev fr) z zs parts K → Is2 φ zs cells.toList → 
      ∃ zs' cells', K zs' ∧ zs'.length = zs.length ∧ Instr.fill (fun i => some (i * z, z)) cells (parts.map fun (i, x) => (i, Act.eval ⟨tmps, df⟩ x)) = some cells' ∧ Is2 φ zs' cells'.toList
  | [], zs, cells, K, h, his => ⟨zs, cells, h, rfl, rfl, his⟩
  | (i, x) :: ps, zs, cells, K, h, his => by
    have hv := I.ev df x
    have h' : cellsK (ev fr x) fun cs => ck (Nat.beq cs.length z) (fillK zs (i * z) cs fun zs => blsK (ev fr) z zs ps K) := h
    obtain ⟨cs, h1, hcs⟩ := cellsK_ok h' hv
    obtain ⟨hl, h1⟩ := ck_iff.1 h1
    have hl := beq_eq hl
    obtain ⟨zs', h2, hzl, hle, rfl⟩ := fillK_ok h1
    have hcl := hcs.length
    have hsz : (Act.eval ⟨tmps, df⟩ x).cells.size = z := by rw [← hl, hcl]; simp
    have hzlen := his.length
    have hbad : cs ≠ [] := by intro e; subst e; simp at hl; omega
    have hle : i * z + cs.length ≤ zs.length := by simpa [hbad] using hle
    obtain ⟨zs'', cells', h3, h3', h4, h5⟩ := blsK_ok I df hz1 (cells := ((cells.toList.take (i * z) ++ (Act.eval ⟨tmps, df⟩ x).cells.toList ++ cells.toList.drop (i * z + (Act.eval ⟨tmps, df⟩ x).cells.size)).toArray)) h2
        (by simpa [hsz, hl] using Is2.fill his hcs (i * z) (i * z + cs.length))
    refine ⟨zs'', cells', h3, by rw [h3', hzl], ?_, h5⟩
    rw [List.map_cons, fill_one (by rw [hsz]) (by simp at hzlen; omega)]
    exact h4


theorem okFs_all : ∀ {l : List (Nat × Nat)} {n : Nat}, cx.okFs n l = true → ∀ p e, (p, e) ∈ l → cx.okT e = true ∧ p + (cx.ty e).lv.length ≤ n
  | [], n, _, p, e, h => by cases h
  | (p0, t0) :: l, n, h, p, e, hm => by
    unfold Cx.okFs at h
    split at h
    · rename_i h1 h2
      cases hm with
      | head => exact ⟨h1, Nat.le_of_ble_eq_true h2⟩
      | tail _ hm => exact okFs_all h p e hm
    · cases h

theorem places_ok (hT : TysOK P cx.tys) : ∀ {l : List (Nat × Nat)} {fs : List Field}, fsEq l fs = true → (∀ p e, (p, e) ∈ l → cx.okT e = true) →
    fs.mapM (fun f => (P.info? f.type).map fun i => (f.offset, i.size)) = some (l.map fun pe => (pe.1, (cx.ty pe.2).lv.length))
  | [], [], _, _ => rfl
  | [], _ :: _, h, _ => by simp [fsEq] at h
  | (_, _) :: _, [], h, _ => by simp [fsEq] at h
  | (p, e) :: l, f :: fs, h, hok => by
    simp only [fsEq, Bool.and_eq_true] at h
    have h1 := beq_eq h.1.1
    have h2 := beq_eq h.1.2
    subst h1; subst h2
    obtain ⟨i, z, hi, hs, _⟩ := run_info hT (hok _ _ (.head _))
    have ih := places_ok hT h.2 (fun p e hm => hok p e (.tail _ hm))
    simp [List.mapM_cons, hi, hs, ih]

theorem build_ok (hT : TysOK P cx.tys) (I : Inv φ0 H0 w0 φ H lam fr tmps w) (df : List Deferred) {t : Nat} {parts : Array (Nat × Operand)} {K : List GV → Prop} (ht : (cx.ty t).agg = true) (hk0 : (cx.ty t).k = 0) (hfs : cx.okFs (cx.ty t).lv.length (cx.ty t).fs = true)
    (h : bldK cx (ev fr) t (zerosK (cx.ty t).lv) parts.toList K) : ∃ cs u, K cs ∧ (Instr.build t (parts.map fun (i, x) => (i, Act.eval ⟨tmps, df⟩ x))).run P w = .ok u w ∧ VOK w0.heap.size φ H lam fr w (.agg cs) u := by
  obtain ⟨i, z, hi, hs, hz, hzc, _⟩ := run_info hT (okT_of_agg ht)
  obtain ⟨d, hd, hok⟩ := run_under hT (okT_of_agg ht)
  have hall := okFs_all hfs
  have hzl : z.cells.toList.length = (cx.ty t).lv.length := by rw [hzc]; simp
  have hzi : Is2 φ (zerosK (cx.ty t).lv) z.cells.toList := by rw [hzc]; exact zeros_is φ _
  have fin : ∀ place, (∀ i p e, (cx.ty t).fs[i]? = some (p, e) → place i = some (p, (cx.ty e).lv.length)) → (∀ cells', Instr.fill place z.cells (parts.toList.map fun (i, x) => (i, Act.eval ⟨tmps, df⟩ x)) = some cells' → P.built t (parts.map fun (i, x) => (i, Act.eval ⟨tmps, df⟩ x)).toList = some cells') →
      ∃ cs u, K cs ∧ (Instr.build t (parts.map fun (i, x) => (i, Act.eval ⟨tmps, df⟩ x))).run P w = .ok u w ∧ VOK w0.heap.size φ H lam fr w (.agg cs) u := by
    intro place hp hb
    obtain ⟨zs', cells', h1, h2, h3⟩ := bldK_ok I df t place hp h hzi (fun p e hm => by have := (hall p e hm).2; simp [zerosK]; exact this)
    exact ⟨zs', _, h1, run_build w t _ cells' (hb _ h2), cells', rfl, h3⟩
  cases d with
  | struct fs =>
    simp only [descOK, Bool.and_eq_true] at hok
    have hpl := places_ok hT hok.2 (fun p e hm => (hall p e hm).1)
    refine fin (((cx.ty t).fs.map fun pe => (pe.1, (cx.ty pe.2).lv.length))[·]?) (fun i p e hf => by simp [hf]) (fun cells' hc => ?_)
    simp only [Program.built, hi, hd, hz, hpl, Array.toList_map]
    simpa using hc
  | array n e => simp [descOK, hk0] at hok
  | _ => simp [descOK, ht, hk0] at hok

theorem rep_get {α : Type} (cs : List α) : ∀ (n j : Nat), (List.replicate n cs).flatten[j]? = if j < n * cs.length then cs[j % cs.length]? else none
  | 0, j => by simp
  | n + 1, j => by
    rw [List.replicate_succ, List.flatten_cons]
    by_cases h : j < cs.length
    · rw [List.getElem?_append_left h, Nat.mod_eq_of_lt h, if_pos]
      rw [Nat.succ_mul]; omega
    · rw [List.getElem?_append_right (by omega), rep_get cs n]
      have h1 : (j - cs.length) % cs.length = j % cs.length := by rw [← Nat.mod_eq_sub_mod (by omega)]
      rw [h1, Nat.succ_mul]
      by_cases h2 : j - cs.length < n * cs.length
      · rw [if_pos h2, if_pos (by omega)]
      · rw [if_neg h2, if_neg (by omega)]

theorem rep_is (φ : List LI) (ks : List LK) (zc : Array Value) (hz : zc.toList = ks.map zV) (n m : Nat) (hm : m = n * ks.length) : Is2 φ (repK n (zerosK ks)) ((Array.range m).map (zc[· % zc.size]!)).toList := by
  have hsz : zc.size = ks.length := by rw [← Array.length_toList, hz]; simp
  subst hm
  apply All2.of_get
  · simp [repK, zerosK]
  · intro j a b ha hb
    have e1 : (zerosK ks).length = ks.length := by simp [zerosK]
    rw [repK, rep_get, e1] at ha
    split at ha
    · rename_i hj
      have hpos : 0 < ks.length := by
        rcases Nat.eq_zero_or_pos ks.length with h | h
        · rw [h] at hj; omega
        · exact h
      have hlt : j % ks.length < ks.length := Nat.mod_lt _ hpos
      simp [hj] at hb
      obtain ⟨x, hx, hax⟩ := (zeros_is φ ks).get ha
      have hx' : zc[j % zc.size]? = some x := by rw [hsz, ← Array.getElem?_toList, hz]; exact hx
      rw [← hb]
      simpa [Array.getElem!_eq_getD, hx'] using hax
    · cases ha


/-! ## blocks -/
/-- a slice's literal -/
theorem run_buildSlice (hT : TysOK P cx.tys) (I : Inv φ0 H0 w0 φ H lam fr tmps w) (df : List Deferred) {t n : Nat} {parts : Array (Nat × Operand)} {K : List GV → Prop} (ht : cx.isSl t = true) (hz : 1 ≤ (cx.ty (cx.ty t).el).lv.length)
    (hn : n * (cx.ty (cx.ty t).el).lv.length ≤ 16777216) (h : blsK (ev fr) (cx.ty (cx.ty t).el).lv.length (repK n (zerosK (cx.ty (cx.ty t).el).lv)) parts.toList K) :
    ∃ cs cells, K cs ∧ cs.length = n * (cx.ty (cx.ty t).el).lv.length ∧ cs.length = cells.size ∧ Is2 φ cs cells.toList ∧ (Instr.buildSlice t n (parts.map fun (i, x) => (i, Act.eval ⟨tmps, df⟩ x))).run P w = .ok (.slice (some ⟨w.heap.size, 0, none⟩) n n) (w.alloc (.cells cells (cx.ty t).el)) := by
  have ht := isSl_iff ht
  have hd := desc_slice hT ht.1
  have hs := run_sizeOf hT ht.2 w
  obtain ⟨i, z, hi, hs', hz', hzc, _⟩ := run_info hT ht.2
  obtain ⟨cs, cells, h1, h2, h3, h4⟩ := blsK_ok I df hz (cells := (Array.range (n * (cx.ty (cx.ty t).el).lv.length)).map (z.cells[· % z.cells.size]!)) h (rep_is φ _ z.cells hzc n _ rfl)
  have h5 := h4.length
  refine ⟨cs, cells, h1, by rw [h2]; simp [repK, zerosK], by simpa using h5, h4, ?_⟩
  have hn' : ¬ (16777216 < n * (cx.ty (cx.ty t).el).lv.length) := by omega
  by_cases h0 : n * (cx.ty (cx.ty t).el).lv.length = 0
  · rw [h0] at h3
    simp [Array.range_zero'] at h3
    simp [Instr.buildSlice, run_underlying hd, hs, h0, Array.range_zero', h3, newRow]
  · simp [Instr.buildSlice, run_underlying hd, hs, hn', h0, zeroValue, typeInfo, hi, hz', h3, newRow]

/-- a box -/
theorem run_box (t : TypeId) (v : Value) : (Instr.box t v).run P w = .ok (.pointer (some ⟨w.heap.size, 0, none⟩)) (w.alloc (.cells v.cells t)) := by simp [Instr.box, newVar, newRow]
theorem run_alloc (hT : TysOK P cx.tys) {t : TypeId} (ht : cx.okT t = true) : ∃ z : Value, z.cells.toList = (cx.ty t).lv.map zV ∧ (Instr.alloc t true (.tuple #[])).run P w = .ok (.pointer (some ⟨w.heap.size, 0, none⟩)) (w.alloc (.cells z.cells t)) := by
  obtain ⟨i, z, hi, hs', hz', hzc, _⟩ := run_info hT ht
  exact ⟨z, hzc, by simp [Instr.alloc, zeroValue, typeInfo, hi, hz', newVar, newRow]⟩

/-- a block that no row lies in is new -/
theorem Inv.alloc (I : Inv φ0 H0 w0 φ H lam fr tmps w) (o : Go.Obj) : Inv φ0 H0 w0 φ H lam fr tmps (w.alloc o) :=
  I.go (List.prefix_refl _) ⟨I.rep.len, fun l own t' cs' hl => by
    obtain ⟨i, hi, hr⟩ := I.rep.row l own t' cs' hl
    exact ⟨i, hi, hr.keep (heap_alloc_old w _ _ (I.rep.blockLt ⟨l, own, t', cs', i, hl, hi, rfl⟩)) (by simp)⟩, I.rep.apart⟩ (keeps_alloc _ _ _) (fun _ h => .inl h) (fun _ h => .inl h)

end
end Go.Am
