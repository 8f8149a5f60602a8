import Derived.Test.YtmjnenpllddhfaaAmG
set_option linter.unusedVariables false
set_option linter.unusedSimpArgs false
namespace Go.Am

theorem mem_iff {i : Nat} : ∀ {l : List Nat}, mem i l = true ↔ i ∈ l
  | [] => by simp [mem]
  | j :: l => by
    unfold mem
    split
    · rename_i e; simp [beq_eq e]
    · rename_i e
      have : i ≠ j := by intro q; subst q; simp at e
      simp [this, mem_iff (l := l)]
theorem nodupB_iff : ∀ {l : List Nat}, nodupB l = true → l.Nodup
  | [], _ => List.nodup_nil
  | i :: l, h => by
    unfold nodupB at h
    split at h
    · cases h
    · rename_i e
      refine List.nodup_cons.2 ⟨fun q => ?_, nodupB_iff h⟩
      rw [mem_iff.2 q] at e; cases e

/-! ## who waits for whom -/
def Lis (L : Array Bool) (i : Nat) : Prop := L.getD i false = true
theorem bitsOf_spec {acc : List Nat} {b : Nat} : ∀ {es : List Edge} {s : Nat}, (bitsOf acc es s).testBit b = true → s.testBit b = true ∨ ∃ e ∈ es, Region.binds .any e = true ∧ (b = e.on ∨ (acc.getD e.on 0).testBit b = true)
  | [], s, h => .inl h
  | e :: es, s, h => by
    unfold bitsOf at h
    rcases bitsOf_spec h with q | ⟨e', h1, h2⟩
    · split at q
      · rename_i hb
        simp only [Nat.testBit_or, Bool.or_eq_true] at q
        rcases q with (q | q) | q
        · exact .inl q
        · rw [Nat.testBit_two_pow] at q
          exact .inr ⟨e, by simp, hb, .inl (by simpa using q : e.on = b).symm⟩
        · exact .inr ⟨e, by simp, hb, .inr q⟩
      · exact .inl q
    · exact .inr ⟨e', by simp [h1], h2⟩

def WSpec (os : List Oper) (W : List Nat) : Prop := ∀ i b, (W.getD i 0).testBit b = true → ∃ o e, os[i]? = some o ∧ e ∈ o.after ∧ Region.binds .any e = true ∧ (b = e.on ∨ (e.on < i ∧ (W.getD e.on 0).testBit b = true))
theorem waitsGo_spec : ∀ (os pre : List Oper) (acc : List Nat), acc.length = pre.length → WSpec (pre ++ os) acc → WSpec (pre ++ os) (waitsGo acc os)
  | [], pre, acc, _, h => h
  | o :: os, pre, acc, hl, h => by
    have := waitsGo_spec os (pre ++ [o]) (acc ++ [bitsOf acc o.after.toList 0]) (by simp [hl]) (by
      simp only [List.append_assoc, List.singleton_append]
      intro i b hb
      rcases Nat.lt_trichotomy i acc.length with q | q | q
      · rw [List.getD_eq_getElem?_getD, List.getElem?_append_left q, ← List.getD_eq_getElem?_getD] at hb
        obtain ⟨o', e, h1, h2, h3, h4⟩ := h i b hb
        refine ⟨o', e, h1, h2, h3, h4.imp_right fun r => ⟨r.1, ?_⟩⟩
        rw [List.getD_eq_getElem?_getD, List.getElem?_append_left (by omega), ← List.getD_eq_getElem?_getD]
        exact r.2
      · subst q
        rw [List.getD_eq_getElem?_getD, List.getElem?_append_right (Nat.le_refl _)] at hb
        simp at hb
        rcases bitsOf_spec hb with q | ⟨e, h1, h2, h3⟩
        · simp at q
        · refine ⟨o, e, by rw [List.getElem?_append_right (by omega)]; simp [hl], by simpa using h1, h2, h3.imp_right fun r => ?_⟩
          have hlt : e.on < acc.length := by
            rcases Nat.lt_or_ge e.on acc.length with q | q
            · exact q
            · rw [List.getD_eq_getElem?_getD, List.getElem?_eq_none q] at r; simp at r
          refine ⟨hlt, ?_⟩
          rw [List.getD_eq_getElem?_getD, List.getElem?_append_left hlt, ← List.getD_eq_getElem?_getD]
          exact r
      · rw [List.getD_eq_getElem?_getD, List.getElem?_eq_none (by simp; omega)] at hb
        simp at hb)
    simpa [waitsGo] using this
theorem waits_spec (ops : Array Oper) : WSpec ops.toList (waits ops) := by
  have := waitsGo_spec ops.toList [] [] rfl (fun i b h => by simp at h)
  simpa [waits] using this

def Closed (ops : Array Oper) (L : Array Bool) : Prop := ∀ (i : Nat) o, ops[i]? = some o → Lis L i → ∀ e ∈ o.after, Region.binds .any e = true → Lis L e.on

theorem waits_listed {ops : Array Oper} {L : Array Bool} (hc : Closed ops L) : ∀ (i : Nat), (∀ o, ops[i]? = some o → ∀ e ∈ o.after, Region.binds .any e = true → Lis L e.on) → ∀ b, has ((waits ops).getD i 0) b = true → Lis L b := by
  intro i
  induction i using Nat.strongRecOn with
  | _ i ih =>
    intro hd b hb
    obtain ⟨o, e, h1, h2, h3, h4⟩ := waits_spec ops i b hb
    have h1' : ops[i]? = some o := by simpa using h1
    have hl := hd o h1' e h2 h3
    rcases h4 with rfl | ⟨h5, h6⟩
    · exact hl
    · exact ih e.on h5 (fun o' ho' e' he' hb' => hc e.on o' ho' hl e' he' hb') b h6

/-! ## the checks, told -/
structure DrFacts (cx : Cx) (ops : Array Oper) (m : Nat) (σ al : List Nat) : Prop where
  all : ∀ i, i < m → i ∈ σ
  lt : ∀ i, i ∈ σ → i < m
  le : m ≤ ops.size
  nodup : σ.Nodup
  eff : effOK cx ops (waits ops) σ = true
  dst : ∀ i j, i < m → j < m → ∀ d, d ∈ dstAt ops i → d ∈ dstAt ops j → i = j
  op : ∀ i, i < m → ∃ o, ops[i]? = some o ∧ (∀ t ∈ o.looksAt ops, (isStore o = false → t ∉ al) ∧ ∀ j, j < m → t ∈ dstAt ops j → has ((waits ops).getD i 0) j = true) ∧ (isStore o = true → o.dst = none) ∧
    (∀ g w, o.guard = some (g, w) → has ((waits ops).getD i 0) g = true) ∧ (isAl cx o = true → ∀ d, o.dst = some d → d ∈ al)
  edge : ∀ (i : Nat) o, ops[i]? = some o → ∀ e ∈ o.after, Region.binds .any e = true → e.on < i
  tail : ∀ i, i < ops.size → m ≤ i → ∀ j, j < i → has ((waits ops).getD i 0) j = true

theorem nodup_flat {f : Nat → List Nat} : ∀ {l : List Nat}, (l.flatMap f).Nodup → l.Nodup → ∀ i j, i ∈ l → j ∈ l → ∀ d, d ∈ f i → d ∈ f j → i = j
  | [], _, _, i, j, hi, _, d, _, _ => by cases hi
  | a :: l, h, hl, i, j, hi, hj, d, hdi, hdj => by
    rw [List.flatMap_cons, List.nodup_append] at h
    obtain ⟨_, h2, h3⟩ := h
    rw [List.nodup_cons] at hl
    cases hi with
    | head =>
      cases hj with
      | head => rfl
      | tail _ hj => exact (h3 d hdi d (List.mem_flatMap.2 ⟨j, hj, hdj⟩) rfl).elim
    | tail _ hi =>
      cases hj with
      | head => exact (h3 d hdj d (List.mem_flatMap.2 ⟨i, hi, hdi⟩) rfl).elim
      | tail _ hj => exact nodup_flat h2 hl.2 i j hi hj d hdi hdj

theorem opAt_true {ops : Array Oper} {i : Nat} {f : Oper → Bool} (h : opAt ops i false f = true) : ∃ o, ops[i]? = some o ∧ f o = true := by
  unfold opAt at h
  split at h
  · rename_i o e; exact ⟨o, e, h⟩
  · cases h

theorem drFacts {cx : Cx} {ops : Array Oper} {m : Nat} {σ al : List Nat} (h : drOKs cx ops (waits ops) m σ al = true) : DrFacts cx ops m σ al := by
  unfold drOKs at h
  simp only [Bool.and_eq_true, List.all_eq_true, List.mem_range] at h
  obtain ⟨⟨⟨⟨⟨⟨⟨h1, h2⟩, h3⟩, h4⟩, h5⟩, h6⟩, h7⟩, h8⟩ := h
  refine ⟨fun i hi => mem_iff.1 (h1 i hi), fun i hi => by have := h2 i hi; exact (show i + 1 ≤ m by simpa [Nat.blt] using this), Nat.le_of_ble_eq_true h3, nodupB_iff h4, h5, ?_, ?_, ?_, ?_⟩
  · intro i j hi hj d hdi hdj
    exact nodup_flat (nodupB_iff h6) List.nodup_range i j (List.mem_range.2 hi) (List.mem_range.2 hj) d hdi hdj
  · intro i hi
    obtain ⟨h9, h10⟩ := h7 i hi
    obtain ⟨o, ho, h11⟩ := opAt_true h10
    obtain ⟨o', ho', h12⟩ := opAt_true h9
    rw [ho] at ho'; cases ho'
    simp only [Bool.and_eq_true] at h11
    obtain ⟨⟨h13, h14⟩, h15⟩ := h11
    refine ⟨o, ho, fun t ht => ?_, fun hs => by rw [hs] at h13; unfold noDst at h13; cases hd : o.dst with | none => rfl | some d => rw [hd] at h13; simp at h13, fun g w hg => ?_, fun ha d hd => ?_⟩
    · rw [List.all_eq_true] at h12
      have := h12 t ht
      simp only [Bool.and_eq_true, List.all_eq_true, List.mem_range] at this
      obtain ⟨q1, q2⟩ := this
      refine ⟨fun hs q => by rw [mem_iff.2 q, hs] at q1; simp at q1, fun j hj hjt => ?_⟩
      have := q2 j hj
      rw [mem_iff.2 hjt] at this
      exact this
    · unfold guardOK at h14; rw [hg] at h14; exact h14
    · rw [ha] at h15
      have : d ∈ dstAt ops i := by simp [dstAt, ho, hd]
      exact mem_iff.1 (List.all_eq_true.1 h15 d this)
  · intro i o ho e he hb
    have hi : i < ops.size := (Array.getElem?_eq_some_iff.1 ho).1
    obtain ⟨h9, _⟩ := h8 i hi
    obtain ⟨o', ho', h10⟩ := opAt_true h9
    rw [ho] at ho'; cases ho'
    unfold edgesOK at h10
    have := List.all_eq_true.1 h10 e (by simpa using he)
    rw [hb] at this
    exact (show e.on + 1 ≤ i by simpa [Nat.blt] using this)
  · intro i hi hm j hj
    obtain ⟨_, h9⟩ := h8 i hi
    rw [Bool.or_eq_true] at h9
    rcases h9 with q | q
    · have : i + 1 ≤ m := by simpa [Nat.blt] using q
      omega
    · exact List.all_eq_true.1 q j (List.mem_range.2 hj)

/-- in the order that is walked, what waits for whom -/
theorem effOK_spec {cx : Cx} {ops : Array Oper} {W : List Nat} : ∀ {pre post : List Nat} {i : Nat}, effOK cx ops W (pre ++ i :: post) = true →
    (opAt ops i false (isEff cx) = true → ∀ j ∈ post, has (W.getD j 0) i = true) ∧ has (W.getD i 0) i = false ∧ (∀ j ∈ pre, has (W.getD j 0) i = false)
  | [], post, i, h => by
    simp only [List.nil_append, effOK, Bool.and_eq_true] at h
    obtain ⟨⟨⟨h1, h2⟩, h3⟩, h4⟩ := h
    refine ⟨fun he j hj => ?_, by simpa using h2, fun j hj => by cases hj⟩
    rw [he] at h1
    exact List.all_eq_true.1 h1 j hj
  | a :: pre, post, i, h => by
    simp only [List.cons_append, effOK, Bool.and_eq_true] at h
    obtain ⟨⟨⟨h1, h2⟩, h3⟩, h4⟩ := h
    obtain ⟨g1, g2, g3⟩ := effOK_spec h4
    refine ⟨g1, g2, fun j hj => ?_⟩
    cases hj with
    | head => have := List.all_eq_true.1 h3 i (by simp); simpa using this
    | tail _ hj => exact g3 j hj

end Go.Am
