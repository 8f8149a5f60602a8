import Derived.Test.YtmjnenpllddhfaaST
set_option linter.unusedVariables false
set_option linter.unusedSimpArgs false
namespace Go.Am

def blt (a b : ByteArray) : Bool := Op.bytesLess (bs a) (bs b)
theorem blt_eq (a b : ByteArray) : strLt a b = blt a b := strLt_bs a b

/-! a page's form, by a computation -/
def risB : List ByteArray → Bool
  | [] => true
  | [_] => true
  | a :: b :: r => Op.bytesLess (bs a) (bs b) && risB (b :: r)
theorem risB_iff : ∀ xs : List ByteArray, risB xs = true ↔ Rising xs
  | [] => ⟨fun _ i h => absurd h (by simp), fun _ => rfl⟩
  | [_] => ⟨fun _ i h => absurd h (by simp), fun _ => rfl⟩
  | a :: b :: r => by
    have ih := risB_iff (b :: r)
    simp only [risB, Bool.and_eq_true, ih, ← strLt_bs]
    constructor
    · rintro ⟨h1, h2⟩ i hi
      cases i with
      | zero => exact h1
      | succ i => exact h2 i (by simp at hi ⊢; omega)
    · intro h
      refine ⟨h 0 (by simp), fun i hi => ?_⟩
      exact h (i + 1) (by simp at hi ⊢; omega)
def nodB : List Int → Bool
  | [] => true
  | a :: r => !(r.contains a) && nodB r
theorem nodB_iff : ∀ xs : List Int, nodB xs = true ↔ xs.Nodup
  | [] => by simp [nodB]
  | a :: r => by simp [nodB, nodB_iff r]
def fitsB (p : Pg) : Bool := p.used && (risB p.keys && (p.keys.all (fun k => decide (1 ≤ k.size) && decide (k.size ≤ 6)) &&
  (match p.leaf with
   | true => decide (p.vals.length = p.keys.length) && (p.kids.isEmpty && p.vals.all (fun v => decide (v.size ≤ 10)))
   | false => decide (1 ≤ p.keys.length) && (p.vals.isEmpty && (decide (p.kids.length = p.keys.length + 1) && (p.kids.all (fun k => decide (1 ≤ k) && decide (k < 48)) && nodB p.kids))))))
theorem fitsB_iff (p : Pg) : fitsB p = true ↔ FitsP p := by
  obtain ⟨u, l, ks, vs, is⟩ := p
  cases l with
  | true =>
    simp only [fitsB, Bool.and_eq_true, risB_iff, List.all_eq_true, decide_eq_true_eq, List.isEmpty_iff]
    exact ⟨fun h => ⟨h.1, h.2.1, h.2.2.1, fun _ => h.2.2.2, fun q => (by cases q)⟩, fun h => ⟨h.used, h.rising, h.keys, h.leaf rfl⟩⟩
  | false =>
    simp only [fitsB, Bool.and_eq_true, risB_iff, nodB_iff, List.all_eq_true, decide_eq_true_eq, List.isEmpty_iff]
    exact ⟨fun h => ⟨h.1, h.2.1, h.2.2.1, fun q => (by cases q), fun _ => h.2.2.2⟩, fun h => ⟨h.used, h.rising, h.keys, h.inner rfl⟩⟩
def mayB_ (p : Pg) : Bool := decide (p.keys.length ≤ 4) && fitsB p
theorem mayB_iff (p : Pg) : mayB_ p = true ↔ MayP p := by simp [mayB_, MayP, fitsB_iff]

/-! a walk over a tree -/
structure WS where
  met : List Bool
  deep : Nat
  count : Nat
def holdB (lo hi : ByteArray) (ks : List ByteArray) : Bool := ks.all fun k => !(blt k lo) && (decide (hi.size = 0) || blt k hi)
def loK (p : Pg) (lo : ByteArray) (i : Nat) : ByteArray := match decide (0 < i) with | true => p.keys[i - 1]?.getD lo | false => lo
def hiK (p : Pg) (hi : ByteArray) (i : Nat) : ByteArray := p.keys[i]?.getD hi
def kidsD (rec : Int → Nat → WS → Option WS) : List Int → Nat → WS → Option WS
  | [], _, st => some st
  | k :: ks, i, st => match rec k i st with
    | none => none
    | some st' => kidsD rec ks (i + 1) st'
/-- may the walk go on at a page? -/
def okD (p : Pg) (at_ : Nat) (lo hi : ByteArray) (st : WS) : Bool := !(st.met[at_]?.getD true) && (mayB_ p && (!(decide (0 < at_) && decide (p.keys.length < 2)) && holdB lo hi p.keys))
def leafD (p : Pg) (deep : Nat) (st : WS) : Option WS := match decide (st.deep = 0) with
  | true => some ⟨st.met, deep, st.count + p.keys.length⟩
  | false => match decide (st.deep = deep) with
    | true => some ⟨st.met, deep, st.count + p.keys.length⟩
    | false => none
def walkD (T : List Pg) : Nat → Nat → Nat → ByteArray → ByteArray → WS → Option WS
  | 0, _, _, _, _, _ => none
  | f + 1, at_, deep, lo, hi, st => match T[at_]? with
    | none => none
    | some p => match okD p at_ lo hi st with
      | false => none
      | true => match p.leaf with
        | true => leafD p deep ⟨st.met.set at_ true, st.deep, st.count⟩
        | false => kidsD (fun k i s => walkD T f k.toNat (deep + 1) (loK p lo i) (hiK p hi i) s) p.kids 0 ⟨st.met.set at_ true, st.deep, st.count⟩
def nothingB (p : Pg) : Bool := !p.used && (!p.leaf && (p.keys.isEmpty && (p.vals.isEmpty && p.kids.isEmpty)))
def restD (T : List Pg) (met : List Bool) : Bool := (List.range T.length).all fun i => met[i]?.getD true || nothingB (T[i]?.getD noPg)
def ws0 : WS := ⟨List.replicate 48 false, 0, 0⟩
/-- how high a tree is; 0: it is not sound -/
def heightD (T : List Pg) : Nat := match decide (T.length = 48) with
  | false => 0
  | true => match walkD T 49 0 1 (mkS []) (mkS []) ws0 with
    | none => 0
    | some st => match restD T st.met && decide (st.count ≤ 60) with
      | true => st.deep
      | false => 0

/-- pages not met -/
def unmet (met : List Bool) : Nat := (met.filter (! ·)).length
theorem unmet_set : ∀ {met : List Bool} {i : Nat}, met[i]? = some false → unmet (met.set i true) + 1 = unmet met
  | [], i, h => by simp at h
  | b :: met, 0, h => by simp at h; subst h; simp [unmet]
  | b :: met, i + 1, h => by
    have := unmet_set (met := met) (i := i) (by simpa using h)
    unfold unmet at this ⊢
    cases b <;> simp <;> simpa using this
theorem walkD_unmet (T : List Pg) : ∀ f at_ deep lo hi st st', walkD T f at_ deep lo hi st = some st' → unmet st'.met ≤ unmet st.met ∧ st'.met.length = st.met.length ∧ (1 ≤ deep → st'.deep ≠ 0) ∧ st'.count + 4 * unmet st'.met ≤ st.count + 4 * unmet st.met := by
  intro f
  induction f with
  | zero => intro _ _ _ _ _ _ h; cases h
  | succ f ih =>
    intro at_ deep lo hi st st' h
    unfold walkD at h
    cases hp : T[at_]? with
    | none => rw [hp] at h; cases h
    | some p =>
      rw [hp] at h
      dsimp only at h
      cases hok : okD p at_ lo hi st with
      | false => rw [hok] at h; cases h
      | true =>
        rw [hok] at h
        dsimp only at h
        have hm : st.met[at_]? = some false := by
          unfold okD at hok
          rw [Bool.and_eq_true] at hok
          have := hok.1
          cases hq : st.met[at_]? with
          | none => rw [hq] at this; simp at this
          | some b => rw [hq] at this; simp at this; rw [this]
        have hu := unmet_set hm
        have h4 : p.keys.length ≤ 4 := by
          unfold okD at hok
          simp only [Bool.and_eq_true] at hok
          exact ((mayB_iff p).1 hok.2.1).1
        cases hl : p.leaf with
        | true =>
          rw [hl] at h
          dsimp only [leafD] at h
          split at h
          · cases h; exact ⟨by dsimp only; omega, by simp, fun hd => by dsimp only; omega, by dsimp only; omega⟩
          · split at h
            · cases h; exact ⟨by dsimp only; omega, by simp, fun hd => by dsimp only; omega, by dsimp only; omega⟩
            · cases h
        | false =>
          rw [hl] at h
          dsimp only at h
          have hk : p.kids ≠ [] := by
            intro e
            unfold okD at hok
            simp only [Bool.and_eq_true] at hok
            have := ((mayB_iff p).1 hok.2.1).2.inner hl
            rw [e] at this
            simp at this
          have key : ∀ (ks : List Int) (i : Nat) (s s' : WS), kidsD (fun k i s => walkD T f k.toNat (deep + 1) (loK p lo i) (hiK p hi i) s) ks i s = some s' → unmet s'.met ≤ unmet s.met ∧ s'.met.length = s.met.length ∧ (ks ≠ [] ∨ s.deep ≠ 0 → s'.deep ≠ 0) ∧ s'.count + 4 * unmet s'.met ≤ s.count + 4 * unmet s.met := by
            intro ks
            induction ks with
            | nil => intro i s s' h; cases h; exact ⟨Nat.le_refl _, rfl, fun q => by rcases q with q | q; exact (q rfl).elim; exact q, Nat.le_refl _⟩
            | cons k ks ihk =>
              intro i s s' h
              unfold kidsD at h
              cases hw : walkD T f k.toNat (deep + 1) (loK p lo i) (hiK p hi i) s with
              | none => rw [hw] at h; cases h
              | some s1 =>
                rw [hw] at h
                obtain ⟨u1, u2, u3, u4⟩ := ih _ _ _ _ _ _ hw
                obtain ⟨v1, v2, v3, v4⟩ := ihk _ _ _ h
                exact ⟨by omega, by omega, fun _ => v3 (.inr (u3 (by omega))), by omega⟩
          obtain ⟨u1, u2, u3, u4⟩ := key _ _ _ _ h
          dsimp only at u1 u2 u4
          exact ⟨by omega, by rw [u2]; simp, fun _ => u3 (.inl hk), by omega⟩

theorem walkD_eq (T : List Pg) (f at_ deep : Nat) (lo hi : ByteArray) (st : WS) {p : Pg} (hp : T[at_]? = some p) : walkD T (f + 1) at_ deep lo hi st = (match okD p at_ lo hi st with
      | false => none
      | true => match p.leaf with
        | true => leafD p deep ⟨st.met.set at_ true, st.deep, st.count⟩
        | false => kidsD (fun k i s => walkD T f k.toNat (deep + 1) (loK p lo i) (hiK p hi i) s) p.kids 0 ⟨st.met.set at_ true, st.deep, st.count⟩) := by
  rw [walkD, hp]
end Go.Am
