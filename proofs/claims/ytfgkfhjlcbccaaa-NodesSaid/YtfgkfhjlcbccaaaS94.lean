import Derived.Test.YtfgkfhjlcbccaaaS93
set_option linter.unusedVariables false
set_option linter.unusedSimpArgs false
namespace Go.Am
open Classical

/-! a page's form, by a computation -/
def risB : List ByteArray → Bool
  | [] => true
  | [_] => true
  | a :: b :: r => Op.bytesLess (bs a) (bs b) && risB (b :: r)
theorem risB_iff : ∀ xs : List ByteArray, risB xs = true ↔ Rising xs
  | [] => ⟨fun _ i h => absurd h (by simp), fun _ => rfl⟩
  | [_] => ⟨fun _ i h => absurd h (by simp), fun _ => rfl⟩
  | a :: b :: r => by
    have ih := risB_iff (b :: r)
    simp only [risB, Bool.and_eq_true, ih, ← strLt_bs]
    constructor
    · rintro ⟨h1, h2⟩ i hi
      cases i with
      | zero => exact h1
      | succ i => exact h2 i (by simp at hi ⊢; omega)
    · intro h
      refine ⟨h 0 (by simp), fun i hi => ?_⟩
      exact h (i + 1) (by simp at hi ⊢; omega)
def nodB : List Int → Bool
  | [] => true
  | a :: r => !(r.contains a) && nodB r
theorem nodB_iff : ∀ xs : List Int, nodB xs = true ↔ xs.Nodup
  | [] => by simp [nodB]
  | a :: r => by simp [nodB, nodB_iff r]
def fitsB (p : Pg) : Bool := p.used && (risB p.keys && (p.keys.all (fun k => decide (1 ≤ k.size) && decide (k.size ≤ 6)) &&
  (match p.leaf with
   | true => decide (p.vals.length = p.keys.length) && (p.kids.isEmpty && p.vals.all (fun v => decide (v.size ≤ 10)))
   | false => decide (1 ≤ p.keys.length) && (p.vals.isEmpty && (decide (p.kids.length = p.keys.length + 1) && (p.kids.all (fun k => decide (1 ≤ k) && decide (k < 48)) && nodB p.kids))))))
theorem fitsB_iff (p : Pg) : fitsB p = true ↔ FitsP p := by
  obtain ⟨u, l, ks, vs, is⟩ := p
  cases l with
  | true =>
    simp only [fitsB, Bool.and_eq_true, risB_iff, List.all_eq_true, decide_eq_true_eq, List.isEmpty_iff]
    exact ⟨fun h => ⟨h.1, h.2.1, h.2.2.1, fun _ => h.2.2.2, fun q => (by cases q)⟩, fun h => ⟨h.used, h.rising, h.keys, h.leaf rfl⟩⟩
  | false =>
    simp only [fitsB, Bool.and_eq_true, risB_iff, nodB_iff, List.all_eq_true, decide_eq_true_eq, List.isEmpty_iff]
    exact ⟨fun h => ⟨h.1, h.2.1, h.2.2.1, fun q => (by cases q), fun _ => h.2.2.2⟩, fun h => ⟨h.used, h.rising, h.keys, h.inner rfl⟩⟩
def mayB_ (p : Pg) : Bool := decide (p.keys.length ≤ 4) && fitsB p
theorem mayB_iff (p : Pg) : mayB_ p = true ↔ MayP p := by simp [mayB_, MayP, fitsB_iff]
def canSplitB (p : Pg) : Bool := decide (p.keys.length = 5) && fitsB p
theorem canSplitB_iff (p : Pg) : canSplitB p = true ↔ CanSplit p := by simp [canSplitB, CanSplit, fitsB_iff]
def canJoinB (a : Pg) (k : ByteArray) (b : Pg) : Bool := mayB_ a && (mayB_ b && ((a.leaf == b.leaf) && mayB_ (joinP a k b)))
theorem canJoinB_iff (a : Pg) (k : ByteArray) (b : Pg) : canJoinB a k b = true ↔ CanJoin a k b := by simp [canJoinB, CanJoin, mayB_iff]
theorem sp_no {p : Pg} (h : canSplitB p = false) : spA p = noPg ∧ spB p = noPg ∧ spK p = mkS [] ∧ spE p = 900 := by
  have hn : ¬ CanSplit p := fun c => by rw [(canSplitB_iff p).2 c] at h; cases h
  exact ⟨if_neg hn, if_neg hn, if_neg hn, if_neg hn⟩
theorem sp_yes {p : Pg} (h : canSplitB p = true) : spA p = cutA p ∧ spB p = cutB p ∧ spK p = pcutK p ∧ spE p = 0 := by
  have hn : CanSplit p := (canSplitB_iff p).1 h
  exact ⟨if_pos hn, if_pos hn, if_pos hn, if_pos hn⟩
theorem jo_no {p q : Pg} {k : ByteArray} (h : canJoinB p k q = false) : jo p k q = noPg ∧ joE p k q = 900 := by
  have hn : ¬ CanJoin p k q := fun c => by rw [(canJoinB_iff p k q).2 c] at h; cases h
  exact ⟨if_neg hn, if_neg hn⟩
theorem jo_yes {p q : Pg} {k : ByteArray} (h : canJoinB p k q = true) : jo p k q = joinP p k q ∧ joE p k q = 0 := by
  have hn : CanJoin p k q := (canJoinB_iff p k q).1 h
  exact ⟨if_pos hn, if_pos hn⟩

/-! a row lent -/
section
variable {H : Hp} {Q : Post} {a : Pl} {n : Nat} {xs : List ByteArray}
def lent (xs : List ByteArray) : List ByteArray := xs ++ [mkS [126, 114, 111, 111, 109], mkS [126, 98, 101, 104, 105, 110, 100]]
theorem law0_CopyTexts_spec (h : Ss H a n xs) (hQ : ∀ a' H', H <+: H' → Own H' H.length 9 a' n (xs.map GV.str) → Q (.g (.sl a' n 1)) H') : law0_CopyTexts [.g (.sl a n 1)] H Q := by
  have hn := h.len
  have hl := h.lim
  refine ⟨1, ?_⟩
  rw [law0_CopyTexts_eq, chk_true, Nat.mul_one, rdN_of h.cells]
  refine ap0_of (by unfold Lim; omega) (by simp [hn]) ?_
  exact hQ _ _ (pre_pu _ _) (.inr ⟨_, rfl, Nat.le_refl _, by simp, by simp [hn]⟩)
theorem law0_LendTexts_spec (h : Ss H a n xs) (hQ : ∀ l H', H <+: H' → H.length ≤ l → H'[l]? = some (.row true 9 ((lent xs).map GV.str)) → Q (.g (.sl (some (l, 0)) n 1)) H') : law0_LendTexts [.g (.sl a n 1)] H Q := by
  have hn := h.len
  have hl := h.lim
  refine ⟨1, ?_⟩
  rw [law0_LendTexts_eq]
  refine law0_CopyTexts_spec h fun x H1 p1 o1 => ?_
  simp only [rG_g, dL_sl]
  rw [chk_true]
  refine ap_own p1 o1 (m := 2) rfl (by unfold Lim; omega) fun y H2 o2 x2 _ => ?_
  rcases o2 with ⟨_, q, _⟩ | ⟨m, rfl, hb, hrow, hlen⟩
  · omega
  rw [chk_true]
  refine chk_of (by simp) (chk_of (by simp) ?_)
  refine hQ m H2 x2.pre hb ?_
  rw [hrow]; simp [lent]
theorem law0_KeptTexts_spec (h : Ss H a n xs) {l : Nat} (hrow : H[l]? = some (.row true 9 ((lent xs).map GV.str))) (hQ : Q (.g (.bool true)) H) : law0_KeptTexts [.g (.sl (some (l, 0)) n 1), .g (.sl a n 1)] H Q := by
  have hn := h.len
  have hl := h.lim
  have w1 : wrapI .i64 ((nI n) + 2) = ((n + 2 : Nat) : Int) := by rw [wrap64 (by simp; omega) (by simp; omega)]; simp
  have w2 : wrapI .i64 ((nI n) + 1) = ((n + 1 : Nat) : Int) := by rw [wrap64 (by simp; omega) (by simp; omega)]; simp
  have hlen : (lent xs).length = n + 2 := by simp [lent]; omega
  refine ⟨1, ?_⟩
  rw [law0_KeptTexts_eq, chk_true, w1, w2]
  refine chk_of (by simp; omega) (chk_of (by simp [room, hrow, hlen]) ?_)
  have hs : Ss H (some (l, 0)) n xs := ⟨by simp [cells?, hrow, hlen]; simp [lent, hn], hn, hl⟩
  refine law0_SameTexts_spec hs h fun b hb => ?_
  simp only [rG_g, dB_bool]
  rw [bite_t (hb.2 rfl), chk_true]
  refine chk_of (by simp; omega) ?_
  rw [shf_some, pS_some, rd_of (v := .str (mkS [126, 114, 111, 111, 109])) (by rw [gt_some hrow]; simp [lent, hn]), dS_str, bite_t (by simp), chk_true]
  refine chk_of (by simp; omega) ?_
  rw [pS_some, rd_of (v := .str (mkS [126, 98, 101, 104, 105, 110, 100])) (by rw [gt_some hrow]; simp [lent, hn]), dS_str, strEq_def, decide_eq_true rfl]
  exact hQ
end
end Go.Am
