import Derived.Test.YtmjnenpllddhfaaE9
set_option linter.unusedVariables false
set_option linter.unusedSimpArgs false
namespace Go.Am

/-! a tree built -/
def cutN (n k i : Nat) : Nat := n * i / k
def kOf (n most : Nat) : Nat := max 1 ((n + most - 1) / most)
theorem cutN_le {n k i : Nat} (hk : i ≤ k) (h0 : 0 < k) : cutN n k i ≤ n := by
  unfold cutN
  exact Nat.div_le_of_le_mul (by rw [Nat.mul_comm]; exact Nat.mul_le_mul_right _ hk)
theorem cutN_mono (n k i : Nat) : cutN n k i ≤ cutN n k (i + 1) := Nat.div_le_div_right (Nat.mul_le_mul_left _ (by omega))
theorem cutN_zero (n k : Nat) : cutN n k 0 = 0 := by simp [cutN]
theorem cutN_all {n k : Nat} (h : 0 < k) : cutN n k k = n := Nat.mul_div_cancel _ h
theorem cutN_lt {n k i : Nat} (hk : i < k) (hn : 0 < n) : cutN n k i < n := by
  unfold cutN
  rw [Nat.div_lt_iff_lt_mul (by omega)]
  exact Nat.mul_lt_mul_of_pos_left hk hn
theorem kOf_pos (n most : Nat) : 0 < kOf n most := by unfold kOf; omega
def sizesD (n most : Nat) : List Nat := (List.range (kOf n most)).map fun i => cutN n (kOf n most) (i + 1) - cutN n (kOf n most) i
abbrev Lvl := List (Pg × ByteArray)
def leafAt (ps : List (ByteArray × ByteArray)) (k i : Nat) : Pg × ByteArray :=
  (⟨true, true, ((ps.drop (cutN ps.length k i)).take (cutN ps.length k (i + 1) - cutN ps.length k i)).map (·.1), ((ps.drop (cutN ps.length k i)).take (cutN ps.length k (i + 1) - cutN ps.length k i)).map (·.2), []⟩,
   match decide (0 < cutN ps.length k (i + 1) - cutN ps.length k i) with | true => (ps[cutN ps.length k i]?.map (·.1)).getD (mkS []) | false => mkS [])
def leavesD (ps : List (ByteArray × ByteArray)) : Lvl := (List.range (kOf ps.length 4)).map (leafAt ps (kOf ps.length 4))
def upAt (xs : Lvl) (next k i : Nat) : Pg × ByteArray :=
  (⟨true, false, ((xs.drop (cutN xs.length k i + 1)).take (cutN xs.length k (i + 1) - (cutN xs.length k i + 1))).map (·.2), [], (List.range (cutN xs.length k (i + 1) - cutN xs.length k i)).map fun j => ((next + (cutN xs.length k i + j) : Nat) : Int)⟩,
   (xs[cutN xs.length k i]?.map (·.2)).getD (mkS []))
def upD (xs : Lvl) (next : Nat) : Lvl := (List.range (kOf xs.length 5)).map (upAt xs next (kOf xs.length 5))
def placeD (T : List Pg) (xs : Lvl) (next : Nat) : Nat → List Pg
  | 0 => T
  | j + 1 => (placeD T xs next j).set (next + j) ((xs[j]?.map (·.1)).getD noPg)
def newT : List Pg := ⟨true, true, [], [], []⟩ :: List.replicate 47 noPg
def buildGo : Nat → List Pg → Nat → Lvl → List Pg
  | 0, T, _, _ => T
  | f + 1, T, next, xs => match decide (1 < xs.length) with
    | true => buildGo f (placeD T xs next xs.length) (next + xs.length) (upD xs next)
    | false => T.set 0 ((xs[0]?.map (·.1)).getD noPg)
def buildD (ps : List (ByteArray × ByteArray)) : List Pg := buildGo 64 newT 1 (leavesD ps)

section
variable {H : Hp} {Q : Post}
theorem tdiv_nat (a b : Nat) : Int.tdiv (a : Int) (b : Int) = ((a / b : Nat) : Int) := (Int.ofNat_tdiv a b).symm
theorem ref9_sizes_spec {n most : Nat} (hn : n ≤ 1000) (h1 : 1 ≤ most) (h2 : most ≤ 1000) (hQ : ∀ a' H', H <+: H' → Own H' H.length 3 a' (kOf n most) (((sizesD n most).map fun (x : Nat) => (x : Int)).map (GV.int .i64)) → Is H' a' (kOf n most) ((sizesD n most).map fun (x : Nat) => (x : Int)) → Q (.g (.sl a' (kOf n most) 1)) H') :
    ref9_sizes [.g (.int .i64 (n : Int)), .g (.int .i64 (most : Int))] H Q := by
  have hk := kOf_pos n most
  have hk1 : kOf n most ≤ 2000 := by
    unfold kOf
    have : (n + most - 1) / most ≤ n + most - 1 := Nat.div_le_self _ _
    omega
  have hm : mxI 1 (wrapI .i64 (Int.tdiv (wrapI .i64 ((wrapI .i64 ((n : Int) + (most : Int))) - 1)) (most : Int))) = (kOf n most : Int) := by
    rw [wrap64 (n := (n : Int) + (most : Int)) (by omega) (by omega), wrap64 (n := (n : Int) + (most : Int) - 1) (by omega) (by omega)]
    have e : (n : Int) + (most : Int) - 1 = ((n + most - 1 : Nat) : Int) := by omega
    have hq : (n + most - 1) / most ≤ n + most - 1 := Nat.div_le_self _ _
    rw [e, tdiv_nat]
    unfold kOf mxI
    generalize (n + most - 1) / most = q at *
    rw [wrap64 (by omega) (by omega)]
    split <;> omega
  refine ⟨kOf n most + 2, ?_⟩
  rw [ref9_sizes_eq, hm]
  refine chk_of (by rw [eqI_def]; simp; omega) ?_
  generalize hkk : kOf n most = k at *
  have hcut : ∀ i, i ≤ k → wrapI .i64 (Int.tdiv (wrapI .i64 ((n : Int) * (i : Int))) (k : Int)) = (cutN n k i : Int) := by
    intro i hi
    have hb : n * i ≤ 1000 * 2000 := Nat.mul_le_mul hn (by omega)
    have e : (n : Int) * (i : Int) = ((n * i : Nat) : Int) := by simp
    rw [e, wrap64 (n := ((n * i : Nat) : Int)) (by omega) (by omega), tdiv_nat]
    have hd : n * i / k ≤ n * i := Nat.div_le_self _ _
    unfold cutN
    generalize n * i / k = q at *
    generalize n * i = q2 at *
    rw [wrap64 (by omega) (by omega)]
  have loop : ∀ (f i : Nat) (a' : Pl) (H' : Hp), k - i < f → i ≤ k → H <+: H' → Own H' H.length 3 a' i ((((List.range i).map fun i => cutN n k (i + 1) - cutN n k i).map fun (x : Nat) => (x : Int)).map (GV.int .i64)) → ref9_sizes.l4 f (n : Int) (k : Int) a' i (i : Int) H' Q := by
    intro f
    induction f with
    | zero => intro i _ _ h; omega
    | succ f ih =>
      intro i a' H' hf hi hp ho
      rw [ref9_sizes.l4_eq]
      by_cases hik : i < k
      · rw [bite_t (by simp; omega)]
        refine chk_of (by rw [eqI_def]; simp; omega) (chk_of (by rw [eqI_def]; simp; omega) ?_)
        rw [chk_true, wrap_succ (by omega), hcut (i + 1) (by omega), hcut i (by omega)]
        have hmono := cutN_mono n k i
        have hle := cutN_le (n := n) (k := k) (i := i + 1) (by omega) (by omega)
        have e : wrapI .i64 ((cutN n k (i + 1) : Int) - (cutN n k i : Int)) = ((cutN n k (i + 1) - cutN n k i : Nat) : Int) := by rw [wrap64 (by omega) (by omega)]; omega
        rw [e]
        refine ap_own hp ho rfl (by unfold Lim; omega) fun a'' H'' o x _ => ?_
        refine ih (i + 1) a'' H'' (by omega) (by omega) x.pre ?_
        rw [List.range_succ, List.map_append, List.map_append, List.map_append]
        exact o
      · obtain rfl : i = k := by omega
        rw [bite_f (by simp)]
        have hs : sizesD n most = (List.range i).map fun j => cutN n i (j + 1) - cutN n i j := by unfold sizesD; rw [hkk]
        refine hQ a' H' hp (by rw [hs]; exact ho) ⟨?_, ?_, by omega⟩
        · rw [hs]; exact ho.cells
        · rw [hs]; simp
  exact loop _ 0 none H (by omega) (Nat.zero_le _) (List.prefix_refl _) (.inl ⟨rfl, rfl, rfl⟩)

/-- a new tree -/
def newC : List PC := ⟨true, true, none, 0, none, 0, none, 0⟩ :: List.replicate 47 ⟨false, false, none, 0, none, 0, none, 0⟩
theorem wr_last {t : TypeId} {cs : List GV} {j : Nat} {v : GV} {K : Hp → Prop} (hj : j < cs.length) (hK : K (H ++ [.row true t (cs.set j v)])) : wr (H ++ [.row true t cs]) H.length j v K := by
  refine wr_row (own := t) (cs := cs) (by simp) hj ?_
  rw [List.set_append_right _ _ (Nat.le_refl _)]
  simpa using hK
theorem newC_get (i : Nat) (h : i < newC.length) : newC[i]'h = if i = 0 then ⟨true, true, none, 0, none, 0, none, 0⟩ else ⟨false, false, none, 0, none, 0, none, 0⟩ := by
  cases i with
  | zero => rfl
  | succ i => rw [if_neg (by omega)]; exact List.getElem_replicate (by have : i + 1 < 48 := h; simp; omega)
theorem newT_get (i : Nat) (h : i < newT.length) : newT[i]'h = if i = 0 then ⟨true, true, [], [], []⟩ else noPg := by
  cases i with
  | zero => rfl
  | succ i => rw [if_neg (by omega)]; exact List.getElem_replicate (by have : i + 1 < 48 := h; simp; omega)
theorem newC_at (H : Hp) : ∀ i (h : i < newC.length) (h' : i < newT.length), (newC[i]'h).at H (newT[i]'h') := by
  intro i h h'
  rw [newC_get i h, newT_get i h']
  split
  · exact ⟨rfl, rfl, .nil _, .nil _, .nil _⟩
  · exact noPg_at _
theorem newC_off : ∀ c ∈ newC, ∀ l, ¬ c.on l := by
  intro c hc l ⟨o, h⟩
  unfold newC at hc
  rcases List.mem_cons.1 hc with rfl | hc
  · simp at h
  · rw [(List.mem_replicate.1 hc).2] at h; simp at h
theorem new_cells : ((((((repN (tN 48) [GV.bool false, .bool false, .sl none 0 1, .sl none 0 1, .sl none 0 1]).set 0 (.bool true)).set 1 (.bool true)).set 2 (.sl none 0 1)).set 3 (.sl none 0 1)).set 4 (.sl none 0 1)) = pcells newC := by rfl
theorem new_ot (H : Hp) : OT (H ++ [.row true 34 (pcells newC)]) H.length 34 (some (H.length, 0)) 48 newC newT :=
  ⟨.inr ⟨H.length, rfl, Nat.le_refl _, by simp, by rw [pcells_length]; rfl⟩, rfl, rfl, newC_at _, fun c hc l hl => (newC_off c hc l hl).elim⟩
theorem sound_New_spec (hQ : ∀ H', H <+: H' → OT H' H.length 34 (some (H.length, 0)) 48 newC newT → Q (.agg [.sl (some (H.length, 0)) 48 5]) H') : sound_New [] H Q := by
  refine ⟨1, ?_⟩
  rw [sound_New_eq, chk_true]
  refine chk_of (by decide) ?_
  have hl : (repN (tN 48) [GV.bool false, .bool false, .sl none 0 1, .sl none 0 1, .sl none 0 1]).length = 240 := rfl
  refine wr_last (by rw [hl]; decide) (wr_last (by simp only [List.length_set, hl]; decide) (wr_last (by simp only [List.length_set, hl]; decide) (wr_last (by simp only [List.length_set, hl]; decide) (wr_last (by simp only [List.length_set, hl]; decide) ?_))))
  exact hQ _ (pre_pu _ _) (new_ot H)
theorem ref9_New_spec (hQ : ∀ H', H <+: H' → OT H' H.length 34 (some (H.length, 0)) 48 newC newT → Q (.agg [.sl (some (H.length, 0)) 48 5]) H') : ref9_New [] H Q := by
  refine ⟨1, ?_⟩
  rw [ref9_New_eq, chk_true]
  refine chk_of (by decide) ?_
  have hl : (repN (tN 48) [GV.bool false, .bool false, .sl none 0 1, .sl none 0 1, .sl none 0 1]).length = 240 := rfl
  refine wr_last (by rw [hl]; decide) (wr_last (by simp only [List.length_set, hl]; decide) (wr_last (by simp only [List.length_set, hl]; decide) (wr_last (by simp only [List.length_set, hl]; decide) (wr_last (by simp only [List.length_set, hl]; decide) ?_))))
  exact hQ _ (pre_pu _ _) (new_ot H)
end
end Go.Am
