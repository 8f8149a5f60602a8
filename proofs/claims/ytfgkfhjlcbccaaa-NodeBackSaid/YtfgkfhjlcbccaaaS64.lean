import Derived.Test.YtfgkfhjlcbccaaaS63
set_option linter.unusedVariables false
set_option linter.unusedSimpArgs false
namespace Go.Am

def tkB : List UInt8 → Nat × List UInt8
  | [] => (0, [])
  | b :: r => (b.toNat, r)
def tkT (L : List UInt8) : List UInt8 × List UInt8 := ((tkB L).2.take (tkB L).1, (tkB L).2.drop (tkB L).1)
theorem tkB_le (L : List UInt8) : (tkB L).1 ≤ 255 := by
  cases L with
  | nil => simp [tkB]
  | cons b r => have := b.toNat_lt; simp [tkB]; omega

theorem bs_sub (s : ByteArray) (a b : Nat) : bs (sub s a b) = ((bs s).drop a).take (b - a) := Lib.extract_data s a b
theorem sub_all (s : ByteArray) (a : Nat) : sub s a s.size = mkS ((bs s).drop a) := bs_inj (by rw [bs_sub, bs_mkS, List.take_of_length_le (by simp)])
theorem byt_eq (s : ByteArray) (j : Nat) : byt s j = (((bs s)[j]?.getD 0).toNat : Int) := by unfold byt; simp [bs]
theorem empty_iff (s : ByteArray) : s = mkS [] ↔ bs s = [] := ⟨fun h => by rw [h]; rfl, fun h => bs_inj (by rw [h]; rfl)⟩
theorem set_same {α : Type} {l : List α} {i : Nat} {x : α} (h : l[i]? = some x) : l.set i x = l := by
  apply List.ext_getElem?
  intro j
  rw [List.getElem?_set]
  split
  · rename_i e; subst e; rw [h]; rw [if_pos (List.getElem?_eq_some_iff.1 h).1]
  · rfl

section
variable {H : Hp} {Q : Post} {l : Nat} {L : List UInt8}
theorem page_taker_byte_spec (hl : H[l]? = some (.row true 65 [.str (mkS L)])) (hQ : Q (.g (.int .i64 (tkB L).1)) (H.set l (.row true 65 [.str (mkS (tkB L).2)]))) : page_taker_byte [.g (.ptr (some (l, 0)))] H Q := by
  have hg : gt H l 0 = some (.str (mkS L)) := by rw [gt_some hl]; rfl
  refine ⟨1, ?_⟩
  rw [page_taker_byte_eq, pS_some]
  simp only [Nat.zero_add]
  rw [rd_of hg, dS_str]
  cases L with
  | nil =>
    rw [bite_t (by simp)]
    simp only [tkB] at hQ
    rw [set_same hl] at hQ
    exact hQ
  | cons b r =>
    have hne : strEq (mkS (b :: r)) (mkS []) = false := by simp; intro e; have := mkS_inj e; cases this
    rw [bite_f hne, pS_some]
    simp only [Nat.zero_add]
    rw [rd_of hg, dS_str]
    refine chk_of (by simp) ?_
    rw [pS_some]
    simp only [Nat.zero_add]
    rw [rd_of hg, dS_str]
    refine chk_of (by simp) ?_
    rw [pS_some]
    simp only [Nat.zero_add]
    rw [wr_of hl (by simp)]
    simp only [tkB] at hQ
    have hb := b.toNat_lt
    have e1 : wrapI .i64 (byt (mkS (b :: r)) (tN 0)) = (b.toNat : Int) := by
      rw [byt_eq]
      simp only [bs_mkS, tN_def, Int.toNat_zero, List.getElem?_cons_zero, Option.getD_some]
      exact wrap64 (by omega) (by omega)
    have e2 : sub (mkS (b :: r)) (tN 1) (szN (mkS (b :: r))) = mkS r := by
      rw [szN_def, sub_all]; simp
    rw [e1, e2]
    exact hQ
theorem page_taker_text_spec (hl : H[l]? = some (.row true 65 [.str (mkS L)])) (hQ : Q (.g (.str (mkS (tkT L).1))) (H.set l (.row true 65 [.str (mkS (tkT L).2)]))) : page_taker_text [.g (.ptr (some (l, 0)))] H Q := by
  refine ⟨1, ?_⟩
  rw [page_taker_text_eq]
  refine page_taker_byte_spec hl ?_
  simp only [rG_g, dI_int, pS_some, Nat.zero_add]
  have hl2 : (H.set l (.row true 65 [.str (mkS (tkB L).2)]))[l]? = some (.row true 65 [.str (mkS (tkB L).2)]) := List.getElem?_set_self (List.getElem?_eq_some_iff.1 hl).1
  have hg : gt (H.set l (.row true 65 [.str (mkS (tkB L).2)])) l 0 = some (.str (mkS (tkB L).2)) := by rw [gt_some hl2]; rfl
  rw [rd_of hg, dS_str, rd_of hg, dS_str]
  have hmn : mnI ((tkB L).1 : Int) (sz (mkS (tkB L).2)) = (min (tkB L).1 (tkB L).2.length : Nat) := by
    simp [mnI]; split <;> omega
  rw [hmn]
  refine chk_of (by simp) (chk_of (by simp; omega) ?_)
  rw [rd_of hg, dS_str]
  refine chk_of (by simp) (chk_of (by simp; omega) ?_)
  rw [wr_of hl2 (by simp)]
  have e1 : sub (mkS (tkB L).2) (tN (min (tkB L).1 (tkB L).2.length : Nat)) (szN (mkS (tkB L).2)) = mkS (tkT L).2 := by
    rw [szN_def, sub_all]
    simp only [bs_mkS, tN_def, Int.toNat_natCast, tkT]
    congr 1
    by_cases h : (tkB L).1 ≤ (tkB L).2.length
    · rw [Nat.min_eq_left h]
    · rw [Nat.min_eq_right (by omega), List.drop_of_length_le (Nat.le_refl _), List.drop_of_length_le (by omega)]
  have e2 : sub (mkS (tkB L).2) 0 (tN (min (tkB L).1 (tkB L).2.length : Nat)) = mkS (tkT L).1 := by
    apply bs_inj
    rw [bs_sub]
    simp only [bs_mkS, tN_def, Int.toNat_natCast, tkT, List.drop_zero, Nat.sub_zero]
    by_cases h : (tkB L).1 ≤ (tkB L).2.length
    · rw [Nat.min_eq_left h]
    · rw [Nat.min_eq_right (by omega), List.take_of_length_le (Nat.le_refl _), List.take_of_length_le (by omega)]
  rw [e1, e2, List.set_set]
  exact hQ
end

/-! the parse -/
structure Pa where
  ks : List ByteArray
  vs : List ByteArray
  R : List UInt8
def takeE (leaf : Bool) : Nat → List UInt8 → List ByteArray → List ByteArray → Pa
  | 0, R, ks, vs => ⟨ks, vs, R⟩
  | n + 1, R, ks, vs => match leaf with
    | true => takeE leaf n (tkT (tkT R).2).2 (ks ++ [mkS (tkT R).1]) (vs ++ [mkS (tkT (tkT R).2).1])
    | false => takeE leaf n (tkT R).2 (ks ++ [mkS (tkT R).1]) vs
def takeK : Nat → List UInt8 → List Int → List Int
  | 0, _, ks => ks
  | n + 1, R, ks => takeK n (tkB R).2 (ks ++ [((tkB R).1 : Int)])
def pLeaf (L : List UInt8) : Bool := (tkB L).1 == 1
def pN (L : List UInt8) : Nat := min (tkB (tkB L).2).1 4
def pE (L : List UInt8) : Pa := takeE (pLeaf L) (pN L) (tkB (tkB L).2).2 [] []
def parse (L : List UInt8) : Pg := ⟨true, pLeaf L, (pE L).ks, (pE L).vs, match pLeaf L with | true => [] | false => takeK (pN L + 1) (pE L).R []⟩

theorem tkT_szd {s : ByteArray} (h : s.size ≤ 255) (R : List UInt8) : tkT (szd s ++ R) = (bs s, R) := by
  have e : (bof (s.size : Int)).toNat = s.size := by simp [bof]; omega
  simp only [tkT, szd, List.cons_append, tkB, e]
  rw [List.take_left' (by simp), List.drop_left' (by simp)]

def tailE (p : Pg) (k m : Nat) : List UInt8 := (List.range' k m).flatMap (entL p)
theorem tailE_succ (p : Pg) (k m : Nat) : tailE p k (m + 1) = entL p k ++ tailE p (k + 1) m := by simp [tailE, List.range'_succ]
theorem ents_tail (p : Pg) (n : Nat) : ents p n = tailE p 0 n := by simp [ents, tailE, List.range_eq_range']

theorem takeE_ents {p : Pg} (hf : FitsP p) (T : List UInt8) : ∀ m k : Nat, k + m = p.keys.length → takeE p.leaf m (tailE p k m ++ T) (p.keys.take k) (p.vals.take k) = ⟨p.keys, p.vals, T⟩ := by
  intro m
  induction m with
  | zero =>
    intro k hk
    simp only [takeE, tailE, List.range'_zero, List.flatMap_nil, List.nil_append]
    rw [List.take_of_length_le (by omega)]
    cases hL : p.leaf with
    | true => have := (hf.leaf hL).1; rw [List.take_of_length_le (by omega)]
    | false => rw [(hf.inner hL).2.1]; simp
  | succ m ih =>
    intro k hk
    have hkn : k < p.keys.length := by omega
    have hks := (hf.keys _ (List.getElem_mem hkn)).2
    have ih' := ih (k + 1) (by omega)
    rw [List.take_succ_eq_append_getElem hkn] at ih'
    cases hL : p.leaf with
    | true =>
      have hvl := (hf.leaf hL).1
      have hvn : k < p.vals.length := by omega
      have hvs := (hf.leaf hL).2.2 _ (List.getElem_mem hvn)
      rw [List.take_succ_eq_append_getElem hvn, hL] at ih'
      have e : tailE p k (m + 1) ++ T = szd p.keys[k] ++ (szd p.vals[k] ++ (tailE p (k + 1) m ++ T)) := by
        rw [tailE_succ]; simp [entL, hL, hkn, hvn]
      rw [e]
      simp only [takeE]
      rw [tkT_szd (by omega)]
      simp only
      rw [tkT_szd (by omega)]
      simp only [mkS_bs]
      exact ih'
    | false =>
      have hv := (hf.inner hL).2.1
      rw [hL] at ih'
      have e : tailE p k (m + 1) ++ T = szd p.keys[k] ++ (tailE p (k + 1) m ++ T) := by
        rw [tailE_succ]; simp [entL, hL, hkn]
      rw [e]
      simp only [takeE]
      rw [tkT_szd (by omega)]
      simp only [mkS_bs]
      rw [hv] at ih' ⊢
      simpa using ih'
theorem bof_toNat {x : Int} (h1 : 0 ≤ x) (h2 : x ≤ 255) : ((bof x).toNat : Int) = x := by simp [bof]; omega
theorem takeK_kids {ks : List Int} (T : List UInt8) (h : ∀ k ∈ ks, 0 ≤ k ∧ k ≤ 255) : ∀ m k : Nat, k + m = ks.length → takeK m ((ks.drop k).map bof ++ T) (ks.take k) = ks := by
  intro m
  induction m with
  | zero => intro k hk; simp only [takeK]; rw [List.take_of_length_le (by omega)]
  | succ m ih =>
    intro k hk
    have hkn : k < ks.length := by omega
    have hb := h _ (List.getElem_mem hkn)
    rw [List.drop_eq_getElem_cons hkn]
    simp only [List.map_cons, List.cons_append, takeK, tkB]
    rw [bof_toNat hb.1 hb.2, ← List.take_succ_eq_append_getElem hkn]
    exact ih (k + 1) (by omega)

theorem parse_more {p : Pg} (hm : MayP p) (T : List UInt8) : parse (textL p ++ T) = p := by
  have hf := hm.2
  have hm1 := hm.1
  have hl : pLeaf (textL p ++ T) = p.leaf := by cases hL : p.leaf <;> simp [pLeaf, textL, hdr, tkB, hL]
  have hb : (bof (p.keys.length : Int)).toNat = p.keys.length := by simp [bof]; omega
  have hn : pN (textL p ++ T) = p.keys.length := by simp only [pN, textL, hdr, List.cons_append, tkB, hb]; omega
  have hR : (tkB (tkB (textL p ++ T)).2).2 = tailE p 0 p.keys.length ++ (p.kids.map bof ++ T) := by simp [textL, hdr, tkB, ents_tail]
  have hE : pE (textL p ++ T) = ⟨p.keys, p.vals, p.kids.map bof ++ T⟩ := by
    unfold pE
    rw [hl, hn, hR]
    have := takeE_ents hf (p.kids.map bof ++ T) p.keys.length 0 (by omega)
    simpa using this
  unfold parse
  rw [hE, hl, hn]
  obtain ⟨pu, pl, pk, pv, pi⟩ := p
  have hu : pu = true := hf.used
  subst hu
  cases pl with
  | true =>
    have := (hf.leaf rfl).2.1
    simp only at this ⊢
    rw [this]
  | false =>
    have h1 := (hf.inner rfl).2.2.1
    have h2 := (hf.inner rfl).2.2.2.1
    simp only at h1 h2 ⊢
    have := takeK_kids (ks := pi) T (fun k hk => by have := h2 k hk; omega) (pk.length + 1) 0 (by omega)
    simp only [List.drop_zero, List.take_zero] at this
    rw [this]
theorem parse_text {p : Pg} (hm : MayP p) : parse (textL p) = p := by have := parse_more hm []; rwa [List.append_nil] at this
theorem text_pre {p q : Pg} (hp : MayP p) (hq : MayP q) {T : List UInt8} (h : textL q = textL p ++ T) : T = [] := by
  have e : q = p := by rw [← parse_text hq, h, parse_more hp]
  subst e
  exact List.self_eq_append_right.1 h
theorem text_inj {p q : Pg} (hp : MayP p) (hq : MayP q) (h : text p = text q) : p = q := by
  have := mkS_inj h
  rw [← parse_text hp, ← parse_text hq, this]
end Go.Am
