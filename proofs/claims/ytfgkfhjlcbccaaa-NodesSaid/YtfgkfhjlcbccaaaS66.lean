import Derived.Test.YtfgkfhjlcbccaaaS65
set_option linter.unusedVariables false
set_option linter.unusedSimpArgs false
namespace Go.Am

def takA (L : List UInt8) (p : Int) : List UInt8 × Int :=
  if 0 ≤ p ∧ p < L.length then
    (if p + 1 + ((L[p.toNat]?.getD 0).toNat : Int) ≤ L.length then ((L.drop (p.toNat + 1)).take (L[p.toNat]?.getD 0).toNat, p + 1 + ((L[p.toNat]?.getD 0).toNat : Int)) else ([], -1))
  else ([], -1)
structure Pb where
  ks : List ByteArray
  vs : List ByteArray
  p : Int
def take2 (L : List UInt8) (leaf : Bool) : Nat → Int → List ByteArray → List ByteArray → Pb
  | 0, p, ks, vs => ⟨ks, vs, p⟩
  | n + 1, p, ks, vs => match leaf with
    | true => take2 L leaf n (takA L (takA L p).2).2 (ks ++ [mkS (takA L p).1]) (vs ++ [mkS (takA L (takA L p).2).1])
    | false => take2 L leaf n (takA L p).2 (ks ++ [mkS (takA L p).1]) vs
def rest2 (L : List UInt8) (q : Nat) : List Int := ((L.drop q).take (200 - q)).map fun b => (b.toNat : Int)
def pN2 (L : List UInt8) : Nat := min (L[1]?.getD 0).toNat 5
def pL2 (L : List UInt8) : Bool := (L[0]?.getD 0).toNat == 1
def pE2 (L : List UInt8) : Pb := take2 L (pL2 L) (pN2 L) 2 [] []
def parse2 (L : List UInt8) : Pg := ⟨true, pL2 L, (pE2 L).ks, (pE2 L).vs, match pL2 L with | true => [] | false => rest2 L (pE2 L).p.toNat⟩

theorem takA_szd {s : ByteArray} (h : s.size ≤ 255) (X Y : List UInt8) : takA (X ++ (szd s ++ Y)) (X.length : Int) = (bs s, ((X ++ szd s).length : Int)) := by
  have e : (bof (s.size : Int)).toNat = s.size := by simp [bof]; omega
  unfold takA
  simp only [Int.toNat_natCast]
  rw [if_pos ⟨by omega, by simp; omega⟩]
  have e2 : (X ++ (szd s ++ Y))[X.length]?.getD 0 = bof s.size := by simp [szd]
  rw [e2, e, if_pos (by simp; omega)]
  have e3 : (X ++ (szd s ++ Y)).drop (X.length + 1) = bs s ++ Y := by
    rw [← List.drop_drop, List.drop_left' rfl]; simp [szd]
  rw [e3, List.take_left' (by simp)]
  simp; omega

theorem take2_ents {p : Pg} (hf : FitsP p) (T : List UInt8) : ∀ m k : Nat, k + m = p.keys.length →
    take2 (upE p k ++ (tailE p k m ++ T)) p.leaf m ((upE p k).length : Int) (p.keys.take k) (p.vals.take k) = ⟨p.keys, p.vals, ((upE p p.keys.length).length : Int)⟩ := by
  intro m
  induction m with
  | zero =>
    intro k hk
    obtain rfl : k = p.keys.length := by omega
    simp only [take2]
    rw [List.take_of_length_le (Nat.le_refl _)]
    cases hL : p.leaf with
    | true => have := (hf.leaf hL).1; rw [List.take_of_length_le (by omega)]
    | false => rw [(hf.inner hL).2.1]; simp
  | succ m ih =>
    intro k hk
    have hkn : k < p.keys.length := by omega
    have hks := (hf.keys _ (List.getElem_mem hkn)).2
    have ih' := ih (k + 1) (by omega)
    rw [List.take_succ_eq_append_getElem hkn] at ih'
    have hup : upE p (k + 1) = upE p k ++ entL p k := by unfold upE; rw [ents_succ, ← List.append_assoc]
    have hall : upE p k ++ (tailE p k (m + 1) ++ T) = upE p (k + 1) ++ (tailE p (k + 1) m ++ T) := by rw [tailE_succ, hup]; simp
    cases hL : p.leaf with
    | true =>
      have hvl := (hf.leaf hL).1
      have hvn : k < p.vals.length := by omega
      have hvs := (hf.leaf hL).2.2 _ (List.getElem_mem hvn)
      rw [List.take_succ_eq_append_getElem hvn, hL] at ih'
      have e : entL p k = szd p.keys[k] ++ szd p.vals[k] := by simp [entL, hL, hkn, hvn]
      have e1 : upE p k ++ (tailE p k (m + 1) ++ T) = upE p k ++ (szd p.keys[k] ++ (szd p.vals[k] ++ (tailE p (k + 1) m ++ T))) := by rw [tailE_succ, e]; simp
      have e2 : upE p k ++ (tailE p k (m + 1) ++ T) = (upE p k ++ szd p.keys[k]) ++ (szd p.vals[k] ++ (tailE p (k + 1) m ++ T)) := by rw [e1]; simp
      have t1 : takA (upE p k ++ (tailE p k (m + 1) ++ T)) ((upE p k).length : Int) = (bs p.keys[k], ((upE p k ++ szd p.keys[k]).length : Int)) := by rw [e1]; exact takA_szd (by omega) _ _
      have t2 : takA (upE p k ++ (tailE p k (m + 1) ++ T)) ((upE p k ++ szd p.keys[k]).length : Int) = (bs p.vals[k], ((upE p (k + 1)).length : Int)) := by
        rw [e2, takA_szd (by omega), hup, e]; simp
      simp only [take2]
      rw [t1]
      simp only
      rw [t2]
      simp only [mkS_bs]
      rw [hall]
      exact ih'
    | false =>
      have hv := (hf.inner hL).2.1
      rw [hL] at ih'
      have e : entL p k = szd p.keys[k] := by simp [entL, hL, hkn]
      have t1 : takA (upE p k ++ (tailE p k (m + 1) ++ T)) ((upE p k).length : Int) = (bs p.keys[k], ((upE p (k + 1)).length : Int)) := by
        have e1 : upE p k ++ (tailE p k (m + 1) ++ T) = upE p k ++ (szd p.keys[k] ++ (tailE p (k + 1) m ++ T)) := by rw [tailE_succ, e]; simp
        rw [e1, takA_szd (by omega), hup, e]
      simp only [take2]
      rw [t1]
      simp only [mkS_bs]
      rw [hall]
      rw [hv] at ih' ⊢
      simpa using ih'

theorem parse2_text {p : Pg} (hm : MayP p) : parse2 (textL p) = p := by
  have hf := hm.2
  have hm1 := hm.1
  have hl : pL2 (textL p) = p.leaf := by cases hL : p.leaf <;> simp [pL2, textL, hdr, hL]
  have hb : (bof (p.keys.length : Int)).toNat = p.keys.length := by simp [bof]; omega
  have hn : pN2 (textL p) = p.keys.length := by
    have : (textL p)[1]?.getD 0 = bof p.keys.length := by simp [textL, hdr]
    unfold pN2; rw [this, hb]; omega
  have hT : textL p = upE p 0 ++ (tailE p 0 p.keys.length ++ p.kids.map bof) := by simp [textL, upE, ents, tailE, List.range_eq_range']
  have hE : pE2 (textL p) = ⟨p.keys, p.vals, ((upE p p.keys.length).length : Int)⟩ := by
    unfold pE2
    rw [hl, hn, hT]
    have := take2_ents hf (p.kids.map bof) p.keys.length 0 (by omega)
    have h2 : ((upE p 0).length : Int) = 2 := by simp [upE, hdr, ents]
    rw [h2] at this
    simpa using this
  have hR : p.leaf = false → rest2 (textL p) (upE p p.keys.length).length = p.kids := by
    intro hL
    have h1 := (hf.inner hL).2.2.1
    have h2 := (hf.inner hL).2.2.2.1
    have hle := upE_le hm (k := p.keys.length) hm1
    have hd : (textL p).drop (upE p p.keys.length).length = p.kids.map bof := by
      have : textL p = upE p p.keys.length ++ p.kids.map bof := rfl
      rw [this, List.drop_left' rfl]
    unfold rest2
    rw [hd, List.take_of_length_le (by simp; omega), List.map_map]
    have : ∀ ks : List Int, (∀ k ∈ ks, 1 ≤ k ∧ k < 48) → ks.map ((fun b => (UInt8.toNat b : Int)) ∘ bof) = ks := by
      intro ks
      induction ks with
      | nil => intro _; rfl
      | cons k ks ih =>
        intro h
        have hk := h k (by simp)
        rw [List.map_cons, ih (fun x hx => h x (by simp [hx]))]
        simp only [Function.comp]
        rw [bof_toNat (by omega) (by omega)]
    exact this _ h2
  unfold parse2
  rw [hE, hl]
  simp only [Int.toNat_natCast]
  obtain ⟨pu, pl, pk, pv, pi⟩ := p
  have hu : pu = true := hf.used
  subst hu
  cases pl with
  | true =>
    have := (hf.leaf rfl).2.1
    simp only at this ⊢
    rw [this]
  | false => simp only [hR rfl]

/-! the document's taken -/
theorem ref1_taken_spec {s : ByteArray} {p : Int} {H : Hp} {Q : Post} (h1 : -1000000000000 ≤ p) (h2 : p ≤ 9223372036854770000) (hs : s.size ≤ 9223372036854770000) (hQ : Q (.tup [.s (.str (mkS (takA (bs s) p).1)), .s (.int .i64 (takA (bs s) p).2)]) H) :
    ref1_taken [.g (.str s), .g (.int .i64 p)] H Q := by
  refine ⟨1, ?_⟩
  rw [ref1_taken_eq]
  have hlen : ((bs s).length : Int) = s.size := by simp
  by_cases c1 : p < 0
  · rw [bite_t (by simpa using c1)]
    unfold takA at hQ
    rw [if_neg (by omega)] at hQ
    exact hQ
  rw [bite_f (by simpa using c1)]
  by_cases c2 : (s.size : Int) ≤ p
  · rw [bite_t (by simpa using c2)]
    unfold takA at hQ
    rw [if_neg (by omega)] at hQ
    exact hQ
  rw [bite_f (by simpa using c2)]
  refine chk_of (by simp; omega) ?_
  have hb : ((bs s)[p.toNat]?.getD 0).toNat ≤ 255 := by have := ((bs s)[p.toNat]?.getD 0).toNat_lt; omega
  have e1 : wrapI .i64 (byt s (tN p)) = (((bs s)[p.toNat]?.getD 0).toNat : Int) := by rw [byt_eq, tN_def]; exact wrap64 (by omega) (by omega)
  have e0 : wrapI .i64 (p + 1) = p + 1 := wrap64 (by omega) (by omega)
  rw [e1, e0]
  have e2 : wrapI .i64 (p + 1 + (((bs s)[p.toNat]?.getD 0).toNat : Int)) = p + 1 + (((bs s)[p.toNat]?.getD 0).toNat : Int) := wrap64 (by omega) (by omega)
  rw [e2]
  unfold takA at hQ
  rw [if_pos ⟨by omega, by omega⟩] at hQ
  by_cases c3 : (s.size : Int) < p + 1 + (((bs s)[p.toNat]?.getD 0).toNat : Int)
  · rw [bite_t (by simpa using c3)]
    rw [if_neg (by omega)] at hQ
    exact hQ
  rw [bite_f (by simpa using c3)]
  rw [if_pos (by omega)] at hQ
  refine chk_of (by simp; omega) (chk_of (by simp; omega) (chk_of (by simp; omega) (chk_of (by simp; omega) (chk_of (by simp; omega) ?_))))
  have e3 : sub s (tN (p + 1)) (tN (p + 1 + (((bs s)[p.toNat]?.getD 0).toNat : Int))) = mkS (((bs s).drop (p.toNat + 1)).take ((bs s)[p.toNat]?.getD 0).toNat) := by
    apply bs_inj
    rw [bs_sub, bs_mkS]
    simp only [tN_def]
    rw [show (p + 1).toNat = p.toNat + 1 by omega, show (p + 1 + (((bs s)[p.toNat]?.getD 0).toNat : Int)).toNat - (p.toNat + 1) = ((bs s)[p.toNat]?.getD 0).toNat by omega]
  rw [e3]
  exact hQ

structure GJ (H0 H : Hp) (a1 : Pl) (ks : List ByteArray) (a2 : Pl) (vs : List ByteArray) (a3 : Pl) (is : List Int) : Prop where
  pre : H0 <+: H
  o1 : Own H H0.length 9 a1 ks.length (ks.map GV.str)
  o2 : Own H H0.length 9 a2 vs.length (vs.map GV.str)
  o3 : Own H H0.length 3 a3 is.length (is.map (GV.int .i64))
  d12 : Dj a1 a2
  d13 : Dj a1 a3
  d23 : Dj a2 a3
section
variable {H0 H : Hp} {a1 : Pl} {ks : List ByteArray} {a2 : Pl} {vs : List ByteArray} {a3 : Pl} {is : List Int}
theorem GJ.key (g : GJ H0 H a1 ks a2 vs a3 is) (s : ByteArray) (hk : ks.length ≤ 100) {K : Pl → Nat → Hp → Prop} (hK : ∀ a' H', GJ H0 H' a' (ks ++ [s]) a2 vs a3 is → K a' (ks.length + 1) H') : ap H 9 1 16 a1 ks.length [.str s] 1 K := by
  refine ap_own g.pre g.o1 rfl (by unfold Lim; omega) fun a' H' h1 h2 h3 => hK a' H' ?_
  exact ⟨h2.pre, by simpa using h1, g.o2.after g.d12 h2, g.o3.after g.d13 h2, Dj.fresh g.o2 h3, Dj.fresh g.o3 h3, g.d23⟩
theorem GJ.val (g : GJ H0 H a1 ks a2 vs a3 is) (s : ByteArray) (hk : vs.length ≤ 100) {K : Pl → Nat → Hp → Prop} (hK : ∀ a' H', GJ H0 H' a1 ks a' (vs ++ [s]) a3 is → K a' (vs.length + 1) H') : ap H 9 1 16 a2 vs.length [.str s] 1 K := by
  refine ap_own g.pre g.o2 rfl (by unfold Lim; omega) fun a' H' h1 h2 h3 => hK a' H' ?_
  exact ⟨h2.pre, g.o1.after g.d12.symm h2, by simpa using h1, g.o3.after g.d23 h2, (Dj.fresh g.o1 h3).symm, g.d13, Dj.fresh g.o3 h3⟩
theorem GJ.kid (g : GJ H0 H a1 ks a2 vs a3 is) (s : Int) (hk : is.length ≤ 1000) {K : Pl → Nat → Hp → Prop} (hK : ∀ a' H', GJ H0 H' a1 ks a2 vs a' (is ++ [s]) → K a' (is.length + 1) H') : ap H 3 1 8 a3 is.length [.int .i64 s] 1 K := by
  refine ap_own g.pre g.o3 rfl (by unfold Lim; omega) fun a' H' h1 h2 h3 => hK a' H' ?_
  exact ⟨h2.pre, g.o1.after g.d13.symm h2, g.o2.after g.d23.symm h2, by simpa using h1, g.d12, (Dj.fresh g.o1 h3).symm, (Dj.fresh g.o2 h3).symm⟩
theorem GJ.pg (g : GJ H0 H a1 ks a2 vs a3 is) (u l : Bool) (h1 : ks.length ≤ 1000) (h2 : vs.length ≤ 1000) (h3 : is.length ≤ 1000) : PgOwn H H0.length u l a1 ks.length a2 vs.length a3 is.length ⟨u, l, ks, vs, is⟩ :=
  ⟨rfl, rfl, g.o1, g.o2, g.o3, g.d12, g.d13, g.d23, h1, h2, h3⟩
end

section
variable {H0 : Hp} {Q : Post} {s : ByteArray}
set_option maxRecDepth 100000 in
theorem ref1_GetPage_l16 {a1 : Pl} {ks : List ByteArray} {a2 : Pl} {vs : List ByteArray} (lf : Bool) (hk : ks.length ≤ 100) (hv : vs.length ≤ 100) (hQ : GetQ s H0.length Q H0) (pEnd : Pg) (hu : ∀ p', MayP p' → text p' = s → pEnd = p') :
    ∀ (f q : Nat) (H : Hp) (a3 : Pl) (is : List Int), 200 - q < f → is.length + (200 - q) ≤ 400 → GJ H0 H a1 ks a2 vs a3 is →
      pEnd = ⟨true, lf, ks, vs, match lf with | true => is | false => is ++ rest2 (bs s) q⟩ →
      ref1_GetPage.l16 f s false false none 0 none 0 none 0 true lf a1 ks.length a2 vs.length a3 is.length (q : Int) H Q := by
  intro f
  induction f with
  | zero => intro q H a3 is hf; omega
  | succ f ih =>
    intro q H a3 is hf hi g he
    have fin : (lf = true ∨ rest2 (bs s) q = []) → PgOwn H H0.length true lf a1 ks.length a2 vs.length a3 is.length pEnd := fun h => by
      have := g.pg true lf (by omega) (by omega) (by omega)
      rw [he]
      cases lf with
      | true => exact this
      | false => rw [h.resolve_left (by simp)]; simpa using this
    rw [ref1_GetPage.l16_eq]
    by_cases c1 : q < s.size
    · rw [bite_t (by simpa using c1)]
      cases lf with
      | true =>
        rw [bite_f (b := !true) rfl]
        exact get_end (fin (.inl rfl)) g.pre hu hQ fun Q' h1 h2 => ref1_PutPage_spec (fin (.inl rfl)).at h1 h2
      | false =>
        rw [bite_t (b := !false) rfl]
        by_cases c2 : q < 200
        · rw [bite_t (by simp; omega)]
          refine chk_of (by simp; omega) ?_
          rw [chk_true]
          have hb : ((bs s)[q]?.getD 0).toNat ≤ 255 := by have := ((bs s)[q]?.getD 0).toNat_lt; omega
          have e1 : wrapI .i64 (byt s (tN (q : Int))) = (((bs s)[q]?.getD 0).toNat : Int) := by rw [byt_eq, tN_def, Int.toNat_natCast]; exact wrap64 (by omega) (by omega)
          rw [e1]
          refine g.kid _ (by omega) fun a' H' g' => ?_
          rw [wrap_succ (by omega)]
          have hq : q < (bs s).length := by simpa using c1
          have := ih (q + 1) H' a' (is ++ [(((bs s)[q]?.getD 0).toNat : Int)]) (by omega) (by simp; omega) g' (by
            rw [he]
            have : rest2 (bs s) q = (((bs s)[q]?.getD 0).toNat : Int) :: rest2 (bs s) (q + 1) := by
              unfold rest2
              rw [List.drop_eq_getElem_cons hq, show 200 - q = (200 - (q + 1)) + 1 by omega, List.take_succ_cons, List.map_cons]
              rw [List.getElem?_eq_getElem hq, Option.getD_some]
            simp only [this]
            simp)
          simpa using this
        · rw [bite_f (by simp; omega)]
          have fe : rest2 (bs s) q = [] := by unfold rest2; rw [show 200 - q = 0 by omega]; simp
          exact get_end (fin (.inr fe)) g.pre hu hQ fun Q' h1 h2 => ref1_PutPage_spec (fin (.inr fe)).at h1 h2
    · rw [bite_f (by simpa using c1)]
      have fe : rest2 (bs s) q = [] := by unfold rest2; rw [List.drop_of_length_le (by simp; omega)]; simp
      exact get_end (fin (.inr fe)) g.pre hu hQ fun Q' h1 h2 => ref1_PutPage_spec (fin (.inr fe)).at h1 h2

theorem takA_le (L : List UInt8) (p : Int) : -1 ≤ (takA L p).2 ∧ (takA L p).2 ≤ L.length := by
  unfold takA
  split
  · split
    · rename_i h1 h2; simp only; omega
    · simp only; omega
  · simp only; omega

theorem ref1_GetPage_l6 (lf : Bool) (hs : s.size ≤ 9223372036854770000) (h2 : 2 ≤ s.size) (hQ : GetQ s H0.length Q H0) (pEnd : Pg) (hu : ∀ p', MayP p' → text p' = s → pEnd = p') :
    ∀ (f k : Nat) (p : Int) (H : Hp) (a1 : Pl) (ks : List ByteArray) (a2 : Pl) (vs : List ByteArray), pN2 (bs s) - k + 202 < f → k ≤ pN2 (bs s) → ks.length ≤ k → vs.length ≤ k → -1 ≤ p → p ≤ s.size → GJ H0 H a1 ks a2 vs none [] →
      pEnd = ⟨true, lf, (take2 (bs s) lf (pN2 (bs s) - k) p ks vs).ks, (take2 (bs s) lf (pN2 (bs s) - k) p ks vs).vs, match lf with | true => [] | false => rest2 (bs s) (take2 (bs s) lf (pN2 (bs s) - k) p ks vs).p.toNat⟩ →
      ref1_GetPage.l6 f s false false none 0 none 0 none 0 true lf a1 ks.length a2 vs.length none 0 p (k : Int) H Q := by
  have hb : ((bs s)[1]?.getD 0).toNat ≤ 255 := by have := ((bs s)[1]?.getD 0).toNat_lt; omega
  have e1 : wrapI .i64 (byt s (tN 1)) = (((bs s)[1]?.getD 0).toNat : Int) := by rw [byt_eq]; exact wrap64 (by show (-9223372036854775808 : Int) ≤ (((bs s)[1]?.getD 0).toNat : Int); omega) (by show (((bs s)[1]?.getD 0).toNat : Int) ≤ 9223372036854775807; omega)
  have hN : pN2 (bs s) ≤ 5 := by unfold pN2; omega
  intro f
  induction f with
  | zero => intro k p H a1 ks a2 vs hf; omega
  | succ f ih =>
    intro k p H a1 ks a2 vs hf hk1 hk hv hp1 hp2 g he
    rw [ref1_GetPage.l6_eq]
    refine chk_of (by simp; omega) ?_
    rw [e1]
    have stop : ¬ k < pN2 (bs s) → ref1_GetPage.l16 f s false false none 0 none 0 none 0 true lf a1 ks.length a2 vs.length none 0 (mxI p 0) H Q := fun hn => by
      rw [show pN2 (bs s) - k = 0 by omega] at he
      simp only [take2] at he
      have hmx : mxI p 0 = (p.toNat : Int) := by unfold mxI; split <;> omega
      rw [hmx]
      exact ref1_GetPage_l16 lf (by omega) (by omega) hQ pEnd hu f p.toNat H none [] (by omega) (by simp; omega) g (by rw [he]; cases lf <;> rfl)
    by_cases c1 : k < ((bs s)[1]?.getD 0).toNat
    · rw [bite_t (by simp; omega)]
      by_cases c2 : k ≤ 4
      · have hlt : k < pN2 (bs s) := by unfold pN2; omega
        rw [bite_t (by simp; omega)]
        have b1 := takA_le (bs s) p
        have b2 := takA_le (bs s) (takA (bs s) p).2
        have hl : (bs s).length = s.size := by simp
        refine ref1_taken_spec (by omega) (by omega) hs ?_
        simp only [rT_tup, uR_cons, rS_s, dS_str, dI_int, uE_nil]
        rw [chk_true]
        refine g.key _ (by omega) fun a' H' g' => ?_
        cases lf with
        | true =>
          rw [bite_t rfl]
          refine ref1_taken_spec (by omega) (by omega) hs ?_
          simp only [rT_tup, uR_cons, rS_s, dS_str, dI_int, uE_nil]
          rw [chk_true]
          refine g'.val _ (by omega) fun a'' H'' g'' => ?_
          rw [wrap_succ (by omega)]
          have := ih (k + 1) (takA (bs s) (takA (bs s) p).2).2 H'' a' (ks ++ [mkS (takA (bs s) p).1]) a'' (vs ++ [mkS (takA (bs s) (takA (bs s) p).2).1]) (by omega) (by omega) (by simp; omega) (by simp; omega) (by omega) (by omega) g'' (by
            rw [he, show pN2 (bs s) - k = (pN2 (bs s) - (k + 1)) + 1 by omega]; rfl)
          simpa using this
        | false =>
          rw [bite_f rfl]
          rw [wrap_succ (by omega)]
          have := ih (k + 1) (takA (bs s) p).2 H' a' (ks ++ [mkS (takA (bs s) p).1]) a2 vs (by omega) (by omega) (by simp; omega) (by omega) (by omega) (by omega) g' (by
            rw [he, show pN2 (bs s) - k = (pN2 (bs s) - (k + 1)) + 1 by omega]; rfl)
          simpa using this
      · rw [bite_f (by simp; omega)]
        exact stop (by unfold pN2; omega)
    · rw [bite_f (by simp; omega)]
      exact stop (by unfold pN2; omega)

theorem ref1_GetPage_spec (hs : s.size ≤ 9223372036854770000) (hQ : GetQ s H0.length Q H0) : ref1_GetPage [.g (.str s)] H0 Q := by
  refine ⟨301, ?_⟩
  rw [ref1_GetPage_eq]
  by_cases c : s.size < 2
  · rw [bite_t (by simp; omega)]
    refine hQ _ _ _ _ _ _ _ _ _ _ _ (List.prefix_refl _) (noPg_own _ _) (.inr ⟨rfl, rfl, fun p' h1 h2 => ?_⟩)
    rw [← h2] at c
    simp [text, textL, hdr] at c
    omega
  · rw [bite_f (by simp; omega)]
    refine chk_of (by simp; omega) ?_
    have hl : eqI (byt s (tN 0)) 1 = pL2 (bs s) := by
      rw [byt_eq]
      simp only [eqI_def, pL2, tN_def, Int.toNat_zero]
      rw [Bool.eq_iff_iff]; simp; omega
    rw [hl]
    have g0 : GJ H0 H0 none [] none [] none [] := ⟨List.prefix_refl _, .inl ⟨rfl, rfl, rfl⟩, .inl ⟨rfl, rfl, rfl⟩, .inl ⟨rfl, rfl, rfl⟩, fun _ e => (by cases e), fun _ e => (by cases e), fun _ e => (by cases e)⟩
    have hN5 : pN2 (bs s) - 0 + 202 < 300 := by unfold pN2; omega
    have := ref1_GetPage_l6 (H0 := H0) (Q := Q) (s := s) (pL2 (bs s)) hs (by omega) hQ (parse2 (bs s)) (fun p' h1 h2 => by rw [← h2]; exact parse2_text h1) 300 0 2 H0 none [] none [] hN5 (Nat.zero_le _) (by simp) (by simp) (by omega) (by omega) g0 rfl
    simpa using this
end
end Go.Am
