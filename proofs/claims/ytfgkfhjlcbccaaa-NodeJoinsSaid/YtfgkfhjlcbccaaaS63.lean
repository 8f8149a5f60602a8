import Derived.Test.YtfgkfhjlcbccaaaS62
set_option linter.unusedVariables false
set_option linter.unusedSimpArgs false
namespace Go.Am

/-- a row of bytes of one's own -/
def OwnB (H : Hp) (b : Nat) (a : Pl) (L : List UInt8) : Prop := Own H b 5 a L.length (u8s L)
theorem apB {H0 H : Hp} {a : Pl} {L : List UInt8} {K : Pl → Nat → Hp → Prop} {cs : List GV} {m : Nat} (h0 : H0 <+: H) (h : OwnB H H0.length a L) (ds : List UInt8) (hcs : cs = u8s ds) (hm : m = ds.length) (hl : L.length + ds.length ≤ 1000000)
    (hK : ∀ a' H', OwnB H' H0.length a' (L ++ ds) → H0 <+: H' → K a' (L ++ ds).length H') : ap H 5 1 1 a L.length cs m K := by
  subst hcs; subst hm
  refine ap_own h0 h (by simp [u8s]) (by unfold Lim; omega) fun a' H' h1 h2 _ => ?_
  rw [← List.length_append]
  refine hK a' H' ?_ h2.pre
  unfold OwnB
  rw [List.length_append, u8s_append]
  exact h1
theorem OwnB.txt {H : Hp} {b : Nat} {a : Pl} {L : List UInt8} {K : ByteArray → Prop} (h : OwnB H b a L) : (rdN H a L.length fun c => txt c K) = K (mkS L) := by
  rw [rdN_of h.cells, txt_u8s]

def szd (s : ByteArray) : List UInt8 := bof s.size :: bs s
@[simp] theorem szd_length (s : ByteArray) : (szd s).length = s.size + 1 := by simp [szd]
theorem u8s_one {n : Int} (h1 : 0 ≤ n) (h2 : n ≤ 255) : [GV.int .u8 (wrapI .u8 n)] = u8s [bof n] := by rw [u8_eq h1 h2]; rfl

theorem page_sized_spec {H0 H : Hp} {a : Pl} {L : List UInt8} {s : ByteArray} {Q : Post} (h0 : H0 <+: H) (h : OwnB H H0.length a L) (hs : s.size ≤ 255) (hl : L.length ≤ 10000)
    (hQ : ∀ a' H', OwnB H' H0.length a' (L ++ szd s) → H0 <+: H' → Q (.g (.sl a' (L ++ szd s).length 1)) H') : page_sized [.g (.sl a L.length 1), .g (.str s)] H Q := by
  refine ⟨1, ?_⟩
  rw [page_sized_eq, chk_true]
  refine apB h0 h [bof s.size] (by rw [sz_def, u8s_one (by omega) (by omega)]) rfl (by simp; omega) fun a1 H1 h1 p1 => ?_
  rw [chk_true]
  refine apB p1 h1 (bs s) (bytesOf_eq s) (by simp) (by simp; omega) fun a2 H2 h2 p2 => ?_
  have e : L ++ [bof s.size] ++ bs s = L ++ szd s := by simp [szd]
  rw [e] at h2 ⊢
  exact hQ _ _ h2 p2

/-- a page's text -/
def entL (p : Pg) (i : Nat) : List UInt8 := szd (p.keys[i]?.getD ⟨#[]⟩) ++ (match p.leaf with | true => szd (p.vals[i]?.getD ⟨#[]⟩) | false => [])
def ents (p : Pg) (k : Nat) : List UInt8 := (List.range k).flatMap (entL p)
def kidB (k : Int) : UInt8 := bof k
def hdr (p : Pg) : List UInt8 := [match p.leaf with | true => 1 | false => 2, bof p.keys.length]
def textL (p : Pg) : List UInt8 := hdr p ++ ents p p.keys.length ++ p.kids.map bof
def text (p : Pg) : ByteArray := mkS (textL p)
theorem ents_succ (p : Pg) (k : Nat) : ents p (k + 1) = ents p k ++ entL p k := by simp [ents, List.range_succ]
theorem getD_of_lt {α : Type} {l : List α} {i : Nat} (d : α) (h : i < l.length) : l[i]?.getD d = l[i] := by simp [h]
theorem entL_le {p : Pg} (h : FitsP p) (i : Nat) : (entL p i).length ≤ 18 := by
  have hk : (p.keys[i]?.getD ⟨#[]⟩).size ≤ 6 := by
    by_cases hi : i < p.keys.length
    · rw [getD_of_lt _ hi]; exact (h.keys _ (List.getElem_mem hi)).2
    · rw [List.getElem?_eq_none (by omega)]; show (0 : Nat) ≤ 6; omega
  unfold entL
  cases hL : p.leaf with
  | false => simp; omega
  | true =>
    have hv : (p.vals[i]?.getD ⟨#[]⟩).size ≤ 10 := by
      by_cases hi : i < p.vals.length
      · rw [getD_of_lt _ hi]; exact (h.leaf hL).2.2 _ (List.getElem_mem hi)
      · rw [List.getElem?_eq_none (by omega)]; show (0 : Nat) ≤ 10; omega
    simp; omega
theorem ents_le {p : Pg} (h : FitsP p) : ∀ k, (ents p k).length ≤ 18 * k
  | 0 => by simp [ents]
  | k + 1 => by rw [ents_succ, List.length_append]; have := ents_le h k; have := entL_le h k; omega

section
variable {H : Hp} {Q : Post} {u l : Bool} {a1 : Pl} {n1 : Nat} {a2 : Pl} {n2 : Nat} {a3 : Pl} {n3 : Nat} {p : Pg}

theorem kids_le (hm : MayP p) : p.kids.length ≤ 5 := by
  have hm1 := hm.1
  cases hL : p.leaf with
  | true => rw [(hm.2.leaf hL).2.1]; simp
  | false => have := (hm.2.inner hL).2.2.1; omega
theorem kids_u8 (hm : MayP p) {k : Nat} (hkn : k < p.kids.length) : 0 ≤ p.kids[k] ∧ p.kids[k] ≤ 255 := by
  cases hL : p.leaf with
  | true => have := (hm.2.leaf hL).2.1; simp [this] at hkn
  | false => have := (hm.2.inner hL).2.2.2.1 _ (List.getElem_mem hkn); omega
def upK (p : Pg) (k : Nat) : List UInt8 := hdr p ++ ents p p.keys.length ++ (p.kids.take k).map bof
theorem upK_succ {k : Nat} (hkn : k < p.kids.length) : upK p k ++ [bof p.kids[k]] = upK p (k + 1) := by
  unfold upK; rw [List.take_succ_eq_append_getElem hkn, List.map_append, ← List.append_assoc]; rfl
theorem upK_le (hm : MayP p) (k : Nat) : (upK p k).length ≤ 100 := by
  have hle := ents_le hm.2 p.keys.length
  have hm1 := hm.1
  have := kids_le hm
  unfold upK; simp [hdr]; omega
theorem upK_all {k : Nat} (hk : p.kids.length ≤ k) : upK p k = textL p := by
  unfold upK textL; rw [List.take_of_length_le hk]
def upE (p : Pg) (k : Nat) : List UInt8 := hdr p ++ ents p k
theorem upE_le (hm : MayP p) {k : Nat} (hk : k ≤ 4) : (upE p k).length ≤ 100 := by
  have hle := ents_le hm.2 k
  unfold upE; simp [hdr]; omega

theorem page_Put_l14 (h : PgAt H u l a1 n1 a2 n2 a3 n3 p) (hm : MayP p) (hQ : ∀ H', H <+: H' → Q (.tup [.s (.str (text p)), .s (.int .i64 0)]) H') :
    ∀ (f k : Nat) (a : Pl) (H' : Hp), p.kids.length - k < f → k ≤ p.kids.length → H <+: H' → OwnB H' H.length a (upK p k) → page_Put.l14 f a (upK p k).length a3 n3 (nI n3) (k : Int) H' Q := by
  have hi := h.kids
  have n3e := hi.len
  have l3 := hi.lim
  intro f
  induction f with
  | zero => intro k a H' hf; omega
  | succ f ih =>
    intro k a H' hf hk hp ho
    rw [page_Put.l14_eq]
    by_cases hkn : k < p.kids.length
    · have hb := kids_u8 hm hkn
      have := upK_le hm k
      rw [bite_t (by simp; omega), chk_true, (hi.mono hp).rd k rfl hkn, chk_true]
      refine apB hp ho [bof p.kids[k]] (u8s_one hb.1 hb.2) rfl (by simp; omega) fun a' H'' h1 h2 => ?_
      rw [upK_succ hkn] at h1 ⊢
      rw [wrap_succ (by omega)]
      exact ih (k + 1) a' H'' (by omega) (by omega) h2 h1
    · rw [bite_f (by simp; omega), ho.txt, upK_all (by omega)]
      exact hQ _ hp

theorem page_Put_l7 (h : PgAt H u l a1 n1 a2 n2 a3 n3 p) (hm : MayP p) (hQ : ∀ H', H <+: H' → Q (.tup [.s (.str (text p)), .s (.int .i64 0)]) H') :
    ∀ (f k : Nat) (a : Pl) (H' : Hp), p.keys.length - k + p.kids.length + 1 < f → k ≤ p.keys.length → H <+: H' → OwnB H' H.length a (upE p k) → page_Put.l7 f u l a1 n1 a2 n2 a3 n3 a (upE p k).length a1 n1 (nI n1) (k : Int) H' Q := by
  obtain ⟨hu, hl, hk, hv, hi⟩ := id h
  have n1e := hk.len
  have n2e := hv.len
  have l1 := hk.lim
  have hm1 := hm.1
  intro f
  induction f with
  | zero => intro k a H' hf; omega
  | succ f ih =>
    intro k a H' hf hkn0 hp ho
    rw [page_Put.l7_eq]
    by_cases hkn : k < p.keys.length
    · have hks := (hm.2.keys _ (List.getElem_mem hkn)).2
      have hle := upE_le hm (k := k) (by omega)
      rw [bite_t (by simp; omega), chk_true, (hk.mono hp).rd k rfl hkn]
      refine page_sized_spec hp ho (by omega) (by omega) fun a' H2 o2 p2 => ?_
      simp only [rG_g, dL_sl]
      cases hL : p.leaf with
      | true =>
        have hvl := (hm.2.leaf hL).1
        have hvn : k < p.vals.length := by omega
        have hvs := (hm.2.leaf hL).2.2 _ (List.getElem_mem hvn)
        rw [bite_t (by rw [← hl]; exact hL), chk_true, (hv.mono p2).rd k rfl hvn]
        refine page_sized_spec p2 o2 (by omega) (by simp; omega) fun a'' H3 o3 p3 => ?_
        simp only [rG_g, dL_sl]
        have e : upE p k ++ szd p.keys[k] ++ szd p.vals[k] = upE p (k + 1) := by
          unfold upE; rw [ents_succ]; simp [entL, hL, hkn, hvn]
        rw [e] at o3 ⊢
        rw [wrap_succ (by omega)]
        exact ih (k + 1) a'' H3 (by omega) (by omega) p3 o3
      | false =>
        rw [bite_f (by rw [← hl]; exact hL)]
        have e : upE p k ++ szd p.keys[k] = upE p (k + 1) := by
          unfold upE; rw [ents_succ]; simp [entL, hL, hkn]
        rw [e] at o2 ⊢
        rw [wrap_succ (by omega)]
        exact ih (k + 1) a' H2 (by omega) (by omega) p2 o2
    · rw [bite_f (by simp; omega)]
      have hke : k = p.keys.length := by omega
      subst hke
      have e : upE p p.keys.length = upK p 0 := by simp [upE, upK]
      rw [e] at ho ⊢
      exact page_Put_l14 h hm hQ f 0 a H' (by omega) (by omega) hp ho

theorem page_Put_spec (h : PgAt H u l a1 n1 a2 n2 a3 n3 p) (hQ1 : ¬ MayP p → ∀ H', H <+: H' → Q (.tup [.s (.str (mkS [])), .s (.int .i64 600)]) H')
    (hQ2 : MayP p → ∀ H', H <+: H' → Q (.tup [.s (.str (text p)), .s (.int .i64 0)]) H') : page_Put [.agg [.bool u, .bool l, .sl a1 n1 1, .sl a2 n2 1, .sl a3 n3 1]] H Q := by
  refine ⟨p.keys.length + p.kids.length + 5, ?_⟩
  rw [page_Put_eq]
  refine page_May_spec h fun b H1 p1 hb => ?_
  simp only [rG_g, dB_bool]
  refine bite_of (fun e => hQ1 (fun q => ?_) _ p1) (fun e => ?_)
  · rw [hb.2 q] at e; cases e
  have hm : MayP p := hb.1 (by cases b <;> simp_all)
  have hm1 := hm.1
  have hl := h.leaf
  have n1e := h.keys.len
  have hh : OwnB (H1 ++ [.row true 5 [.int .u8 2, .int .u8 (wrapI .u8 (nI n1))]]) H.length (some (H1.length, 0)) [2, bof p.keys.length] := by
    refine .inr ⟨H1.length, rfl, pre_len p1, ?_, rfl⟩
    rw [List.getElem?_append_right (Nat.le_refl _)]
    simp only [Nat.sub_self, List.getElem?_cons_zero, nI_def]
    rw [u8_eq (by omega) (by omega), n1e]
    rfl
  have p2 : H <+: H1 ++ [.row true 5 [.int .u8 2, .int .u8 (wrapI .u8 (nI n1))]] := p1.trans (List.prefix_append _ _)
  have go : ∀ H2, H <+: H2 → OwnB H2 H.length (some (H1.length, 0)) (upE p 0) → page_Put.l6 (p.keys.length + p.kids.length + 4) u l a1 n1 a2 n2 a3 n3 (some (H1.length, 0)) 2 H2 Q := fun H2 q2 o2 => by
    rw [show p.keys.length + p.kids.length + 4 = (p.keys.length + p.kids.length + 3) + 1 by omega, page_Put.l6_eq]
    exact page_Put_l7 h hm (hQ2 hm) _ 0 _ H2 (by omega) (Nat.zero_le _) q2 o2
  cases hL : p.leaf with
  | false =>
    rw [bite_f (by rw [← hl]; exact hL)]
    exact go _ p2 (by simpa [upE, hdr, ents, hL] using hh)
  | true =>
    rw [bite_t (by rw [← hl]; exact hL), chk_true]
    simp only [pu_def, ln_def, tN_def, Int.toNat_zero, Nat.zero_mul, Nat.zero_add]
    rw [wr_of (t := 5) (cs := [.int .u8 2, .int .u8 (wrapI .u8 (nI n1))]) (by simp) (by simp)]
    refine go _ (pre_set p2 (pre_len p1) _) (.inr ⟨H1.length, rfl, pre_len p1, ?_, rfl⟩)
    rw [List.getElem?_set_self (by simp)]
    simp only [List.set_cons_zero, nI_def, upE, hdr, ents, hL]
    rw [u8_eq (by omega) (by omega), n1e]
    rfl

theorem ref1_PutPage_l15 (h : PgAt H u l a1 n1 a2 n2 a3 n3 p) (hm : MayP p) (hQ : ∀ H', H <+: H' → Q (.tup [.s (.str (text p)), .s (.int .i64 0)]) H') :
    ∀ (f k : Nat) (a : Pl) (H' : Hp), p.kids.length - k < f → k ≤ p.kids.length → H <+: H' → OwnB H' H.length a (upK p k) → ref1_PutPage.l15 f u l a1 n1 a2 n2 a3 n3 a (upK p k).length (k : Int) H' Q := by
  have hi := h.kids
  have n3e := hi.len
  have l3 := hi.lim
  intro f
  induction f with
  | zero => intro k a H' hf; omega
  | succ f ih =>
    intro k a H' hf hk hp ho
    rw [ref1_PutPage.l15_eq]
    by_cases hkn : k < p.kids.length
    · have hb := kids_u8 hm hkn
      have := upK_le hm k
      rw [bite_t (by simp; omega), chk_true, (hi.mono hp).rd k rfl hkn, chk_true]
      refine apB hp ho [bof p.kids[k]] (u8s_one hb.1 hb.2) rfl (by simp; omega) fun a' H'' h1 h2 => ?_
      rw [upK_succ hkn] at h1 ⊢
      rw [wrap_succ (by omega)]
      exact ih (k + 1) a' H'' (by omega) (by omega) h2 h1
    · rw [bite_f (by simp; omega), ho.txt, upK_all (by omega)]
      exact hQ _ hp

theorem ref1_PutPage_l7 (h : PgAt H u l a1 n1 a2 n2 a3 n3 p) (hm : MayP p) (hQ : ∀ H', H <+: H' → Q (.tup [.s (.str (text p)), .s (.int .i64 0)]) H') :
    ∀ (f k : Nat) (a : Pl) (H' : Hp), p.keys.length - k + p.kids.length + 1 < f → k ≤ p.keys.length → H <+: H' → OwnB H' H.length a (upE p k) → ref1_PutPage.l7 f u l a1 n1 a2 n2 a3 n3 a (upE p k).length (k : Int) H' Q := by
  obtain ⟨hu, hl, hk, hv, hi⟩ := id h
  have n1e := hk.len
  have n2e := hv.len
  have l1 := hk.lim
  have hm1 := hm.1
  intro f
  induction f with
  | zero => intro k a H' hf; omega
  | succ f ih =>
    intro k a H' hf hkn0 hp ho
    rw [ref1_PutPage.l7_eq]
    by_cases hkn : k < p.keys.length
    · have hks := (hm.2.keys _ (List.getElem_mem hkn)).2
      have hle := upE_le hm (k := k) (by omega)
      rw [bite_t (by simp; omega), chk_true, (hk.mono hp).rd k rfl hkn, chk_true]
      refine apB hp ho [bof (p.keys[k]).size] (by rw [sz_def, u8s_one (by omega) (by omega)]) rfl (by simp; omega) fun a' H2 o2 p2 => ?_
      rw [chk_true, (hk.mono p2).rd k rfl hkn, chk_true]
      refine apB p2 o2 (bs p.keys[k]) (bytesOf_eq _) (by simp) (by simp; omega) fun a' H3 o3 p3 => ?_
      have e1 : upE p k ++ [bof (p.keys[k]).size] ++ bs p.keys[k] = upE p k ++ szd p.keys[k] := by simp [szd]
      rw [e1] at o3 ⊢
      cases hL : p.leaf with
      | true =>
        have hvl := (hm.2.leaf hL).1
        have hvn : k < p.vals.length := by omega
        have hvs := (hm.2.leaf hL).2.2 _ (List.getElem_mem hvn)
        rw [bite_t (by rw [← hl]; exact hL), chk_true, (hv.mono p3).rd k rfl hvn, chk_true]
        refine apB p3 o3 [bof (p.vals[k]).size] (by rw [sz_def, u8s_one (by omega) (by omega)]) rfl (by simp; omega) fun a' H4 o4 p4 => ?_
        rw [chk_true, (hv.mono p4).rd k rfl hvn, chk_true]
        refine apB p4 o4 (bs p.vals[k]) (bytesOf_eq _) (by simp) (by simp; omega) fun a'' H5 o5 p5 => ?_
        have e : upE p k ++ szd p.keys[k] ++ [bof (p.vals[k]).size] ++ bs p.vals[k] = upE p (k + 1) := by
          unfold upE; rw [ents_succ]; simp [entL, hL, hkn, hvn, szd]
        rw [e] at o5 ⊢
        rw [wrap_succ (by omega)]
        exact ih (k + 1) a'' H5 (by omega) (by omega) p5 o5
      | false =>
        rw [bite_f (by rw [← hl]; exact hL)]
        have e : upE p k ++ szd p.keys[k] = upE p (k + 1) := by
          unfold upE; rw [ents_succ]; simp [entL, hL, hkn]
        rw [e] at o3 ⊢
        rw [wrap_succ (by omega)]
        exact ih (k + 1) a' H3 (by omega) (by omega) p3 o3
    · rw [bite_f (by simp; omega)]
      have hke : k = p.keys.length := by omega
      subst hke
      have e : upE p p.keys.length = upK p 0 := by simp [upE, upK]
      rw [e] at ho ⊢
      exact ref1_PutPage_l15 h hm hQ f 0 a H' (by omega) (by omega) hp ho

theorem ref1_PutPage_spec (h : PgAt H u l a1 n1 a2 n2 a3 n3 p) (hQ1 : ¬ MayP p → ∀ H', H <+: H' → Q (.tup [.s (.str (mkS [])), .s (.int .i64 600)]) H')
    (hQ2 : MayP p → ∀ H', H <+: H' → Q (.tup [.s (.str (text p)), .s (.int .i64 0)]) H') : ref1_PutPage [.agg [.bool u, .bool l, .sl a1 n1 1, .sl a2 n2 1, .sl a3 n3 1]] H Q := by
  refine ⟨p.keys.length + p.kids.length + 5, ?_⟩
  rw [ref1_PutPage_eq]
  refine ref1_PageMay_spec h fun b hb => ?_
  simp only [rG_g, dB_bool]
  refine bite_of (fun e => hQ1 (fun q => ?_) _ (List.prefix_refl _)) (fun e => ?_)
  · rw [hb.2 q] at e; cases e
  have hm : MayP p := hb.1 (by cases b <;> simp_all)
  have hm1 := hm.1
  have hl := h.leaf
  have n1e := h.keys.len
  have hh : OwnB (H ++ [.row true 5 [.int .u8 2, .int .u8 (wrapI .u8 (nI n1))]]) H.length (some (H.length, 0)) [2, bof p.keys.length] := by
    refine .inr ⟨H.length, rfl, Nat.le_refl _, ?_, rfl⟩
    rw [List.getElem?_append_right (Nat.le_refl _)]
    simp only [Nat.sub_self, List.getElem?_cons_zero, nI_def]
    rw [u8_eq (by omega) (by omega), n1e]
    rfl
  have p2 : H <+: H ++ [.row true 5 [.int .u8 2, .int .u8 (wrapI .u8 (nI n1))]] := List.prefix_append _ _
  have go : ∀ H2, H <+: H2 → OwnB H2 H.length (some (H.length, 0)) (upE p 0) → ref1_PutPage.l6 (p.keys.length + p.kids.length + 4) u l a1 n1 a2 n2 a3 n3 (some (H.length, 0)) 2 H2 Q := fun H2 q2 o2 => by
    rw [show p.keys.length + p.kids.length + 4 = (p.keys.length + p.kids.length + 3) + 1 by omega, ref1_PutPage.l6_eq]
    exact ref1_PutPage_l7 h hm (hQ2 hm) _ 0 _ H2 (by omega) (Nat.zero_le _) q2 o2
  cases hL : p.leaf with
  | false =>
    rw [bite_f (by rw [← hl]; exact hL)]
    exact go _ p2 (by simpa [upE, hdr, ents, hL] using hh)
  | true =>
    rw [bite_t (by rw [← hl]; exact hL), chk_true]
    simp only [pu_def, ln_def, tN_def, Int.toNat_zero, Nat.zero_mul, Nat.zero_add]
    rw [wr_of (t := 5) (cs := [.int .u8 2, .int .u8 (wrapI .u8 (nI n1))]) (by simp) (by simp)]
    refine go _ (pre_set p2 (Nat.le_refl _) _) (.inr ⟨H.length, rfl, Nat.le_refl _, ?_, rfl⟩)
    rw [List.getElem?_set_self (by simp)]
    simp only [List.set_cons_zero, nI_def, upE, hdr, ents, hL]
    rw [u8_eq (by omega) (by omega), n1e]
    rfl
end
end Go.Am
