import Derived.Test.YtfgkfhjlcbccaaaS96
set_option linter.unusedVariables false
set_option linter.unusedSimpArgs false
namespace Go.Am
open Classical

theorem Mine.ss {H : Hp} {lo hi : Nat} {a : Pl} {n : Nat} {xs : List ByteArray} (h : Mine H lo hi 9 a n (xs.map GV.str)) (hn : n ≤ 1000) : Ss H a n xs := by
  have := h.len
  simp at this
  exact ⟨h.cells, this.symm, by omega⟩

/-- a page that may be split comes apart into pages that may be -/
theorem rising_take {xs : List ByteArray} (h : Rising xs) (k : Nat) : Rising (xs.take k) := fun i hi => by
  simp at hi
  have := h i (by omega)
  simpa [List.getElem_take] using this
theorem rising_drop {xs : List ByteArray} (h : Rising xs) (k : Nat) : Rising (xs.drop k) := fun i hi => by
  simp at hi
  have := h (k + i) (by omega)
  simpa [List.getElem_drop, Nat.add_assoc] using this
theorem cut_may {p : Pg} (hs : CanSplit p) : MayP (cutA p) ∧ MayP (cutB p) ∧ 2 ≤ (cutA p).keys.length ∧ 2 ≤ (cutB p).keys.length := by
  obtain ⟨h5, hu, hr, hk, hlf, hin⟩ := hs
  unfold cutA cutB
  cases hl : p.leaf with
  | true =>
    obtain ⟨f1, f2, f3⟩ := hlf hl
    refine ⟨⟨by simp; omega, rfl, rising_take hr _, fun k hm => hk k (List.mem_of_mem_take hm), fun _ => ⟨by simp [f1], rfl, fun v hm => f3 v (List.mem_of_mem_take hm)⟩, fun q => (by cases q)⟩,
      ⟨by simp; omega, rfl, rising_drop hr _, fun k hm => hk k (List.mem_of_mem_drop hm), fun _ => ⟨by simp [f1], rfl, fun v hm => f3 v (List.mem_of_mem_drop hm)⟩, fun q => (by cases q)⟩, by simp; omega, by simp; omega⟩
  | false =>
    obtain ⟨f1, f2, f3, f4, f5⟩ := hin hl
    refine ⟨⟨by simp; omega, rfl, rising_take hr _, fun k hm => hk k (List.mem_of_mem_take hm), fun q => (by cases q), fun _ => ⟨by simp; omega, rfl, by simp; omega, fun k hm => f4 k (List.mem_of_mem_take hm), f5.sublist (List.take_sublist _ _)⟩⟩,
      ⟨by simp; omega, rfl, rising_drop hr _, fun k hm => hk k (List.mem_of_mem_drop hm), fun q => (by cases q), fun _ => ⟨by simp; omega, rfl, by simp; omega, fun k hm => f4 k (List.mem_of_mem_drop hm), f5.sublist (List.drop_sublist _ _)⟩⟩, by simp; omega, by simp; omega⟩
theorem three_of {xs : List ByteArray} (h : xs.length = 5) : xs.take 2 ++ [xs[2]?.getD (mkS [])] ++ xs.drop 3 = xs := by
  match xs, h with
  | [a, b, c, d, e], _ => rfl
theorem cut_keys {p : Pg} (hs : CanSplit p) : (match p.leaf with | true => (cutA p).keys | false => (cutA p).keys ++ [pcutK p]) ++ (cutB p).keys = p.keys := by
  unfold cutA cutB pcutK
  cases hl : p.leaf with
  | true => exact List.take_append_drop _ _
  | false => exact three_of hs.1
theorem cut_vals {p : Pg} (hs : CanSplit p) : (cutA p).vals ++ (cutB p).vals = p.vals := by
  unfold cutA cutB
  cases hl : p.leaf with
  | true => exact List.take_append_drop _ _
  | false => rw [(hs.2.inner hl).2.1]; rfl
theorem cut_kids {p : Pg} (hs : CanSplit p) : (cutA p).kids ++ (cutB p).kids = p.kids := by
  unfold cutA cutB
  cases hl : p.leaf with
  | true => rw [(hs.2.leaf hl).2.1]; rfl
  | false => exact List.take_append_drop _ _
theorem cut_key {p : Pg} (hs : CanSplit p) (hl : p.leaf = true) : (cutB p).keys[0]? = some (pcutK p) := by
  unfold cutB pcutK
  rw [hl]
  have h5 := hs.1
  simp [h5]

theorem ap_strs {H0 H : Hp} {a : Pl} {n m : Nat} {xs ys : List ByteArray} {ds : List GV} {K : Pl → Nat → Hp → Prop} (h0 : H0 <+: H) (h : Own H H0.length 9 a n (xs.map GV.str)) (hd : ds = ys.map GV.str) (hm : ys.length = m) (hl : n + m ≤ 1000)
    (hK : ∀ a' H', Own H' H0.length 9 a' (n + m) ((xs ++ ys).map GV.str) → Ex H0 a H H' → (∀ l o, a' = some (l, o) → H.length ≤ l) → K a' (n + m) H') : ap H 9 1 16 a n ds m K := by
  subst hd
  refine ap_own h0 h (by simp [hm]) (by unfold Lim; omega) fun a' H' o x f => hK a' H' (by rw [List.map_append]; exact o) x f
theorem ap_ints {H0 H : Hp} {a : Pl} {n m : Nat} {xs ys : List Int} {ds : List GV} {K : Pl → Nat → Hp → Prop} (h0 : H0 <+: H) (h : Own H H0.length 3 a n (xs.map (GV.int .i64))) (hd : ds = ys.map (GV.int .i64)) (hm : ys.length = m) (hl : n + m ≤ 1000)
    (hK : ∀ a' H', Own H' H0.length 3 a' (n + m) ((xs ++ ys).map (GV.int .i64)) → Ex H0 a H H' → (∀ l o, a' = some (l, o) → H.length ≤ l) → K a' (n + m) H') : ap H 3 1 8 a n ds m K := by
  subst hd
  refine ap_own h0 h (by simp [hm]) (by unfold Lim; omega) fun a' H' o x f => hK a' H' (by rw [List.map_append]; exact o) x f

section
variable {H : Hp} {Q : Post} {u l : Bool} {a1 : Pl} {n1 : Nat} {a2 : Pl} {n2 : Nat} {a3 : Pl} {n3 : Nat} {p : Pg}
set_option maxRecDepth 100000 in
theorem law9_NodeBack_spec (h : PgAt H u l a1 n1 a2 n2 a3 n3 p) (hQ : ∀ H', Q (.g (.bool true)) H') :
    law9_NodeBack [.agg [.bool u, .bool l, .sl a1 n1 1, .sl a2 n2 1, .sl a3 n3 1]] H Q := by
  refine ⟨2, ?_⟩
  rw [law9_NodeBack_eq]
  refine law9_awake_spec fun H1 p1 => ?_
  simp only [rG_g, dB_bool]
  rw [bite_f (by decide)]
  refine node_Split_spec (h.mono p1) fun ua la d1 g1 d2 g2 d3 g3 ub lb e1 i1 e2 i2 e3 i3 lo md hi H2 p2 hlo hmd hhi hhl hA hB => ?_
  simp only [rT_tup, uR_cons, rC_a, uC_cons, dB_bool, dL_sl, uN_nil, rS_s, dS_str, dI_int, uE_nil]
  have p12 := p1.trans p2
  refine law0_Num_spec ?_
  simp only [rG_g, dI_int]
  by_cases hs : CanSplit p
  · have eA : spA p = cutA p := if_pos hs
    have eB : spB p = cutB p := if_pos hs
    have eK : spK p = pcutK p := if_pos hs
    have eE : spE p = 0 := if_pos hs
    rw [eA] at hA
    rw [eB] at hB
    rw [eE, eK, bite_f (by decide)]
    obtain ⟨mA, mB, kA, kB⟩ := cut_may hs
    have sA := hA.small
    have sB := hB.small
    have A := hA.at
    have B := hB.at
    obtain ⟨sA1, sA2, sA3⟩ := may_small A mA
    obtain ⟨sB1, sB2, sB3⟩ := may_small B mB
    have zA1 := A.keys.len
    have zB1 := B.keys.len
    have zA2 := A.vals.len
    have zB2 := B.vals.len
    have zA3 := A.kids.len
    have zB3 := B.kids.len
    have key4 : ∀ (x : Pl) (k : Nat) (H3 : Hp) (ks : List ByteArray), H2 <+: H3 → Own H3 H2.length 9 x k (ks.map GV.str) → k ≤ 101 → (match p.leaf with | true => (cutA p).keys | false => (cutA p).keys ++ [pcutK p]) = ks →
        law9_NodeBack.l11 1 u l a1 n1 a2 n2 a3 n3 ua la d1 g1 d2 g2 d3 g3 (pcutK p) ub lb e1 i1 e2 i2 e3 i3 x k none 0 none 0 H3 Q := by
      intro x k H3 ks p3 o3 hk hks
      rw [law9_NodeBack.l11_eq, chk_true, Nat.mul_one, rdN_of (B.keys.mono p3).cells, chk_true]
      refine ap_strs (ys := (cutB p).keys) p3 o3 rfl zB1.symm (by omega) fun y1 H4 o4 x4 _ => ?_
      have p4 := x4.pre
      rw [chk_true, Nat.mul_one, rdN_of (A.vals.mono p4).cells, chk_true]
      refine ap_strs (xs := []) (ys := (cutA p).vals) (List.prefix_refl H4) (.inl ⟨rfl, rfl, rfl⟩) rfl zA2.symm (by omega) fun y2 H5 o5 x5 _ => ?_
      have p5 := x5.pre
      rw [chk_true, Nat.mul_one, rdN_of (B.vals.mono (p4.trans p5)).cells, chk_true]
      refine ap_strs (ys := (cutB p).vals) p5 o5 rfl zB2.symm (by omega) fun y3 H6 o6 x6 _ => ?_
      have p6 := x6.pre
      rw [chk_true, Nat.mul_one, rdN_of (A.kids.mono (p4.trans p6)).cells, chk_true]
      refine ap_ints (xs := []) (ys := (cutA p).kids) (List.prefix_refl H6) (.inl ⟨rfl, rfl, rfl⟩) rfl zA3.symm (by omega) fun y4 H7 o7 x7 _ => ?_
      have p7 := x7.pre
      rw [chk_true, Nat.mul_one, rdN_of (B.kids.mono (p4.trans (p6.trans p7))).cells, chk_true]
      refine ap_ints (ys := (cutB p).kids) p7 o7 rfl zB3.symm (by omega) fun y5 H8 o8 x8 _ => ?_
      have p8 := x8.pre
      have p28 := p4.trans (p6.trans p8)
      have P8 := h.mono (p12.trans p28)
      have c1 : ks ++ (cutB p).keys = p.keys := by rw [← hks]; exact cut_keys hs
      have c2 : [] ++ (cutA p).vals ++ (cutB p).vals = p.vals := by rw [List.nil_append]; exact cut_vals hs
      have c3 : [] ++ (cutA p).kids ++ (cutB p).kids = p.kids := by rw [List.nil_append]; exact cut_kids hs
      have z3 := o3.len
      simp only [List.length_map] at z3
      refine law0_SameTexts_spec ((o4.mono (p6.trans p8)).ss (by simp; omega) c1) P8.keys fun b hb => ?_
      simp only [rG_g, dB_bool]
      rw [bite_t (hb.2 rfl)]
      refine law0_SameTexts_spec ((o6.mono p8).ss (by simp; omega) c2) P8.vals fun b hb => ?_
      simp only [rG_g, dB_bool]
      rw [bite_t (hb.2 rfl)]
      refine law0_SameInts_spec (o8.is (by simp; omega) c3) P8.kids fun b hb => ?_
      simp only [rG_g, dB_bool]
      rw [bite_t (hb.2 rfl), bite_t (by simp; omega), bite_t (by simp; omega)]
      refine ref1_PageMay_spec (A.mono p28) fun b hb => ?_
      simp only [rG_g, dB_bool]
      rw [bite_t (hb.2 mA)]
      refine ref1_PageMay_spec (B.mono p28) fun b hb => ?_
      simp only [rG_g, dB_bool]
      rw [bite_t (hb.2 mB)]
      refine bite_of (fun e => hQ _) (fun e => ?_)
      have hl : p.leaf = true := by rw [h.leaf]; simpa using e
      rw [chk_true]
      have hg := cut_key hs hl
      have r := (B.mono p28).keys.rd 0 (i := 0) rfl (by omega)
      rw [r]
      rw [List.getElem?_eq_getElem (by omega)] at hg
      rw [Option.some.inj hg, strEq_def, decide_eq_true rfl]
      exact hQ _
    rw [chk_true, Nat.mul_one, rdN_of A.keys.cells, chk_true]
    refine ap_strs (xs := []) (ys := (cutA p).keys) (List.prefix_refl H2) (.inl ⟨rfl, rfl, rfl⟩) rfl zA1.symm (by omega) fun y1 H3 o3 x3 _ => ?_
    have hl := h.leaf
    cases l with
    | true =>
      rw [bite_f (by decide)]
      exact key4 y1 (0 + g1) H3 ([] ++ (cutA p).keys) x3.pre o3 (by omega) (by rw [hl]; rfl)
    | false =>
      rw [bite_t (by decide), chk_true]
      refine ap_strs (ys := [pcutK p]) x3.pre o3 rfl rfl (by omega) fun y2 H4 o4 x4 _ => ?_
      exact key4 y2 (0 + g1 + 1) H4 _ x4.pre o4 (by omega) (by rw [hl]; rfl)
  · have eA : spA p = noPg := if_neg hs
    have eB : spB p = noPg := if_neg hs
    have eK : spK p = mkS [] := if_neg hs
    have eE : spE p = 900 := if_neg hs
    rw [eA] at hA
    rw [eB] at hB
    rw [eE, eK, bite_t (by decide)]
    refine law0_SamePage_spec hA.at (noPg_at _) fun b hb => ?_
    simp only [rG_g, dB_bool]
    rw [bite_t (hb.2 rfl), bite_t (by rw [strEq_def]; exact decide_eq_true rfl)]
    refine law0_SamePage_spec hB.at (noPg_at _) fun b hb => ?_
    simp only [rG_g, dB_bool]
    rw [hb.2 rfl]
    exact hQ _
end
end Go.Am
