import Derived.Test.YtfgkfhjlcbccaaaS97
import Derived.Test.YtfgkfhjlcbccaaaF91
set_option linter.unusedVariables false
set_option linter.unusedSimpArgs false
namespace Go.Am
open Classical

section
variable {H : Hp} {Q : Post} {lo hi : Nat} {u l : Bool} {a1 : Pl} {n1 : Nat} {a2 : Pl} {n2 : Nat} {a3 : Pl} {n3 : Nat} {p : Pg}
theorem Mine.other {H H' : Hp} {lo hi : Nat} {t : TypeId} {a b : Pl} {n : Nat} {cs : List GV} (h : Mine H lo hi t b n cs) (hd : Dr b a) (hr : ∀ l, l < H.length → (∀ o, a ≠ some (l, o)) → H'[l]? = H[l]?) : Mine H' lo hi t b n cs :=
  h.keep fun l o e => hr l (h.lt e).1 fun o' e' => hd l o o' e e'
theorem Dr.symm {a b : Pl} (h : Dr a b) : Dr b a := fun l o o' e1 e2 => h l o' o e2 e1
theorem PgM.setKey (h : PgM H lo hi u l a1 n1 a2 n2 a3 n3 p) (k : Nat) {i : Int} (hi' : i = k) (hk : k < n1) (s : ByteArray) {K : Hp → Prop}
    (hK : ∀ H', Ch lo hi H H' → PgM H' lo hi u l a1 n1 a2 n2 a3 n3 { p with keys := p.keys.set k s } → K H') : chk (leI 0 i && ltI i (nI n1)) (pS a1 fun n5 n6 => Am.wr H n5 (n6 + tN i * 1) (.str s) K) :=
  h.keys.wr k hi' hk fun H' o x r => hK H' x ⟨h.used, h.leaf, by rw [List.map_set]; exact o, h.vals.other h.d12.symm r, h.kids.other h.d13.symm r, h.d12, h.d13, h.d23, h.small⟩
theorem law0_CopyPage_m (h : PgAt H u l a1 n1 a2 n2 a3 n3 p) (hs : n1 ≤ 1000 ∧ n2 ≤ 1000 ∧ n3 ≤ 1000)
    (hQ : ∀ a1 a2 a3 H', H <+: H' → PgM H' H.length H'.length u l a1 n1 a2 n2 a3 n3 p → Q (.agg [.bool u, .bool l, .sl a1 n1 1, .sl a2 n2 1, .sl a3 n3 1]) H') :
    law0_CopyPage [.agg [.bool u, .bool l, .sl a1 n1 1, .sl a2 n2 1, .sl a3 n3 1]] H Q := law0_CopyPage_own h hs fun a1 a2 a3 H' hp ho => hQ a1 a2 a3 H' hp ho.mine
end

def pg9F : Pg := ⟨true, true, [mkS [97], mkS [98], mkS [99], mkS [100], mkS [101]], [mkS [], mkS [], mkS [], mkS [], mkS []], []⟩
def pg9T : Pg := ⟨true, true, [mkS [120], mkS [121]], [mkS [], mkS []], []⟩
def pg9I : Pg := ⟨true, false, [mkS [112], mkS [113]], [], [1, 2, 3]⟩
def pg9J : Pg := ⟨true, false, [mkS [116], mkS [117]], [], [3, 4, 5]⟩
def pg9K : Pg := ⟨true, false, [mkS [116], mkS [117]], [], [4, 5, 6]⟩
def pg9L : Pg := ⟨true, true, [mkS [97], mkS [98], mkS [99]], [mkS [], mkS [], mkS []], []⟩
def rows9 : List Obj := [.row true 9 [(.str (mkS [97])), (.str (mkS [98])), (.str (mkS [99])), (.str (mkS [100])), (.str (mkS [101]))], .row true 9 [(.str (mkS [])), (.str (mkS [])), (.str (mkS [])), (.str (mkS [])), (.str (mkS []))],
  .row true 9 [(.str (mkS [120])), (.str (mkS [121]))], .row true 9 [(.str (mkS [])), (.str (mkS []))], .row true 9 [(.str (mkS [112])), (.str (mkS [113]))], .row true 3 [(.int .i64 1), (.int .i64 2), (.int .i64 3)]]
theorem pg9_at (H : Hp) : PgAt (H ++ rows9) true true (some (H.length, 0)) 5 (some (H.length + 1, 0)) 5 none 0 pg9F ∧ PgAt (H ++ rows9) true true (some (H.length + 2, 0)) 2 (some (H.length + 3, 0)) 2 none 0 pg9T ∧
    PgAt (H ++ rows9) true false (some (H.length + 4, 0)) 2 none 0 (some (H.length + 5, 0)) 3 pg9I := by
  refine ⟨⟨rfl, rfl, ⟨?_, rfl, by omega⟩, ⟨?_, rfl, by omega⟩, .nil _⟩, ⟨rfl, rfl, ⟨?_, rfl, by omega⟩, ⟨?_, rfl, by omega⟩, .nil _⟩, ⟨rfl, rfl, ⟨?_, rfl, by omega⟩, .nil _, ⟨?_, rfl, by omega⟩⟩⟩ <;> simp [cells?, pg9F, pg9T, pg9I, rows9]
theorem pg9J_at (H : Hp) : PgAt (H ++ [.row true 9 [(.str (mkS [116])), (.str (mkS [117]))], .row true 3 [(.int .i64 3), (.int .i64 4), (.int .i64 5)]]) true false (some (H.length, 0)) 2 none 0 (some (H.length + 1, 0)) 3 pg9J := by
  refine ⟨rfl, rfl, ⟨?_, rfl, by omega⟩, .nil _, ⟨?_, rfl, by omega⟩⟩ <;> simp [cells?, pg9J]
theorem pg9K_at (H : Hp) : PgAt (H ++ [.row true 9 [(.str (mkS [116])), (.str (mkS [117]))], .row true 3 [(.int .i64 4), (.int .i64 5), (.int .i64 6)]]) true false (some (H.length, 0)) 2 none 0 (some (H.length + 1, 0)) 3 pg9K := by
  refine ⟨rfl, rfl, ⟨?_, rfl, by omega⟩, .nil _, ⟨?_, rfl, by omega⟩⟩ <;> simp [cells?, pg9K]
theorem pg9L_at (H : Hp) : PgAt (H ++ [.row true 9 [(.str (mkS [97])), (.str (mkS [98])), (.str (mkS [99]))], .row true 9 [(.str (mkS [])), (.str (mkS [])), (.str (mkS []))]]) true true (some (H.length, 0)) 3 (some (H.length + 1, 0)) 3 none 0 pg9L := by
  refine ⟨rfl, rfl, ⟨?_, rfl, by omega⟩, ⟨?_, rfl, by omega⟩, .nil _⟩ <;> simp [cells?, pg9L]

section
variable {H : Hp} {Q : Post} {u l : Bool} {a1 : Pl} {n1 : Nat} {a2 : Pl} {n2 : Nat} {a3 : Pl} {n3 : Nat} {p : Pg} {u' l' : Bool} {b1 : Pl} {m1 : Nat} {b2 : Pl} {m2 : Nat} {b3 : Pl} {m3 : Nat} {q : Pg}
  {u'' l'' : Bool} {c1 : Pl} {k1 : Nat} {c2 : Pl} {k2 : Nat} {c3 : Pl} {k3 : Nat} {r : Pg} {ut lt : Bool} {t1 : Pl} {i1 : Nat} {t2 : Pl} {i2 : Nat} {t3 : Pl} {i3 : Nat} {key : ByteArray}
theorem law9_NodeForms_l38 (hT : PgAt H ut lt t1 i1 t2 i2 t3 i3 pg9T) (ha : PgAt H u l a1 n1 a2 n2 a3 n3 p) (hb : PgAt H u' l' b1 m1 b2 m2 b3 m3 q) (hc : PgAt H u'' l'' c1 k1 c2 k2 c3 k3 r)
    (h1 : canSplitB r = false) (h2 : canJoinB p key q = false) (hQ : ∀ H', Q (.g (.bool true)) H') (f : Nat) :
    law9_NodeForms.l38 (f + 1) ut lt t1 i1 t2 i2 t3 i3 u l a1 n1 a2 n2 a3 n3 u' l' b1 m1 b2 m2 b3 m3 key u'' l'' c1 k1 c2 k2 c3 k3 H Q := by
  rw [law9_NodeForms.l38_eq]
  refine node_Split_spec hc fun ua la d1 g1 d2 g2 d3 g3 ub lb e1 i1 e2 i2 e3 i3 lo md hi H2 p2 hlo hmd hhi hhl hA hB => ?_
  simp only [rT_tup, uR_cons, rC_a, uC_cons, dB_bool, dL_sl, uN_nil, rS_s, dS_str, dI_int, uE_nil]
  refine node_Join_spec (ha.mono p2) (hb.mono p2) fun u4 l4 f1 g1 f2 g2 f3 g3 H3 p3 _ => ?_
  simp only [rT_tup, uR_cons, rC_a, uC_cons, dB_bool, dL_sl, uN_nil, rS_s, dS_str, dI_int, uE_nil]
  rw [(sp_no h1).2.2.2, (jo_no h2).2]
  refine law0_Num_spec ?_
  simp only [rG_g, dI_int]
  rw [bite_t (by decide)]
  refine law0_Num_spec ?_
  simp only [rG_g, dI_int]
  rw [bite_t (by decide)]
  refine ref1_PageMay_spec (hT.mono (p2.trans p3)) fun b hb => ?_
  simp only [rG_g, dB_bool]
  rw [hb.2 ((mayB_iff pg9T).1 (by decide +kernel))]
  exact hQ _
end

section
variable {H : Hp} {Q : Post}
theorem PgM.chg {H H' : Hp} {lo hi lo' hi' : Nat} {u l : Bool} {a1 : Pl} {n1 : Nat} {a2 : Pl} {n2 : Nat} {a3 : Pl} {n3 : Nat} {p : Pg} (h : PgM H lo hi u l a1 n1 a2 n2 a3 n3 p) (hc : Ch lo' hi' H H') (hd : hi ≤ lo' ∨ hi' ≤ lo) : PgAt H' u l a1 n1 a2 n2 a3 n3 p := (h.away hc hd).at
set_option maxRecDepth 100000 in
theorem law9_NodeForms_spec {w : Int} (hQ : ∀ H', Q (.g (.bool true)) H') : law9_NodeForms [.g (.int .i64 w)] H Q := by
  refine ⟨2, ?_⟩
  rw [law9_NodeForms_eq]
  refine law9_awake_spec fun H1 p1 => ?_
  simp only [rG_g, dB_bool]
  rw [bite_f (by decide)]
  obtain ⟨hF, hT, hI⟩ := pg9_at H1
  simp only [pu_def, ln_def, List.append_assoc, List.cons_append, List.nil_append, List.length_append, List.length_cons, List.length_nil, Nat.zero_add, Nat.reduceAdd]
  rw [show [.row true 9 [(.str (mkS [97])), (.str (mkS [98])), (.str (mkS [99])), (.str (mkS [100])), (.str (mkS [101]))], .row true 9 [(.str (mkS [])), (.str (mkS [])), (.str (mkS [])), (.str (mkS [])), (.str (mkS []))],
  .row true 9 [(.str (mkS [120])), (.str (mkS [121]))], .row true 9 [(.str (mkS [])), (.str (mkS []))], .row true 9 [(.str (mkS [112])), (.str (mkS [113]))], .row true 3 [(.int .i64 1), (.int .i64 2), (.int .i64 3)]] = rows9 from rfl]
  generalize hH2 : H1 ++ rows9 = H2 at hF hT hI ⊢
  refine law0_CopyPage_m hT (by omega) fun x1 x2 x3 H3 p3 oA => ?_
  simp only [rA_agg, uC_cons, dB_bool, dL_sl, uN_nil]
  refine law0_CopyPage_m (hT.mono p3) (by omega) fun y1 y2 y3 H4 p4 oB => ?_
  simp only [rA_agg, uC_cons, dB_bool, dL_sl, uN_nil]
  refine law0_CopyPage_m (hF.mono (p3.trans p4)) (by omega) fun z1 z2 z3 H5 p5 oC => ?_
  simp only [rA_agg, uC_cons, dB_bool, dL_sl, uN_nil]
  have p25 := p3.trans (p4.trans p5)
  have oA5 := oA.mono (p4.trans p5)
  have oB5 := oB.mono p5
  have l23 := p3.length_le
  have l34 := p4.length_le
  have l45 := p5.length_le
  have hT5 := hT.mono p25
  have hI5 := hI.mono p25
  refine bite_of (fun _ => ?_) (fun _ => ?_)
  · rw [chk_true]
    refine oB5.setKey 0 rfl (by omega) _ fun H6 c6 oB6 => ?_
    have w6 : H2 <+: H6 := c6.pre p25 (by omega)
    have C6 := oC.chg c6 (.inr (Nat.le_refl _))
    exact law9_NodeForms_l38 (hT.mono w6) (oA5.chg c6 (.inl (Nat.le_refl _))) oB6.at (r := { pg9F with used := false }) ⟨rfl, C6.leaf, C6.keys, C6.vals, C6.kids⟩ (by decide +kernel) (by decide +kernel) hQ 0
  refine bite_of (fun _ => ?_) (fun _ => ?_)
  · refine law0_CopyPage_m hI5 (by omega) fun v1 v2 v3 H6 p6 oD => ?_
    simp only [rA_agg, uC_cons, dB_bool, dL_sl, uN_nil]
    rw [chk_true]
    refine chk_of (by simp) ?_
    have C6 := (oC.mono p6).at
    exact law9_NodeForms_l38 (hT5.mono p6) (oA5.mono p6).at oD.at (r := { pg9F with keys := [mkS [97], mkS [98], mkS [99], mkS [100]] }) ⟨C6.used, C6.leaf, C6.keys.part 0 4 (by omega), C6.vals, C6.kids⟩ (by decide +kernel) (by decide +kernel) hQ 0
  refine bite_of (fun _ => ?_) (fun _ => ?_)
  · rw [chk_true]
    refine chk_of (by simp) ?_
    have C5 := oC.at
    have A5 := oA5.at
    exact law9_NodeForms_l38 hT5 (p := { pg9T with used := false }) ⟨rfl, A5.leaf, A5.keys, A5.vals, A5.kids⟩ oB5.at (r := { pg9F with vals := [mkS [], mkS [], mkS [], mkS []] }) ⟨C5.used, C5.leaf, C5.keys, C5.vals.part 0 4 (by omega), C5.kids⟩ (by decide +kernel) (by decide +kernel) hQ 0
  refine bite_of (fun _ => ?_) (fun _ => ?_)
  · refine law0_CopyPage_m hI5 (by omega) fun v1 v2 v3 H6 p6 oD => ?_
    simp only [rA_agg, uC_cons, dB_bool, dL_sl, uN_nil]
    refine law0_CopyPage_m (hI5.mono p6) (by omega) fun w1 w2 w3 H7 p7 oE => ?_
    simp only [rA_agg, uC_cons, dB_bool, dL_sl, uN_nil]
    have l56 := p6.length_le
    have l67 := p7.length_le
    rw [chk_true]
    refine (oC.mono (p6.trans p7)).setKey 2 rfl (by omega) _ fun H8 c8 oC8 => ?_
    have w8 : H2 <+: H8 := c8.pre (p25.trans (p6.trans p7)) (by omega)
    exact law9_NodeForms_l38 (hT.mono w8) ((oD.mono p7).chg c8 (.inr (by omega))) (oE.chg c8 (.inr (by omega))) oC8.at (by decide +kernel) (by decide +kernel) hQ 0
  refine bite_of (fun _ => ?_) (fun _ => ?_)
  · refine law0_CopyPage_m hI5 (by omega) fun v1 v2 v3 H6 p6 oD => ?_
    simp only [rA_agg, uC_cons, dB_bool, dL_sl, uN_nil]
    have hJ := pg9J_at H6
    have q7 : H6 <+: _ := List.prefix_append H6 [.row true 9 [(.str (mkS [116])), (.str (mkS [117]))], .row true 3 [(.int .i64 3), (.int .i64 4), (.int .i64 5)]]
    refine law0_CopyPage_m ((hT5.mono p6).mono q7) (by omega) fun w1 w2 w3 H8 p8 oE => ?_
    simp only [rA_agg, uC_cons, dB_bool, dL_sl, uN_nil]
    exact law9_NodeForms_l38 ((hT5.mono p6).mono (q7.trans p8)) (oD.mono (q7.trans p8)).at (hJ.mono p8) oE.at (by decide +kernel) (by decide +kernel) hQ 0
  refine bite_of (fun _ => ?_) (fun _ => ?_)
  · refine law0_CopyPage_m hI5 (by omega) fun v1 v2 v3 H6 p6 oD => ?_
    simp only [rA_agg, uC_cons, dB_bool, dL_sl, uN_nil]
    have hJ := pg9K_at H6
    have q7 : H6 <+: _ := List.prefix_append H6 [.row true 9 [(.str (mkS [116])), (.str (mkS [117]))], .row true 3 [(.int .i64 4), (.int .i64 5), (.int .i64 6)]]
    refine law0_CopyPage_m ((hI5.mono p6).mono q7) (by omega) fun w1 w2 w3 H8 p8 oE => ?_
    simp only [rA_agg, uC_cons, dB_bool, dL_sl, uN_nil]
    exact law9_NodeForms_l38 ((hT5.mono p6).mono (q7.trans p8)) (oD.mono (q7.trans p8)).at (hJ.mono p8) oE.at (by decide +kernel) (by decide +kernel) hQ 0
  refine bite_of (fun _ => ?_) (fun _ => ?_)
  · have hJ := pg9L_at H5
    have q7 : H5 <+: _ := List.prefix_append H5 [.row true 9 [(.str (mkS [97])), (.str (mkS [98])), (.str (mkS [99]))], .row true 9 [(.str (mkS [])), (.str (mkS [])), (.str (mkS []))]]
    have C6 := (oC.mono q7).at
    exact law9_NodeForms_l38 (hT5.mono q7) hJ (oB5.mono q7).at (r := { pg9F with leaf := false }) ⟨C6.used, rfl, C6.keys, C6.vals, C6.kids⟩ (by decide +kernel) (by decide +kernel) hQ 0
  · rw [chk_true]
    refine oB5.setKey 1 rfl (by omega) _ fun H6 c6 oB6 => ?_
    rw [chk_true]
    refine (oC.away c6 (.inr (Nat.le_refl _))).setKey 4 rfl (by omega) _ fun H7 c7 oC7 => ?_
    have w7 : H2 <+: H7 := c7.pre (c6.pre p25 (by omega)) (by omega)
    have A6 := oA5.away c6 (.inl (Nat.le_refl _))
    exact law9_NodeForms_l38 (hT.mono w7) (A6.chg c7 (.inl (by omega))) (oB6.chg c7 (.inl (by omega))) oC7.at (by decide +kernel) (by decide +kernel) hQ 0
end
end Go.Am
