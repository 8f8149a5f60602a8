import Derived.Test.YtfgkfhjlcbccaaaS69
set_option linter.unusedVariables false
set_option linter.unusedSimpArgs false
namespace Go.Am

section
variable {H0 H : Hp} {u l : Bool} {a1 : Pl} {n1 : Nat} {a2 : Pl} {n2 : Nat} {a3 : Pl} {n3 : Nat} {p : Pg}

theorem PgOwn.setKey (h : PgOwn H H0.length u l a1 n1 a2 n2 a3 n3 p) (h0 : H0 <+: H) (k : Nat) {i : Int} (hi : i = k) (hk : k < n1) (s : ByteArray) {K : Hp → Prop}
    (hK : ∀ H', H0 <+: H' → PgOwn H' H0.length u l a1 n1 a2 n2 a3 n3 { p with keys := p.keys.set k s } → K H') : chk (leI 0 i && ltI i (nI n1)) (pS a1 fun n5 n6 => Am.wr H n5 (n6 + tN i * 1) (.str s) K) :=
  h.keys.wr h0 k hi hk fun H' o x => hK H' x.pre ⟨h.used, h.leaf, by rw [List.map_set]; exact o, h.vals.after h.d12 x, h.kids.after h.d13 x, h.d12, h.d13, h.d23, h.small⟩
theorem PgOwn.setVal (h : PgOwn H H0.length u l a1 n1 a2 n2 a3 n3 p) (h0 : H0 <+: H) (k : Nat) {i : Int} (hi : i = k) (hk : k < n2) (s : ByteArray) {K : Hp → Prop}
    (hK : ∀ H', H0 <+: H' → PgOwn H' H0.length u l a1 n1 a2 n2 a3 n3 { p with vals := p.vals.set k s } → K H') : chk (leI 0 i && ltI i (nI n2)) (pS a2 fun n5 n6 => Am.wr H n5 (n6 + tN i * 1) (.str s) K) :=
  h.vals.wr h0 k hi hk fun H' o x => hK H' x.pre ⟨h.used, h.leaf, h.keys.after h.d12.symm x, by rw [List.map_set]; exact o, h.kids.after h.d23 x, h.d12, h.d13, h.d23, h.small⟩
theorem PgOwn.setKid (h : PgOwn H H0.length u l a1 n1 a2 n2 a3 n3 p) (h0 : H0 <+: H) (k : Nat) {i : Int} (hi : i = k) (hk : k < n3) (s : Int) {K : Hp → Prop}
    (hK : ∀ H', H0 <+: H' → PgOwn H' H0.length u l a1 n1 a2 n2 a3 n3 { p with kids := p.kids.set k s } → K H') : chk (leI 0 i && ltI i (nI n3)) (pS a3 fun n5 n6 => Am.wr H n5 (n6 + tN i * 1) (.int .i64 s) K) :=
  h.kids.wr h0 k hi hk fun H' o x => hK H' x.pre ⟨h.used, h.leaf, h.keys.after h.d13.symm x, h.vals.after h.d23.symm x, by rw [List.map_set]; exact o, h.d12, h.d13, h.d23, h.small⟩
theorem PgOwn.addKeys (h : PgOwn H H0.length u l a1 n1 a2 n2 a3 n3 p) (h0 : H0 <+: H) (xs : List ByteArray) {cs : List GV} {m : Nat} (hc : cs = xs.map GV.str) (hm : m = xs.length) (hn : n1 + m ≤ 1000) {K : Pl → Nat → Hp → Prop}
    (hK : ∀ a' H', H0 <+: H' → PgOwn H' H0.length u l a' (n1 + m) a2 n2 a3 n3 { p with keys := p.keys ++ xs } → K a' (n1 + m) H') : ap H 9 1 16 a1 n1 cs m K := by
  subst hc; subst hm
  refine ap_own h0 h.keys (by simp) (by unfold Lim; omega) fun a' H' o x f => hK a' H' x.pre ?_
  have := h.small
  exact ⟨h.used, h.leaf, by rw [List.map_append]; exact o, h.vals.after h.d12 x, h.kids.after h.d13 x, Dj.fresh h.vals f, Dj.fresh h.kids f, h.d23, by omega⟩
theorem PgOwn.addVals (h : PgOwn H H0.length u l a1 n1 a2 n2 a3 n3 p) (h0 : H0 <+: H) (xs : List ByteArray) {cs : List GV} {m : Nat} (hc : cs = xs.map GV.str) (hm : m = xs.length) (hn : n2 + m ≤ 1000) {K : Pl → Nat → Hp → Prop}
    (hK : ∀ a' H', H0 <+: H' → PgOwn H' H0.length u l a1 n1 a' (n2 + m) a3 n3 { p with vals := p.vals ++ xs } → K a' (n2 + m) H') : ap H 9 1 16 a2 n2 cs m K := by
  subst hc; subst hm
  refine ap_own h0 h.vals (by simp) (by unfold Lim; omega) fun a' H' o x f => hK a' H' x.pre ?_
  have := h.small
  exact ⟨h.used, h.leaf, h.keys.after h.d12.symm x, by rw [List.map_append]; exact o, h.kids.after h.d23 x, (Dj.fresh h.keys f).symm, h.d13, Dj.fresh h.kids f, by omega⟩
theorem PgOwn.addKids (h : PgOwn H H0.length u l a1 n1 a2 n2 a3 n3 p) (h0 : H0 <+: H) (xs : List Int) {cs : List GV} {m : Nat} (hc : cs = xs.map (GV.int .i64)) (hm : m = xs.length) (hn : n3 + m ≤ 1000) {K : Pl → Nat → Hp → Prop}
    (hK : ∀ a' H', H0 <+: H' → PgOwn H' H0.length u l a1 n1 a2 n2 a' (n3 + m) { p with kids := p.kids ++ xs } → K a' (n3 + m) H') : ap H 3 1 8 a3 n3 cs m K := by
  subst hc; subst hm
  refine ap_own h0 h.kids (by simp) (by unfold Lim; omega) fun a' H' o x f => hK a' H' x.pre ?_
  have := h.small
  exact ⟨h.used, h.leaf, h.keys.after h.d13.symm x, h.vals.after h.d23.symm x, by rw [List.map_append]; exact o, h.d12, (Dj.fresh h.keys f).symm, (Dj.fresh h.vals f).symm, by omega⟩
end

theorem law0_CopyPage_own {H : Hp} {Q : Post} {u l : Bool} {a1 : Pl} {n1 : Nat} {a2 : Pl} {n2 : Nat} {a3 : Pl} {n3 : Nat} {p : Pg} (h : PgAt H u l a1 n1 a2 n2 a3 n3 p) (hs : n1 ≤ 1000 ∧ n2 ≤ 1000 ∧ n3 ≤ 1000)
    (hQ : ∀ a1 a2 a3 H', H <+: H' → PgOwn H' H.length u l a1 n1 a2 n2 a3 n3 p → Q (.agg [.bool u, .bool l, .sl a1 n1 1, .sl a2 n2 1, .sl a3 n3 1]) H') :
    law0_CopyPage [.agg [.bool u, .bool l, .sl a1 n1 1, .sl a2 n2 1, .sl a3 n3 1]] H Q := by
  obtain ⟨hu, hl, hk, hv, hi⟩ := h
  have e1 := hk.len
  have e2 := hv.len
  have e3 := hi.len
  refine ⟨1, ?_⟩
  rw [law0_CopyPage_eq, chk_true, Nat.mul_one, rdN_of hk.cells]
  refine ap0_of (by unfold Lim; omega) (by simp [e1]) ?_
  have p1 := pre_pu H (.row true 9 (p.keys.map GV.str))
  rw [chk_true, Nat.mul_one, rdN_of (hv.mono p1).cells]
  refine ap0_of (by unfold Lim; omega) (by simp [e2]) ?_
  have p2 := p1.trans (pre_pu (H ++ [.row true 9 (p.keys.map GV.str)]) (.row true 9 (p.vals.map GV.str)))
  rw [chk_true, Nat.mul_one, rdN_of (hi.mono p2).cells]
  refine ap0_of (by unfold Lim; omega) (by simp [e3]) ?_
  refine hQ _ _ _ _ (p2.trans (List.prefix_append _ _)) ⟨hu, hl, .inr ⟨_, rfl, by simp, ?_, by simp [e1]⟩, .inr ⟨_, rfl, by simp, ?_, by simp [e2]⟩, .inr ⟨_, rfl, by simp, ?_, by simp [e3]⟩, fun m q1 q2 => ?_, fun m q1 q2 => ?_, fun m q1 q2 => ?_, hs⟩
  · rw [List.append_assoc, List.append_assoc]; simp
  · rw [List.append_assoc]; simp
  · simp
  · simp at q1 q2; omega
  · simp at q1 q2; omega
  · simp at q1 q2; omega

def pgC : Pg := ⟨true, true, [mkS [97], mkS [98]], [mkS [], mkS []], []⟩
def pgD : Pg := ⟨true, false, [mkS [97], mkS [98]], [], [1, 2, 3]⟩
theorem risingAB : Rising [mkS [97], mkS [98]] := by
  intro i hi
  simp only [List.length_cons, List.length_nil] at hi
  obtain rfl : i = 0 := by omega
  rw [strLt_bs]
  rfl
theorem keysAB : ∀ k ∈ [mkS [97], mkS [98]], 1 ≤ k.size ∧ k.size ≤ 6 := by
  intro k hk
  simp only [List.mem_cons, List.not_mem_nil, or_false] at hk
  rcases hk with rfl | rfl <;> simp
theorem mayC : MayP pgC := by
  refine ⟨by simp [pgC], rfl, risingAB, keysAB, fun _ => ⟨rfl, rfl, ?_⟩, fun q => (by cases q)⟩
  intro k hk
  simp only [pgC, List.mem_cons, List.not_mem_nil, or_false] at hk
  rcases hk with rfl | rfl <;> simp
theorem mayD : MayP pgD := by
  refine ⟨by simp [pgD], rfl, risingAB, keysAB, fun q => (by cases q), fun _ => ⟨by simp [pgD], rfl, rfl, ?_, by simp [pgD]⟩⟩
  intro k hk
  simp only [pgD, List.mem_cons, List.not_mem_nil, or_false] at hk
  omega

theorem rep_u8s (n : Nat) : repN n [GV.int .u8 0] = u8s (List.replicate n 0) := by
  unfold repN u8s
  induction n with
  | zero => rfl
  | succ n ih => rw [List.replicate_succ, List.flatten_cons, ih, List.replicate_succ, List.map_cons]; rfl
/-- string(make([]byte, n)) -/
theorem zeros_of {H : Hp} {n : Nat} {i : Int} (hi : i = n) (hn : n ≤ 1000) {K : ByteArray → Prop} (hK : K (mkS (List.replicate n 0))) :
    chk (((eqI i i) && (leI 0 i)) && (leI (i * 1) (nI 140737488355328))) (rdN (pu H (.row true 5 (repN (tN i) [(.int .u8 0)]))) (some ((ln H), 0)) (tN i) fun c => txt c K) := by
  subst hi
  refine chk_of (by simp; omega) ?_
  simp only [tN_def, Int.toNat_natCast, pu_def, ln_def, rep_u8s]
  rw [rdN_of (cs := u8s (List.replicate n 0)) (by simp [cells?, u8s]), txt_u8s]
  exact hK
end Go.Am
