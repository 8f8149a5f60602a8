import Derived.Test.YtiemhjehieipdaaGreatM5
set_option linter.unusedVariables false
set_option linter.unusedSimpArgs false
namespace Go.Am

theorem TxR.of_own {H : Hp} {b : Nat} {a : Pl} {n : Nat} {xs : List ByteArray} {M : Nat} (h : Own H b tS a n (xs.map GV.str)) (hs : ∀ s ∈ xs, s.size ≤ M) : TxR H b M a n := by
  rcases h with ⟨_, q, _⟩ | ⟨l, e, hb, hr, hl⟩
  · exact .inl q
  · exact .inr ⟨l, 0, _, e, hb, hr, by simp at hl; omega, hs⟩
theorem NuR.of_own {H : Hp} {b : Nat} {a : Pl} {n : Nat} {xs : List Int} (h : Own H b tI a n (xs.map (GV.int .i64))) : NuR H b a n := by
  rcases h with ⟨_, q, _⟩ | ⟨l, e, hb, hr, hl⟩
  · exact .inl q
  · exact .inr ⟨l, 0, _, e, hb, hr, by simp at hl; omega⟩
theorem TxR.part {H : Hp} {b : Nat} {a : Pl} {n M : Nat} (h : TxR H b M a n) (k m : Nat) (hm : k + m ≤ n) : TxR H b M (shf a k) m := by
  rcases h with q | ⟨l, o, xs, e, hb, hr, hl, hs⟩
  · exact .inl (by omega)
  · exact .inr ⟨l, o + k, xs, by rw [e]; rfl, hb, hr, by omega, hs⟩
theorem NuR.part {H : Hp} {b : Nat} {a : Pl} {n : Nat} (h : NuR H b a n) (k m : Nat) (hm : k + m ≤ n) : NuR H b (shf a k) m := by
  rcases h with q | ⟨l, o, xs, e, hb, hr, hl⟩
  · exact .inl (by omega)
  · exact .inr ⟨l, o + k, xs, by rw [e]; rfl, hb, hr, by omega⟩
theorem TxR.base {H : Hp} {b b' : Nat} {a : Pl} {n M : Nat} (h : TxR H b M a n) (hb' : b' ≤ b) : TxR H b' M a n := by
  rcases h with q | ⟨l, o, xs, e, hb, hr, hl, hs⟩
  · exact .inl q
  · exact .inr ⟨l, o, xs, e, by omega, hr, hl, hs⟩
theorem NuR.base {H : Hp} {b b' : Nat} {a : Pl} {n : Nat} (h : NuR H b a n) (hb' : b' ≤ b) : NuR H b' a n := by
  rcases h with q | ⟨l, o, xs, e, hb, hr, hl⟩
  · exact .inl q
  · exact .inr ⟨l, o, xs, e, by omega, hr, hl⟩
theorem WoP.base {H : Hp} {b b' M : Nat} {c : PC} (h : WoP H b M c) (hb : b' ≤ b) : WoP H b' M c := ⟨h.t1.base hb, h.t2.base hb, h.t3.base hb, h.s1, h.s2, h.s3⟩
/-- small pages -/
def small (p : Pg) : Prop := (∀ s ∈ p.keys, s.size ≤ 1000) ∧ (∀ s ∈ p.vals, s.size ≤ 1000) ∧ p.keys.length ≤ 1000 ∧ p.vals.length ≤ 1000 ∧ p.kids.length ≤ 1000
theorem small_may {p : Pg} (h : MayP p) : small p := by
  have hk := kids_le h
  have h1 := h.1
  refine ⟨fun s hs => by have := (h.2.keys s hs).2; omega, fun s hs => ?_, by omega, ?_, by omega⟩
  · cases hl : p.leaf with
    | true => have := (h.2.leaf hl).2.2 s hs; omega
    | false => rw [(h.2.inner hl).2.1] at hs; cases hs
  · cases hl : p.leaf with
    | true => have := (h.2.leaf hl).1; omega
    | false => rw [(h.2.inner hl).2.1]; simp
theorem small_no : small noPg := by simp [small, noPg]
theorem small_sound {T : List Pg} (h : 0 < heightD T) : ∀ p ∈ T, small p := fun p hp => by
  rcases sound_pages h p hp with q | rfl
  · exact small_may ((mayB_iff p).1 q)
  · exact small_no
theorem PC.own.wo {H : Hp} {b : Nat} {c : PC} {p : Pg} (h : c.own H b p) (hat : c.at H p) (hs : small p) : WoP H b 1000 c := by
  obtain ⟨s1, s2, s3, s4, s5⟩ := hs
  have e1 := hat.keys.len
  have e2 := hat.vals.len
  have e3 := hat.kids.len
  exact ⟨.of_own h.keys s1, .of_own h.vals s2, .of_own h.kids, by omega, by omega, by omega⟩

/-! cut -/
def cutL (p : Pg) (k : Nat) : Pg := match p.leaf with
  | true => ⟨p.used, true, p.keys.take k, p.vals.take k, p.kids⟩
  | false => ⟨p.used, false, p.keys.take k, p.vals, p.kids.take (k + 1)⟩
def cutR (p : Pg) (k : Nat) : Pg := match p.leaf with
  | true => ⟨p.used, true, p.keys.drop k, p.vals.drop k, p.kids⟩
  | false => ⟨p.used, false, p.keys.drop (k + 1), p.vals, p.kids.drop (k + 1)⟩
theorem on_shf {a : Pl} {k l o : Nat} (h : shf a k = some (l, o)) : ∃ o', a = some (l, o') := by
  cases a with
  | none => cases h
  | some q => obtain ⟨m, o'⟩ := q; simp [shf] at h; exact ⟨o', by rw [h.1]⟩
theorem Ss.nth {H : Hp} {a : Pl} {n : Nat} {xs : List ByteArray} (h : Ss H a n xs) {k : Nat} (hk : k < xs.length) : ∃ l o, a = some (l, o) ∧ gt H l (o + k) = some (.str xs[k]) := by
  have hc := h.cells
  have hl := h.len
  cases a with
  | none => simp [cells?] at hc; omega
  | some q =>
    obtain ⟨l, o⟩ := q
    exact ⟨l, o, rfl, by rw [cells_get hc (by omega)]; simp [hk]⟩
theorem Is.part' {H : Hp} {a : Pl} {n : Nat} {xs : List Int} (h : Is H a n xs) (k m : Nat) (hm : k + m ≤ n) : Is H (shf a k) m ((xs.drop k).take m) := by
  have hl := h.len
  have hlim := h.lim
  exact ⟨by have := cells_part h.cells k m hm; simpa [List.map_drop, List.map_take] using this, by simp; omega, by omega⟩

section
variable {H : Hp} {Q : Post} {u l : Bool} {a1 : Pl} {n1 : Nat} {a2 : Pl} {n2 : Nat} {a3 : Pl} {n3 : Nat} {p : Pg}
set_option maxRecDepth 10000 in
theorem node_Cut_at (h : PgAt H u l a1 n1 a2 n2 a3 n3 p) (hs : small p) {k : Nat} (hk : k < p.keys.length) (hL : p.leaf = true → p.vals.length = p.keys.length) (hI : p.leaf = false → p.kids.length = p.keys.length + 1)
    (hQ : ∀ (c d : PC) H', H <+: H' → c.at H' (cutL p k) → d.at H' (cutR p k) → WoP H' H.length 1000 c → WoP H' H.length 1000 d → (∀ m, c.on m → H.length ≤ m ∧ ¬ d.on m) → (∀ m, d.on m → H.length ≤ m) →
      Q (.tup [.a [.bool c.u, .bool c.l, .sl c.a1 c.n1 1, .sl c.a2 c.n2 1, .sl c.a3 c.n3 1], .s (.str p.keys[k]), .a [.bool d.u, .bool d.l, .sl d.a1 d.n1 1, .sl d.a2 d.n2 1, .sl d.a3 d.n3 1]]) H') :
    node_Cut [.agg [.bool u, .bool l, .sl a1 n1 1, .sl a2 n2 1, .sl a3 n3 1], .g (.int .i64 (k : Int))] H Q := by
  have e1 := h.keys.len
  have e2 := h.vals.len
  have e3 := h.kids.len
  have hu := h.used
  have hl := h.leaf
  have hs' := hs
  obtain ⟨s1, s2, s3, s4, s5⟩ := hs'
  have etN : tN (k : Int) = k := rfl
  refine ⟨1, ?_⟩
  rw [node_Cut_eq]
  obtain ⟨m, o, rfl, hg⟩ := h.keys.nth hk
  rw [chk_true]
  refine chk_of (by simp; omega) ?_
  rw [pS_some, etN, Nat.mul_one, rd_of hg, dS_str]
  refine page_Copy_spec h (by omega) fun x1 x2 x3 H1 p1 o1 => ?_
  simp only [rA_agg, uC_cons, dB_bool, dL_sl, uN_nil]
  rw [rd_of (gt_pre p1 hg), dS_str]
  refine ⟨rfl, ?_⟩
  refine page_Copy_spec (h.mono p1) (by omega) fun y1 y2 y3 H2 p2 o2 => ?_
  simp only [rA_agg, uC_cons, dB_bool, dL_sl, uN_nil]
  rw [rd_of (gt_pre (p1.trans p2) hg), dS_str]
  refine ⟨rfl, ?_⟩
  rw [chk_true]
  refine chk_of (by simp) (chk_of (by simp; omega) ?_)
  have A := (o1.mono p2).at
  have B := o2.at
  have wA : WoP H2 H.length 1000 ⟨u, l, x1, n1, x2, n2, x3, n3⟩ := (o1.mono p2).pc.wo A hs
  have wB : WoP H2 H.length 1000 ⟨u, l, y1, n1, y2, n2, y3, n3⟩ := (o2.pc.wo B hs).base p1.length_le
  have onA : ∀ m, (⟨u, l, x1, n1, x2, n2, x3, n3⟩ : PC).on m → H.length ≤ m ∧ m < H1.length := fun m hm => ⟨o1.fresh m hm, PC.at.lt (c := ⟨u, l, x1, n1, x2, n2, x3, n3⟩) o1.at hm⟩
  have onB : ∀ m, (⟨u, l, y1, n1, y2, n2, y3, n3⟩ : PC).on m → H1.length ≤ m := o2.fresh
  have hp1 := p1.length_le
  cases l with
  | true =>
    have hv := hL hl
    rw [bite_true, chk_true]
    refine chk_of (by simp) (chk_of (by simp; omega) ?_)
    rw [chk_true]
    refine chk_of (by simp) (chk_of (by simp; omega) ?_)
    rw [chk_true]
    refine chk_of (by simp) (chk_of (by simp; omega) ?_)
    have eA : cutL p k = ⟨p.used, true, p.keys.take k, p.vals.take k, p.kids⟩ := by unfold cutL; rw [hl]
    have eB : cutR p k = ⟨p.used, true, p.keys.drop k, p.vals.drop k, p.kids⟩ := by unfold cutR; rw [hl]
    rw [Nat.sub_zero]
    refine hQ ⟨u, true, shf x1 0, k, shf x2 0, k, x3, n3⟩ ⟨u, true, shf y1 k, n1 - k, shf y2 k, n2 - k, y3, n3⟩ H2 (p1.trans p2) ?_ ?_ ?_ ?_ ?_ ?_
    · rw [eA]
      have q1 := A.keys.part 0 k (by omega)
      have q2 := A.vals.part 0 k (by omega)
      rw [List.drop_zero] at q1 q2
      exact ⟨hu, rfl, q1, q2, A.kids⟩
    · rw [eB]
      have q1 := B.keys.part k (n1 - k) (by omega)
      have q2 := B.vals.part k (n2 - k) (by omega)
      rw [List.take_of_length_le (by simp; omega)] at q1 q2
      exact ⟨hu, rfl, q1, q2, B.kids⟩
    · exact ⟨wA.t1.part 0 k (by show 0 + k ≤ n1; omega), wA.t2.part 0 k (by show 0 + k ≤ n2; omega), wA.t3, by show k ≤ 1000; omega, by show k ≤ 1000; omega, wA.s3⟩
    · exact ⟨wB.t1.part k _ (by show k + (n1 - k) ≤ n1; omega), wB.t2.part k _ (by show k + (n2 - k) ≤ n2; omega), wB.t3, by show n1 - k ≤ 1000; omega, by show n2 - k ≤ 1000; omega, wB.s3⟩
    · intro m' hm'
      obtain ⟨o', q⟩ := hm'
      have hA : (⟨u, true, x1, n1, x2, n2, x3, n3⟩ : PC).on m' := by
        rcases q with q | q | q
        · obtain ⟨o'', q⟩ := on_shf q; exact ⟨o'', .inl q⟩
        · obtain ⟨o'', q⟩ := on_shf q; exact ⟨o'', .inr (.inl q)⟩
        · exact ⟨o', .inr (.inr q)⟩
      have := onA m' hA
      refine ⟨this.1, fun hd => ?_⟩
      obtain ⟨o', q⟩ := hd
      have hB : (⟨u, true, y1, n1, y2, n2, y3, n3⟩ : PC).on m' := by
        rcases q with q | q | q
        · obtain ⟨o'', q⟩ := on_shf q; exact ⟨o'', .inl q⟩
        · obtain ⟨o'', q⟩ := on_shf q; exact ⟨o'', .inr (.inl q)⟩
        · exact ⟨o', .inr (.inr q)⟩
      have := onB m' hB
      omega
    · intro m' hm'
      obtain ⟨o', q⟩ := hm'
      have hB : (⟨u, true, y1, n1, y2, n2, y3, n3⟩ : PC).on m' := by
        rcases q with q | q | q
        · obtain ⟨o'', q⟩ := on_shf q; exact ⟨o'', .inl q⟩
        · obtain ⟨o'', q⟩ := on_shf q; exact ⟨o'', .inr (.inl q)⟩
        · exact ⟨o', .inr (.inr q)⟩
      have := onB m' hB
      omega
  | false =>
    have hv := hI hl
    rw [bite_false, wrap_succ (by omega)]
    have etN1 : tN ((k + 1 : Nat) : Int) = k + 1 := rfl
    rw [chk_true]
    refine chk_of (by simp; omega) (chk_of (by simp; omega) ?_)
    rw [chk_true]
    refine chk_of (by simp; omega) (chk_of (by simp; omega) ?_)
    rw [chk_true]
    refine chk_of (by simp; omega) (chk_of (by simp; omega) ?_)
    have eA : cutL p k = ⟨p.used, false, p.keys.take k, p.vals, p.kids.take (k + 1)⟩ := by unfold cutL; rw [hl]
    have eB : cutR p k = ⟨p.used, false, p.keys.drop (k + 1), p.vals, p.kids.drop (k + 1)⟩ := by unfold cutR; rw [hl]
    rw [etN1, Nat.mul_one, Nat.sub_zero, Nat.sub_zero]
    refine hQ ⟨u, false, shf x1 0, k, x2, n2, shf x3 0, k + 1⟩ ⟨u, false, shf y1 (k + 1), n1 - (k + 1), y2, n2, shf y3 (k + 1), n3 - (k + 1)⟩ H2 (p1.trans p2) ?_ ?_ ?_ ?_ ?_ ?_
    · rw [eA]
      have q1 := A.keys.part 0 k (by omega)
      have q2 := A.kids.part' 0 (k + 1) (by omega)
      rw [List.drop_zero] at q1 q2
      exact ⟨hu, rfl, q1, A.vals, q2⟩
    · rw [eB]
      have q1 := B.keys.part (k + 1) (n1 - (k + 1)) (by omega)
      have q2 := B.kids.part' (k + 1) (n3 - (k + 1)) (by omega)
      rw [List.take_of_length_le (by simp; omega)] at q1 q2
      exact ⟨hu, rfl, q1, B.vals, q2⟩
    · exact ⟨wA.t1.part 0 k (by show 0 + k ≤ n1; omega), wA.t2, wA.t3.part 0 (k + 1) (by show 0 + (k + 1) ≤ n3; omega), by show k ≤ 1000; omega, wA.s2, by show k + 1 ≤ 1000; omega⟩
    · exact ⟨wB.t1.part (k + 1) _ (by show k + 1 + (n1 - (k + 1)) ≤ n1; omega), wB.t2, wB.t3.part (k + 1) _ (by show k + 1 + (n3 - (k + 1)) ≤ n3; omega), by show n1 - (k + 1) ≤ 1000; omega, wB.s2, by show n3 - (k + 1) ≤ 1000; omega⟩
    · intro m' hm'
      obtain ⟨o', q⟩ := hm'
      have hA : (⟨u, false, x1, n1, x2, n2, x3, n3⟩ : PC).on m' := by
        rcases q with q | q | q
        · obtain ⟨o'', q⟩ := on_shf q; exact ⟨o'', .inl q⟩
        · exact ⟨o', .inr (.inl q)⟩
        · obtain ⟨o'', q⟩ := on_shf q; exact ⟨o'', .inr (.inr q)⟩
      have := onA m' hA
      refine ⟨this.1, fun hd => ?_⟩
      obtain ⟨o', q⟩ := hd
      have hB : (⟨u, false, y1, n1, y2, n2, y3, n3⟩ : PC).on m' := by
        rcases q with q | q | q
        · obtain ⟨o'', q⟩ := on_shf q; exact ⟨o'', .inl q⟩
        · exact ⟨o', .inr (.inl q)⟩
        · obtain ⟨o'', q⟩ := on_shf q; exact ⟨o'', .inr (.inr q)⟩
      have := onB m' hB
      omega
    · intro m' hm'
      obtain ⟨o', q⟩ := hm'
      have hB : (⟨u, false, y1, n1, y2, n2, y3, n3⟩ : PC).on m' := by
        rcases q with q | q | q
        · obtain ⟨o'', q⟩ := on_shf q; exact ⟨o'', .inl q⟩
        · exact ⟨o', .inr (.inl q)⟩
        · obtain ⟨o'', q⟩ := on_shf q; exact ⟨o'', .inr (.inr q)⟩
      have := onB m' hB
      omega

/-! delete -/
theorem delete_str {xs : List ByteArray} {l n i : Nat} (hr : SRow H l xs) (hn : xs.length = n) (hi : i < n) (hl : n ≤ 1000000) (hQ : Q (.g (.sl (some (l, 0)) (n - 1) 1)) (H.set l (.row true tS ((xs.eraseIdx i ++ [mkS []]).map GV.str)))) :
    slices_Delete__string_string [.g (.sl (some (l, 0)) n 1), .g (.int .i64 (i : Int)), .g (.int .i64 ((i + 1 : Nat) : Int))] H Q := by
  have hlt := (List.getElem?_eq_some_iff.1 hr).1
  refine ⟨1, ?_⟩
  rw [slices_Delete__string_string_eq]
  have e0 : tN (i : Int) = i := rfl
  have e1 : tN ((i + 1 : Nat) : Int) = i + 1 := rfl
  have e2 : tN (nI n) = n := rfl
  rw [chk_true]
  refine chk_of (by simp) (chk_of (by simp; omega) (chk_of (by simp) (chk_of ?_ ?_)))
  · rw [e0, e1, e2]
    simp [ends, hr, hn]
    omega
  rw [bite_f (by simp; omega), chk_true]
  refine chk_of (by simp) (chk_of (by simp; omega) ?_)
  rw [chk_true]
  refine chk_of (by simp; omega) (chk_of (by simp; omega) ?_)
  rw [chk_true, e0, e1]
  have hc : cells? H (shf (some (l, 0)) ((i + 1) * 1)) ((n - (i + 1)) * 1) = some ((xs.drop (i + 1)).map GV.str) := by
    have h0 : cells? H (some (l, 0)) n = some (xs.map GV.str) := by simp [cells?, hr, hn]; exact List.take_of_length_le (by simp [hn])
    have := cells_part h0 (i + 1) (n - (i + 1)) (by omega)
    rw [Nat.mul_one, Nat.mul_one, this, List.take_of_length_le (by simp; omega), List.map_drop]
  rw [rdN_of hc, chk_true]
  have hap : app? H tS 1 16 (shf (some (l, 0)) 0) (i - 0) ((xs.drop (i + 1)).map GV.str) (n - (i + 1)) = some (some (l, 0), n - 1, H.set l (.row true tS ((xs.eraseIdx i ++ [xs[n - 1]'(by omega)]).map GV.str))) := by
    unfold app?
    rw [if_pos ⟨by unfold Lim; omega, by simp; omega⟩]
    simp only [shf, hr, Nat.add_zero, Nat.sub_zero, Nat.mul_one]
    rw [if_neg (by simp; omega), if_pos (by simp; omega)]
    have ex : List.take (0 + i) (xs.map GV.str) ++ (xs.drop (i + 1)).map GV.str ++ List.drop (0 + (i + (n - (i + 1)))) (xs.map GV.str) = (xs.eraseIdx i ++ [xs[n - 1]'(by omega)]).map GV.str := by
      rw [← List.map_take, ← List.map_drop, ← List.map_append, ← List.map_append, Nat.zero_add, Nat.zero_add, show i + (n - (i + 1)) = n - 1 by omega, List.eraseIdx_eq_take_drop_succ]
      congr 2
      rw [List.drop_eq_getElem_cons (by omega), List.drop_of_length_le (by omega)]
    rw [ex, show i + (n - (i + 1)) = n - 1 by omega]
  unfold ap
  rw [hap]
  simp only
  have e3 : tN (nI (n - 1)) = n - 1 := rfl
  have hlen : (xs.eraseIdx i).length = n - 1 := by rw [List.length_eraseIdx]; rw [if_pos (by omega)]; omega
  have hrow : (H.set l (.row true tS ((xs.eraseIdx i ++ [xs[n - 1]'(by omega)]).map GV.str)))[l]? = some (.row true tS ((xs.eraseIdx i ++ [xs[n - 1]'(by omega)]).map GV.str)) := List.getElem?_set_self hlt
  rw [chk_true]
  refine chk_of (by simp) (chk_of (by simp) (chk_of ?_ ?_))
  · rw [e2, e3]
    simp [room, hlt, hlen]
    omega
  rw [chk_true, e2, e3, show n - (n - 1) = 1 by omega]
  show clr _ (some (l, 0 + (n - 1) * 1)) 1 [.str (mkS [])] _
  unfold clr
  simp only [hrow]
  refine ⟨by simp [hlen], ?_⟩
  rw [List.set_set]
  have ex : List.take (0 + (n - 1) * 1) ((xs.eraseIdx i ++ [xs[n - 1]'(by omega)]).map GV.str) ++ (List.replicate (0 + 1) [GV.str (mkS [])]).flatten ++ List.drop (0 + (n - 1) * 1 + (0 + 1) * [GV.str (mkS [])].length) ((xs.eraseIdx i ++ [xs[n - 1]'(by omega)]).map GV.str) = (xs.eraseIdx i ++ [mkS []]).map GV.str := by
    rw [List.drop_of_length_le (by simp [hlen]), List.append_nil, Nat.zero_add, Nat.mul_one, List.map_append, List.take_left' (by simp [hlen])]
    simp
  rw [ex]
  exact hQ
theorem delete_int {xs : List Int} {l n i : Nat} (hr : IRow H l xs) (hn : xs.length = n) (hi : i < n) (hl : n ≤ 1000000) (hQ : Q (.g (.sl (some (l, 0)) (n - 1) 1)) (H.set l (.row true tI ((xs.eraseIdx i ++ [0]).map (GV.int .i64))))) :
    slices_Delete__int_int [.g (.sl (some (l, 0)) n 1), .g (.int .i64 (i : Int)), .g (.int .i64 ((i + 1 : Nat) : Int))] H Q := by
  have hlt := (List.getElem?_eq_some_iff.1 hr).1
  refine ⟨1, ?_⟩
  rw [slices_Delete__int_int_eq]
  have e0 : tN (i : Int) = i := rfl
  have e1 : tN ((i + 1 : Nat) : Int) = i + 1 := rfl
  have e2 : tN (nI n) = n := rfl
  rw [chk_true]
  refine chk_of (by simp) (chk_of (by simp; omega) (chk_of (by simp) (chk_of ?_ ?_)))
  · rw [e0, e1, e2]
    simp [ends, hr, hn]
    omega
  rw [bite_f (by simp; omega), chk_true]
  refine chk_of (by simp) (chk_of (by simp; omega) ?_)
  rw [chk_true]
  refine chk_of (by simp; omega) (chk_of (by simp; omega) ?_)
  rw [chk_true, e0, e1]
  have hc : cells? H (shf (some (l, 0)) ((i + 1) * 1)) ((n - (i + 1)) * 1) = some ((xs.drop (i + 1)).map (GV.int .i64)) := by
    have h0 : cells? H (some (l, 0)) n = some (xs.map (GV.int .i64)) := by simp [cells?, hr, hn]; exact List.take_of_length_le (by simp [hn])
    have := cells_part h0 (i + 1) (n - (i + 1)) (by omega)
    rw [Nat.mul_one, Nat.mul_one, this, List.take_of_length_le (by simp; omega), List.map_drop]
  rw [rdN_of hc, chk_true]
  have hap : app? H tI 1 8 (shf (some (l, 0)) 0) (i - 0) ((xs.drop (i + 1)).map (GV.int .i64)) (n - (i + 1)) = some (some (l, 0), n - 1, H.set l (.row true tI ((xs.eraseIdx i ++ [xs[n - 1]'(by omega)]).map (GV.int .i64)))) := by
    unfold app?
    rw [if_pos ⟨by unfold Lim; omega, by simp; omega⟩]
    simp only [shf, hr, Nat.add_zero, Nat.sub_zero, Nat.mul_one]
    rw [if_neg (by simp; omega), if_pos (by simp; omega)]
    have ex : List.take (0 + i) (xs.map (GV.int .i64)) ++ (xs.drop (i + 1)).map (GV.int .i64) ++ List.drop (0 + (i + (n - (i + 1)))) (xs.map (GV.int .i64)) = (xs.eraseIdx i ++ [xs[n - 1]'(by omega)]).map (GV.int .i64) := by
      rw [← List.map_take, ← List.map_drop, ← List.map_append, ← List.map_append, Nat.zero_add, Nat.zero_add, show i + (n - (i + 1)) = n - 1 by omega, List.eraseIdx_eq_take_drop_succ]
      congr 2
      rw [List.drop_eq_getElem_cons (by omega), List.drop_of_length_le (by omega)]
    rw [ex, show i + (n - (i + 1)) = n - 1 by omega]
  unfold ap
  rw [hap]
  simp only
  have e3 : tN (nI (n - 1)) = n - 1 := rfl
  have hlen : (xs.eraseIdx i).length = n - 1 := by rw [List.length_eraseIdx]; rw [if_pos (by omega)]; omega
  have hrow : (H.set l (.row true tI ((xs.eraseIdx i ++ [xs[n - 1]'(by omega)]).map (GV.int .i64))))[l]? = some (.row true tI ((xs.eraseIdx i ++ [xs[n - 1]'(by omega)]).map (GV.int .i64))) := List.getElem?_set_self hlt
  rw [chk_true]
  refine chk_of (by simp) (chk_of (by simp) (chk_of ?_ ?_))
  · rw [e2, e3]
    simp [room, hlt, hlen]
    omega
  rw [chk_true, e2, e3, show n - (n - 1) = 1 by omega]
  show clr _ (some (l, 0 + (n - 1) * 1)) 1 [.int .i64 0] _
  unfold clr
  simp only [hrow]
  refine ⟨by simp [hlen], ?_⟩
  rw [List.set_set]
  have ex : List.take (0 + (n - 1) * 1) ((xs.eraseIdx i ++ [xs[n - 1]'(by omega)]).map (GV.int .i64)) ++ (List.replicate (0 + 1) [GV.int .i64 0]).flatten ++ List.drop (0 + (n - 1) * 1 + (0 + 1) * [GV.int .i64 0].length) ((xs.eraseIdx i ++ [xs[n - 1]'(by omega)]).map (GV.int .i64)) = (xs.eraseIdx i ++ [0]).map (GV.int .i64) := by
    rw [List.drop_of_length_le (by simp [hlen]), List.append_nil, Nat.zero_add, Nat.mul_one, List.map_append, List.take_left' (by simp [hlen])]
    simp
  rw [ex]
  exact hQ
end
end Go.Am
namespace Go.Am

/-! kids, taken apart -/
section
variable {R R' : Nat → List Nat → KV → Prop}
/-- kids ahead of a place, each with the key behind it -/
def PreR (R : Nat → List Nat → KV → Prop) : List Int → List ByteArray → List Nat → KV → Prop
  | [], [], P, ps => P = [] ∧ ps = []
  | k :: ks, s :: ss, P, ps => ∃ P1 ps1 P2 ps2, R k.toNat P1 ps1 ∧ PreR R ks ss P2 ps2 ∧ P = P1 ++ P2 ∧ ps = ps1 ++ ps2 ∧ (∀ x ∈ ps1, blt x.1 s = true) ∧ (∀ y ∈ ps2, blt y.1 s = false)
  | [], _ :: _, _, _ => False
  | _ :: _, [], _, _ => False
/-- kids behind a place, each with the key ahead of it -/
def SufR (R : Nat → List Nat → KV → Prop) (kc : List Int) (sc : List ByteArray) (P : List Nat) (ps : KV) : Prop := match sc with
  | [] => kc = [] ∧ P = [] ∧ ps = []
  | s :: sc => KidsR R kc sc P ps ∧ ∀ y ∈ ps, blt y.1 s = false
theorem KidsR.split {rest : List Int} {ss : List ByteArray} : ∀ {ka : List Int} {sa : List ByteArray} {P : List Nat} {ps : KV}, ka.length = sa.length → rest ≠ [] → KidsR R (ka ++ rest) (sa ++ ss) P ps →
    ∃ PA psA P2 ps2, PreR R ka sa PA psA ∧ KidsR R rest ss P2 ps2 ∧ P = PA ++ P2 ∧ ps = psA ++ ps2 ∧ ∀ s ∈ sa, ∀ y ∈ ps2, blt y.1 s = false
  | [], [], P, ps, _, _, h => ⟨[], [], P, ps, ⟨rfl, rfl⟩, h, rfl, rfl, fun s hs => by cases hs⟩
  | k :: ka, s :: sa, P, ps, hl, hr, h => by
    obtain ⟨P1, ps1, P2, ps2, h1, h2, e1, e2, h3, h4⟩ := h
    obtain ⟨PA, psA, P3, ps3, q1, q2, q3, q4, q5⟩ := KidsR.split (ka := ka) (sa := sa) (by simpa using hl) hr h2
    subst e1; subst e2; subst q3; subst q4
    refine ⟨P1 ++ PA, ps1 ++ psA, P3, ps3, ⟨P1, ps1, PA, psA, h1, q1, rfl, rfl, h3, fun y hy => h4 y (by simp [hy])⟩, q2, by simp, by simp, fun t ht y hy => ?_⟩
    rcases List.mem_cons.1 ht with e | e
    · rw [e]; exact h4 y (by simp [hy])
    · exact q5 t e y hy
theorem PreR.glue {rest : List Int} {ss : List ByteArray} {P2 : List Nat} {ps2 : KV} : ∀ {ka : List Int} {sa : List ByteArray} {PA : List Nat} {psA : KV}, PreR R ka sa PA psA → KidsR R rest ss P2 ps2 → (∀ s ∈ sa, ∀ y ∈ ps2, blt y.1 s = false) →
    KidsR R (ka ++ rest) (sa ++ ss) (PA ++ P2) (psA ++ ps2)
  | [], [], _, _, h, h2, _ => by rw [h.1, h.2]; exact h2
  | k :: ka, s :: sa, PA, psA, h, h2, h3 => by
    obtain ⟨P1, ps1, P3, ps3, q1, q2, e1, e2, q3, q4⟩ := h
    subst e1; subst e2
    refine ⟨P1, ps1, P3 ++ P2, ps3 ++ ps2, q1, PreR.glue q2 h2 (fun t ht => h3 t (by simp [ht])), by simp, by simp, q3, fun y hy => ?_⟩
    rcases List.mem_append.1 hy with e | e
    · exact q4 y e
    · exact h3 s (by simp) y e
theorem PreR.imp : ∀ {ka : List Int} {sa : List ByteArray} {P : List Nat} {ps : KV}, (∀ k P' ps', R k P' ps' → (∀ i ∈ P', i ∈ P) → R' k P' ps') → PreR R ka sa P ps → PreR R' ka sa P ps
  | [], [], _, _, _, h => h
  | k :: ka, s :: sa, P, ps, f, ⟨P1, ps1, P2, ps2, h1, h2, e1, e2, h3, h4⟩ => by
    subst e1
    exact ⟨P1, ps1, P2, ps2, f _ _ _ h1 fun i hi => List.mem_append.2 (.inl hi), PreR.imp (fun k P' ps' h hs => f k P' ps' h fun i hi => List.mem_append.2 (.inr (hs i hi))) h2, rfl, e2, h3, h4⟩
theorem PreR.lt : ∀ {ka : List Int} {sa : List ByteArray} {P : List Nat} {ps : KV}, PreR R ka sa P ps → ∀ x ∈ ps, ∃ s ∈ sa, blt x.1 s = true
  | [], [], _, _, h, x, hx => by rw [h.2] at hx; cases hx
  | k :: ka, s :: sa, P, ps, ⟨P1, ps1, P2, ps2, h1, h2, e1, e2, h3, h4⟩, x, hx => by
    subst e2
    rcases List.mem_append.1 hx with e | e
    · exact ⟨s, by simp, h3 x e⟩
    · obtain ⟨t, ht, q⟩ := PreR.lt h2 x e
      exact ⟨t, by simp [ht], q⟩
theorem SufR.imp {kc : List Int} {sc : List ByteArray} {P : List Nat} {ps : KV} (f : ∀ k P' ps', R k P' ps' → (∀ i ∈ P', i ∈ P) → R' k P' ps') (h : SufR R kc sc P ps) : SufR R' kc sc P ps := by
  cases sc with
  | nil => exact h
  | cons s sc => exact ⟨KidsR.imp f h.1, h.2⟩
theorem SufR.ge {kc : List Int} {sc : List ByteArray} {P : List Nat} {ps : KV} (h : SufR R kc sc P ps) : ∀ y ∈ ps, ∃ s ∈ sc, blt y.1 s = false := by
  cases sc with
  | nil => intro y hy; rw [h.2.2] at hy; cases hy
  | cons s sc => intro y hy; exact ⟨s, by simp, h.2 y hy⟩
theorem KidsR.head {k : Int} {kc : List Int} {sc : List ByteArray} {P : List Nat} {ps : KV} (h : KidsR R (k :: kc) sc P ps) :
    ∃ P1 ps1 PC psC, R k.toNat P1 ps1 ∧ SufR R kc sc PC psC ∧ P = P1 ++ PC ∧ ps = ps1 ++ psC ∧ ∀ s, sc.head? = some s → ∀ x ∈ ps1, blt x.1 s = true := by
  cases sc with
  | nil => exact ⟨P, ps, [], [], h.2, ⟨h.1, rfl, rfl⟩, by simp, by simp, fun s e => by cases e⟩
  | cons s sc =>
    obtain ⟨P1, ps1, P2, ps2, h1, h2, e1, e2, h3, h4⟩ := h
    exact ⟨P1, ps1, P2, ps2, h1, ⟨h2, h4⟩, e1, e2, fun t e => by cases e; exact h3⟩
theorem SufR.glue {k : Int} {kc : List Int} {sc : List ByteArray} {P1 PC : List Nat} {ps1 psC : KV} (h1 : R k.toNat P1 ps1) (h2 : SufR R kc sc PC psC) (h3 : ∀ s, sc.head? = some s → ∀ x ∈ ps1, blt x.1 s = true) : KidsR R (k :: kc) sc (P1 ++ PC) (ps1 ++ psC) := by
  cases sc with
  | nil =>
    obtain ⟨e1, e2, e3⟩ := h2
    subst e1; subst e2; subst e3
    rw [List.append_nil, List.append_nil]
    exact ⟨rfl, h1⟩
  | cons s sc => exact ⟨P1, ps1, PC, psC, h1, h2.1, rfl, rfl, h3 s rfl, h2.2⟩
/-- two rows of kids beside a key -/
theorem KidsR.join {kb : List Int} {sb : List ByteArray} {s : ByteArray} {P2 : List Nat} {ps2 : KV} : ∀ {ka : List Int} {sa : List ByteArray} {P1 : List Nat} {ps1 : KV}, KidsR R ka sa P1 ps1 → KidsR R kb sb P2 ps2 → (∀ x ∈ ps1, blt x.1 s = true) → (∀ y ∈ ps2, blt y.1 s = false) → (∀ t ∈ sa, blt t s = true) →
    KidsR R (ka ++ kb) (sa ++ s :: sb) (P1 ++ P2) (ps1 ++ ps2)
  | [], _, _, _, h, _, _, _, _ => h.elim
  | k :: ka, [], P1, ps1, h, h2, h3, h4, _ => by
    obtain ⟨e, h⟩ := h
    subst e
    exact ⟨P1, ps1, P2, ps2, h, h2, rfl, rfl, h3, h4⟩
  | k :: ka, t :: sa, P1, ps1, h, h2, h3, h4, h5 => by
    obtain ⟨Q1, qs1, Q2, qs2, q1, q2, e1, e2, q3, q4⟩ := h
    subst e1; subst e2
    refine ⟨Q1, qs1, Q2 ++ P2, qs2 ++ ps2, q1, KidsR.join q2 h2 (fun x hx => h3 x (by simp [hx])) h4 (fun u hu => h5 u (by simp [hu])), by simp, by simp, q3, fun y hy => ?_⟩
    rcases List.mem_append.1 hy with e | e
    · exact q4 y e
    · exact le_le (blt_asy (h5 t (by simp))) (h4 y e)
theorem KidsR.cut {kb : List Int} {sb : List ByteArray} {s : ByteArray} (hkb : kb ≠ []) : ∀ {ka : List Int} {sa : List ByteArray} {P : List Nat} {ps : KV}, ka.length = sa.length + 1 → KidsR R (ka ++ kb) (sa ++ s :: sb) P ps → (∀ t ∈ sa, blt t s = true) →
    ∃ P1 ps1 P2 ps2, KidsR R ka sa P1 ps1 ∧ KidsR R kb sb P2 ps2 ∧ P = P1 ++ P2 ∧ ps = ps1 ++ ps2 ∧ (∀ x ∈ ps1, blt x.1 s = true) ∧ (∀ y ∈ ps2, blt y.1 s = false)
  | [], _, _, _, hl, _, _ => by simp at hl
  | [k], [], P, ps, _, h, _ => by
    obtain ⟨P1, ps1, P2, ps2, h1, h2, e1, e2, h3, h4⟩ := h
    exact ⟨P1, ps1, P2, ps2, ⟨rfl, h1⟩, h2, e1, e2, h3, h4⟩
  | k :: k' :: ka, [], _, _, hl, _, _ => by simp at hl
  | k :: ka, t :: sa, P, ps, hl, h, h5 => by
    obtain ⟨Q1, qs1, Q2, qs2, q1, q2, e1, e2, q3, q4⟩ := h
    obtain ⟨P1, ps1, P2, ps2, r1, r2, f1, f2, r3, r4⟩ := KidsR.cut hkb (ka := ka) (sa := sa) (by simpa using hl) q2 (fun u hu => h5 u (by simp [hu]))
    subst e1; subst e2; subst f1; subst f2
    refine ⟨Q1 ++ P1, qs1 ++ ps1, P2, ps2, ⟨Q1, qs1, P1, ps1, q1, r1, rfl, rfl, q3, fun y hy => q4 y (by simp [hy])⟩, r2, by simp, by simp, fun x hx => ?_, r4⟩
    rcases List.mem_append.1 hx with e | e
    · exact blt_le (q3 x e) (blt_asy (h5 t (by simp)))
    · exact r3 x e
theorem kids_keys_lt (hR : ∀ k P ps, R k P ps → ps ≠ []) {s : ByteArray} : ∀ {ks : List Int} {ss : List ByteArray} {P : List Nat} {ps : KV}, KidsR R ks ss P ps → (∀ e ∈ ps, blt e.1 s = true) → ps ≠ [] ∧ ∀ t ∈ ss, blt t s = true
  | [], _, _, _, h, _ => h.elim
  | k :: ks, [], P, ps, h, hs => ⟨hR _ _ _ h.2, fun t ht => by cases ht⟩
  | k :: ks, t :: ss, P, ps, ⟨P1, ps1, P2, ps2, h1, h2, e1, e2, h3, h4⟩, hs => by
    subst e2
    obtain ⟨n2, ih⟩ := kids_keys_lt hR h2 fun e he => hs e (by simp [he])
    refine ⟨by simp [n2], fun u hu => ?_⟩
    rcases List.mem_cons.1 hu with q | q
    · subst q
      obtain ⟨y, hy⟩ := List.exists_mem_of_ne_nil _ n2
      exact le_blt (h4 y hy) (hs y (by simp [hy]))
    · exact ih u q
theorem kids_keys_gt (hR : ∀ k P ps, R k P ps → ps ≠ []) {s : ByteArray} : ∀ {ks : List Int} {ss : List ByteArray} {P : List Nat} {ps : KV}, KidsR R ks ss P ps → (∀ e ∈ ps, blt e.1 s = false) → ∀ t ∈ ss, blt s t = true
  | [], _, _, _, h, _ => h.elim
  | k :: ks, [], P, ps, h, hs => fun t ht => by cases ht
  | k :: ks, t :: ss, P, ps, ⟨P1, ps1, P2, ps2, h1, h2, e1, e2, h3, h4⟩, hs => fun u hu => by
    subst e2
    rcases List.mem_cons.1 hu with q | q
    · subst q
      obtain ⟨x, hx⟩ := List.exists_mem_of_ne_nil _ (hR _ _ _ h1)
      exact le_blt (hs x (by simp [hx])) (h3 x hx)
    · exact kids_keys_gt hR h2 (fun e he => hs e (by simp [he])) u q
theorem kids_in (hR : ∀ k P ps, R k P ps → k ∈ P) : ∀ {ks : List Int} {ss : List ByteArray} {P : List Nat} {ps : KV}, KidsR R ks ss P ps → ∀ k ∈ ks, k.toNat ∈ P
  | [], _, _, _, h, _, hk => by cases hk
  | k :: ks, [], P, ps, h, j, hj => by
    rw [h.1] at hj
    rw [List.mem_singleton.1 hj]; exact hR _ _ _ h.2
  | k :: ks, t :: ss, P, ps, ⟨P1, ps1, P2, ps2, h1, h2, e1, e2, h3, h4⟩, j, hj => by
    subst e1
    rcases List.mem_cons.1 hj with q | q
    · rw [q]; exact List.mem_append.2 (.inl (hR _ _ _ h1))
    · exact List.mem_append.2 (.inr (kids_in hR h2 j q))
end

/-! an entry taken out -/
def delK : KV → ByteArray → KV
  | [], _ => []
  | x :: ps, k => match decide (x.1 = k) with
    | true => ps
    | false => x :: delK ps k
theorem delK_split {L R : KV} {k v : ByteArray} (h : ∀ x ∈ L, x.1 ≠ k) : delK (L ++ (k, v) :: R) k = L ++ R := by
  induction L with
  | nil => simp [delK]
  | cons x L ih =>
    show (match decide (x.1 = k) with | true => L ++ (k, v) :: R | false => x :: delK (L ++ (k, v) :: R) k) = _
    rw [decide_eq_false (h x (by simp)), ih fun y hy => h y (by simp [hy])]
    rfl
theorem delK_left {ps qs : KV} {k : ByteArray} (h : ∃ x ∈ ps, x.1 = k) : delK (ps ++ qs) k = delK ps k ++ qs := by
  induction ps with
  | nil => obtain ⟨x, hx, _⟩ := h; cases hx
  | cons x ps ih =>
    show (match decide (x.1 = k) with | true => ps ++ qs | false => x :: delK (ps ++ qs) k) = (match decide (x.1 = k) with | true => ps | false => x :: delK ps k) ++ qs
    by_cases e : x.1 = k
    · rw [decide_eq_true e]
    · rw [decide_eq_false e]
      obtain ⟨y, hy, q⟩ := h
      rcases List.mem_cons.1 hy with z | z
      · subst z; exact (e q).elim
      · rw [ih ⟨y, z, q⟩]; rfl
theorem delK_right {ps qs : KV} {k : ByteArray} (h : ∀ x ∈ ps, x.1 ≠ k) : delK (ps ++ qs) k = ps ++ delK qs k := by
  induction ps with
  | nil => rfl
  | cons x ps ih =>
    show (match decide (x.1 = k) with | true => ps ++ qs | false => x :: delK (ps ++ qs) k) = _
    rw [decide_eq_false (h x (by simp)), ih fun y hy => h y (by simp [hy])]
    rfl
theorem delK_mem {ps : KV} {k : ByteArray} : ∀ {x}, x ∈ delK ps k → x ∈ ps := by
  induction ps with
  | nil => intro x hx; cases hx
  | cons y ps ih =>
    intro x hx
    have hx : x ∈ (match decide (y.1 = k) with | true => ps | false => y :: delK ps k) := hx
    by_cases e : y.1 = k
    · rw [decide_eq_true e] at hx; exact List.mem_cons_of_mem _ hx
    · rw [decide_eq_false e] at hx
      rcases List.mem_cons.1 hx with q | q
      · rw [q]; simp
      · exact List.mem_cons_of_mem _ (ih q)
theorem kidN_split {key : ByteArray} : ∀ {ss : List ByteArray}, Pw ss → (∀ s ∈ ss.take (kidN ss key), blt key s = false) ∧ (∀ s ∈ ss.drop (kidN ss key), blt key s = true) ∧ kidN ss key ≤ ss.length
  | [], _ => by simp [kidN, slotN_nil, slotB_nil]
  | s :: ss, pw => by
    have pw' := (List.pairwise_cons.1 pw).2
    have hall := (List.pairwise_cons.1 pw).1
    obtain ⟨i1, i2, i3⟩ := kidN_split (key := key) pw'
    cases h : blt s key with
    | true =>
      have e : kidN (s :: ss) key = kidN ss key + 1 := by
        unfold kidN; rw [(slot_lt h).1, (slot_lt h).2]; omega
      rw [e]
      refine ⟨fun t ht => ?_, by simpa using i2, by simpa using i3⟩
      rw [List.take_succ_cons] at ht
      rcases List.mem_cons.1 ht with q | q
      · rw [q]; exact blt_asy h
      · exact i1 t q
    | false =>
      obtain ⟨e1, e2⟩ := slot_ge pw h
      by_cases q : s = key
      · have e : kidN (s :: ss) key = 1 := by unfold kidN; rw [e1, e2, decide_eq_true q]; rfl
        rw [e]
        refine ⟨fun t ht => ?_, fun t ht => ?_, by simp⟩
        · simp at ht; rw [ht, q]; exact blt_irr _
        · simp at ht; rw [← q]; exact hall t ht
      · have e : kidN (s :: ss) key = 0 := by unfold kidN; rw [e1, e2, decide_eq_false q]; rfl
        rw [e]
        have hk : blt key s = true := by
          rcases blt_tri s key with ⟨z, _⟩ | ⟨z, _⟩ | ⟨z, _⟩
          · rw [h] at z; cases z
          · exact (q z).elim
          · exact z
        refine ⟨fun t ht => by simp at ht, fun t ht => ?_, by simp⟩
        simp at ht
        rcases ht with z | z
        · rw [z]; exact hk
        · exact blt_le hk (blt_asy (hall t z))
end Go.Am
namespace Go.Am

section
variable {T T' : List Pg} {d a x y : Nat} {p px py : Pg} {s : ByteArray} {P PX PY : List Nat} {ps psX psY : KV}
theorem kids_never {R : Nat → List Nat → KV → Prop} (hR : ∀ k P ps, ¬ R k P ps) : ∀ {ks : List Int} {ss : List ByteArray} {P : List Nat} {ps : KV}, ¬ KidsR R ks ss P ps
  | [], _, _, _, h => h
  | k :: ks, [], _, _, h => hR _ _ _ h.2
  | k :: ks, s :: ss, _, _, ⟨P1, ps1, P2, ps2, h1, _⟩ => hR _ _ _ h1
theorem Sub.may (h : Sub T d a P ps) (hp : T[a]? = some p) : MayP p := by
  cases d with
  | zero => exact h.elim
  | succ d => obtain ⟨q, hq, hm, _⟩ := h; rw [hp] at hq; cases hq; exact hm
theorem Sub.leafD (h : Sub T d a P ps) (hp : T[a]? = some p) (hl : p.leaf = true) : d = 1 ∧ P = [a] ∧ ps = p.keys.zip p.vals := by
  cases d with
  | zero => exact h.elim
  | succ d =>
    obtain ⟨q, hq, hm, ⟨e, h1, h2, h3⟩ | ⟨h1, _⟩⟩ := h
    · rw [hp] at hq; cases hq; exact ⟨by omega, h2, h3⟩
    · rw [hp] at hq; cases hq; rw [hl] at h1; cases h1
theorem Sub.innD (h : Sub T d a P ps) (hp : T[a]? = some p) (hl : p.leaf = false) : ∃ d' P', d = d' + 2 ∧ P = a :: P' ∧ KidsR (SubB T (d' + 1)) p.kids p.keys P' ps := by
  cases d with
  | zero => exact h.elim
  | succ d =>
    obtain ⟨q, hq, hm, ⟨e, h1, h2, h3⟩ | ⟨h1, P', h2, h3⟩⟩ := h
    · rw [hp] at hq; cases hq; rw [hl] at h1; cases h1
    · rw [hp] at hq; cases hq
      cases d with
      | zero => exact (kids_never (fun k P ps h => h.1.elim) h3).elim
      | succ d => exact ⟨d, P', rfl, h2, h3⟩
theorem Sub.get (h : Sub T d a P ps) : ∃ p, T[a]? = some p := by
  cases d with
  | zero => exact h.elim
  | succ d => obtain ⟨q, hq, _⟩ := h; exact ⟨q, hq⟩
theorem zip_fst {ks vs : List ByteArray} (hl : vs.length = ks.length) {k : ByteArray} (h : k ∈ ks) : ∃ v, (k, v) ∈ ks.zip vs := by
  obtain ⟨i, hi, e⟩ := List.getElem_of_mem h
  exact ⟨vs[i]'(by omega), List.mem_iff_getElem.2 ⟨i, by simp; omega, by simp [e]⟩⟩
theorem join_leaf (hX : Sub T d x PX psX) (hY : Sub T d y PY psY) (hx : T[x]? = some px) (hy : T[y]? = some py) : px.leaf = py.leaf := by
  cases h1 : px.leaf <;> cases h2 : py.leaf
  · rfl
  · obtain ⟨d', _, e, _⟩ := hX.innD hx h1
    have := (hY.leafD hy h2).1
    omega
  · obtain ⟨d', _, e, _⟩ := hY.innD hy h2
    have := (hX.leafD hx h1).1
    omega
  · rfl
theorem join_fits (hX : Sub T d x PX psX) (hY : Sub T d y PY psY) (hx : T[x]? = some px) (hy : T[y]? = some py) (hnd : (PX ++ PY).Nodup) (hs : 1 ≤ s.size ∧ s.size ≤ 6) (lt : ∀ e ∈ psX, blt e.1 s = true) (ge : ∀ e ∈ psY, blt e.1 s = false) :
    FitsP (joinP px s py) := by
  have hl := join_leaf hX hY hx hy
  have mx := hX.may hx
  have my := hY.may hy
  cases h1 : px.leaf with
  | true =>
    rw [h1] at hl
    obtain ⟨-, -, ex⟩ := hX.leafD hx h1
    obtain ⟨-, -, ey⟩ := hY.leafD hy hl.symm
    obtain ⟨x1, x2, x3⟩ := mx.2.leaf h1
    obtain ⟨y1, y2, y3⟩ := my.2.leaf hl.symm
    have ej : joinP px s py = ⟨px.used, true, px.keys ++ py.keys, px.vals ++ py.vals, px.kids ++ py.kids⟩ := by unfold joinP; rw [h1]
    rw [ej]
    refine ⟨mx.2.used, pw_rising (List.pairwise_append.2 ⟨rising_pw mx.2.rising, rising_pw my.2.rising, fun a ha b hb => ?_⟩), fun k hk => ?_, fun _ => ⟨by simp; omega, by simp [x2, y2], fun v hv => ?_⟩, fun q => by cases q⟩
    · obtain ⟨v, hv⟩ := zip_fst x1 ha
      obtain ⟨w, hw⟩ := zip_fst y1 hb
      exact blt_le (lt _ (by rw [ex]; exact hv)) (ge _ (by rw [ey]; exact hw))
    · rcases List.mem_append.1 hk with q | q
      · exact mx.2.keys k q
      · exact my.2.keys k q
    · rcases List.mem_append.1 hv with q | q
      · exact x3 v q
      · exact y3 v q
  | false =>
    rw [h1] at hl
    obtain ⟨d', PX', ed, eX, kX⟩ := hX.innD hx h1
    obtain ⟨d'', PY', ed', eY, kY⟩ := hY.innD hy hl.symm
    obtain rfl : d' = d'' := by omega
    obtain ⟨x1, x2, x3, x4, x5⟩ := mx.2.inner h1
    obtain ⟨y1, y2, y3, y4, y5⟩ := my.2.inner hl.symm
    have ej : joinP px s py = ⟨px.used, false, px.keys ++ [s] ++ py.keys, px.vals ++ py.vals, px.kids ++ py.kids⟩ := by unfold joinP; rw [h1]
    rw [ej]
    have hne : ∀ k P ps, SubB T (d' + 1) k P ps → ps ≠ [] := fun k P ps h => h.ne
    have kl := (kids_keys_lt hne kX lt).2
    have kg := kids_keys_gt hne kY ge
    have hin : ∀ k P ps, SubB T (d' + 1) k P ps → k ∈ P := fun k P ps h => h.1.head
    refine ⟨mx.2.used, pw_rising ?_, fun k hk => ?_, fun q => (by cases q), fun _ => ⟨by simp; omega, by simp [x2, y2], by simp; omega, fun k hk => ?_, ?_⟩⟩
    · rw [List.append_assoc]
      refine List.pairwise_append.2 ⟨rising_pw mx.2.rising, List.pairwise_cons.2 ⟨kg, rising_pw my.2.rising⟩, fun a ha b hb => ?_⟩
      rcases List.mem_cons.1 hb with q | q
      · rw [q]; exact kl a ha
      · exact blt_le (kl a ha) (blt_asy (kg b q))
    · simp only [List.mem_append, List.mem_singleton] at hk
      rcases hk with (q | q) | q
      · exact mx.2.keys k q
      · rw [q]; exact hs
      · exact my.2.keys k q
    · rcases List.mem_append.1 hk with q | q
      · exact x4 k q
      · exact y4 k q
    · refine List.nodup_append.2 ⟨x5, y5, fun a ha b hb e => ?_⟩
      subst e
      have i1 := kids_in hin kX a ha
      have i2 := kids_in hin kY a hb
      rw [eX, eY] at hnd
      have := (List.nodup_append.1 hnd).2.2 a.toNat (by simp [i1]) a.toNat (by simp [i2])
      exact this rfl
theorem join_can (hX : Sub T d x PX psX) (hY : Sub T d y PY psY) (hx : T[x]? = some px) (hy : T[y]? = some py) (hf : FitsP (joinP px s py)) : CanJoin px s py ↔ (joinP px s py).keys.length ≤ 4 :=
  ⟨fun h => h.2.2.2.1, fun h => ⟨hX.may hx, hY.may hy, join_leaf hX hY hx hy, h, hf⟩⟩
theorem join_sub (hX : Sub T d x PX psX) (hY : Sub T d y PY psY) (hx : T[x]? = some px) (hy : T[y]? = some py) (hnd : (PX ++ PY).Nodup) (lt : ∀ e ∈ psX, blt e.1 s = true) (ge : ∀ e ∈ psY, blt e.1 s = false)
    (hm : MayP (joinP px s py)) (hT : ∀ j ∈ PX ++ PY, j ≠ x → j ≠ y → T'[j]? = T[j]?) (hx' : T'[x]? = some (joinP px s py)) :
    ∃ PZ, Sub T' d x PZ (psX ++ psY) ∧ PZ.Nodup ∧ (∀ j ∈ PZ, j ∈ PX ++ PY) ∧ y ∉ PZ ∧ ∀ j ∈ PX ++ PY, j ≠ y → j ∈ PZ := by
  have hl := join_leaf hX hY hx hy
  have mx := hX.may hx
  have my := hY.may hy
  cases h1 : px.leaf with
  | true =>
    rw [h1] at hl
    obtain ⟨ed, eX, ex⟩ := hX.leafD hx h1
    obtain ⟨-, eY, ey⟩ := hY.leafD hy hl.symm
    obtain ⟨x1, x2, x3⟩ := mx.2.leaf h1
    have ej : joinP px s py = ⟨px.used, true, px.keys ++ py.keys, px.vals ++ py.vals, px.kids ++ py.kids⟩ := by unfold joinP; rw [h1]
    subst ed; subst eX; subst eY
    have hxy : x ≠ y := by simp at hnd; exact hnd
    refine ⟨[x], ⟨_, hx', hm, .inl ⟨rfl, by rw [ej], rfl, ?_⟩⟩, by simp, by simp, by simp; exact fun q => hxy q.symm, fun j hj hne => ?_⟩
    · rw [ej, ex, ey]
      exact (List.zip_append (by omega)).symm
    · simp at hj; rcases hj with q | q
      · simp [q]
      · exact (hne q).elim
  | false =>
    rw [h1] at hl
    obtain ⟨d', PX', ed, eX, kX⟩ := hX.innD hx h1
    obtain ⟨d'', PY', ed', eY, kY⟩ := hY.innD hy hl.symm
    obtain rfl : d' = d'' := by omega
    have ej : joinP px s py = ⟨px.used, false, px.keys ++ [s] ++ py.keys, px.vals ++ py.vals, px.kids ++ py.kids⟩ := by unfold joinP; rw [h1]
    have hne : ∀ k P ps, SubB T (d' + 1) k P ps → ps ≠ [] := fun k P ps h => h.ne
    have kl := (kids_keys_lt hne kX lt).2
    subst ed; subst eX; subst eY
    have nd := List.nodup_append.1 hnd
    have n1 := List.nodup_cons.1 nd.1
    have n2 := List.nodup_cons.1 nd.2.1
    have kJ := KidsR.join kX kY lt ge kl
    have keep : ∀ j ∈ PX' ++ PY', T'[j]? = T[j]? := fun j hj => by
      refine hT j (by simp at hj ⊢; rcases hj with q | q <;> simp [q]) (fun e => ?_) (fun e => ?_)
      · subst e
        rcases List.mem_append.1 hj with q | q
        · exact n1.1 q
        · exact nd.2.2 j (by simp) j (by simp [q]) rfl
      · subst e
        rcases List.mem_append.1 hj with q | q
        · exact nd.2.2 j (by simp [q]) j (by simp) rfl
        · exact n2.1 q
    have hxy : x ≠ y := fun e => nd.2.2 x (by simp) y (by simp) e
    refine ⟨x :: (PX' ++ PY'), ⟨_, hx', hm, .inr ⟨by rw [ej], _, rfl, ?_⟩⟩, ?_, ?_, ?_, ?_⟩
    · rw [ej]
      show KidsR _ (px.kids ++ py.kids) (px.keys ++ [s] ++ py.keys) _ _
      rw [List.append_assoc]
      exact kJ.imp fun k Q qs h hin => SubB.keep h fun j hj => keep j (hin j hj)
    · refine List.nodup_cons.2 ⟨fun q => ?_, List.nodup_append.2 ⟨n1.2, n2.2, fun a ha b hb => nd.2.2 a (by simp [ha]) b (by simp [hb])⟩⟩
      rcases List.mem_append.1 q with q | q
      · exact n1.1 q
      · exact nd.2.2 x (by simp) x (by simp [q]) rfl
    · intro j hj; simp at hj ⊢; rcases hj with q | q | q <;> simp [q]
    · intro q
      rcases List.mem_cons.1 q with q | q
      · exact hxy q.symm
      · rcases List.mem_append.1 q with q | q
        · exact nd.2.2 y (by simp [q]) y (by simp) rfl
        · exact n2.1 q
    · intro j hj hne'
      simp at hj ⊢
      rcases hj with q | q | q | q
      · exact .inl q
      · exact .inr (.inl q)
      · exact (hne' q).elim
      · exact .inr (.inr q)

/-! cut -/
theorem zip_take (ks vs : List ByteArray) (k : Nat) : (ks.take k).zip (vs.take k) = (ks.zip vs).take k := by simp [List.zip, List.take_zipWith]
theorem zip_drop (ks vs : List ByteArray) (k : Nat) : (ks.drop k).zip (vs.drop k) = (ks.zip vs).drop k := by simp [List.zip, List.drop_zipWith]
theorem fits_cutL {b : Pg} (h : FitsP b) {k : Nat} (hk : k < b.keys.length) (h1 : 1 ≤ k) : FitsP (cutL b k) := by
  unfold cutL
  cases hl : b.leaf with
  | true =>
    obtain ⟨f1, f2, f3⟩ := h.leaf hl
    exact ⟨h.used, pw_rising ((rising_pw h.rising).sublist (List.take_sublist _ _)), fun q hq => h.keys q (List.mem_of_mem_take hq), fun _ => ⟨by simp; omega, f2, fun v hv => f3 v (List.mem_of_mem_take hv)⟩, fun q => by cases q⟩
  | false =>
    obtain ⟨f1, f2, f3, f4, f5⟩ := h.inner hl
    exact ⟨h.used, pw_rising ((rising_pw h.rising).sublist (List.take_sublist _ _)), fun q hq => h.keys q (List.mem_of_mem_take hq), fun q => (by cases q), fun _ => ⟨by simp; omega, f2, by simp; omega, fun q hq => f4 q (List.mem_of_mem_take hq), f5.sublist (List.take_sublist _ _)⟩⟩
theorem fits_cutR {b : Pg} (h : FitsP b) {k : Nat} (h1 : 1 ≤ (cutR b k).keys.length) : FitsP (cutR b k) := by
  unfold cutR at h1 ⊢
  cases hl : b.leaf with
  | true =>
    rw [hl] at h1
    obtain ⟨f1, f2, f3⟩ := h.leaf hl
    exact ⟨h.used, pw_rising ((rising_pw h.rising).sublist (List.drop_sublist _ _)), fun q hq => h.keys q (List.mem_of_mem_drop hq), fun _ => ⟨by simp; omega, f2, fun v hv => f3 v (List.mem_of_mem_drop hv)⟩, fun q => by cases q⟩
  | false =>
    rw [hl] at h1
    obtain ⟨f1, f2, f3, f4, f5⟩ := h.inner hl
    exact ⟨h.used, pw_rising ((rising_pw h.rising).sublist (List.drop_sublist _ _)), fun q hq => h.keys q (List.mem_of_mem_drop hq), fun q => (by cases q), fun _ => ⟨h1, f2, by simp at h1 ⊢; omega, fun q hq => f4 q (List.mem_of_mem_drop hq), f5.sublist (List.drop_sublist _ _)⟩⟩
theorem cut_sub {k : Nat} (hX : Sub T d x PX psX) (hY : Sub T d y PY psY) (hx : T[x]? = some px) (hy : T[y]? = some py) (hnd : (PX ++ PY).Nodup) (hs : 1 ≤ s.size ∧ s.size ≤ 6) (lt : ∀ e ∈ psX, blt e.1 s = true) (ge : ∀ e ∈ psY, blt e.1 s = false)
    (hk : k < (joinP px s py).keys.length) (h1 : 1 ≤ k) (hk4 : k ≤ 4) (hR : 1 ≤ (cutR (joinP px s py) k).keys.length) (hR4 : (cutR (joinP px s py) k).keys.length ≤ 4)
    (hT : ∀ j ∈ PX ++ PY, j ≠ x → j ≠ y → T'[j]? = T[j]?) (hx' : T'[x]? = some (cutL (joinP px s py) k)) (hy' : T'[y]? = some (cutR (joinP px s py) k)) :
    ∃ PX' psX' PY' psY', Sub T' d x PX' psX' ∧ Sub T' d y PY' psY' ∧ psX' ++ psY' = psX ++ psY ∧ (PX' ++ PY').Nodup ∧ (∀ j, j ∈ PX' ++ PY' ↔ j ∈ PX ++ PY) ∧ (∀ e ∈ psX', blt e.1 (joinP px s py).keys[k] = true) ∧ (∀ e ∈ psY', blt e.1 (joinP px s py).keys[k] = false) := by
  have hl := join_leaf hX hY hx hy
  have mx := hX.may hx
  have my := hY.may hy
  have hf := join_fits hX hY hx hy hnd hs lt ge
  have fL := fits_cutL hf hk h1
  have fR := fits_cutR hf hR
  have lenL : (cutL (joinP px s py) k).keys.length ≤ 4 := by unfold cutL; cases (joinP px s py).leaf <;> (simp; omega)
  have pwb := rising_pw hf.rising
  have hsplit : (joinP px s py).keys = (joinP px s py).keys.take k ++ (joinP px s py).keys[k] :: (joinP px s py).keys.drop (k + 1) := by rw [List.getElem_cons_drop, List.take_append_drop]
  have ltk : ∀ t ∈ (joinP px s py).keys.take k, blt t (joinP px s py).keys[k] = true := fun t ht => by
    rw [hsplit] at pwb
    exact (List.pairwise_append.1 pwb).2.2 t ht _ List.mem_cons_self
  have gtk : ∀ t ∈ (joinP px s py).keys.drop (k + 1), blt (joinP px s py).keys[k] t = true := fun t ht => by
    rw [hsplit] at pwb
    exact (List.pairwise_cons.1 (List.pairwise_append.1 pwb).2.1).1 t ht
  have nd := List.nodup_append.1 hnd
  cases h1' : px.leaf with
  | true =>
    rw [h1'] at hl
    obtain ⟨ed, eX, ex⟩ := hX.leafD hx h1'
    obtain ⟨-, eY, ey⟩ := hY.leafD hy hl.symm
    obtain ⟨x1, x2, x3⟩ := mx.2.leaf h1'
    have ej : joinP px s py = ⟨px.used, true, px.keys ++ py.keys, px.vals ++ py.vals, px.kids ++ py.kids⟩ := by unfold joinP; rw [h1']
    have ejl : (joinP px s py).leaf = true := by rw [ej]
    have ez : psX ++ psY = (joinP px s py).keys.zip (joinP px s py).vals := by rw [ej, ex, ey]; exact (List.zip_append (by omega)).symm
    have eL : (cutL (joinP px s py) k).keys = (joinP px s py).keys.take k ∧ (cutL (joinP px s py) k).vals = (joinP px s py).vals.take k ∧ (cutL (joinP px s py) k).leaf = true := by unfold cutL; rw [ejl]; exact ⟨rfl, rfl, rfl⟩
    have eR : (cutR (joinP px s py) k).keys = (joinP px s py).keys.drop k ∧ (cutR (joinP px s py) k).vals = (joinP px s py).vals.drop k ∧ (cutR (joinP px s py) k).leaf = true := by unfold cutR; rw [ejl]; exact ⟨rfl, rfl, rfl⟩
    subst ed; subst eX; subst eY
    refine ⟨[x], _, [y], _, ⟨_, hx', ⟨lenL, fL⟩, .inl ⟨rfl, eL.2.2, rfl, rfl⟩⟩, ⟨_, hy', ⟨hR4, fR⟩, .inl ⟨rfl, eR.2.2, rfl, rfl⟩⟩, ?_, hnd, fun j => Iff.rfl, fun e he => ?_, fun e he => ?_⟩
    · rw [eL.1, eL.2.1, eR.1, eR.2.1, zip_take, zip_drop, List.take_append_drop, ez]
    · rw [eL.1] at he
      exact ltk _ (zip_mem he).1
    · rw [eR.1] at he
      have := (zip_mem he).1
      rw [← List.getElem_cons_drop (h := hk)] at this
      rcases List.mem_cons.1 this with q | q
      · rw [q]; exact blt_irr _
      · exact blt_asy (gtk _ q)
  | false =>
    rw [h1'] at hl
    obtain ⟨d', PX', ed, eX, kX⟩ := hX.innD hx h1'
    obtain ⟨d'', PY', ed', eY, kY⟩ := hY.innD hy hl.symm
    obtain rfl : d' = d'' := by omega
    have ej : joinP px s py = ⟨px.used, false, px.keys ++ [s] ++ py.keys, px.vals ++ py.vals, px.kids ++ py.kids⟩ := by unfold joinP; rw [h1']
    have ejl : (joinP px s py).leaf = false := by rw [ej]
    have hne : ∀ k P ps, SubB T (d' + 1) k P ps → ps ≠ [] := fun k P ps h => h.ne
    have kl := (kids_keys_lt hne kX lt).2
    have kJ := KidsR.join kX kY lt ge kl
    have ekk : px.keys ++ s :: py.keys = (joinP px s py).keys := by rw [ej]; simp
    have eki : px.kids ++ py.kids = (joinP px s py).kids := by rw [ej]
    obtain ⟨g1, g2, g3, g4, g5⟩ := hf.inner ejl
    rw [ekk, eki] at kJ
    have eL : (cutL (joinP px s py) k).keys = (joinP px s py).keys.take k ∧ (cutL (joinP px s py) k).kids = (joinP px s py).kids.take (k + 1) ∧ (cutL (joinP px s py) k).leaf = false := by unfold cutL; rw [ejl]; exact ⟨rfl, rfl, rfl⟩
    have eR : (cutR (joinP px s py) k).keys = (joinP px s py).keys.drop (k + 1) ∧ (cutR (joinP px s py) k).kids = (joinP px s py).kids.drop (k + 1) ∧ (cutR (joinP px s py) k).leaf = false := by unfold cutR; rw [ejl]; exact ⟨rfl, rfl, rfl⟩
    rw [hsplit, ← List.take_append_drop (k + 1) (joinP px s py).kids] at kJ
    obtain ⟨P1, ps1, P2, ps2, c1, c2, e1, e2, c3, c4⟩ := KidsR.cut (by intro q; have := congrArg List.length q; simp at this; omega) (by simp; omega) kJ ltk
    subst ed; subst eX; subst eY
    have n1 := List.nodup_cons.1 nd.1
    have n2 := List.nodup_cons.1 nd.2.1
    have keep : ∀ j ∈ P1 ++ P2, T'[j]? = T[j]? := fun j hj => by
      rw [← e1] at hj
      refine hT j (by simp at hj ⊢; rcases hj with q | q <;> simp [q]) (fun e => ?_) (fun e => ?_)
      · subst e
        rcases List.mem_append.1 hj with q | q
        · exact n1.1 q
        · exact nd.2.2 j (by simp) j (by simp [q]) rfl
      · subst e
        rcases List.mem_append.1 hj with q | q
        · exact nd.2.2 j (by simp [q]) j (by simp) rfl
        · exact n2.1 q
    have hxy : x ≠ y := fun e => nd.2.2 x (by simp) y (by simp) e
    have nd12 : (P1 ++ P2).Nodup := by rw [← e1]; exact List.nodup_append.2 ⟨n1.2, n2.2, fun a ha b hb => nd.2.2 a (by simp [ha]) b (by simp [hb])⟩
    have nx : x ∉ P1 ++ P2 := fun q => by
      rw [← e1] at q
      rcases List.mem_append.1 q with q | q
      · exact n1.1 q
      · exact nd.2.2 x (by simp) x (by simp [q]) rfl
    have ny : y ∉ P1 ++ P2 := fun q => by
      rw [← e1] at q
      rcases List.mem_append.1 q with q | q
      · exact nd.2.2 y (by simp [q]) y (by simp) rfl
      · exact n2.1 q
    have m12 := List.nodup_append.1 nd12
    refine ⟨x :: P1, ps1, y :: P2, ps2, ⟨_, hx', ⟨lenL, fL⟩, .inr ⟨eL.2.2, P1, rfl, ?_⟩⟩, ⟨_, hy', ⟨hR4, fR⟩, .inr ⟨eR.2.2, P2, rfl, ?_⟩⟩, e2.symm, ?_, fun j => ?_, c3, c4⟩
    · rw [eL.1, eL.2.1]
      exact c1.imp fun k Q qs h hin => SubB.keep h fun j hj => keep j (by simp [hin j hj])
    · rw [eR.1, eR.2.1]
      exact c2.imp fun k Q qs h hin => SubB.keep h fun j hj => keep j (by simp [hin j hj])
    · refine List.nodup_append.2 ⟨List.nodup_cons.2 ⟨fun q => nx (by simp [q]), m12.1⟩, List.nodup_cons.2 ⟨fun q => ny (by simp [q]), m12.2.1⟩, fun a ha b hb e => ?_⟩
      subst e
      rcases List.mem_cons.1 ha with q | q
      · subst q
        rcases List.mem_cons.1 hb with z | z
        · exact hxy z
        · exact nx (by simp [z])
      · rcases List.mem_cons.1 hb with z | z
        · subst z; exact ny (by simp [q])
        · exact m12.2.2 a q a z rfl
    · have : j ∈ P1 ++ P2 ↔ j ∈ PX' ++ PY' := by rw [e1]
      simp only [List.mem_append, List.mem_cons] at this ⊢
      constructor
      · rintro ((q | q) | (q | q))
        · exact .inl (.inl q)
        · rcases this.1 (.inl q) with z | z
          · exact .inl (.inr z)
          · exact .inr (.inr z)
        · exact .inr (.inl q)
        · rcases this.1 (.inr q) with z | z
          · exact .inl (.inr z)
          · exact .inr (.inr z)
      · rintro ((q | q) | (q | q))
        · exact .inl (.inl q)
        · rcases this.2 (.inl q) with z | z
          · exact .inl (.inr z)
          · exact .inr (.inr z)
        · exact .inr (.inl q)
        · rcases this.2 (.inr q) with z | z
          · exact .inl (.inr z)
          · exact .inr (.inr z)
end
end Go.Am
namespace Go.Am

/-- a kid of which one may be short -/
def SubO (T : List Pg) (d short k : Nat) (P : List Nat) (ps : KV) : Prop := Sub T d k P ps ∧ ∃ q, T[k]? = some q ∧ 1 ≤ q.keys.length ∧ (k ≠ short → 2 ≤ q.keys.length)
/-- a subtree with an entry taken out -/
structure Dr2 (T T' : List Pg) (d a : Nat) (P P' : List Nat) (qs : KV) : Prop where
  len : T'.length = T.length
  out : ∀ j, j ∉ P → T'[j]? = T[j]?
  nd : P'.Nodup
  sub : ∀ j ∈ P', j ∈ P
  gone : ∀ j ∈ P, j ∉ P' → T'[j]? = some noPg
  pages : ∃ p p', T[a]? = some p ∧ T'[a]? = some p' ∧ p'.leaf = p.leaf ∧ p.keys.length ≤ p'.keys.length + 1 ∧
     (Sub T' d a P' qs ∨ (p'.leaf = false ∧ p'.keys = [] ∧ ∃ k P'', 1 ≤ k ∧ k < 48 ∧ p'.kids = [k] ∧ P' = a :: P'' ∧ SubB T' (d - 1) k.toNat P'' qs))
section
variable {T T1 T2 : List Pg} {D d a short : Nat} {p : Pg} {key : ByteArray} {P : List Nat} {ps : KV}
theorem zip_erase {ks vs : List ByteArray} {s : Nat} (hs : s < ks.length) (hl : vs.length = ks.length) : (ks.eraseIdx s).zip (vs.eraseIdx s) = (ks.zip vs).take s ++ (ks.zip vs).drop (s + 1) := by
  rw [List.eraseIdx_eq_take_drop_succ, List.eraseIdx_eq_take_drop_succ, List.zip_append (by simp; omega), zip_take, zip_drop]
def delP (p : Pg) (s : Nat) : Pg := ⟨p.used, p.leaf, p.keys.eraseIdx s, p.vals.eraseIdx s, p.kids⟩
theorem mem_erase {α : Type} {l : List α} {i : Nat} {x : α} (h : x ∈ l.eraseIdx i) : x ∈ l := (List.eraseIdx_sublist l i).mem h
theorem delP_may {s : Nat} (h : MayP p) (hl : p.leaf = true) (hs : s < p.keys.length) : MayP (delP p s) := by
  obtain ⟨f1, f2, f3⟩ := h.2.leaf hl
  have h4 := h.1
  refine ⟨?_, h.2.used, pw_rising ((rising_pw h.2.rising).sublist (List.eraseIdx_sublist _ _)), fun k hk => h.2.keys k (mem_erase hk), fun _ => ⟨?_, f2, fun v hv => f3 v (mem_erase hv)⟩, fun q => ?_⟩
  · show (p.keys.eraseIdx s).length ≤ 4
    rw [List.length_eraseIdx]; split <;> omega
  · show (p.vals.eraseIdx s).length = (p.keys.eraseIdx s).length
    rw [List.length_eraseIdx, List.length_eraseIdx, f1]
  · have q' : p.leaf = false := q
    rw [hl] at q'; cases q'
theorem drop_leaf (hS : Sub T d a P ps) (hp : T[a]? = some p) (hl : p.leaf = true) (hkey : ∃ e ∈ ps, e.1 = key) : slotB p.keys key = true ∧ Dr2 T (T.set a (delP p (slotN p.keys key))) d a P P (delK ps key) := by
  have hm := hS.may hp
  obtain ⟨e1, e2, e3⟩ := hS.leafD hp hl
  obtain ⟨f1, f2, f3⟩ := hm.2.leaf hl
  have pw := rising_pw hm.2.rising
  have hb : slotB p.keys key = true := by
    obtain ⟨e, he, q⟩ := hkey
    rw [e3] at he
    exact slotB_of_mem pw (by rw [← q]; exact (zip_mem he).1)
  obtain ⟨hs, hk⟩ := slot_at hb
  have hlt := (List.getElem?_eq_some_iff.1 hp).1
  refine ⟨hb, by simp, fun j hj => ?_, by rw [e2]; simp, fun j hj => hj, fun j h1 h2 => (h2 h1).elim, p, _, hp, List.getElem?_set_self hlt, rfl, ?_, .inl ?_⟩
  · rw [e2] at hj
    rw [List.getElem?_set_ne]; intro q; subst q; exact hj (by simp)
  · show p.keys.length ≤ (p.keys.eraseIdx _).length + 1
    rw [List.length_eraseIdx]; split <;> omega
  · subst e1; subst e2
    refine ⟨_, List.getElem?_set_self hlt, delP_may hm hl hs, .inl ⟨rfl, hl, rfl, ?_⟩⟩
    show delK ps key = (p.keys.eraseIdx _).zip (p.vals.eraseIdx _)
    rw [zip_erase hs f1, e3]
    have c1 := zip_cut hs f1
    rw [hk] at c1
    have hasc := zip_asc hm.2.rising f1
    rw [Asc, c1] at hasc
    rw [c1]
    have hlen : ((p.keys.zip p.vals).take (slotN p.keys key)).length = slotN p.keys key := by simp; omega
    have e4 : List.take (slotN p.keys key) (List.take (slotN p.keys key) (p.keys.zip p.vals) ++ (key, p.vals[slotN p.keys key]'(by omega)) :: List.drop (slotN p.keys key + 1) (p.keys.zip p.vals)) = List.take (slotN p.keys key) (p.keys.zip p.vals) := List.take_left' hlen
    have e5 : List.drop (slotN p.keys key + 1) (List.take (slotN p.keys key) (p.keys.zip p.vals) ++ (key, p.vals[slotN p.keys key]'(by omega)) :: List.drop (slotN p.keys key + 1) (p.keys.zip p.vals)) = List.drop (slotN p.keys key + 1) (p.keys.zip p.vals) := by
      rw [← List.drop_drop, List.drop_left' hlen]; rfl
    rw [e4, e5]
    exact delK_split fun x hx => blt_ne ((List.pairwise_append.1 hasc).2.2 x hx _ List.mem_cons_self)

/-- the kid that a key leads to -/
structure Kid (T : List Pg) (d a : Nat) (p : Pg) (i : Nat) (key : ByteArray) (P : List Nat) (ps : KV) (PA : List Nat) (psA : KV) (Pi : List Nat) (psi : KV) (PC : List Nat) (psC : KV) : Prop where
  hi : i < p.kids.length
  eP : P = a :: (PA ++ (Pi ++ PC))
  eps : ps = psA ++ (psi ++ psC)
  pre : PreR (SubB T d) (p.kids.take i) (p.keys.take i) PA psA
  kid : SubB T d (p.kids[i]'hi).toNat Pi psi
  suf : SufR (SubB T d) (p.kids.drop (i + 1)) (p.keys.drop i) PC psC
  c1 : ∀ s ∈ p.keys.take i, ∀ e ∈ psi ++ psC, blt e.1 s = false
  c2 : ∀ s, (p.keys.drop i).head? = some s → ∀ e ∈ psi, blt e.1 s = true
  mem : (∃ e ∈ ps, e.1 = key) → (∃ e ∈ psi, e.1 = key) ∧ delK ps key = psA ++ (delK psi key ++ psC)
theorem kid_split (hS : Sub T D a P ps) (hp : T[a]? = some p) (hl : p.leaf = false) : ∃ d PA psA Pi psi PC psC, D = d + 2 ∧ Kid T (d + 1) a p (kidN p.keys key) key P ps PA psA Pi psi PC psC := by
  have hm := hS.may hp
  obtain ⟨d, P', ed, eP, kk⟩ := hS.innD hp hl
  obtain ⟨f1, f2, f3, f4, f5⟩ := hm.2.inner hl
  have pw := rising_pw hm.2.rising
  obtain ⟨k1, k2, k3⟩ := kidN_split (key := key) pw
  have hi : kidN p.keys key < p.kids.length := by omega
  have kk' : KidsR (SubB T (d + 1)) (p.kids.take (kidN p.keys key) ++ p.kids.drop (kidN p.keys key)) (p.keys.take (kidN p.keys key) ++ p.keys.drop (kidN p.keys key)) P' ps := by rw [List.take_append_drop, List.take_append_drop]; exact kk
  obtain ⟨PA, psA, P2, ps2, q1, q2, e1, e2, q3⟩ := KidsR.split (by simp; omega) (by simp; omega) kk'
  rw [List.drop_eq_getElem_cons hi] at q2
  obtain ⟨Pi, psi, PC, psC, r1, r2, e3, e4, r3⟩ := q2.head
  subst e1; subst e2; subst e3; subst e4
  refine ⟨d, PA, psA, Pi, psi, PC, psC, ed, hi, eP, rfl, q1, r1, r2, q3, r3, fun hk => ?_⟩
  have nA : ∀ x ∈ psA, x.1 ≠ key := fun x hx => by
    obtain ⟨s, hs, z⟩ := q1.lt x hx
    exact blt_ne (blt_le z (k1 s hs))
  have nC : ∀ x ∈ psC, x.1 ≠ key := fun x hx => by
    obtain ⟨s, hs, z⟩ := r2.ge x hx
    exact (blt_ne (blt_le (k2 s hs) z)).symm
  have hin : ∃ e ∈ psi, e.1 = key := by
    obtain ⟨e, he, q⟩ := hk
    rcases List.mem_append.1 he with z | z
    · exact (nA e z q).elim
    · rcases List.mem_append.1 z with z | z
      · exact ⟨e, z, q⟩
      · exact (nC e z q).elim
  exact ⟨hin, by rw [delK_right nA, delK_left hin]⟩
section
variable {i : Nat} {PA Pi PC Pi' : List Nat} {psA psi psC qs : KV}
/-- the kids behind the drop below one of them -/
theorem Kid.glue (h : Kid T d a p i key P ps PA psA Pi psi PC psC) (hnd : P.Nodup) (hout : ∀ j, j ∉ Pi → T1[j]? = T[j]?) (hs : Sub T1 d (p.kids[i]'h.hi).toNat Pi' qs) (hsub : ∀ j ∈ Pi', j ∈ Pi) (hq : ∀ e ∈ qs, e ∈ psi) {q : Pg} (hq1 : T1[(p.kids[i]'h.hi).toNat]? = some q) (hq2 : 1 ≤ q.keys.length) :
    KidsR (SubO T1 d (p.kids[i]'h.hi).toNat) p.kids p.keys (PA ++ (Pi' ++ PC)) (psA ++ (qs ++ psC)) := by
  have hnd' := hnd
  rw [h.eP] at hnd'
  have n1 := (List.nodup_cons.1 hnd').2
  have n2 := List.nodup_append.1 n1
  have n3 := List.nodup_append.1 n2.2.1
  have hk := h.kid.1.head
  have other : ∀ {k : Nat} {Q : List Nat} {rs : KV}, SubB T d k Q rs → (∀ j ∈ Q, j ∉ Pi) → SubO T1 d (p.kids[i]'h.hi).toNat k Q rs := fun {k Q rs} hb hd => by
    have hb' := hb.keep (T' := T1) fun j hj => hout j (hd j hj)
    obtain ⟨r, h1, h2⟩ := hb'.2
    exact ⟨hb'.1, r, h1, by omega, fun _ => h2⟩
  have pre := h.pre.imp (R' := SubO T1 d (p.kids[i]'h.hi).toNat) fun k Q rs hb hin => other hb fun j hj hj' => n2.2.2 j (hin j hj) j (by simp [hj']) rfl
  have suf := h.suf.imp (R' := SubO T1 d (p.kids[i]'h.hi).toNat) fun k Q rs hb hin => other hb fun j hj hj' => n3.2.2 j hj' j (hin j hj) rfl
  have mid : SubO T1 d (p.kids[i]'h.hi).toNat (p.kids[i]'h.hi).toNat Pi' qs := ⟨hs, q, hq1, hq2, fun z => (z rfl).elim⟩
  have k1 := SufR.glue mid suf fun s e x hx => h.c2 s e x (hq x hx)
  rw [← List.drop_eq_getElem_cons h.hi] at k1
  have k2 := pre.glue k1 fun s hs e he => h.c1 s hs e (by rcases List.mem_append.1 he with z | z; exact List.mem_append.2 (.inl (hq e z)); exact List.mem_append.2 (.inr z))
  rw [List.take_append_drop, List.take_append_drop] at k2
  exact k2
theorem KidsR.noShort {ks : List Int} {ss : List ByteArray} (h : KidsR (SubO T1 d short) ks ss P ps) (hq : ∃ q, T1[short]? = some q ∧ 2 ≤ q.keys.length) : KidsR (SubB T1 d) ks ss P ps :=
  h.imp fun k Q rs hb _ => ⟨hb.1, by
    obtain ⟨q, h1, h2, h3⟩ := hb.2
    by_cases e : k = short
    · subst e; exact hq
    · exact ⟨q, h1, h3 e⟩⟩
end

/-- two kids beside a key, one of which is short -/
structure Pair (T1 : List Pg) (d : Nat) (kids : List Int) (keys : List ByteArray) (j x y : Nat) (s : ByteArray) (P : List Nat) (ps : KV) (short : Nat) (PA : List Nat) (psA : KV) (PX : List Nat) (psX : KV) (PY : List Nat) (psY : KV) (PC : List Nat) (psC : KV) : Prop where
  eP : P = PA ++ (PX ++ (PY ++ PC))
  eps : ps = psA ++ (psX ++ (psY ++ psC))
  pre : PreR (SubB T1 d) (kids.take j) (keys.take j) PA psA
  kx : SubO T1 d short x PX psX
  ky : SubO T1 d short y PY psY
  suf : SufR (SubB T1 d) (kids.drop (j + 2)) (keys.drop (j + 1)) PC psC
  c1 : ∀ t ∈ keys.take j, ∀ e ∈ psX ++ (psY ++ psC), blt e.1 t = false
  c2 : ∀ e ∈ psX, blt e.1 s = true
  c3 : ∀ e ∈ psY ++ psC, blt e.1 s = false
  c4 : ∀ u, (keys.drop (j + 1)).head? = some u → ∀ e ∈ psY, blt e.1 u = true
theorem pair_split {kids : List Int} {keys : List ByteArray} {j : Nat} (h : KidsR (SubO T1 d short) kids keys P ps) (hl : kids.length = keys.length + 1) (hj : j < keys.length) (hnd : P.Nodup)
    (hs : short = (kids[j]'(by omega)).toNat ∨ short = (kids[j + 1]'(by omega)).toNat) :
    ∃ PA psA PX psX PY psY PC psC, Pair T1 d kids keys j (kids[j]'(by omega)).toNat (kids[j + 1]'(by omega)).toNat keys[j] P ps short PA psA PX psX PY psY PC psC := by
  rw [← List.take_append_drop j kids, ← List.take_append_drop j keys] at h
  obtain ⟨PA, psA, P2, ps2, q1, q2, e1, e2, q3⟩ := KidsR.split (by simp; omega) (by simp; omega) h
  rw [List.drop_eq_getElem_cons (by omega : j < kids.length), List.drop_eq_getElem_cons hj, List.drop_eq_getElem_cons (by omega : j + 1 < kids.length)] at q2
  obtain ⟨PX, psX, P3, ps3, r1, r2, e3, e4, r3, r4⟩ := q2
  obtain ⟨PY, psY, PC, psC, t1, t2, e5, e6, t3⟩ := r2.head
  subst e1; subst e2; subst e3; subst e4; subst e5; subst e6
  have n1 := List.nodup_append.1 hnd
  have n2 := List.nodup_append.1 n1.2.1
  have n3 := List.nodup_append.1 n2.2.1
  have ix := r1.1.head
  have iy := t1.1.head
  have sh : ∀ {k : Nat} {Q : List Nat} {rs : KV}, SubO T1 d short k Q rs → k ∉ PX ++ PY → SubB T1 d k Q rs := fun {k Q rs} hb hk => by
    obtain ⟨q, h1, h2, h3⟩ := hb.2
    refine ⟨hb.1, q, h1, h3 fun e => hk ?_⟩
    rcases hs with z | z
    · rw [e, z]; simp [ix]
    · rw [e, z]; simp [iy]
  refine ⟨PA, psA, PX, psX, PY, psY, PC, psC, rfl, rfl, q1.imp fun k Q rs hb hin => sh hb fun z => ?_, r1, t1, t2.imp fun k Q rs hb hin => sh hb fun z => ?_, q3, r3, r4, t3⟩
  · have i1 := hin k hb.1.head
    exact n1.2.2 k i1 k (by rcases List.mem_append.1 z with z | z <;> simp [z]) rfl
  · have i1 := hin k hb.1.head
    rcases List.mem_append.1 z with z | z
    · exact n2.2.2 k z k (by simp [i1]) rfl
    · exact n3.2.2 k z k i1 rfl
section
variable {kids : List Int} {keys : List ByteArray} {j x y : Nat} {s : ByteArray} {PA PX PY PC PZ PX' PY' : List Nat} {psA psX psY psC psX' psY' : KV} {px py : Pg}
theorem erase_kids {j : Nat} (h : j + 1 < kids.length) : kids.eraseIdx (j + 1) = kids.take j ++ (kids[j]'(by omega)) :: kids.drop (j + 2) := by
  rw [List.eraseIdx_eq_take_drop_succ, List.take_succ_eq_append_getElem (by omega), List.append_assoc]; rfl
theorem Pair.joined (h : Pair T1 d kids keys j x y s P ps short PA psA PX psX PY psY PC psC) (pw : Pw keys) (hj : j < keys.length) (es : s = keys[j]) (hnd : P.Nodup)
    (hz : SubB T2 d x PZ (psX ++ psY)) (hT : ∀ i ∈ PA ++ PC, T2[i]? = T1[i]?) (hjk : j < kids.length) (ex : x = (kids[j]'hjk).toNat) :
    KidsR (SubB T2 d) (kids.take j ++ (kids[j]'hjk) :: kids.drop (j + 2)) (keys.eraseIdx j) (PA ++ (PZ ++ PC)) ps := by
  have hps : ps = psA ++ ((psX ++ psY) ++ psC) := by rw [h.eps]; simp
  rw [hps, List.eraseIdx_eq_take_drop_succ]
  rw [ex] at hz
  have suf := h.suf.imp (R' := SubB T2 d) fun k Q rs hb hin => hb.keep fun i hi => hT i (by simp [hin i hi])
  have pre := h.pre.imp (R' := SubB T2 d) fun k Q rs hb hin => hb.keep fun i hi => hT i (by simp [hin i hi])
  refine pre.glue (SufR.glue hz suf fun u hu e he => ?_) fun t ht e he => h.c1 t ht e (by simpa using he)
  rcases List.mem_append.1 he with z | z
  · refine blt_le (h.c2 e z) (blt_asy ?_)
    rw [es]
    have hu' : u ∈ keys.drop (j + 1) := List.mem_of_mem_head? hu
    have := List.pairwise_iff_getElem.1 pw
    obtain ⟨m, hm, e'⟩ := List.getElem_of_mem hu'
    rw [List.getElem_drop] at e'
    rw [← e']
    exact this j (j + 1 + m) hj (by simp at hm; omega) (by omega)
  · exact h.c4 u hu e z
theorem Pair.shared (h : Pair T1 d kids keys j x y s P ps short PA psA PX psX PY psY PC psC) (hj : j < keys.length) (hl : kids.length = keys.length + 1) {s' : ByteArray}
    (hx : SubB T2 d x PX' psX') (hy : SubB T2 d y PY' psY') (hXY : psX' ++ psY' = psX ++ psY) (lt : ∀ e ∈ psX', blt e.1 s' = true) (ge : ∀ e ∈ psY', blt e.1 s' = false) (hT : ∀ i ∈ PA ++ PC, T2[i]? = T1[i]?) (ex : x = (kids[j]'(by omega)).toNat) (ey : y = (kids[j + 1]'(by omega)).toNat) (pw : Pw keys) (es : s = keys[j]) :
    KidsR (SubB T2 d) kids (keys.set j s') (PA ++ (PX' ++ (PY' ++ PC))) ps ∧ Pw (keys.set j s') := by
  have hps : ps = psA ++ (psX' ++ (psY' ++ psC)) := by rw [h.eps, ← List.append_assoc psX psY, ← hXY]; simp
  have suf := h.suf.imp (R' := SubB T2 d) fun k Q rs hb hin => hb.keep fun i hi => hT i (by simp [hin i hi])
  have pre := h.pre.imp (R' := SubB T2 d) fun k Q rs hb hin => hb.keep fun i hi => hT i (by simp [hin i hi])
  have hk : kids = kids.take j ++ (kids[j]'(by omega)) :: (kids[j + 1]'(by omega)) :: kids.drop (j + 2) := by
    rw [List.getElem_cons_drop, List.getElem_cons_drop, List.take_append_drop]
  have hks : keys.set j s' = keys.take j ++ s' :: keys.drop (j + 1) := by rw [List.set_eq_take_append_cons_drop, if_pos hj]
  have allX : ∀ e ∈ psX' ++ (psY' ++ psC), e ∈ psX ++ (psY ++ psC) := fun e he => by
    rw [← List.append_assoc, hXY, List.append_assoc] at he; exact he
  have ltY : ∀ u, (keys.drop (j + 1)).head? = some u → ∀ e ∈ psX ++ psY, blt e.1 u = true := fun u hu e he => by
    rcases List.mem_append.1 he with z | z
    · refine blt_le (h.c2 e z) (blt_asy ?_)
      rw [es]
      have hu' : u ∈ keys.drop (j + 1) := List.mem_of_mem_head? hu
      obtain ⟨m, hm, e'⟩ := List.getElem_of_mem hu'
      rw [List.getElem_drop] at e'
      rw [← e']
      exact List.pairwise_iff_getElem.1 pw j (j + 1 + m) hj (by simp at hm; omega) (by omega)
    · exact h.c4 u hu e z
  have geC : ∀ e ∈ psC, blt e.1 s' = false := fun e he => by
    obtain ⟨u, hu, z⟩ := h.suf.ge e he
    -- s' is below every key behind it
    obtain ⟨y0, hy0⟩ := List.exists_mem_of_ne_nil _ hy.ne
    cases hd : keys.drop (j + 1) with
    | nil => rw [hd] at hu; cases hu
    | cons v vs =>
      have hv : (keys.drop (j + 1)).head? = some v := by rw [hd]; rfl
      have h1 : blt y0.1 v = true := ltY v hv y0 (by rw [← hXY]; simp [hy0])
      have h2 : blt s' v = true := le_blt (ge y0 hy0) h1
      have suf' := h.suf
      rw [hd] at suf'
      exact le_le (blt_asy h2) (suf'.2 e he)
  have mid : KidsR (SubB T2 d) ((kids[j]'(by omega)) :: (kids[j + 1]'(by omega)) :: kids.drop (j + 2)) (s' :: keys.drop (j + 1)) (PX' ++ (PY' ++ PC)) (psX' ++ (psY' ++ psC)) := by
    refine ⟨PX', psX', PY' ++ PC, psY' ++ psC, by rw [← ex]; exact hx, SufR.glue (by rw [← ey]; exact hy) suf fun u hu e he => ltY u hu e (by rw [← hXY]; simp [he]), rfl, rfl, lt, fun e he => ?_⟩
    rcases List.mem_append.1 he with z | z
    · exact ge e z
    · exact geC e z
  refine ⟨?_, ?_⟩
  · rw [hks, hps]
    have := pre.glue mid fun t ht e he => h.c1 t ht e (allX e he)
    rw [← hk] at this
    exact this
  · rw [hks]
    have pws : Pw (keys.take j ++ keys[j] :: keys.drop (j + 1)) := by rw [List.getElem_cons_drop, List.take_append_drop]; exact pw
    have q1 := List.pairwise_append.1 pws
    have q2 := List.pairwise_cons.1 q1.2.1
    obtain ⟨x0, hx0⟩ := List.exists_mem_of_ne_nil _ hx.ne
    obtain ⟨y0, hy0⟩ := List.exists_mem_of_ne_nil _ hy.ne
    refine List.pairwise_append.2 ⟨q1.1, List.pairwise_cons.2 ⟨fun u hu => ?_, q2.2⟩, fun t ht u hu => ?_⟩
    · cases hd : keys.drop (j + 1) with
      | nil => rw [hd] at hu; cases hu
      | cons v vs =>
        have hv : (keys.drop (j + 1)).head? = some v := by rw [hd]; rfl
        have h1 : blt y0.1 v = true := ltY v hv y0 (by rw [← hXY]; simp [hy0])
        have h2 : blt s' v = true := le_blt (ge y0 hy0) h1
        rw [hd] at hu q2
        rcases List.mem_cons.1 hu with z | z
        · rw [z]; exact h2
        · exact blt_le h2 (blt_asy ((List.pairwise_cons.1 q2.2).1 u z))
    · rcases List.mem_cons.1 hu with z | z
      · rw [z]
        have := h.c1 t ht x0 (by have : x0 ∈ psX ++ psY := by rw [← hXY]; simp [hx0]
                                 simp at this ⊢; rcases this with w | w <;> simp [w])
        exact le_blt this (lt x0 hx0)
      · exact q1.2.2 t ht u (List.mem_cons_of_mem _ z)
end
end
end Go.Am
namespace Go.Am

section
variable {T T1 T2 : List Pg} {D d a short j x y : Nat} {p px py : Pg} {key : ByteArray} {P Q : List Nat} {ps qs : KV}
theorem inner_erase (hm : MayP p) (hl : p.leaf = false) {j : Nat} (hj : j < p.keys.length) (h2 : 2 ≤ p.keys.length) : MayP ⟨p.used, p.leaf, p.keys.eraseIdx j, p.vals, p.kids.eraseIdx (j + 1)⟩ := by
  obtain ⟨f1, f2, f3, f4, f5⟩ := hm.2.inner hl
  have h4 := hm.1
  have e1 : (p.keys.eraseIdx j).length = p.keys.length - 1 := by rw [List.length_eraseIdx, if_pos hj]
  have e2 : (p.kids.eraseIdx (j + 1)).length = p.kids.length - 1 := by rw [List.length_eraseIdx, if_pos (by omega)]
  refine ⟨by show (p.keys.eraseIdx j).length ≤ 4; omega, hm.2.used, pw_rising ((rising_pw hm.2.rising).sublist (List.eraseIdx_sublist _ _)), fun k hk => hm.2.keys k (mem_erase hk), fun q => ?_, fun _ => ⟨?_, f2, ?_, fun k hk => f4 k (mem_erase hk), f5.sublist (List.eraseIdx_sublist _ _)⟩⟩
  · have q' : p.leaf = true := q
    rw [hl] at q'; cases q'
  · show 1 ≤ (p.keys.eraseIdx j).length; omega
  · show (p.kids.eraseIdx (j + 1)).length = (p.keys.eraseIdx j).length + 1; omega
theorem inner_set (hm : MayP p) (hl : p.leaf = false) {j : Nat} {s : ByteArray} (hs : 1 ≤ s.size ∧ s.size ≤ 6) (pw : Pw (p.keys.set j s)) : MayP ⟨p.used, p.leaf, p.keys.set j s, p.vals, p.kids⟩ := by
  obtain ⟨f1, f2, f3, f4, f5⟩ := hm.2.inner hl
  have h4 := hm.1
  refine ⟨by show (p.keys.set j s).length ≤ 4; simp; omega, hm.2.used, pw_rising pw, fun k hk => ?_, fun q => ?_, fun _ => ⟨by show 1 ≤ (p.keys.set j s).length; simp; omega, f2, by show p.kids.length = (p.keys.set j s).length + 1; simp; omega, f4, f5⟩⟩
  · rcases List.mem_or_eq_of_mem_set hk with q | q
    · exact hm.2.keys k q
    · rw [q]; exact hs
  · have q' : p.leaf = true := q
    rw [hl] at q'; cases q'
theorem joined_len (hl : px.leaf = py.leaf) (s : ByteArray) : (joinP px s py).keys.length = px.keys.length + py.keys.length + (match px.leaf with | true => 0 | false => 1) := by
  unfold joinP
  cases px.leaf <;> simp <;> omega
theorem mend_join (hK : KidsR (SubO T1 d short) p.kids p.keys Q qs) (hm : MayP p) (hl : p.leaf = false) (hQ : Q.Nodup) (hj : j < p.keys.length) (hjk : j + 1 < p.kids.length)
    (hs : short = (p.kids[j]'(by omega)).toNat ∨ short = (p.kids[j + 1]'hjk).toNat) (hx : T1[(p.kids[j]'(by omega)).toNat]? = some px) (hy : T1[(p.kids[j + 1]'hjk).toNat]? = some py) :
    (joinP px p.keys[j] py).keys.length ≤ 6 + (match decide (px.keys.length = 1 ∨ py.keys.length = 1) with | true => 0 | false => 4) ∧ FitsP (joinP px p.keys[j] py) ∧ (CanJoin px p.keys[j] py ↔ (joinP px p.keys[j] py).keys.length ≤ 4) ∧ (p.kids[j]'(by omega)).toNat ≠ (p.kids[j + 1]'hjk).toNat ∧ (p.kids[j]'(by omega)).toNat ∈ Q ∧ (p.kids[j + 1]'hjk).toNat ∈ Q ∧
    ((joinP px p.keys[j] py).keys.length ≤ 4 → T2[(p.kids[j]'(by omega)).toNat]? = some (joinP px p.keys[j] py) → (∀ i ∈ Q, i ≠ (p.kids[j]'(by omega)).toNat → i ≠ (p.kids[j + 1]'hjk).toNat → T2[i]? = T1[i]?) →
      ∃ Q', Q'.Nodup ∧ (∀ i ∈ Q', i ∈ Q) ∧ (∀ i ∈ Q, i ∉ Q' → i = (p.kids[j + 1]'hjk).toNat) ∧ KidsR (SubB T2 d) (p.kids.eraseIdx (j + 1)) (p.keys.eraseIdx j) Q' qs) ∧
    (5 ≤ (joinP px p.keys[j] py).keys.length → (px.keys.length = 1 ∨ py.keys.length = 1) →
      ∃ hk : (joinP px p.keys[j] py).keys.length / 2 < (joinP px p.keys[j] py).keys.length, MayP (cutL (joinP px p.keys[j] py) ((joinP px p.keys[j] py).keys.length / 2)) ∧ MayP (cutR (joinP px p.keys[j] py) ((joinP px p.keys[j] py).keys.length / 2)) ∧ (1 ≤ ((joinP px p.keys[j] py).keys[(joinP px p.keys[j] py).keys.length / 2]'hk).size ∧ ((joinP px p.keys[j] py).keys[(joinP px p.keys[j] py).keys.length / 2]'hk).size ≤ 6) ∧
      (T2[(p.kids[j]'(by omega)).toNat]? = some (cutL (joinP px p.keys[j] py) ((joinP px p.keys[j] py).keys.length / 2)) → T2[(p.kids[j + 1]'hjk).toNat]? = some (cutR (joinP px p.keys[j] py) ((joinP px p.keys[j] py).keys.length / 2)) →
        (∀ i ∈ Q, i ≠ (p.kids[j]'(by omega)).toNat → i ≠ (p.kids[j + 1]'hjk).toNat → T2[i]? = T1[i]?) →
        ∃ Q', Q'.Nodup ∧ (∀ i, i ∈ Q' ↔ i ∈ Q) ∧ KidsR (SubB T2 d) p.kids (p.keys.set j ((joinP px p.keys[j] py).keys[(joinP px p.keys[j] py).keys.length / 2]'hk)) Q' qs ∧ Pw (p.keys.set j ((joinP px p.keys[j] py).keys[(joinP px p.keys[j] py).keys.length / 2]'hk)))) := by
  obtain ⟨f1, f2, f3, f4, f5⟩ := hm.2.inner hl
  have pw := rising_pw hm.2.rising
  obtain ⟨PA, psA, PX, psX, PY, psY, PC, psC, pr⟩ := pair_split hK f3 hj hQ hs
  have hQ' := hQ
  rw [pr.eP] at hQ'
  have n1 := List.nodup_append.1 hQ'
  have n2 := List.nodup_append.1 n1.2.1
  have n3 := List.nodup_append.1 n2.2.1
  have nXY : (PX ++ PY).Nodup := List.nodup_append.2 ⟨n2.1, n3.1, fun u hu v hv => n2.2.2 u hu v (by simp [hv])⟩
  have hX := pr.kx.1
  have hY := pr.ky.1
  have ix := hX.head
  have iy := hY.head
  have hsz := hm.2.keys _ (List.getElem_mem hj)
  have hleaf := join_leaf hX hY hx hy
  have geY : ∀ e ∈ psY, blt e.1 p.keys[j] = false := fun e he => pr.c3 e (by simp [he])
  have hf := join_fits hX hY hx hy nXY hsz pr.c2 geY
  have hc := join_can (s := p.keys[j]) hX hY hx hy hf
  have hne : (p.kids[j]'(by omega)).toNat ≠ (p.kids[j + 1]'hjk).toNat := fun e => (List.nodup_append.1 nXY).2.2 _ ix _ iy e
  have mx := hX.may hx
  have my := hY.may hy
  have m1 := mx.1
  have m2 := my.1
  obtain ⟨qx, hqx, x1, x2⟩ := pr.kx.2
  obtain ⟨qy, hqy, y1, y2⟩ := pr.ky.2
  rw [hx] at hqx; cases hqx
  rw [hy] at hqy; cases hqy
  have jl := joined_len hleaf p.keys[j]
  have inQ : ∀ i, i ∈ Q ↔ (i ∈ PA ∨ i ∈ PX ∨ i ∈ PY ∨ i ∈ PC) := fun i => by rw [pr.eP]; simp
  refine ⟨?_, hf, hc, hne, (inQ _).2 (by simp [ix]), (inQ _).2 (by simp [iy]), fun h4 hx2 hT => ?_, fun h5 hsh => ?_⟩
  · rw [jl]
    by_cases e : px.keys.length = 1 ∨ py.keys.length = 1
    · rw [decide_eq_true e]; cases px.leaf <;> simp <;> omega
    · rw [decide_eq_false e]; cases px.leaf <;> simp <;> omega
  · have hmj : MayP (joinP px p.keys[j] py) := ⟨h4, hf⟩
    obtain ⟨PZ, z1, z2, z3, z4, z5⟩ := join_sub (T' := T2) hX hY hx hy nXY pr.c2 geY hmj (fun i hi h1 h2 => hT i ((inQ i).2 (by simp at hi; rcases hi with q | q <;> simp [q])) h1 h2) hx2
    have hz : SubB T2 d (p.kids[j]'(by omega)).toNat PZ (psX ++ psY) := ⟨z1, _, hx2, by rw [jl]; cases px.leaf <;> simp <;> omega⟩
    have apart : ∀ i ∈ PA ++ PC, i ∉ PX ++ PY := fun i hi hi' => by
      rcases List.mem_append.1 hi with q | q
      · rcases List.mem_append.1 hi' with z | z
        · exact n1.2.2 i q i (by simp [z]) rfl
        · exact n1.2.2 i q i (by simp [z]) rfl
      · rcases List.mem_append.1 hi' with z | z
        · exact n2.2.2 i z i (by simp [q]) rfl
        · exact n3.2.2 i z i q rfl
    have keep : ∀ i ∈ PA ++ PC, T2[i]? = T1[i]? := fun i hi => hT i ((inQ i).2 (by simp at hi; rcases hi with q | q <;> simp [q])) (fun e => apart i hi (by rw [e]; simp [ix])) (fun e => apart i hi (by rw [e]; simp [iy]))
    have kk := pr.joined pw hj rfl hQ hz keep (by omega) rfl
    rw [← erase_kids hjk] at kk
    refine ⟨PA ++ (PZ ++ PC), ?_, fun i hi => ?_, fun i hi hi' => ?_, kk⟩
    · refine List.nodup_append.2 ⟨n1.1, List.nodup_append.2 ⟨z2, n3.2.1, fun u hu v hv e => ?_⟩, fun u hu v hv e => ?_⟩
      · subst e; exact apart u (by simp [hv]) (z3 u hu)
      · subst e
        rcases List.mem_append.1 hv with q | q
        · exact apart u (by simp [hu]) (z3 u q)
        · exact n1.2.2 u hu u (by simp [q]) rfl
    · rw [inQ]
      simp only [List.mem_append] at hi
      rcases hi with q | q | q
      · exact .inl q
      · have := z3 i q
        simp only [List.mem_append] at this
        rcases this with w | w <;> simp [w]
      · simp [q]
    · rw [inQ] at hi
      simp only [List.mem_append, not_or] at hi'
      refine Decidable.byContradiction fun e => ?_
      rcases hi with q | q | q | q
      · exact hi'.1 q
      · exact hi'.2.1 (z5 i (by simp [q]) e)
      · exact hi'.2.1 (z5 i (by simp [q]) e)
      · exact hi'.2.2 q
  · have l6 : (joinP px p.keys[j] py).keys.length ≤ 6 := by rw [jl]; cases px.leaf <;> simp <;> omega
    have hk : (joinP px p.keys[j] py).keys.length / 2 < (joinP px p.keys[j] py).keys.length := by omega
    have hleafJ : (joinP px p.keys[j] py).leaf = px.leaf := rfl
    have lR : 1 ≤ (cutR (joinP px p.keys[j] py) ((joinP px p.keys[j] py).keys.length / 2)).keys.length ∧ 2 ≤ (cutR (joinP px p.keys[j] py) ((joinP px p.keys[j] py).keys.length / 2)).keys.length ∧ (cutR (joinP px p.keys[j] py) ((joinP px p.keys[j] py).keys.length / 2)).keys.length ≤ 4 := by
      unfold cutR
      rw [hleafJ]
      cases hpl : px.leaf with
      | true =>
        rw [hpl] at jl
        simp only [Nat.add_zero] at jl
        simp only [List.length_drop]
        omega
      | false => simp only [List.length_drop]; omega
    have lL : (cutL (joinP px p.keys[j] py) ((joinP px p.keys[j] py).keys.length / 2)).keys.length = (joinP px p.keys[j] py).keys.length / 2 := by
      unfold cutL
      rw [hleafJ]
      cases px.leaf <;> (simp only [List.length_take]; omega)
    refine ⟨hk, ⟨by omega, fits_cutL hf hk (by omega)⟩, ⟨lR.2.2, fits_cutR hf lR.1⟩, hf.keys _ (List.getElem_mem hk), fun hx2 hy2 hT => ?_⟩
    obtain ⟨PX', psX', PY', psY', w1, w2, w3, w4, w5, w6, w7⟩ := cut_sub (T' := T2) hX hY hx hy nXY hsz pr.c2 geY hk (by omega) (by omega) lR.1 lR.2.2 (fun i hi h1 h2 => hT i ((inQ i).2 (by simp at hi; rcases hi with q | q <;> simp [q])) h1 h2) hx2 hy2
    have apart : ∀ i ∈ PA ++ PC, i ∉ PX ++ PY := fun i hi hi' => by
      rcases List.mem_append.1 hi with q | q
      · rcases List.mem_append.1 hi' with z | z
        · exact n1.2.2 i q i (by simp [z]) rfl
        · exact n1.2.2 i q i (by simp [z]) rfl
      · rcases List.mem_append.1 hi' with z | z
        · exact n2.2.2 i z i (by simp [q]) rfl
        · exact n3.2.2 i z i q rfl
    have keep : ∀ i ∈ PA ++ PC, T2[i]? = T1[i]? := fun i hi => hT i ((inQ i).2 (by simp at hi; rcases hi with q | q <;> simp [q])) (fun e => apart i hi (by rw [e]; simp [ix])) (fun e => apart i hi (by rw [e]; simp [iy]))
    obtain ⟨kk, kp⟩ := pr.shared hj f3 (T2 := T2) ⟨w1, _, hx2, by omega⟩ ⟨w2, _, hy2, lR.2.1⟩ w3 w6 w7 keep rfl rfl pw rfl
    have n4 := List.nodup_append.1 w4
    refine ⟨_, ?_, fun i => ?_, kk, kp⟩
    · refine List.nodup_append.2 ⟨n1.1, List.nodup_append.2 ⟨n4.1, List.nodup_append.2 ⟨n4.2.1, n3.2.1, fun u hu v hv e => ?_⟩, fun u hu v hv e => ?_⟩, fun u hu v hv e => ?_⟩
      · subst e; exact apart u (by simp [hv]) ((w5 u).1 (by simp [hu]))
      · subst e
        rcases List.mem_append.1 hv with q | q
        · exact n4.2.2 u hu u q rfl
        · exact apart u (by simp [q]) ((w5 u).1 (by simp [hu]))
      · subst e
        rcases List.mem_append.1 hv with q | q
        · exact apart u (by simp [hu]) ((w5 u).1 (by simp [q]))
        · rcases List.mem_append.1 q with q | q
          · exact apart u (by simp [hu]) ((w5 u).1 (by simp [q]))
          · exact n1.2.2 u hu u (by simp [q]) rfl
    · rw [inQ]
      have := w5 i
      simp only [List.mem_append] at this ⊢
      constructor
      · rintro (q | q | q | q)
        · simp [q]
        · rcases this.1 (.inl q) with w | w <;> simp [w]
        · rcases this.1 (.inr q) with w | w <;> simp [w]
        · simp [q]
      · rintro (q | q | q | q)
        · simp [q]
        · rcases this.2 (.inl q) with w | w <;> simp [w]
        · rcases this.2 (.inr q) with w | w <;> simp [w]
        · simp [q]
end
end Go.Am
namespace Go.Am

/-- a tree that an eraser works on: its rows are all its own; pages of X stand as they were copied -/
structure CM (B H : Hp) (le tp : Nat) (ds : List PC) (T : List Pg) (X : Nat → Prop) : Prop where
  pre : B <+: H
  ot : OT H B.length tPg (some (tp, 0)) 48 ds T
  wo : ∀ i (h : i < ds.length), WoP H B.length 1000 ds[i]
  base : ∀ i (h : i < ds.length) l, (ds[i]).on l → B.length ≤ l
  own : ∀ i (h : i < ds.length) (h' : i < T.length), X i → (ds[i]).own H B.length T[i]
  ap : ∀ i j (hi : i < ds.length) (hj : j < ds.length), i ≠ j → ∀ l, (ds[i]).on l → ¬ (ds[j]).on l
  er : H[le]? = some (.row true tEraser [.sl (some (tp, 0)) 48 5])
  erB : B.length ≤ le
  offE : ∀ i (h : i < ds.length), ¬ (ds[i]).on le
section
variable {B H H' : Hp} {le tp : Nat} {ds : List PC} {T : List Pg} {X X' : Nat → Prop} {i : Nat} {c : PC} {p : Pg}
theorem CM.ne (g : CM B H le tp ds T X) : le ≠ tp := fun e => by
  have h1 := g.er
  have h2 := g.ot.at_row.2
  rw [e, h2] at h1
  simp at h1
  exact absurd h1.1 (by decide)
theorem CM.gtE (g : CM B H le tp ds T X) : gt H le 0 = some (.sl (some (tp, 0)) 48 5) := by rw [gt_some g.er]; rfl
theorem CM.mono (g : CM B H le tp ds T X) (hp : H <+: H') : CM B H' le tp ds T X := by
  have lt : ∀ i (h : i < ds.length) l, (ds[i]).on l → l < H.length := fun i h l hl => g.ot.onlt (List.getElem_mem h) hl
  refine ⟨g.pre.trans hp, g.ot.mono hp, fun i h => ?_, g.base, fun i h h' hx => (g.own i h h' hx).keep fun l hl => pre_at hp (lt i h l hl), g.ap, by rw [pre_at hp (List.getElem?_eq_some_iff.1 g.er).1]; exact g.er, g.erB, g.offE⟩
  have w := g.wo i h
  have k1 : ∀ {a n M}, TxR H B.length M a n → TxR H' B.length M a n := fun h => by
    rcases h with h | ⟨l, o, xs, e, h1, h2, h3, h4⟩
    · exact .inl h
    · exact .inr ⟨l, o, xs, e, h1, by unfold SRow; rw [pre_at hp (List.getElem?_eq_some_iff.1 h2).1]; exact h2, h3, h4⟩
  have k2 : ∀ {a n}, NuR H B.length a n → NuR H' B.length a n := fun h => by
    rcases h with h | ⟨l, o, xs, e, h1, h2, h3⟩
    · exact .inl h
    · exact .inr ⟨l, o, xs, e, h1, by unfold IRow; rw [pre_at hp (List.getElem?_eq_some_iff.1 h2).1]; exact h2, h3⟩
  exact ⟨k1 w.t1, k1 w.t2, k2 w.t3, w.s1, w.s2, w.s3⟩
theorem WoP.keepOn {b M : Nat} (w : WoP H b M c) (hk : ∀ l, c.on l → H'[l]? = H[l]?) : WoP H' b M c := by
  refine ⟨?_, ?_, ?_, w.s1, w.s2, w.s3⟩
  · rcases w.t1 with h | ⟨l, o, xs, e, h1, h2, h3, h4⟩
    · exact .inl h
    · exact .inr ⟨l, o, xs, e, h1, by unfold SRow; rw [hk l ⟨o, .inl e⟩]; exact h2, h3, h4⟩
  · rcases w.t2 with h | ⟨l, o, xs, e, h1, h2, h3, h4⟩
    · exact .inl h
    · exact .inr ⟨l, o, xs, e, h1, by unfold SRow; rw [hk l ⟨o, .inr (.inl e)⟩]; exact h2, h3, h4⟩
  · rcases w.t3 with h | ⟨l, o, xs, e, h1, h2, h3⟩
    · exact .inl h
    · exact .inr ⟨l, o, xs, e, h1, by unfold IRow; rw [hk l ⟨o, .inr (.inr e)⟩]; exact h2, h3⟩
/-- a page turned -/
theorem CM.turn (g : CM B H le tp ds T X) (hi : i < ds.length) (hlen : H.length ≤ H'.length) (hkeep : ∀ l, l < H.length → ¬ (ds[i]).on l → l ≠ tp → H'[l]? = H[l]?)
    (hrow : H'[tp]? = some (.row true tPg (pcells (ds.set i c)))) (hc : c.at H' p) (hw : WoP H' B.length 1000 c)
    (hon : ∀ l, c.on l → l ≠ tp ∧ l ≠ le ∧ B.length ≤ l ∧ ∀ j (hj : j < ds.length), j ≠ i → ¬ (ds[j]).on l) (hX : ∀ j, X' j → (j = i ∧ c.own H' B.length p) ∨ (j ≠ i ∧ X j)) :
    CM B H' le tp (ds.set i c) (T.set i p) X' := by
  have q1 := g.ot.len
  have q2 := g.ot.lenT
  obtain ⟨hb, hr⟩ := g.ot.at_row
  have htp := (List.getElem?_eq_some_iff.1 hr).1
  have lt : ∀ j (h : j < ds.length) l, (ds[j]).on l → l < H.length := fun j h l hl => g.ot.onlt (List.getElem_mem h) hl
  have other : ∀ j (h : j < ds.length), j ≠ i → ∀ l, (ds[j]).on l → H'[l]? = H[l]? := fun j h hne l hl => hkeep l (lt j h l hl) (g.ap j i h hi hne l hl) (fun e => g.ot.off _ (List.getElem_mem h) l hl (by rw [e]))
  have hpre : B <+: H' := by
    rw [List.prefix_iff_eq_take]
    apply List.ext_getElem?
    intro l
    rw [List.getElem?_take]
    split
    · rename_i hl
      have := g.pre.length_le
      rw [hkeep l (by omega) (fun h => by have := g.base i hi l h; omega) (by omega), pre_at g.pre hl]
    · rename_i hl
      exact List.getElem?_eq_none (by omega)
  refine ⟨hpre, ⟨.inr ⟨tp, rfl, hb, hrow, by rw [pcells_length]; simp [q1]⟩, by simp [q1], by simp [q2], fun j h1 h2 => ?_, fun d hd l hl e => ?_⟩, fun j h => ?_, fun j h l hl => ?_, fun j h h' hx => ?_, fun j k hj hk hne l h1 h2 => ?_, ?_, g.erB, fun j h hl => ?_⟩
  · rw [List.getElem_set, List.getElem_set]
    by_cases e : i = j
    · rw [if_pos e, if_pos e]; exact hc
    · rw [if_neg e, if_neg e]
      simp at h1 h2
      exact (g.ot.all j h1 h2).keep (other j h1 (Ne.symm e))
  · cases e
    rcases List.mem_or_eq_of_mem_set hd with q | q
    · exact g.ot.off d q tp hl rfl
    · subst q; exact (hon tp hl).1 rfl
  · rw [List.getElem_set]
    by_cases e : i = j
    · rw [if_pos e]; exact hw
    · rw [if_neg e]; simp at h; exact (g.wo j h).keepOn (other j h (Ne.symm e))
  · rw [List.getElem_set] at hl
    by_cases e : i = j
    · rw [if_pos e] at hl; exact (hon l hl).2.2.1
    · rw [if_neg e] at hl; simp at h; exact g.base j h l hl
  · rw [List.getElem_set, List.getElem_set]
    rcases hX j hx with ⟨e, ho⟩ | ⟨e, hx'⟩
    · rw [if_pos e.symm, if_pos e.symm]; exact ho
    · rw [if_neg (Ne.symm e), if_neg (Ne.symm e)]
      simp at h h'
      exact (g.own j h h' hx').keep (other j h e)
  · rw [List.getElem_set] at h1 h2
    simp at hj hk
    by_cases e1 : i = j
    · rw [if_pos e1] at h1
      by_cases e2 : i = k
      · omega
      · rw [if_neg e2] at h2
        exact (hon l h1).2.2.2 k hk (Ne.symm e2) h2
    · rw [if_neg e1] at h1
      by_cases e2 : i = k
      · rw [if_pos e2] at h2
        exact (hon l h2).2.2.2 j hj (Ne.symm e1) h1
      · rw [if_neg e2] at h2
        exact g.ap j k hj hk hne l h1 h2
  · rw [hkeep le (List.getElem?_eq_some_iff.1 g.er).1 (g.offE i hi) g.ne]; exact g.er
  · rw [List.getElem_set] at hl
    by_cases e : i = j
    · rw [if_pos e] at hl; exact (hon le hl).2.1 rfl
    · rw [if_neg e] at hl; simp at h; exact g.offE j h hl
/-- a page laid in anew -/
theorem CM.lay (g : CM B H le tp ds T X) (hi : i < ds.length) (hc : c.at H p) (hw : WoP H B.length 1000 c) (hon : ∀ l, c.on l → l ≠ tp ∧ l ≠ le ∧ B.length ≤ l ∧ ∀ j (hj : j < ds.length), j ≠ i → ¬ (ds[j]).on l) {K : Hp → Prop}
    (hK : ∀ H', CM B H' le tp (ds.set i c) (T.set i p) (fun j => j ≠ i ∧ X j) → H'.length = H.length → (∀ l, l ≠ tp → H'[l]? = H[l]?) → K H') :
    wr H tp (0 + i * 5) (.bool c.u) fun H1 => wr H1 tp (0 + i * 5 + 1) (.bool c.l) fun H2 => wr H2 tp (0 + i * 5 + 1 + 1) (.sl c.a1 c.n1 1) fun H3 => wr H3 tp (0 + i * 5 + 1 + 1 + 1) (.sl c.a2 c.n2 1) fun H4 => wr H4 tp (0 + i * 5 + 1 + 1 + 1 + 1) (.sl c.a3 c.n3 1) K := by
  obtain ⟨hb, hr⟩ := g.ot.at_row
  have htp := (List.getElem?_eq_some_iff.1 hr).1
  rw [Nat.zero_add]
  have kp : ∀ l, l ≠ tp → (H.set tp (.row true tPg (pcells (ds.set i c))))[l]? = H[l]? := fun l hl => by rw [List.getElem?_set_ne (Ne.symm hl)]
  refine wr5 hr hi (hK _ (g.turn hi (by simp) (fun l _ _ hl => kp l hl) (List.getElem?_set_self htp) (hc.keep fun l hl => kp l (hon l hl).1) (hw.keepOn fun l hl => kp l (hon l hl).1) hon fun j hj => .inr hj) (by simp) kp)
theorem no_at (H : Hp) : (⟨false, false, none, 0, none, 0, none, 0⟩ : PC).at H noPg := noPg_at H
theorem no_wo (H : Hp) (b M : Nat) : WoP H b M ⟨false, false, none, 0, none, 0, none, 0⟩ := ⟨.inl rfl, .inl rfl, .inl rfl, by show 0 ≤ 1000; omega, by show 0 ≤ 1000; omega, by show 0 ≤ 1000; omega⟩
theorem no_on {l : Nat} : ¬ (⟨false, false, none, 0, none, 0, none, 0⟩ : PC).on l := by rintro ⟨o, q | q | q⟩ <;> cases q

theorem own_row {t : TypeId} {b : Nat} {a : Pl} {n : Nat} {cs : List GV} (h : Own H b t a n cs) (hn : 0 < n) : ∃ l, a = some (l, 0) ∧ b ≤ l ∧ H[l]? = some (.row true t cs) ∧ cs.length = n := by
  rcases h with ⟨_, q, _⟩ | ⟨l, e, hb, hr, hl⟩
  · omega
  · exact ⟨l, e, hb, hr, hl⟩
theorem tx_erase {b l i : Nat} {xs : List ByteArray} {n : Nat} (hb : b ≤ l) (hr : SRow H l (xs.eraseIdx i ++ [mkS []])) (hn : xs.length = n) (hi : i < n) (hs : ∀ s ∈ xs, s.size ≤ 1000) : TxR H b 1000 (some (l, 0)) (n - 1) := by
  refine .inr ⟨l, 0, _, rfl, hb, hr, ?_, fun x hx => ?_⟩
  · rw [List.length_append, List.length_eraseIdx, if_pos (by omega)]; simp; omega
  · rcases List.mem_append.1 hx with q | q
    · exact hs x (mem_erase q)
    · rw [List.mem_singleton.1 q]; decide
theorem ss_erase {l i : Nat} {xs : List ByteArray} {n : Nat} (hr : SRow H l (xs.eraseIdx i ++ [mkS []])) (hn : xs.length = n) (hi : i < n) (hlim : n ≤ 1000) : Ss H (some (l, 0)) (n - 1) (xs.eraseIdx i) := by
  have e : (xs.eraseIdx i).length = n - 1 := by rw [List.length_eraseIdx, if_pos (by omega)]; omega
  refine ⟨?_, e.symm, by omega⟩
  simp only [cells?, hr]
  rw [if_pos (by simp [e])]
  simp only [List.drop_zero, List.map_append]
  rw [List.take_left' (by simp [e])]
theorem is_erase {l i : Nat} {xs : List Int} {n : Nat} (hr : IRow H l (xs.eraseIdx i ++ [0])) (hn : xs.length = n) (hi : i < n) (hlim : n ≤ 1000) : Is H (some (l, 0)) (n - 1) (xs.eraseIdx i) := by
  have e : (xs.eraseIdx i).length = n - 1 := by rw [List.length_eraseIdx, if_pos (by omega)]; omega
  refine ⟨?_, e.symm, by omega⟩
  simp only [cells?, hr]
  rw [if_pos (by simp [e])]
  simp only [List.drop_zero, List.map_append]
  rw [List.take_left' (by simp [e])]
end
end Go.Am
namespace Go.Am

section
variable {B H H' : Hp} {le tp : Nat} {ds : List PC} {T : List Pg} {X : Nat → Prop} {i : Nat} {p : Pg} {Q : Post}
theorem wr_23 {b1 b2 : Pl} {m1 m2 : Nat} {K : Hp → Prop} (hr : H[tp]? = some (.row true tPg (pcells ds))) (hi : i < ds.length) (hK : K (H.set tp (.row true tPg (pcells (ds.set i ⟨ds[i].u, ds[i].l, b1, m1, b2, m2, ds[i].a3, ds[i].n3⟩))))) :
    wr H tp (0 + i * 5 + 2) (.sl b1 m1 1) fun H2 => wr H2 tp (0 + i * 5 + 3) (.sl b2 m2 1) K := by
  have htp := (List.getElem?_eq_some_iff.1 hr).1
  rw [Nat.zero_add]
  refine wr_row hr (by rw [pcells_length]; omega) ?_
  rw [pcells_set1 ds i 2 _ ⟨ds[i].u, ds[i].l, b1, m1, ds[i].a2, ds[i].n2, ds[i].a3, ds[i].n3⟩ hi (by omega) rfl]
  refine wr_row (List.getElem?_set_self htp) (by rw [pcells_length]; simp; omega) ?_
  rw [pcells_set1 _ i 3 _ ⟨ds[i].u, ds[i].l, b1, m1, b2, m2, ds[i].a3, ds[i].n3⟩ (by simpa using hi) (by omega) (by rw [List.getElem_set_self]; rfl), List.set_set, List.set_set]
  exact hK
theorem wr_24 {b1 b2 : Pl} {m1 m2 : Nat} {K : Hp → Prop} (hr : H[tp]? = some (.row true tPg (pcells ds))) (hi : i < ds.length) (hK : K (H.set tp (.row true tPg (pcells (ds.set i ⟨ds[i].u, ds[i].l, b1, m1, ds[i].a2, ds[i].n2, b2, m2⟩))))) :
    wr H tp (0 + i * 5 + 2) (.sl b1 m1 1) fun H2 => wr H2 tp (0 + i * 5 + 4) (.sl b2 m2 1) K := by
  have htp := (List.getElem?_eq_some_iff.1 hr).1
  rw [Nat.zero_add]
  refine wr_row hr (by rw [pcells_length]; omega) ?_
  rw [pcells_set1 ds i 2 _ ⟨ds[i].u, ds[i].l, b1, m1, ds[i].a2, ds[i].n2, ds[i].a3, ds[i].n3⟩ hi (by omega) rfl]
  refine wr_row (List.getElem?_set_self htp) (by rw [pcells_length]; simp; omega) ?_
  rw [pcells_set1 _ i 4 _ ⟨ds[i].u, ds[i].l, b1, m1, ds[i].a2, ds[i].n2, b2, m2⟩ (by simpa using hi) (by omega) (by rw [List.getElem_set_self]; rfl), List.set_set, List.set_set]
  exact hK

/-- an entry of a leaf taken out -/
theorem CM.delLeaf (g : CM B H le tp ds T X) (hi : i < ds.length) (hi' : i < T.length) (hx : X i) {s : Nat} (hs : s < (T[i]).keys.length) (hv : (T[i]).vals.length = (T[i]).keys.length) (hsm : small T[i])
    (hQ : ∀ H' ds', CM B H' le tp ds' (T.set i (delP T[i] s)) (fun j => j ≠ i ∧ X j) → Q (.tup []) H') :
    (rd H tp (0 + i * 5 + 2) fun v23 =>
  dL 1 v23 fun x24 n25 =>
  rd H tp (0 + i * 5 + 3) fun v26 =>
  dL 1 v26 fun x27 n28 =>
  cl slices_Delete__string_string [(.g (.sl x24 n25 1)), (.g (.int .i64 (s : Int))), (.g (.int .i64 (wrapI .i64 ((s : Int) + 1))))] H fun r29 H30 =>
  rG r29 fun v31 =>
  dL 1 v31 fun x32 n33 =>
  rd H30 tp (0 + i * 5 + 3) fun v34 =>
  dL 1 v34 fun x35 n36 =>
  eqv (.g (.sl x27 n28 1)) (.g (.sl x35 n36 1)) (cl slices_Delete__string_string [(.g (.sl x27 n28 1)), (.g (.int .i64 (s : Int))), (.g (.int .i64 (wrapI .i64 ((s : Int) + 1))))] H30 fun r37 H38 =>
  rG r37 fun v39 =>
  dL 1 v39 fun x40 n41 =>
  wr H38 tp (0 + i * 5 + 2) (.sl x32 n33 1) fun H42 =>
  wr H42 tp (0 + i * 5 + 3) (.sl x40 n41 1) fun H43 =>
  Q (.tup []) H43)) := by
  obtain ⟨s1, s2, s3, s4, s5⟩ := hsm
  have ho := g.own i hi hi' hx
  have hat := g.ot.all i hi hi'
  have e1 := hat.keys.len
  have e2 := hat.vals.len
  obtain ⟨lk, k1, k2, k3, k4⟩ := own_row ho.keys (by omega)
  obtain ⟨lv, v1, v2, v3, v4⟩ := own_row ho.vals (by omega)
  have hne : lk ≠ lv := fun e => ho.d12 lk 0 0 k1 (by rw [v1, e])
  obtain ⟨hb, hr⟩ := g.ot.at_row
  have htp := (List.getElem?_eq_some_iff.1 hr).1
  have hlk := (List.getElem?_eq_some_iff.1 k3).1
  have hlv := (List.getElem?_eq_some_iff.1 v3).1
  have onk : (ds[i]).on lk := ⟨0, .inl k1⟩
  have onv : (ds[i]).on lv := ⟨0, .inr (.inl v1)⟩
  have nkt : lk ≠ tp := fun e => by subst e; exact g.ot.off _ (List.getElem_mem hi) _ onk rfl
  have nvt : lv ≠ tp := fun e => by subst e; exact g.ot.off _ (List.getElem_mem hi) _ onv rfl
  have g2 : gt H tp (0 + i * 5 + 2) = some (.sl ds[i].a1 ds[i].n1 1) := by rw [Nat.zero_add]; exact g.ot.gt hi (by omega)
  have g3 : gt H tp (0 + i * 5 + 3) = some (.sl ds[i].a2 ds[i].n2 1) := by rw [Nat.zero_add]; exact g.ot.gt hi (by omega)
  rw [rd_of g2, dL_sl, rd_of g3, dL_sl, wrap_succ (by omega), k1]
  refine delete_str (xs := (T[i]).keys) k3 (by omega) (by omega) (by omega) ?_
  simp only [rG_g, dL_sl]
  have hr1 : (H.set lk (.row true tS (((T[i]).keys.eraseIdx s ++ [mkS []]).map GV.str)))[tp]? = some (.row true tPg (pcells ds)) := by rw [List.getElem?_set_ne nkt]; exact hr
  have g3' : gt (H.set lk (.row true tS (((T[i]).keys.eraseIdx s ++ [mkS []]).map GV.str))) tp (0 + i * 5 + 3) = some (.sl ds[i].a2 ds[i].n2 1) := by
    rw [gt_some hr1, Nat.zero_add]; exact pcells_get hi (by omega)
  rw [rd_of g3', dL_sl]
  refine ⟨rfl, ?_⟩
  rw [v1]
  have v3' : SRow (H.set lk (.row true tS (((T[i]).keys.eraseIdx s ++ [mkS []]).map GV.str))) lv (T[i]).vals := by unfold SRow; rw [List.getElem?_set_ne hne]; exact v3
  refine delete_str (xs := (T[i]).vals) v3' (by omega) (by omega) (by omega) ?_
  simp only [rG_g, dL_sl]
  refine wr_23 (by rw [List.getElem?_set_ne nvt]; exact hr1) hi ?_
  refine hQ _ (ds.set i ⟨ds[i].u, ds[i].l, some (lk, 0), ds[i].n1 - 1, some (lv, 0), ds[i].n2 - 1, ds[i].a3, ds[i].n3⟩) ?_
  have kk : SRow (((H.set lk (.row true tS (((T[i]).keys.eraseIdx s ++ [mkS []]).map GV.str))).set lv (.row true tS (((T[i]).vals.eraseIdx s ++ [mkS []]).map GV.str))).set tp (.row true tPg (pcells (ds.set i ⟨ds[i].u, ds[i].l, some (lk, 0), ds[i].n1 - 1, some (lv, 0), ds[i].n2 - 1, ds[i].a3, ds[i].n3⟩)))) lk ((T[i]).keys.eraseIdx s ++ [mkS []]) := by
    unfold SRow; rw [List.getElem?_set_ne (Ne.symm nkt), List.getElem?_set_ne (Ne.symm hne), List.getElem?_set_self hlk]
  have kv : SRow (((H.set lk (.row true tS (((T[i]).keys.eraseIdx s ++ [mkS []]).map GV.str))).set lv (.row true tS (((T[i]).vals.eraseIdx s ++ [mkS []]).map GV.str))).set tp (.row true tPg (pcells (ds.set i ⟨ds[i].u, ds[i].l, some (lk, 0), ds[i].n1 - 1, some (lv, 0), ds[i].n2 - 1, ds[i].a3, ds[i].n3⟩)))) lv ((T[i]).vals.eraseIdx s ++ [mkS []]) := by
    unfold SRow; rw [List.getElem?_set_ne (Ne.symm nvt), List.getElem?_set_self (by simpa using hlv)]
  have keep : ∀ l, l ≠ lk → l ≠ lv → l ≠ tp → (((H.set lk (.row true tS (((T[i]).keys.eraseIdx s ++ [mkS []]).map GV.str))).set lv (.row true tS (((T[i]).vals.eraseIdx s ++ [mkS []]).map GV.str))).set tp (.row true tPg (pcells (ds.set i ⟨ds[i].u, ds[i].l, some (lk, 0), ds[i].n1 - 1, some (lv, 0), ds[i].n2 - 1, ds[i].a3, ds[i].n3⟩))))[l]? = H[l]? := fun l h1 h2 h3 => by
    rw [List.getElem?_set_ne (Ne.symm h3), List.getElem?_set_ne (Ne.symm h2), List.getElem?_set_ne (Ne.symm h1)]
  have w := g.wo i hi
  refine g.turn hi (by simp) (fun l _ hn ht => keep l (fun e => hn (by rw [e]; exact onk)) (fun e => hn (by rw [e]; exact onv)) ht) (List.getElem?_set_self (by simpa using htp)) ?_ ?_ (fun l hl => ?_) (fun j hj => .inr hj)
  · refine ⟨hat.used, hat.leaf, ss_erase kk (by omega) (by omega) (by omega), ss_erase kv (by omega) (by omega) (by omega), ⟨?_, hat.kids.len, hat.kids.lim⟩⟩
    refine Eq.trans (cells_at (a := ds[i].a3) fun l o e => keep l (fun q => ?_) (fun q => ?_) (fun q => ?_)) hat.kids.cells
    · subst q; exact ho.d13 l 0 o k1 e
    · subst q; exact ho.d23 l 0 o v1 e
    · subst q; exact g.ot.off _ (List.getElem_mem hi) _ ⟨o, .inr (.inr e)⟩ rfl
  · refine ⟨tx_erase k2 kk (by omega) (by omega) s1, tx_erase v2 kv (by omega) (by omega) s2, ?_, by have := w.s1; show ds[i].n1 - 1 ≤ 1000; omega, by have := w.s2; show ds[i].n2 - 1 ≤ 1000; omega, w.s3⟩
    rcases w.t3 with h | ⟨l, o, xs, e, h1, h2, h3⟩
    · exact .inl h
    · refine .inr ⟨l, o, xs, e, h1, ?_, h3⟩
      unfold IRow
      rw [keep l (fun q => ?_) (fun q => ?_) (fun q => ?_)]
      · exact h2
      · subst q; exact ho.d13 l 0 o k1 e
      · subst q; exact ho.d23 l 0 o v1 e
      · subst q; exact g.ot.off _ (List.getElem_mem hi) _ ⟨o, .inr (.inr e)⟩ rfl
  · have on' : (ds[i]).on l := by
      obtain ⟨o, q | q | q⟩ := hl
      · exact ⟨0, .inl (by have : l = lk := by cases q; rfl
                           rw [this]; exact k1)⟩
      · exact ⟨0, .inr (.inl (by have : l = lv := by cases q; rfl
                                 rw [this]; exact v1))⟩
      · exact ⟨o, .inr (.inr q)⟩
    exact ⟨fun e => by subst e; exact g.ot.off _ (List.getElem_mem hi) _ on' rfl, fun e => by subst e; exact g.offE i hi on', g.base i hi l on', fun j hj hne => g.ap i j hi hj (Ne.symm hne) l on'⟩

/-- a key of an inner page taken out, with the kid behind it -/
theorem CM.delInner (g : CM B H le tp ds T X) (hi : i < ds.length) (hi' : i < T.length) (hx : X i) {s : Nat} (hs : s < (T[i]).keys.length) (hv : (T[i]).kids.length = (T[i]).keys.length + 1) (hsm : small T[i])
    (hQ : ∀ H' ds', CM B H' le tp ds' (T.set i ⟨T[i].used, T[i].leaf, T[i].keys.eraseIdx s, T[i].vals, T[i].kids.eraseIdx (s + 1)⟩) (fun j => j ≠ i ∧ X j) → Q (.tup []) H') :
    (pS (some (tp, 0 + i * 5)) fun n119 n120 =>
  rd H n119 (n120 + 2) fun v121 =>
  dL 1 v121 fun x122 n123 =>
  pS (some (tp, 0 + i * 5)) fun n124 n125 =>
  rd H n124 (n125 + 4) fun v126 =>
  dL 1 v126 fun x127 n128 =>
  cl slices_Delete__string_string [(.g (.sl x122 n123 1)), (.g (.int .i64 (s : Int))), (.g (.int .i64 (wrapI .i64 ((s : Int) + 1))))] H fun r129 H130 =>
  rG r129 fun v131 =>
  dL 1 v131 fun x132 n133 =>
  rd H130 n124 (n125 + 4) fun v134 =>
  dL 1 v134 fun x135 n136 =>
  eqv (.g (.sl x127 n128 1)) (.g (.sl x135 n136 1)) (cl slices_Delete__int_int [(.g (.sl x127 n128 1)), (.g (.int .i64 (wrapI .i64 ((s : Int) + 1)))), (.g (.int .i64 (wrapI .i64 ((s : Int) + 2))))] H130 fun r137 H138 =>
  rG r137 fun v139 =>
  dL 1 v139 fun x140 n141 =>
  pS (some (tp, 0 + i * 5)) fun n142 n143 =>
  wr H138 n142 (n143 + 2) (.sl x132 n133 1) fun H144 =>
  pS (some (tp, 0 + i * 5)) fun n145 n146 =>
  wr H144 n145 (n146 + 4) (.sl x140 n141 1) fun H147 =>
  Q (.tup []) H147)) := by
  obtain ⟨s1, s2, s3, s4, s5⟩ := hsm
  have ho := g.own i hi hi' hx
  have hat := g.ot.all i hi hi'
  have e1 := hat.keys.len
  have e2 := hat.kids.len
  obtain ⟨lk, k1, k2, k3, k4⟩ := own_row ho.keys (by omega)
  obtain ⟨lv, v1, v2, v3, v4⟩ := own_row ho.kids (by omega)
  have hne : lk ≠ lv := fun e => ho.d13 lk 0 0 k1 (by rw [v1, e])
  obtain ⟨hb, hr⟩ := g.ot.at_row
  have htp := (List.getElem?_eq_some_iff.1 hr).1
  have hlk := (List.getElem?_eq_some_iff.1 k3).1
  have hlv := (List.getElem?_eq_some_iff.1 v3).1
  have onk : (ds[i]).on lk := ⟨0, .inl k1⟩
  have onv : (ds[i]).on lv := ⟨0, .inr (.inr v1)⟩
  have nkt : lk ≠ tp := fun e => by subst e; exact g.ot.off _ (List.getElem_mem hi) _ onk rfl
  have nvt : lv ≠ tp := fun e => by subst e; exact g.ot.off _ (List.getElem_mem hi) _ onv rfl
  have g2 : gt H tp (0 + i * 5 + 2) = some (.sl ds[i].a1 ds[i].n1 1) := by rw [Nat.zero_add]; exact g.ot.gt hi (by omega)
  have g3 : gt H tp (0 + i * 5 + 4) = some (.sl ds[i].a3 ds[i].n3 1) := by rw [Nat.zero_add]; exact g.ot.gt hi (by omega)
  rw [pS_some, rd_of g2, dL_sl, pS_some, rd_of g3, dL_sl, wrap_succ (by omega), k1]
  refine delete_str (xs := (T[i]).keys) k3 (by omega) (by omega) (by omega) ?_
  simp only [rG_g, dL_sl]
  have hr1 : (H.set lk (.row true tS (((T[i]).keys.eraseIdx s ++ [mkS []]).map GV.str)))[tp]? = some (.row true tPg (pcells ds)) := by rw [List.getElem?_set_ne nkt]; exact hr
  have g3' : gt (H.set lk (.row true tS (((T[i]).keys.eraseIdx s ++ [mkS []]).map GV.str))) tp (0 + i * 5 + 4) = some (.sl ds[i].a3 ds[i].n3 1) := by
    rw [gt_some hr1, Nat.zero_add]; exact pcells_get hi (by omega)
  rw [rd_of g3', dL_sl]
  refine ⟨rfl, ?_⟩
  rw [v1, show wrapI .i64 ((s : Int) + 2) = ((s + 1 + 1 : Nat) : Int) from wrap64 (by omega) (by omega)]
  have v3' : IRow (H.set lk (.row true tS (((T[i]).keys.eraseIdx s ++ [mkS []]).map GV.str))) lv (T[i]).kids := by unfold IRow; rw [List.getElem?_set_ne hne]; exact v3
  refine delete_int (xs := (T[i]).kids) (i := s + 1) v3' (by omega) (by omega) (by omega) ?_
  simp only [rG_g, dL_sl, pS_some]
  refine wr_24 (by rw [List.getElem?_set_ne nvt]; exact hr1) hi ?_
  refine hQ _ (ds.set i ⟨ds[i].u, ds[i].l, some (lk, 0), ds[i].n1 - 1, ds[i].a2, ds[i].n2, some (lv, 0), ds[i].n3 - 1⟩) ?_
  have kk : SRow (((H.set lk (.row true tS (((T[i]).keys.eraseIdx s ++ [mkS []]).map GV.str))).set lv (.row true tI (((T[i]).kids.eraseIdx (s + 1) ++ [0]).map (GV.int .i64)))).set tp (.row true tPg (pcells (ds.set i ⟨ds[i].u, ds[i].l, some (lk, 0), ds[i].n1 - 1, ds[i].a2, ds[i].n2, some (lv, 0), ds[i].n3 - 1⟩)))) lk ((T[i]).keys.eraseIdx s ++ [mkS []]) := by
    unfold SRow; rw [List.getElem?_set_ne (Ne.symm nkt), List.getElem?_set_ne (Ne.symm hne), List.getElem?_set_self hlk]
  have kv : IRow (((H.set lk (.row true tS (((T[i]).keys.eraseIdx s ++ [mkS []]).map GV.str))).set lv (.row true tI (((T[i]).kids.eraseIdx (s + 1) ++ [0]).map (GV.int .i64)))).set tp (.row true tPg (pcells (ds.set i ⟨ds[i].u, ds[i].l, some (lk, 0), ds[i].n1 - 1, ds[i].a2, ds[i].n2, some (lv, 0), ds[i].n3 - 1⟩)))) lv ((T[i]).kids.eraseIdx (s + 1) ++ [0]) := by
    unfold IRow; rw [List.getElem?_set_ne (Ne.symm nvt), List.getElem?_set_self (by simpa using hlv)]
  have keep : ∀ l, l ≠ lk → l ≠ lv → l ≠ tp → (((H.set lk (.row true tS (((T[i]).keys.eraseIdx s ++ [mkS []]).map GV.str))).set lv (.row true tI (((T[i]).kids.eraseIdx (s + 1) ++ [0]).map (GV.int .i64)))).set tp (.row true tPg (pcells (ds.set i ⟨ds[i].u, ds[i].l, some (lk, 0), ds[i].n1 - 1, ds[i].a2, ds[i].n2, some (lv, 0), ds[i].n3 - 1⟩))))[l]? = H[l]? := fun l h1 h2 h3 => by
    rw [List.getElem?_set_ne (Ne.symm h3), List.getElem?_set_ne (Ne.symm h2), List.getElem?_set_ne (Ne.symm h1)]
  have w := g.wo i hi
  refine g.turn hi (by simp) (fun l _ hn ht => keep l (fun e => hn (by rw [e]; exact onk)) (fun e => hn (by rw [e]; exact onv)) ht) (List.getElem?_set_self (by simpa using htp)) ?_ ?_ (fun l hl => ?_) (fun j hj => .inr hj)
  · refine ⟨hat.used, hat.leaf, ss_erase kk (by omega) (by omega) (by omega), ⟨?_, hat.vals.len, hat.vals.lim⟩, is_erase kv (by omega) (by omega) (by omega)⟩
    rw [← hat.vals.cells]
    refine cells_at fun l o e => keep l (fun q => ?_) (fun q => ?_) (fun q => ?_)
    · subst q; exact ho.d12 l 0 o k1 e
    · subst q; exact ho.d23 l o 0 e v1
    · subst q; exact g.ot.off _ (List.getElem_mem hi) _ ⟨o, .inr (.inl e)⟩ rfl
  · refine ⟨tx_erase k2 kk (by omega) (by omega) s1, ?_, ?_, by have := w.s1; show ds[i].n1 - 1 ≤ 1000; omega, w.s2, by have := w.s3; show ds[i].n3 - 1 ≤ 1000; omega⟩
    · rcases w.t2 with h | ⟨l, o, xs, e, h1, h2, h3, h4⟩
      · exact .inl h
      · refine .inr ⟨l, o, xs, e, h1, ?_, h3, h4⟩
        unfold SRow
        rw [keep l (fun q => ?_) (fun q => ?_) (fun q => ?_)]
        · exact h2
        · subst q; exact ho.d12 l 0 o k1 e
        · subst q; exact ho.d23 l o 0 e v1
        · subst q; exact g.ot.off _ (List.getElem_mem hi) _ ⟨o, .inr (.inl e)⟩ rfl
    · refine .inr ⟨lv, 0, _, rfl, v2, kv, ?_⟩
      rw [List.length_append, List.length_eraseIdx, if_pos (by omega)]; simp; omega
  · have on' : (ds[i]).on l := by
      obtain ⟨o, q | q | q⟩ := hl
      · exact ⟨0, .inl (by have : l = lk := by cases q; rfl
                           rw [this]; exact k1)⟩
      · exact ⟨o, .inr (.inl q)⟩
      · exact ⟨0, .inr (.inr (by have : l = lv := by cases q; rfl
                                 rw [this]; exact v1))⟩
    exact ⟨fun e => by subst e; exact g.ot.off _ (List.getElem_mem hi) _ on' rfl, fun e => by subst e; exact g.offE i hi on', g.base i hi l on', fun j hj hne => g.ap i j hi hj (Ne.symm hne) l on'⟩

/-- a key of a page turned -/
theorem CM.setKey (g : CM B H le tp ds T X) (hi : i < ds.length) (hi' : i < T.length) (hx : X i) {s : Nat} (hs : s < (T[i]).keys.length) (hsm : small T[i]) {k : ByteArray} (hk : k.size ≤ 1000) {K : Hp → Prop}
    (hK : ∀ H', CM B H' le tp ds (T.set i ⟨T[i].used, T[i].leaf, T[i].keys.set s k, T[i].vals, T[i].kids⟩) (fun j => j ≠ i ∧ X j) → H'.length = H.length → (∀ l, (∀ o, ds[i].a1 ≠ some (l, o)) → H'[l]? = H[l]?) → K H') : ∃ lk, ds[i].a1 = some (lk, 0) ∧ wr H lk s (.str k) K := by
  obtain ⟨s1, s2, s3, s4, s5⟩ := hsm
  have ho := g.own i hi hi' hx
  have hat := g.ot.all i hi hi'
  have e1 := hat.keys.len
  obtain ⟨lk, k1, k2, k3, k4⟩ := own_row ho.keys (by omega)
  obtain ⟨hb, hr⟩ := g.ot.at_row
  have hlk := (List.getElem?_eq_some_iff.1 k3).1
  have onk : (ds[i]).on lk := ⟨0, .inl k1⟩
  have nkt : lk ≠ tp := fun e => by subst e; exact g.ot.off _ (List.getElem_mem hi) _ onk rfl
  refine ⟨lk, k1, wr_row k3 (by simpa using hs) ?_⟩
  rw [← List.map_set]
  refine hK _ ?_ (by simp) (fun l hl => by rw [List.getElem?_set_ne]; intro q; subst q; exact hl 0 k1)
  have keep : ∀ l, l ≠ lk → (H.set lk (.row true tS (((T[i]).keys.set s k).map GV.str)))[l]? = H[l]? := fun l h => by rw [List.getElem?_set_ne (Ne.symm h)]
  have kk : SRow (H.set lk (.row true tS (((T[i]).keys.set s k).map GV.str))) lk ((T[i]).keys.set s k) := List.getElem?_set_self hlk
  have eself : ds.set i ds[i] = ds := by simp
  have w := g.wo i hi
  have := g.turn (c := ds[i]) (p := ⟨T[i].used, T[i].leaf, T[i].keys.set s k, T[i].vals, T[i].kids⟩) (X' := fun j => j ≠ i ∧ X j) (H' := H.set lk (.row true tS (((T[i]).keys.set s k).map GV.str))) hi (by simp) (fun l _ hn _ => keep l fun e => hn (by rw [e]; exact onk)) (by rw [eself, keep tp (Ne.symm nkt)]; exact hr)
    ⟨hat.used, hat.leaf, ⟨?_, by simpa using e1, hat.keys.lim⟩, ⟨?_, hat.vals.len, hat.vals.lim⟩, ⟨?_, hat.kids.len, hat.kids.lim⟩⟩ ⟨?_, ?_, ?_, w.s1, w.s2, w.s3⟩
    (fun l on' => ⟨fun e => by subst e; exact g.ot.off _ (List.getElem_mem hi) _ on' rfl, fun e => by subst e; exact g.offE i hi on', g.base i hi l on', fun j hj hne => g.ap i j hi hj (Ne.symm hne) l on'⟩) (fun j hj => .inr hj)
  · rw [eself] at this; exact this
  · rw [k1]
    simp only [cells?, kk]
    rw [if_pos (by simp; omega)]
    simp only [List.drop_zero]
    rw [List.take_of_length_le (by simp; omega)]
  · rw [← hat.vals.cells]
    exact cells_at fun l o e => keep l fun q => by subst q; exact ho.d12 l 0 o k1 e
  · rw [← hat.kids.cells]
    exact cells_at fun l o e => keep l fun q => by subst q; exact ho.d13 l 0 o k1 e
  · refine .inr ⟨lk, 0, _, k1, k2, kk, by simp; omega, fun x hx' => ?_⟩
    rcases List.mem_or_eq_of_mem_set hx' with q | q
    · exact s1 x q
    · rw [q]; exact hk
  · rcases w.t2 with h | ⟨l, o, xs, e, h1, h2, h3, h4⟩
    · exact .inl h
    · exact .inr ⟨l, o, xs, e, h1, by unfold SRow; rw [keep l fun q => by subst q; exact ho.d12 l 0 o k1 e]; exact h2, h3, h4⟩
  · rcases w.t3 with h | ⟨l, o, xs, e, h1, h2, h3⟩
    · exact .inl h
    · exact .inr ⟨l, o, xs, e, h1, by unfold IRow; rw [keep l fun q => by subst q; exact ho.d13 l 0 o k1 e]; exact h2, h3⟩
end
end Go.Am
namespace Go.Am

section
variable {B H H' : Hp} {le tp : Nat} {ds : List PC} {T : List Pg} {X : Nat → Prop} {a j x y : Nat} {p px py : Pg} {Q : Post}
theorem CM.cells (g : CM B H le tp ds T X) {i : Nat} (hi : i < ds.length) : gt H tp (0 + i * 5) = some (.bool ds[i].u) ∧ gt H tp (0 + i * 5 + 1) = some (.bool ds[i].l) ∧ gt H tp (0 + i * 5 + 2) = some (.sl ds[i].a1 ds[i].n1 1) ∧ gt H tp (0 + i * 5 + 3) = some (.sl ds[i].a2 ds[i].n2 1) ∧ gt H tp (0 + i * 5 + 4) = some (.sl ds[i].a3 ds[i].n3 1) := by
  rw [Nat.zero_add]
  exact ⟨g.ot.gt hi (j := 0) (by omega), g.ot.gt hi (j := 1) (by omega), g.ot.gt hi (j := 2) (by omega), g.ot.gt hi (j := 3) (by omega), g.ot.gt hi (j := 4) (by omega)⟩
theorem small_join {s : ByteArray} (h1 : small px) (h2 : small py) (hs : s.size ≤ 1000) (hk : px.keys.length + py.keys.length + 1 ≤ 1000) (hv : px.vals.length + py.vals.length ≤ 1000) (hi : px.kids.length + py.kids.length ≤ 1000) : small (joinP px s py) := by
  refine ⟨fun k hk' => ?_, fun v hv' => ?_, ?_, by show (px.vals ++ py.vals).length ≤ 1000; simp; omega, by show (px.kids ++ py.kids).length ≤ 1000; simp; omega⟩
  · unfold joinP at hk'
    cases e : px.leaf with
    | true =>
      rw [e] at hk'
      rcases List.mem_append.1 hk' with q | q
      · exact h1.1 k q
      · exact h2.1 k q
    | false =>
      rw [e] at hk'
      simp only [List.mem_append, List.mem_singleton] at hk'
      rcases hk' with (q | q) | q
      · exact h1.1 k q
      · rw [q]; exact hs
      · exact h2.1 k q
  · rcases List.mem_append.1 hv' with q | q
    · exact h1.2.1 v q
    · exact h2.2.1 v q
  · unfold joinP
    cases px.leaf <;> simp <;> omega
set_option maxRecDepth 100000 in
theorem mend_spec (g : CM B H le tp ds T X) (ha : a < 48) (hp : T[a]? = some p) (hXa : X a) (hl : p.kids.length = p.keys.length + 1) (hj : j < p.keys.length) (hr : ∀ k ∈ p.kids, 1 ≤ k ∧ k < 48) (hsm : small p)
    (ex : x = (p.kids[j]'(by omega)).toNat) (ey : y = (p.kids[j + 1]'(by omega)).toNat) (hxa : x ≠ a) (hya : y ≠ a) (hxy : x ≠ y) (hpx : T[x]? = some px) (hpy : T[y]? = some py) (mx : MayP px) (my : MayP py)
    (hb : ¬ CanJoin px p.keys[j] py → FitsP (joinP px p.keys[j] py) ∧ 2 ≤ (joinP px p.keys[j] py).keys.length)
    (hQ1 : CanJoin px p.keys[j] py → ∀ H' ds', CM B H' le tp ds' (((T.set x (joinP px p.keys[j] py)).set y noPg).set a ⟨p.used, p.leaf, p.keys.eraseIdx j, p.vals, p.kids.eraseIdx (j + 1)⟩) (fun i => i ≠ a ∧ i ≠ y ∧ i ≠ x ∧ X i) → Q (.tup []) H')
    (hQ2 : ¬ CanJoin px p.keys[j] py → ∀ (hk : (joinP px p.keys[j] py).keys.length / 2 < (joinP px p.keys[j] py).keys.length) H' ds', CM B H' le tp ds' (((T.set x (cutL (joinP px p.keys[j] py) ((joinP px p.keys[j] py).keys.length / 2))).set a ⟨p.used, p.leaf, p.keys.set j (joinP px p.keys[j] py).keys[(joinP px p.keys[j] py).keys.length / 2], p.vals, p.kids⟩).set y (cutR (joinP px p.keys[j] py) ((joinP px p.keys[j] py).keys.length / 2))) (fun i => i ≠ y ∧ i ≠ a ∧ i ≠ x ∧ X i) → Q (.tup []) H') :
    erase_eraser_mend [.g (.ptr (some (le, 0))), .g (.ptr (some (tp, 0 + a * 5))), .g (.int .i64 (j : Int))] H Q := by
  have q1 := g.ot.len
  have q2 := g.ot.lenT
  have hx48 : x < 48 := by have := (List.getElem?_eq_some_iff.1 hpx).1; omega
  have hy48 : y < 48 := by have := (List.getElem?_eq_some_iff.1 hpy).1; omega
  have eTa : T[a]'(by omega) = p := (List.getElem?_eq_some_iff.1 hp).2
  have eTx : T[x]'(by omega) = px := (List.getElem?_eq_some_iff.1 hpx).2
  have eTy : T[y]'(by omega) = py := (List.getElem?_eq_some_iff.1 hpy).2
  obtain ⟨a0, a1, a2, a3, a4⟩ := g.cells (i := a) (by omega)
  obtain ⟨x0, x1, x2, x3, x4⟩ := g.cells (i := x) (by omega)
  obtain ⟨y0, y1, y2, y3, y4⟩ := g.cells (i := y) (by omega)
  have at_a := g.ot.all a (by omega) (by omega)
  have at_x := g.ot.all x (by omega) (by omega)
  have at_y := g.ot.all y (by omega) (by omega)
  rw [eTa] at at_a
  rw [eTx] at at_x
  rw [eTy] at at_y
  have smx := small_may mx
  have smy := small_may my
  have s3 := hsm.2.2.1
  have etx : tN (p.kids[j]'(by omega)) = x := ex.symm
  have ety : tN (p.kids[j + 1]'(by omega)) = y := ey.symm
  have rx := hr _ (List.getElem_mem (show j < p.kids.length by omega))
  have ry := hr _ (List.getElem_mem (show j + 1 < p.kids.length by omega))
  refine ⟨1, ?_⟩
  rw [erase_eraser_mend_eq, pS_some, rd_of a4, dL_sl, chk_true, at_a.kids.rd j rfl (by omega), pS_some, rd_of a4, dL_sl, chk_true, at_a.kids.rd (j + 1) (wrap_succ (by omega)) (by omega)]
  rw [pS_some, Nat.add_zero, rd_of g.gtE, dL_sl, chk_true]
  refine chk_of (by simp; omega) ?_
  rw [pS_some, etx, rdPage_of x0 x1 x2 x3 x4, pS_some, rd_of a2, dL_sl, chk_true, at_a.keys.rd j rfl hj, pS_some, Nat.add_zero, rd_of g.gtE, dL_sl, chk_true]
  refine chk_of (by simp; omega) ?_
  rw [pS_some, ety, rdPage_of y0 y1 y2 y3 y4]
  refine node_Join_spec at_x at_y (fun hn H1 p1 => ?_) (fun hc ju jl ja1 jn1 ja2 jn2 ja3 jn3 H1 p1 oj => ?_)
  rotate_left
  · simp only [rT_tup, uR_cons, rC_a, uC_cons, dB_bool, dL_sl, uN_nil, rS_s, dI_int, uE_nil]
    rw [bite_t (by decide)]
    have g1 := g.mono p1
    simp only [pS_some, Nat.add_zero]
    rw [rd_of g1.gtE, dL_sl, rd_of g1.gtE, dL_sl, chk_true]
    refine chk_of (by simp; omega) ?_
    have fresh : ∀ m, (⟨ju, jl, ja1, jn1, ja2, jn2, ja3, jn3⟩ : PC).on m → H.length ≤ m := oj.fresh
    have hlt := (List.getElem?_eq_some_iff.1 g.er).1
    have htp := (List.getElem?_eq_some_iff.1 g.ot.at_row.2).1
    refine g1.lay (i := x) (c := ⟨ju, jl, ja1, jn1, ja2, jn2, ja3, jn3⟩) (p := joinP px p.keys[j] py) (by omega) oj.at ((oj.pc.wo oj.at (small_may hc.2.2.2)).base g.pre.length_le) (fun l hl => ?_) fun H2 g2 l2 k2 => ?_
    · have := fresh l hl
      have := g.pre.length_le
      exact ⟨by omega, by omega, by omega, fun i hi _ hl' => by have := g.ot.onlt (List.getElem_mem hi) hl'; omega⟩
    rw [chk_true]
    refine chk_of (by simp; omega) ?_
    refine g2.lay (i := y) (c := ⟨false, false, none, 0, none, 0, none, 0⟩) (p := noPg) (by simp; omega) (no_at _) (no_wo _ _ _) (fun l hl => (no_on hl).elim) fun H3 g3 l3 k3 => ?_
    have hTa : (((T.set x (joinP px p.keys[j] py)).set y noPg)[a]'(by simp; omega)) = p := by rw [List.getElem_set_ne hya, List.getElem_set_ne hxa]; exact eTa
    refine g3.delInner (i := a) (s := j) (by simp; omega) (by simp; omega) ⟨Ne.symm hya, Ne.symm hxa, hXa⟩ (by rw [hTa]; exact hj) (by rw [hTa]; exact hl) (by rw [hTa]; exact hsm) fun H4 ds4 g4 => ?_
    rw [hTa] at g4
    exact hQ1 hc H4 ds4 g4
  · simp only [rT_tup, uR_cons, rC_a, uC_cons, dB_bool, dL_sl, uN_nil, rS_s, dI_int, uE_nil]
    rw [bite_f (by decide)]
    have g1 := g.mono p1
    obtain ⟨a0, a1, a2, a3, a4⟩ := g1.cells (i := a) (by omega)
    obtain ⟨x0, x1, x2, x3, x4⟩ := g1.cells (i := x) (by omega)
    obtain ⟨y0, y1, y2, y3, y4⟩ := g1.cells (i := y) (by omega)
    rw [pS_some, Nat.add_zero, rd_of g1.gtE, dL_sl, chk_true]
    refine chk_of (by simp; omega) ?_
    rw [pS_some, rdPage_of x0 x1 x2 x3 x4, pS_some, rd_of a2, dL_sl, chk_true, (at_a.mono p1).keys.rd j rfl hj, pS_some, Nat.add_zero, rd_of g1.gtE, dL_sl, chk_true]
    refine chk_of (by simp; omega) ?_
    rw [pS_some, rdPage_of y0 y1 y2 y3 y4]
    refine node_Both_spec (at_x.mono p1) (at_y.mono p1) (may_small at_x mx) (may_small at_y my) fun bu bl ba1 bn1 ba2 bn2 ba3 bn3 H2 p2 ob => ?_
    simp only [rA_agg, uC_cons, dB_bool, dL_sl, uN_nil]
    have g2 := g1.mono p2
    obtain ⟨a0, a1, a2, a3, a4⟩ := g2.cells (i := a) (by omega)
    rw [pS_some, Nat.add_zero, rd_of g2.gtE, dL_sl, pS_some, rd_of a2, dL_sl, pS_some, Nat.add_zero, rd_of g2.gtE, dL_sl]
    obtain ⟨hf, hk2⟩ := hb hn
    have eb1 := ob.at.keys.len
    obtain ⟨mk4, mkf⟩ := mx
    obtain ⟨nk4, nkf⟩ := my
    have kx := kids_le ⟨mk4, mkf⟩
    have ky := kids_le ⟨nk4, nkf⟩
    have vx : px.vals.length ≤ 4 := by
      cases e : px.leaf with
      | true => have := (mkf.leaf e).1; omega
      | false => rw [(mkf.inner e).2.1]; simp
    have vy : py.vals.length ≤ 4 := by
      cases e : py.leaf with
      | true => have := (nkf.leaf e).1; omega
      | false => rw [(nkf.inner e).2.1]; simp
    have smj : small (joinP px p.keys[j] py) := small_join smx smy (hsm.1 _ (List.getElem_mem hj)) (by omega) (by omega) (by omega)
    have hk : (joinP px p.keys[j] py).keys.length / 2 < (joinP px p.keys[j] py).keys.length := by omega
    have ediv : wrapI .i64 (Int.tdiv (nI bn1) 2) = (((joinP px p.keys[j] py).keys.length / 2 : Nat) : Int) := by
      have : Int.tdiv (nI bn1) 2 = (((joinP px p.keys[j] py).keys.length / 2 : Nat) : Int) := by rw [eb1]; rfl
      rw [this]
      have := smj.2.2.1
      exact wrap64 (by omega) (by omega)
    rw [ediv]
    refine node_Cut_at ob.at smj hk (fun e => (hf.leaf e).1) (fun e => (hf.inner e).2.2.1) fun c d H3 p3 hc hd wc wd oc od => ?_
    simp only [rT_tup, uR_cons, rC_a, uC_cons, dB_bool, dL_sl, uN_nil, rS_s, dS_str, uE_nil]
    have g3 := g2.mono p3
    obtain ⟨a0, a1, a2, a3, a4⟩ := g3.cells (i := a) (by omega)
    rw [Nat.add_zero, rd_of g3.gtE, dL_sl]
    refine ⟨rfl, ?_⟩
    rw [rd_of a2, dL_sl]
    refine ⟨rfl, ?_⟩
    rw [rd_of g3.gtE, dL_sl]
    refine ⟨rfl, ?_⟩
    rw [chk_true]
    refine chk_of (by simp; omega) ?_
    have l2 := (p1.trans p2).length_le
    have hlt := (List.getElem?_eq_some_iff.1 g2.er).1
    have htp := (List.getElem?_eq_some_iff.1 g2.ot.at_row.2).1
    have hbl := g2.pre.length_le
    rw [pS_some]
    refine g3.lay (i := x) (c := c) (p := cutL (joinP px p.keys[j] py) ((joinP px p.keys[j] py).keys.length / 2)) (by omega) hc (wc.base hbl) (fun l hl => ?_) fun H4 g4 l4 k4 => ?_
    · have := (oc l hl).1
      exact ⟨by omega, by omega, by omega, fun i hi _ hl' => by have := g2.ot.onlt (List.getElem_mem hi) hl'; omega⟩
    rw [chk_true]
    refine chk_of (by simp; have := at_a.keys.len; omega) ?_
    have hTa : ((T.set x (cutL (joinP px p.keys[j] py) ((joinP px p.keys[j] py).keys.length / 2)))[a]'(by simp; omega)) = p := by rw [List.getElem_set_ne hxa]; exact eTa
    have hDa : ((ds.set x c)[a]'(by simp; omega)) = ds[a]'(by omega) := by rw [List.getElem_set_ne hxa]
    obtain ⟨lk, e1, hw⟩ := g4.setKey (i := a) (s := j) (k := (joinP px p.keys[j] py).keys[(joinP px p.keys[j] py).keys.length / 2]) (by simp; omega) (by simp; omega) ⟨Ne.symm hxa, hXa⟩ (by rw [hTa]; exact hj) (by rw [hTa]; exact hsm) (smj.1 _ (List.getElem_mem hk)) (K := fun H5 => chk true
      (chk (leI 0 (p.kids[j + 1]'(by omega)) && ltI (p.kids[j + 1]'(by omega)) (nI 48))
        (pS (some (tp, 0)) fun n301 n302 =>
          wr H5 n301 (n302 + ((y) * 5)) (.bool d.u) fun H303 =>
          wr H303 n301 ((n302 + ((y) * 5)) + 1) (.bool d.l) fun H304 =>
          wr H304 n301 (((n302 + ((y) * 5)) + 1) + 1) (.sl d.a1 d.n1 1) fun H305 =>
          wr H305 n301 ((((n302 + ((y) * 5)) + 1) + 1) + 1) (.sl d.a2 d.n2 1) fun H306 =>
          wr H306 n301 (((((n302 + ((y) * 5)) + 1) + 1) + 1) + 1) (.sl d.a3 d.n3 1) fun H307 =>
          Q (.tup []) H307))) (fun H5 g5 l5 k5 => by
        rw [hTa] at g5
        rw [chk_true]
        refine chk_of (by simp; omega) ?_
        rw [pS_some]
        have hl3 := p3.length_le
        rw [hDa] at k5
        have old : ∀ l o, (ds[a]'(by omega)).a1 = some (l, o) → l < H2.length := fun l o e => g2.ot.onlt (List.getElem_mem (by omega : a < ds.length)) ⟨o, .inl e⟩
        have same : ∀ l, d.on l → H5[l]? = H3[l]? := fun l hl => by
          have := od l hl
          rw [k5 l (fun o e => by have := old l o e; omega), k4 l (by omega)]
        refine g5.lay (i := y) (c := d) (p := cutR (joinP px p.keys[j] py) ((joinP px p.keys[j] py).keys.length / 2)) (by simp; omega) (hd.keep same) ((wd.base hbl).keepOn same) (fun l hl => ?_) fun H6 g6 l6 k6 => hQ2 hn hk H6 _ g6
        have hl' := od l hl
        refine ⟨by omega, by omega, by omega, fun i hi hne hon => ?_⟩
        rw [List.getElem_set] at hon
        by_cases e : x = i
        · rw [if_pos e] at hon; exact (oc l hon).2 hl
        · rw [if_neg e] at hon
          have := g2.ot.onlt (List.getElem_mem (by simpa using hi)) hon
          omega)
    rw [hDa] at e1
    rw [e1, pS_some]
    have ez : 0 + tN (j : Int) * 1 = j := by rw [Nat.zero_add, Nat.mul_one]; rfl
    rw [ez]
    exact hw
end
end Go.Am
namespace Go.Am

section
variable {B : Hp} {le tp : Nat} {key : ByteArray}
theorem mnI_min {a b : Nat} : mnI (a : Int) (b : Int) = ((min a b : Nat) : Int) := by simp [mnI]; split <;> omega
set_option maxRecDepth 100000 in
theorem drop_spec : ∀ (d : Nat) {H : Hp} {ds : List PC} {T : List Pg} {X : Nat → Prop} {a : Nat} {P : List Nat} {ps : KV} {Q : Post}, CM B H le tp ds T X → Sub T d a P ps → P.Nodup → (∀ i ∈ P, X i) → (∃ e ∈ ps, e.1 = key) → a < 48 →
    (hXQ : ∀ H' ds' T' X' P', CM B H' le tp ds' T' X' → Dr2 T T' d a P P' (delK ps key) → (∀ i, i ∉ P → X i → X' i) → Q (.tup []) H') →
    erase_eraser_drop.at d [.g (.ptr (some (le, 0))), .g (.int .i64 (a : Int)), .g (.str key)] H Q
  | 0, H, ds, T, X, a, P, ps, Q, g, hS, _, _, _, _, _ => hS.elim
  | n + 1, H, ds, T, X, a, P, ps, Q, g, hS, hnd, hX, hkey, ha, hQ => by
    have q1 := g.ot.len
    have q2 := g.ot.lenT
    obtain ⟨p, hp⟩ := hS.get
    have hm := hS.may hp
    have eTa : T[a]'(by omega) = p := (List.getElem?_eq_some_iff.1 hp).2
    have at_a := g.ot.all a (by omega) (by omega)
    rw [eTa] at at_a
    obtain ⟨a0, a1, a2, a3, a4⟩ := g.cells (i := a) (by omega)
    have ea : tN (a : Int) = a := rfl
    have hsm := small_may hm
    refine ⟨1, ?_⟩
    rw [erase_eraser_drop_eq, pS_some, Nat.add_zero, rd_of g.gtE, dL_sl, chk_true]
    refine chk_of (by simp; omega) ?_
    rw [pS_some, ea, rd_of a1, dB_bool]
    have hlf := at_a.leaf
    cases hl : p.leaf with
    | true =>
      rw [bite_t (by rw [← hlf, hl])]
      obtain ⟨hb, hdr⟩ := drop_leaf hS hp hl hkey
      obtain ⟨hs, hk⟩ := slot_at hb
      obtain ⟨f1, f2, f3⟩ := hm.2.leaf hl
      rw [rd_of a2, dL_sl]
      refine node_Slot_spec at_a.keys ?_
      simp only [rT_tup, uR_cons, rS_s, dI_int, dB_bool, uE_nil]
      refine g.delLeaf (i := a) (s := slotN p.keys key) (by omega) (by omega) (hX a hS.head) (by rw [eTa]; exact hs) (by rw [eTa]; exact f1) (by rw [eTa]; exact hsm) fun H' ds' g' => ?_
      rw [eTa] at g'
      exact hQ H' ds' _ _ P g' hdr fun i hi hx => ⟨fun e => hi (by rw [e]; exact hS.head), hx⟩
    | false =>
      rw [bite_f (by rw [← hlf, hl])]
      obtain ⟨d, PA, psA, Pi, psi, PC, psC, ed, kd⟩ := kid_split (key := key) hS hp hl
      obtain rfl : n = d + 1 := by omega
      obtain ⟨f1, f2, f3, f4, f5⟩ := hm.2.inner hl
      obtain ⟨hin, hdel⟩ := kd.mem hkey
      have hnd' := hnd
      rw [kd.eP] at hnd'
      have n0 := List.nodup_cons.1 hnd'
      have n1 := List.nodup_append.1 n0.2
      have n2 := List.nodup_append.1 n1.2.1
      have hi := kd.hi
      have hm4 := hm.1
      have kr := f4 _ (List.getElem_mem hi)
      have ek : p.kids[kidN p.keys key] = (((p.kids[kidN p.keys key]).toNat : Nat) : Int) := by omega
      have inP : ∀ i ∈ Pi, i ∈ P := fun i h => by rw [kd.eP]; simp [h]
      have aPi : a ∉ Pi := fun h => n0.1 (by simp [h])
      refine find_Kid_spec (o := 0 + a * 5) a2 at_a.keys ?_
      simp only [rG_g, dI_int]
      rw [rd_of a4, dL_sl, chk_true, at_a.kids.rd _ rfl hi, ek]
      refine drop_spec (d + 1) g kd.kid.1 n2.1 (fun i h => hX i (inP i h)) hin (by omega) ?_
      intro H1 ds1 T1 X1 Pi' g1 dr hX1
      have r1 := g1.ot.len
      have r2 := g1.ot.lenT
      have hp1 : T1[a]? = some p := by rw [dr.out a aPi]; exact hp
      have eTa1 : T1[a]'(by omega) = p := (List.getElem?_eq_some_iff.1 hp1).2
      have at_a1 := g1.ot.all a (by omega) (by omega)
      rw [eTa1] at at_a1
      obtain ⟨b0, b1, b2, b3, b4⟩ := g1.cells (i := a) (by omega)
      -- the kid
      obtain ⟨c0, c1, hc0, hc1, hcl, hck, hcs⟩ := dr.pages
      obtain ⟨c0', hc0', hc2⟩ := kd.kid.2
      rw [hc0] at hc0'; cases hc0'
      have hk1 : 1 ≤ c1.keys.length := by omega
      have hsub : Sub T1 (d + 1) (p.kids[kidN p.keys key]).toNat Pi' (delK psi key) := by
        rcases hcs with h | ⟨_, h, _⟩
        · exact h
        · rw [h] at hk1; simp at hk1
      have hkk : (p.kids[kidN p.keys key]).toNat < 48 := by omega
      have eTk1 : T1[(p.kids[kidN p.keys key]).toNat]'(by omega) = c1 := (List.getElem?_eq_some_iff.1 hc1).2
      have at_k1 := g1.ot.all (p.kids[kidN p.keys key]).toNat (by omega) (by omega)
      rw [eTk1] at at_k1
      obtain ⟨k0, k1, k2, k3, k4⟩ := g1.cells (i := (p.kids[kidN p.keys key]).toNat) (by omega)
      have kk := kd.glue hnd dr.out hsub dr.sub (fun e he => delK_mem he) hc1 hk1
      have Qnd : (PA ++ (Pi' ++ PC)).Nodup := List.nodup_append.2 ⟨n1.1, List.nodup_append.2 ⟨dr.nd, n2.2.1, fun u hu v hv => n2.2.2 u (dr.sub u hu) v hv⟩, fun u hu v hv => n1.2.2 u hu v (by rcases List.mem_append.1 hv with z | z; simp [dr.sub v z]; simp [z])⟩
      have QP : ∀ i ∈ PA ++ (Pi' ++ PC), i ∈ PA ++ (Pi ++ PC) := fun i h => by
        simp only [List.mem_append] at h ⊢
        rcases h with z | z | z
        · exact .inl z
        · exact .inr (.inl (dr.sub i z))
        · exact .inr (.inr z)
      have aQ : a ∉ PA ++ (Pi' ++ PC) := fun h => n0.1 (QP a h)
      have goneQ : ∀ i ∈ P, i ≠ a → i ∉ PA ++ (Pi' ++ PC) → T1[i]? = some noPg ∧ True := fun i h hne hn => by
        rw [kd.eP] at h
        simp only [List.mem_append, not_or] at hn
        rcases List.mem_cons.1 h with z | z
        · exact (hne z).elim
        · simp only [List.mem_append] at z
          rcases z with z | z | z
          · exact (hn.1 z).elim
          · exact ⟨dr.gone i z hn.2.1, trivial⟩
          · exact (hn.2.2 z).elim
      have outP : ∀ i, i ∉ P → T1[i]? = T[i]? := fun i h => dr.out i fun z => h (inP i z)
      have X1a : X1 a := hX1 a aPi (hX a hS.head)
      have X1o : ∀ i, i ∉ P → X i → X1 i := fun i h hx => hX1 i (fun z => h (inP i z)) hx
      rw [pS_some, Nat.add_zero, rd_of g1.gtE, dL_sl, rd_of b4, dL_sl, chk_true, at_a1.kids.rd _ rfl hi, chk_true]
      refine chk_of (by simp; omega) ?_
      have etk : tN (p.kids[kidN p.keys key]) = (p.kids[kidN p.keys key]).toNat := rfl
      rw [pS_some, etk, rd_of k2, dL_sl]
      have ekl := at_k1.keys.len
      by_cases hshort : c1.keys.length < 2
      · rw [bite_t (by simp; omega), rd_of b2, dL_sl]
        have eal := at_a1.keys.len
        -- where it is mended
        have e1 : wrapI .i64 ((nI (ds1[a]'(by omega)).n1) - 1) = ((p.keys.length - 1 : Nat) : Int) := by
          have : (nI (ds1[a]'(by omega)).n1) - 1 = ((p.keys.length - 1 : Nat) : Int) := by rw [eal, nI_def]; omega
          rw [this]; exact wrap64 (by omega) (by omega)
        rw [e1, mnI_min]
        obtain ⟨j, hj, ej, hjs⟩ : ∃ j, ∃ hj : j < p.keys.length, min (kidN p.keys key) (p.keys.length - 1) = j ∧ ((p.kids[kidN p.keys key]).toNat = (p.kids[j]'(by omega)).toNat ∨ (p.kids[kidN p.keys key]).toNat = (p.kids[j + 1]'(by omega)).toNat) := by
          by_cases h : kidN p.keys key < p.keys.length
          · exact ⟨kidN p.keys key, h, by omega, .inl rfl⟩
          · have e : kidN p.keys key = p.keys.length - 1 + 1 := by omega
            refine ⟨p.keys.length - 1, by omega, by omega, .inr ?_⟩
            congr 1
            congr 1
        have hx48 : (p.kids[j]'(by omega)).toNat < 48 := by have := f4 _ (List.getElem_mem (show j < p.kids.length by omega)); omega
        have hy48 : (p.kids[j + 1]'(by omega)).toNat < 48 := by have := f4 _ (List.getElem_mem (show j + 1 < p.kids.length by omega)); omega
        have hpx : T1[(p.kids[j]'(by omega)).toNat]? = some (T1[(p.kids[j]'(by omega)).toNat]'(by omega)) := List.getElem?_eq_getElem _
        have hpy : T1[(p.kids[j + 1]'(by omega)).toNat]? = some (T1[(p.kids[j + 1]'(by omega)).toNat]'(by omega)) := List.getElem?_eq_getElem _
        generalize hgx : T1[(p.kids[j]'(by omega)).toNat]'(by omega) = px at hpx
        generalize hgy : T1[(p.kids[j + 1]'(by omega)).toNat]'(by omega) = py at hpy
        obtain ⟨_, _, PX, psX, PY, psY, _, _, pr⟩ := pair_split kk f3 hj Qnd hjs
        have mx := pr.kx.1.may hpx
        have my := pr.ky.1.may hpy
        have h11 : px.keys.length = 1 ∨ py.keys.length = 1 := by
          rcases hjs with z | z
          · rw [z, hpx] at hc1; cases hc1; exact .inl (by omega)
          · rw [z, hpy] at hc1; cases hc1; exact .inr (by omega)
        have MJ := fun T2 => mend_join (T2 := T2) kk hm hl Qnd hj (by omega) hjs hpx hpy
        obtain ⟨-, hf, hcan, hxy, hxQ, hyQ, -, -⟩ := MJ T1
        have hxa : (p.kids[j]'(by omega)).toNat ≠ a := fun e => aQ (by rw [← e]; exact hxQ)
        have hya : (p.kids[j + 1]'(by omega)).toNat ≠ a := fun e => aQ (by rw [← e]; exact hyQ)
        have hxP : (p.kids[j]'(by omega)).toNat ∈ P := by rw [kd.eP]; exact List.mem_cons_of_mem _ (QP _ hxQ)
        have hyP : (p.kids[j + 1]'(by omega)).toNat ∈ P := by rw [kd.eP]; exact List.mem_cons_of_mem _ (QP _ hyQ)
        have haP : a ∈ P := hS.head
        rw [ej]
        refine mend_spec g1 ha hp1 X1a f3 hj f4 hsm rfl rfl hxa hya hxy hpx hpy mx my (fun hn => ⟨hf, by have := mt hcan.2 hn; omega⟩) (fun hc H2 ds2 g2 => ?_) (fun hn hk H2 ds2 g2 => ?_)
        · obtain ⟨-, -, -, -, -, -, mj, -⟩ := MJ (((T1.set (p.kids[j]'(by omega)).toNat (joinP px p.keys[j] py)).set (p.kids[j + 1]'(by omega)).toNat noPg).set a ⟨p.used, p.leaf, p.keys.eraseIdx j, p.vals, p.kids.eraseIdx (j + 1)⟩)
          have l1 : (p.kids[j]'(by omega)).toNat < T1.length := by omega
          have l2 : (p.kids[j + 1]'(by omega)).toNat < T1.length := by omega
          have t2x : (((T1.set (p.kids[j]'(by omega)).toNat (joinP px p.keys[j] py)).set (p.kids[j + 1]'(by omega)).toNat noPg).set a ⟨p.used, p.leaf, p.keys.eraseIdx j, p.vals, p.kids.eraseIdx (j + 1)⟩)[(p.kids[j]'(by omega)).toNat]? = some (joinP px p.keys[j] py) := by
            rw [List.getElem?_set_ne (Ne.symm hxa), List.getElem?_set_ne (Ne.symm hxy), List.getElem?_set_self l1]
          have t2y : (((T1.set (p.kids[j]'(by omega)).toNat (joinP px p.keys[j] py)).set (p.kids[j + 1]'(by omega)).toNat noPg).set a ⟨p.used, p.leaf, p.keys.eraseIdx j, p.vals, p.kids.eraseIdx (j + 1)⟩)[(p.kids[j + 1]'(by omega)).toNat]? = some noPg := by
            rw [List.getElem?_set_ne (Ne.symm hya), List.getElem?_set_self (by simpa using l2)]
          have t2a : (((T1.set (p.kids[j]'(by omega)).toNat (joinP px p.keys[j] py)).set (p.kids[j + 1]'(by omega)).toNat noPg).set a ⟨p.used, p.leaf, p.keys.eraseIdx j, p.vals, p.kids.eraseIdx (j + 1)⟩)[a]? = some ⟨p.used, p.leaf, p.keys.eraseIdx j, p.vals, p.kids.eraseIdx (j + 1)⟩ := List.getElem?_set_self (by simp; omega)
          have t2o : ∀ i, i ≠ (p.kids[j]'(by omega)).toNat → i ≠ (p.kids[j + 1]'(by omega)).toNat → i ≠ a → (((T1.set (p.kids[j]'(by omega)).toNat (joinP px p.keys[j] py)).set (p.kids[j + 1]'(by omega)).toNat noPg).set a ⟨p.used, p.leaf, p.keys.eraseIdx j, p.vals, p.kids.eraseIdx (j + 1)⟩)[i]? = T1[i]? := fun i h1 h2 h3 => by
            rw [List.getElem?_set_ne (Ne.symm h3), List.getElem?_set_ne (Ne.symm h2), List.getElem?_set_ne (Ne.symm h1)]
          obtain ⟨Q', m1, m2, m3, m4⟩ := mj (hcan.1 hc) t2x fun i h h1 h2 => t2o i h1 h2 fun e => aQ (by rw [← e]; exact h)
          refine hQ H2 ds2 _ _ (a :: Q') g2 ⟨by simp [dr.len], fun i h => ?_, List.nodup_cons.2 ⟨fun h => aQ (m2 a h), m1⟩, fun i h => ?_, fun i h h' => ?_, p, _, hp, t2a, rfl, ?_, ?_⟩ fun i h hx => ⟨fun e => h (by rw [e]; exact haP), fun e => h (by rw [e]; exact hyP), fun e => h (by rw [e]; exact hxP), X1o i h hx⟩
          · rw [t2o i (fun e => h (by rw [e]; exact hxP)) (fun e => h (by rw [e]; exact hyP)) (fun e => h (by rw [e]; exact haP))]
            exact outP i h
          · rcases List.mem_cons.1 h with z | z
            · rw [z]; exact haP
            · rw [kd.eP]; exact List.mem_cons_of_mem _ (QP i (m2 i z))
          · simp only [List.mem_cons, not_or] at h'
            by_cases hq : i ∈ PA ++ (Pi' ++ PC)
            · rw [m3 i hq h'.2]; exact t2y
            · rw [t2o i (fun e => hq (by rw [e]; exact hxQ)) (fun e => hq (by rw [e]; exact hyQ)) h'.1]
              exact (goneQ i h h'.1 hq).1
          · show p.keys.length ≤ (p.keys.eraseIdx j).length + 1
            rw [List.length_eraseIdx, if_pos hj]; omega
          · rw [hdel]
            by_cases h2 : 2 ≤ p.keys.length
            · exact .inl ⟨_, t2a, inner_erase hm hl hj h2, .inr ⟨hl, Q', rfl, m4⟩⟩
            · have e0 : p.keys.eraseIdx j = [] := List.eq_nil_of_length_eq_zero (by rw [List.length_eraseIdx, if_pos hj]; omega)
              have e1 : (p.kids.eraseIdx (j + 1)).length = 1 := by rw [List.length_eraseIdx, if_pos (by omega)]; omega
              obtain ⟨k, hk⟩ := List.length_eq_one_iff.1 e1
              have one : ∀ {R : Nat → List Nat → KV → Prop} {ks : List Int} {ss : List ByteArray} {qs : KV}, ks = [k] → ss = [] → KidsR R ks ss Q' qs → R k.toNat Q' qs := fun h1 h2 h => by subst h1; subst h2; exact h.2
              have hkm := f4 k (mem_erase (by rw [hk]; simp))
              exact .inr ⟨hl, e0, k, Q', hkm.1, hkm.2, hk, rfl, one hk e0 m4⟩
        · obtain ⟨-, -, -, -, -, -, -, mc⟩ := MJ (((T1.set (p.kids[j]'(by omega)).toNat (cutL (joinP px p.keys[j] py) ((joinP px p.keys[j] py).keys.length / 2))).set a ⟨p.used, p.leaf, p.keys.set j (joinP px p.keys[j] py).keys[(joinP px p.keys[j] py).keys.length / 2], p.vals, p.kids⟩).set (p.kids[j + 1]'(by omega)).toNat (cutR (joinP px p.keys[j] py) ((joinP px p.keys[j] py).keys.length / 2)))
          have l1 : (p.kids[j]'(by omega)).toNat < T1.length := by omega
          have l2 : (p.kids[j + 1]'(by omega)).toNat < T1.length := by omega
          have h5 : 5 ≤ (joinP px p.keys[j] py).keys.length := by have := mt hcan.2 hn; omega
          obtain ⟨hk', -, -, hsz, mc⟩ := mc h5 h11
          have t2x := List.getElem?_set_ne (l := (T1.set (p.kids[j]'(by omega)).toNat (cutL (joinP px p.keys[j] py) ((joinP px p.keys[j] py).keys.length / 2))).set a ⟨p.used, p.leaf, p.keys.set j (joinP px p.keys[j] py).keys[(joinP px p.keys[j] py).keys.length / 2], p.vals, p.kids⟩) (a := cutR (joinP px p.keys[j] py) ((joinP px p.keys[j] py).keys.length / 2)) (Ne.symm hxy)
          rw [List.getElem?_set_ne (Ne.symm hxa), List.getElem?_set_self l1] at t2x
          have t2y := List.getElem?_set_self (l := (T1.set (p.kids[j]'(by omega)).toNat (cutL (joinP px p.keys[j] py) ((joinP px p.keys[j] py).keys.length / 2))).set a ⟨p.used, p.leaf, p.keys.set j (joinP px p.keys[j] py).keys[(joinP px p.keys[j] py).keys.length / 2], p.vals, p.kids⟩) (i := (p.kids[j + 1]'(by omega)).toNat) (a := cutR (joinP px p.keys[j] py) ((joinP px p.keys[j] py).keys.length / 2)) (by simpa using l2)
          have t2a := List.getElem?_set_ne (l := (T1.set (p.kids[j]'(by omega)).toNat (cutL (joinP px p.keys[j] py) ((joinP px p.keys[j] py).keys.length / 2))).set a ⟨p.used, p.leaf, p.keys.set j (joinP px p.keys[j] py).keys[(joinP px p.keys[j] py).keys.length / 2], p.vals, p.kids⟩) (a := cutR (joinP px p.keys[j] py) ((joinP px p.keys[j] py).keys.length / 2)) hya
          rw [List.getElem?_set_self (by simp; omega)] at t2a
          have t2o : ∀ i, i ≠ (p.kids[j]'(by omega)).toNat → i ≠ (p.kids[j + 1]'(by omega)).toNat → i ≠ a → (((T1.set (p.kids[j]'(by omega)).toNat (cutL (joinP px p.keys[j] py) ((joinP px p.keys[j] py).keys.length / 2))).set a ⟨p.used, p.leaf, p.keys.set j (joinP px p.keys[j] py).keys[(joinP px p.keys[j] py).keys.length / 2], p.vals, p.kids⟩).set (p.kids[j + 1]'(by omega)).toNat (cutR (joinP px p.keys[j] py) ((joinP px p.keys[j] py).keys.length / 2)))[i]? = T1[i]? := fun i h1 h2 h3 => by
            rw [List.getElem?_set_ne (Ne.symm h2), List.getElem?_set_ne (Ne.symm h3), List.getElem?_set_ne (Ne.symm h1)]
          obtain ⟨Q', m1, m2, m3, m4⟩ := mc t2x t2y fun i h h1 h2 => t2o i h1 h2 fun e => aQ (by rw [← e]; exact h)
          refine hQ H2 ds2 _ _ (a :: Q') g2 ⟨by simp [dr.len], fun i h => ?_, List.nodup_cons.2 ⟨fun h => aQ ((m2 a).1 h), m1⟩, fun i h => ?_, fun i h h' => ?_, p, _, hp, t2a, rfl, ?_, .inl ?_⟩ fun i h hx => ⟨fun e => h (by rw [e]; exact hyP), fun e => h (by rw [e]; exact haP), fun e => h (by rw [e]; exact hxP), X1o i h hx⟩
          · rw [t2o i (fun e => h (by rw [e]; exact hxP)) (fun e => h (by rw [e]; exact hyP)) (fun e => h (by rw [e]; exact haP))]
            exact outP i h
          · rcases List.mem_cons.1 h with z | z
            · rw [z]; exact haP
            · rw [kd.eP]; exact List.mem_cons_of_mem _ (QP i ((m2 i).1 z))
          · simp only [List.mem_cons, not_or] at h'
            have hq : i ∉ PA ++ (Pi' ++ PC) := fun z => h'.2 ((m2 i).2 z)
            rw [t2o i (fun e => hq (by rw [e]; exact hxQ)) (fun e => hq (by rw [e]; exact hyQ)) h'.1]
            exact (goneQ i h h'.1 hq).1
          · show p.keys.length ≤ (p.keys.set j _).length + 1
            simp
          · rw [hdel]
            exact ⟨_, t2a, inner_set hm hl hsz m4, .inr ⟨hl, Q', rfl, m3⟩⟩
      · rw [bite_f (by simp; omega)]
        refine hQ H1 ds1 T1 X1 (a :: (PA ++ (Pi' ++ PC))) g1 ⟨dr.len, outP, List.nodup_cons.2 ⟨aQ, Qnd⟩, fun i h => ?_, fun i h h' => ?_, p, p, hp, hp1, rfl, by omega, .inl ?_⟩ X1o
        · rcases List.mem_cons.1 h with z | z
          · rw [z]; exact hS.head
          · rw [kd.eP]; exact List.mem_cons_of_mem _ (QP i z)
        · simp only [List.mem_cons, not_or] at h'
          exact (goneQ i h h'.1 h'.2).1
        · rw [hdel]
          exact ⟨p, hp1, hm, .inr ⟨hl, _, rfl, kk.noShort ⟨c1, hc1, by omega⟩⟩⟩
end
end Go.Am
namespace Go.Am

section
variable {H : Hp} {Q : Post} {a : Pl} {n : Nat} {T : List Pg} {cs : List Am.PC}
set_option maxRecDepth 100000 in
theorem sound_Copy_spec (hT : Tr H a n cs T) (hn : n * 80 ≤ 140737488351232) (hs : ∀ p ∈ T, small p) (hQ : ∀ a' ds H', CT H H' tPg a' n ds T → Q (.agg [.sl a' n 5]) H') : sound_Copy [.agg [.sl a n 5]] H Q := by
  have hlT := hT.lenT
  have loop : ∀ (f k : Nat) (a' : Pl) (ds : List Am.PC) (H' : Hp), n - k < f → k ≤ n → CT H H' tPg a' k ds (T.take k) → sound_Copy.l3 f none 0 a' k a n (nI n) (k : Int) H' Q := by
    intro f
    induction f with
    | zero => intro k _ _ _ h; omega
    | succ f ih =>
      intro k a' ds H' hf hk g
      have hp := g.pre
      rw [sound_Copy.l3_eq]
      by_cases hkn : k < n
      · obtain ⟨l, o, c, p, rfl, hc, hpp, hpc, g0, g1, g2, g3, g4⟩ := (hT.mono hp).get hkn
        have etN : tN (k : Int) = k := rfl
        rw [bite_t (by simp; omega), chk_true]
        refine chk_of (by simp; omega) ?_
        rw [pS_some, etN, rdPage_of g0 g1 g2 g3 g4]
        have hsp := hs p (List.mem_of_getElem? hpp)
        obtain ⟨s1, s2, s3, s4, s5⟩ := hsp
        have e1 := hpc.keys.len
        have e2 := hpc.vals.len
        have e3 := hpc.kids.len
        refine page_Copy_spec hpc (by omega) fun b1 b2 b3 H2 p2 o2 => ?_
        simp only [rA_agg, uC_cons, dB_bool, dL_sl, uN_nil]
        rw [chk_true]
        have hTk : T.take k ++ [p] = T.take (k + 1) := by rw [List.take_add_one, hpp]; rfl
        refine g.add (d := ⟨c.u, c.l, b1, c.n1, b2, c.n2, b3, c.n3⟩) p2 o2.at o2.pc o2.fresh (by unfold Lim; have := Nat.mul_le_mul_right 80 (show k + 1 ≤ n by omega); omega) fun a'' H3 g3 => ?_
        rw [hTk] at g3
        rw [wrap_succ (by omega)]
        exact ih (k + 1) a'' _ H3 (by omega) (by omega) g3
      · obtain rfl : k = n := by omega
        rw [bite_f (by simp)]
        rw [List.take_of_length_le (by omega)] at g
        exact hQ a' ds H' g
  refine ⟨n + 2, ?_⟩
  rw [sound_Copy_eq]
  exact loop (n + 1) 0 none [] H (by omega) (Nat.zero_le _) (CT.nil H tPg)

theorem CT.cm {B H : Hp} {a : Pl} {ds : List Am.PC} {T : List Pg} (g : CT B H tPg a 48 ds T) (hs : ∀ p ∈ T, small p) : ∃ tp, a = some (tp, 0) ∧ CM B (H ++ [.row true tEraser [.sl a 48 5]]) H.length tp ds T (fun _ => True) := by
  have q1 := g.ot.len
  have q2 := g.ot.lenT
  obtain ⟨tp, e, hb, hr, _⟩ := own_row g.ot.own (by omega)
  subst e
  have p1 : H <+: H ++ [.row true tEraser [.sl (some (tp, 0)) 48 5]] := List.prefix_append _ _
  have g1 := g.mono p1
  have lt : ∀ i (h : i < ds.length) l, (ds[i]).on l → l < H.length := fun i h l hl => g.ot.onlt (List.getElem_mem h) hl
  refine ⟨tp, rfl, g1.pre, g1.ot, fun i h => (g1.own i h (by omega)).wo (g1.ot.all i h (by omega)) (hs _ (List.getElem_mem _)), fun i h l hl => ?_, fun i h h' _ => g1.own i h h', g1.ap, by simp, g.pre.length_le, fun i h hl => by have := lt i h _ hl; omega⟩
  have ho := g.own i h (by omega)
  obtain ⟨o, e | e | e⟩ := hl
  · exact ho.keys.ge e
  · exact ho.vals.ge e
  · exact ho.kids.ge e
end

/-! the root -/
theorem sub_move {T T' : List Pg} {d k : Nat} {P : List Nat} {ps : KV} {p : Pg} (h : Sub T d k P ps) (hp : T[k]? = some p) (h0 : T'[0]? = some p) (hk : P.Nodup) (hT : ∀ i ∈ P, i ≠ k → T'[i]? = T[i]?) : Sub T' d 0 (0 :: P.tail) ps := by
  have hm := h.may hp
  cases hl : p.leaf with
  | true =>
    obtain ⟨e, eP, es⟩ := h.leafD hp hl
    subst e; subst eP
    exact ⟨p, h0, hm, .inl ⟨rfl, hl, rfl, es⟩⟩
  | false =>
    obtain ⟨d', P', e, eP, kk⟩ := h.innD hp hl
    subst e; subst eP
    have hn := List.nodup_cons.1 hk
    exact ⟨p, h0, hm, .inr ⟨hl, P', rfl, kk.imp fun j Q qs hb hin => hb.keep fun i hi => hT i (by simp [hin i hi]) fun e => hn.1 (by rw [← e]; exact hin i hi)⟩⟩
section
variable {B H : Hp} {le tp : Nat} {ds : List Am.PC} {T T' : List Pg} {X : Nat → Prop} {d : Nat} {P P' : List Nat} {ps qs : KV} {Q : Post}
set_option maxRecDepth 100000 in
theorem root_spec (g : CM B H le tp ds T' X) (w : Whole T d P ps) (dr : Dr2 T T' d 0 P P' qs) (hc : qs.length ≤ 60)
    (hQ : ∀ H' ds' T2 X', CM B H' le tp ds' T2 X' → (∃ d P, Whole T2 d P qs) → Q (.tup []) H') : erase_eraser_root [.g (.ptr (some (le, 0)))] H Q := by
  have q1 := g.ot.len
  have q2 := g.ot.lenT
  obtain ⟨p, p', hp, hp', hl, hk, hcase⟩ := dr.pages
  have e0 : T'[0]'(by omega) = p' := (List.getElem?_eq_some_iff.1 hp').2
  have at0 := g.ot.all 0 (by omega) (by omega)
  rw [e0] at at0
  obtain ⟨a0, a1, a2, a3, a4⟩ := g.cells (i := 0) (by omega)
  have rest : ∀ (i : Nat) r, T'[i]? = some r → i ∉ P' → nothingB r = true := fun i r hr hi => by
    by_cases h : i ∈ P
    · rw [dr.gone i h hi] at hr
      cases hr; rfl
    · rw [dr.out i h] at hr
      exact w.rest i r hr h
  refine ⟨1, ?_⟩
  have et0 : tN 0 = 0 := rfl
  rw [erase_eraser_root_eq, pS_some, Nat.add_zero, rd_of g.gtE, dL_sl, chk_true]
  refine chk_of (by decide) ?_
  rw [pS_some, et0, rdPage_of a0 a1 a2 a3 a4]
  have lf := at0.leaf
  have l1 := at0.keys.len
  rcases hcase with hS | ⟨hpl, hpk, k, P'', k1, k2, hkids, eP, hB⟩
  · have hm := hS.may hp'
    have fin : Q (.tup []) H := hQ H ds T' X g ⟨d, P', by omega, hS, dr.nd, rest, hc⟩
    cases e : p'.leaf with
    | true => rw [bite_f (by rw [← lf, e]; rfl)]; exact fin
    | false =>
      have := (hm.2.inner e).1
      rw [bite_t (by rw [← lf, e]; rfl), bite_f (by simp; omega)]
      exact fin
  · rw [bite_t (by rw [← lf, hpl]; rfl), bite_t (by rw [l1, hpk]; rfl)]
    have hk48 : k.toNat < 48 := by omega
    obtain ⟨c0, c1, c2, c3, c4⟩ := g.cells (i := k.toNat) (by omega)
    have hkid : p'.kids[0]'(by rw [hkids]; simp) = k := by simp [hkids]
    have l3 := at0.kids.len
    have rdk : ∀ K : Int → Prop, (chk (leI 0 0 && ltI 0 (nI (ds[0]'(by omega)).n3)) (pS (ds[0]'(by omega)).a3 fun n0 n1 => rd H n0 (n1 + 0 * 1) fun v => dI .i64 v K)) = K (p'.kids[0]'(by rw [hkids]; simp)) := fun K => at0.kids.rd 0 rfl (by rw [hkids]; simp) K
    rw [pS_some, Nat.add_zero, rd_of g.gtE, dL_sl, pS_some, rd_of g.gtE, dL_sl, chk_true, rdk, pS_some, Nat.add_zero, rd_of g.gtE, dL_sl, chk_true, rdk, chk_true, hkid]
    refine chk_of (by simp; omega) ?_
    have etk : tN k = k.toNat := rfl
    rw [pS_some, etk, rdPage_of c0 c1 c2 c3 c4, chk_true]
    refine chk_of (by decide) ?_
    obtain ⟨hb, hr⟩ := g.ot.at_row
    have htp := (List.getElem?_eq_some_iff.1 hr).1
    rw [pS_some, Nat.zero_mul, Nat.add_zero]
    have z0 : (0 : Nat) = 0 * 5 := rfl
    refine wr5 (i := 0) (c := ds[k.toNat]'(by omega)) hr (by omega) ?_
    rw [chk_true]
    refine chk_of (by simp; omega) ?_
    rw [pS_some, Nat.zero_add]
    refine wr5 (c := ⟨false, false, none, 0, none, 0, none, 0⟩) (List.getElem?_set_self htp) (by simp; omega) ?_
    rw [List.set_set]
    have hne : k.toNat ≠ 0 := by omega
    -- the same in the other row
    have h1 := g.turn (i := k.toNat) (H' := H.set tp (.row true tPg (pcells (ds.set k.toNat ⟨false, false, none, 0, none, 0, none, 0⟩)))) (c := ⟨false, false, none, 0, none, 0, none, 0⟩) (p := noPg) (X' := fun _ => False) (by omega) (by simp) (fun l _ _ hl => by rw [List.getElem?_set_ne (Ne.symm hl)]) (List.getElem?_set_self htp) (no_at _) (no_wo _ _ _) (fun l hl => (no_on hl).elim) (fun j hj => hj.elim)
    have hsame : ∀ l, l ≠ tp → (H.set tp (.row true tPg (pcells ((ds.set k.toNat ⟨false, false, none, 0, none, 0, none, 0⟩).set 0 (ds[k.toNat]'(by omega))))))[l]? = H[l]? := fun l hl => by rw [List.getElem?_set_ne (Ne.symm hl)]
    have hofftp : ∀ l, (ds[k.toNat]'(by omega)).on l → l ≠ tp := fun l hl e => by subst e; exact g.ot.off _ (List.getElem_mem (by omega)) _ hl rfl
    have h2 := h1.turn (i := 0) (H' := H.set tp (.row true tPg (pcells ((ds.set k.toNat ⟨false, false, none, 0, none, 0, none, 0⟩).set 0 (ds[k.toNat]'(by omega)))))) (c := ds[k.toNat]'(by omega)) (p := T'[k.toNat]'(by omega)) (X' := fun _ => False) (by simp; omega) (by simp) (fun l _ _ hl => by rw [hsame l hl, List.getElem?_set_ne (Ne.symm hl)]) (List.getElem?_set_self htp)
      ((g.ot.all k.toNat (by omega) (by omega)).keep fun l hl => hsame l (hofftp l hl)) ((g.wo k.toNat (by omega)).keepOn fun l hl => hsame l (hofftp l hl))
      (fun l hl => ⟨hofftp l hl, fun e => by subst e; exact g.offE _ (by omega) hl, g.base _ (by omega) l hl, fun j hj hj0 hon => by
        rw [List.getElem_set] at hon
        by_cases e : k.toNat = j
        · rw [if_pos e] at hon; exact no_on hon
        · rw [if_neg e] at hon
          simp at hj
          exact g.ap k.toNat j (by omega) hj e l hl hon⟩) (fun j hj => hj.elim)
    rw [List.set_comm _ _ hne] at h2
    refine hQ _ _ _ _ h2 ?_
    obtain ⟨r, hr1, hr2⟩ := hB.2
    have er : T'[k.toNat]'(by omega) = r := (List.getElem?_eq_some_iff.1 hr1).2
    have t0 : ((T'.set k.toNat noPg).set 0 (T'[k.toNat]'(by omega)))[0]? = some r := by rw [List.getElem?_set_self (by simp; omega), er]
    have tk : ((T'.set k.toNat noPg).set 0 (T'[k.toNat]'(by omega)))[k.toNat]? = some noPg := by rw [List.getElem?_set_ne (Ne.symm hne), List.getElem?_set_self (by omega)]
    have to : ∀ i, i ≠ 0 → i ≠ k.toNat → ((T'.set k.toNat noPg).set 0 (T'[k.toNat]'(by omega)))[i]? = T'[i]? := fun i h h' => by rw [List.getElem?_set_ne (Ne.symm h), List.getElem?_set_ne (Ne.symm h')]
    have hnd := dr.nd
    rw [eP] at hnd
    have hn := List.nodup_cons.1 hnd
    have hS := sub_move (T' := (T'.set k.toNat noPg).set 0 (T'[k.toNat]'(by omega))) hB.1 hr1 t0 hn.2 fun i hi hik => to i (fun e => hn.1 (by rw [← e]; exact hi)) hik
    have htail : ∀ i, i ∈ P'' → i ≠ k.toNat → i ∈ P''.tail := fun i hi hik => by
      cases hr' : r.leaf with
      | true => obtain ⟨_, e, _⟩ := hB.1.leafD hr1 hr'; rw [e] at hi; exact (hik (List.mem_singleton.1 hi)).elim
      | false =>
        obtain ⟨_, P3, _, e, _⟩ := hB.1.innD hr1 hr'
        rw [e] at hi ⊢
        rcases List.mem_cons.1 hi with z | z
        · exact (hik z).elim
        · exact z
    refine ⟨_, _, by simp; omega, hS, List.nodup_cons.2 ⟨fun h => hn.1 (List.mem_of_mem_tail h), hn.2.sublist (List.tail_sublist _)⟩, fun i q hq hi => ?_, hc⟩
    simp only [List.mem_cons, not_or] at hi
    by_cases e : i = k.toNat
    · rw [e, tk] at hq; cases hq; rfl
    · rw [to i hi.1 e] at hq
      refine rest i q hq ?_
      rw [eP]
      intro h
      rcases List.mem_cons.1 h with z | z
      · exact hi.1 z
      · exact hi.2 (htail i z e)
end
end Go.Am
namespace Go.Am

section
variable {ps : KV} {k k' : ByteArray}
theorem delK_cons (x : ByteArray × ByteArray) (ps : KV) (k : ByteArray) : delK (x :: ps) k = match decide (x.1 = k) with | true => ps | false => x :: delK ps k := rfl
theorem delK_sub : (delK ps k).Sublist ps := by
  induction ps with
  | nil => exact List.Sublist.refl _
  | cons x ps ih =>
    rw [delK_cons]
    cases decide (x.1 = k) with
    | true => exact List.sublist_cons_self _ _
    | false => exact ih.cons_cons _
theorem delK_le : (delK ps k).length ≤ ps.length := delK_sub.length_le
end

/-! a tree that may be written over, or none -/
def WT (H : Hp) (b hi : Nat) (a : Pl) (m : Nat) : Prop := m = 0 ∨ ∃ tp cs, a = some (tp, 0) ∧ (b ≤ tp ∧ tp < hi) ∧ H[tp]? = some (Obj.row true tPg (pcells cs)) ∧ cs.length = m ∧ m ≤ 1000 ∧ ∀ c ∈ cs, WoS H b hi 1000 c
theorem TxS.keep {H H' : Hp} {b hi M : Nat} {a : Pl} {n : Nat} (h : TxS H b hi M a n) (hk : ∀ l, b ≤ l → l < hi → H'[l]? = H[l]?) : TxS H' b hi M a n := by
  rcases h with h | ⟨l, o, xs, e, hb, hr, hl, hm⟩
  · exact .inl h
  · exact .inr ⟨l, o, xs, e, hb, by unfold SRow; rw [hk l hb.1 hb.2]; exact hr, hl, hm⟩
theorem NuS.keep {H H' : Hp} {b hi : Nat} {a : Pl} {n : Nat} (h : NuS H b hi a n) (hk : ∀ l, b ≤ l → l < hi → H'[l]? = H[l]?) : NuS H' b hi a n := by
  rcases h with h | ⟨l, o, xs, e, hb, hr, hl⟩
  · exact .inl h
  · exact .inr ⟨l, o, xs, e, hb, by unfold IRow; rw [hk l hb.1 hb.2]; exact hr, hl⟩
theorem WT.keep {H H' : Hp} {b hi : Nat} {a : Pl} {m : Nat} (h : WT H b hi a m) (hk : ∀ l, b ≤ l → l < hi → H'[l]? = H[l]?) : WT H' b hi a m := by
  rcases h with h | ⟨tp, cs, e, hb, hr, hl, hm, hc⟩
  · exact .inl h
  · exact .inr ⟨tp, cs, e, hb, by rw [hk tp hb.1 hb.2]; exact hr, hl, hm, fun c q => ⟨(hc c q).t1.keep hk, (hc c q).t2.keep hk, (hc c q).t3.keep hk, (hc c q).s1, (hc c q).s2, (hc c q).s3⟩⟩
theorem TxR.s {H : Hp} {b M : Nat} {a : Pl} {n : Nat} (h : TxR H b M a n) : TxS H b H.length M a n := by
  rcases h with h | ⟨l, o, xs, e, hb, hr, hl, hm⟩
  · exact .inl h
  · exact .inr ⟨l, o, xs, e, ⟨hb, (List.getElem?_eq_some_iff.1 hr).1⟩, hr, hl, hm⟩
theorem NuR.s {H : Hp} {b : Nat} {a : Pl} {n : Nat} (h : NuR H b a n) : NuS H b H.length a n := by
  rcases h with h | ⟨l, o, xs, e, hb, hr, hl⟩
  · exact .inl h
  · exact .inr ⟨l, o, xs, e, ⟨hb, (List.getElem?_eq_some_iff.1 hr).1⟩, hr, hl⟩
theorem WoP.s {H : Hp} {b M : Nat} {c : Am.PC} (h : WoP H b M c) : WoS H b H.length M c := ⟨h.t1.s, h.t2.s, h.t3.s, h.s1, h.s2, h.s3⟩
theorem CM.wt {B H : Hp} {le tp : Nat} {ds : List Am.PC} {T : List Pg} {X : Nat → Prop} (g : CM B H le tp ds T X) {b : Nat} (hb' : b ≤ B.length) : WT H b H.length (some (tp, 0)) 48 := by
  obtain ⟨hb, hr⟩ := g.ot.at_row
  refine .inr ⟨tp, ds, rfl, ⟨by omega, (List.getElem?_eq_some_iff.1 hr).1⟩, hr, g.ot.len, by omega, fun c hc => ?_⟩
  obtain ⟨i, hi, rfl⟩ := List.getElem_of_mem hc
  exact ((g.wo i hi).base hb').s
/-! erase -/
/-- what is behind an erased key -/
structure ErR (T : List Pg) (key : ByteArray) (T' : List Pg) : Prop where
  bad : heightD T = 0 → T' = []
  no : 0 < heightD T → findK (entD T) key = none → T' = T
  yes : 0 < heightD T → (findK (entD T) key).isSome = true → 0 < heightD T' ∧ entD T' = delK (entD T) key
section
variable {H : Hp} {Q : Post} {x : Pl} {n : Nat} {T : List Pg} {cs : List Am.PC} {key : ByteArray}
theorem findE_of (h : 0 < heightD T) : findE T key = findK (entD T) key := by unfold findE allE; rw [decide_eq_true h]
theorem findE_bad (h : heightD T = 0) : findE T key = none := by unfold findE allE; rw [decide_eq_false (by omega)]; rfl
set_option maxRecDepth 100000 in
theorem erase_Erase_spec (hT : Tr H x n cs T) (hn : n * 80 ≤ 140737488351232)
    (hQ : ∀ a m ds T' H', H <+: H' → Tr H' a m ds T' → ErR T key T' → ((findE T key).isSome = true → WT H' H.length H'.length a m) → m ≤ 48 → Q (.tup [.a [.sl a m 5], .s (.bool (findE T key).isSome), .s (.int .i64 (errE 1300 T))]) H') :
    erase_Erase [.agg [.sl x n 5], .g (.str key)] H Q := by
  refine ⟨2, ?_⟩
  rw [erase_Erase_eq]
  refine find_Find_spec hT fun H1 p1 => ?_
  simp only [rT_tup, uR_cons, rS_s, dS_str, dB_bool, dI_int, uE_nil]
  by_cases h0 : 0 < heightD T
  rotate_left
  · have e1 : errE 1100 T = 1100 := by unfold errE; rw [decide_eq_false h0]
    have e2 : errE 1300 T = 1300 := by unfold errE; rw [decide_eq_false h0]
    have e3 : findE T key = none := findE_bad (by omega)
    rw [e1, bite_t (by decide)]
    have := hQ none 0 [] [] H1 p1 (tr_nil H1) ⟨fun _ => rfl, fun h => (h0 h).elim, fun h => (h0 h).elim⟩ (fun h => by rw [e3] at h; cases h) (by omega)
    rw [e2, e3] at this
    exact this
  have e1 : errE 1100 T = 0 := by unfold errE; rw [decide_eq_true h0]
  have e2 : errE 1300 T = 0 := by unfold errE; rw [decide_eq_true h0]
  rw [e2, findE_of h0] at hQ
  rw [e1, bite_f (by decide), findE_of h0]
  obtain ⟨P, w⟩ := whole_of h0
  have hn48 : n = 48 := by have := hT.lenT; have := w.len; omega
  subst hn48
  have hs := small_sound h0
  refine sound_Copy_spec (hT.mono p1) (by omega) hs fun a' ds H2 g => ?_
  simp only [rA_agg, uC_cons, dL_sl, uN_nil]
  simp only [pu_def, ln_def]
  obtain ⟨tp, ea, gm⟩ := g.cm hs
  subst ea
  cases hf : (findK (entD T) key).isSome with
  | false =>
    rw [bite_f rfl]
    rw [erase_Erase.l8_eq, Nat.add_zero, rd_of gm.gtE, dL_sl]
    rw [hf] at hQ
    refine hQ _ _ ds T _ (p1.trans gm.pre) gm.ot.tr ⟨fun h => by omega, fun _ _ => rfl, fun _ h => by rw [hf] at h; cases h⟩ (fun h => by cases h) (by omega)
  | true =>
    rw [bite_t rfl]
    rw [hf] at hQ
    obtain ⟨v, hv⟩ := Option.isSome_iff_exists.1 hf
    have hmem := findK_some hv
    refine ⟨heightD T, drop_spec (heightD T) (a := 0) gm w.sub w.nodup (fun _ _ => trivial) ⟨_, hmem, rfl⟩ (by omega) fun H3 ds3 T3 X3 P3 g3 dr _ => ?_⟩
    refine root_spec g3 w dr (by have := delK_le (ps := entD T) (k := key); have := w.count; omega) fun H4 ds4 T4 X4 g4 hw => ?_
    obtain ⟨d4, P4, w4⟩ := hw
    rw [erase_Erase.l8_eq, Nat.add_zero, rd_of g4.gtE, dL_sl]
    exact hQ _ _ ds4 T4 _ (p1.trans g4.pre) g4.ot.tr ⟨fun h => by omega, fun _ h => (by rw [h] at hf; cases hf), fun _ _ => ⟨w4.pos', w4.sound.2⟩⟩ (fun _ => g4.wt p1.length_le) (by omega)

end
end Go.Am
namespace Go.Am

/-! numbers -/
theorem wrapU (z : Int) : wrapI .u64 z = z % 18446744073709551616 := by
  show (if (false && decide (z % (18446744073709551616 : Int) ≥ 9223372036854775808)) = true then z % (18446744073709551616 : Int) - 18446744073709551616 else z % (18446744073709551616 : Int)) = _
  rw [Bool.false_and]
  rfl
theorem wrapU_nat {m : Nat} (h : m ≤ 1000000) : wrapI .u64 (m : Int) = m := by rw [wrapU]; omega
theorem pick (z : Int) {m : Nat} (h1 : 1 ≤ m) (h2 : m ≤ 1000) : ∃ i : Nat, i < m ∧ wrapI .i64 (Int.tmod (wrapI .u64 z) (wrapI .u64 (m : Int))) = (i : Int) := by
  have e1 : wrapI .u64 (m : Int) = m := wrapU_nat (by omega)
  have h0 : 0 ≤ wrapI .u64 z := by rw [wrapU]; omega
  rw [e1, Int.tmod_eq_emod_of_nonneg h0]
  have l1 := Int.emod_nonneg (wrapI .u64 z) (show (m : Int) ≠ 0 by omega)
  have l2 := Int.emod_lt_of_pos (wrapI .u64 z) (show 0 < (m : Int) by omega)
  refine ⟨(wrapI .u64 z % (m : Int)).toNat, by omega, ?_⟩
  rw [wrap64 (by omega) (by omega)]; omega
theorem other (z : Int) {m i : Nat} (h1 : 2 ≤ m) (h2 : m ≤ 1000) (hi : i < m) : ∃ j : Nat, j < m ∧ j ≠ i ∧ Int.tmod (wrapI .i64 (wrapI .i64 ((i : Int) + 1) + wrapI .i64 (Int.tmod (wrapI .u64 z) (wrapI .u64 (wrapI .i64 ((m : Int) - 1)))))) (m : Int) = (j : Int) := by
  have e0 : wrapI .i64 ((m : Int) - 1) = ((m - 1 : Nat) : Int) := by rw [wrap64 (by omega) (by omega)]; omega
  obtain ⟨b, hb, eb⟩ := pick z (m := m - 1) (by omega) (by omega)
  rw [e0, eb, wrap64 (n := (i : Int) + 1) (by omega) (by omega), wrap64 (by omega) (by omega)]
  have e1 : (i : Int) + 1 + (b : Int) = ((i + 1 + b : Nat) : Int) := by omega
  refine ⟨(i + 1 + b) % m, Nat.mod_lt _ (by omega), fun e => ?_, ?_⟩
  · by_cases h : i + 1 + b < m
    · rw [Nat.mod_eq_of_lt h] at e; omega
    · rw [Nat.mod_eq_sub_mod (by omega), Nat.mod_eq_of_lt (by omega)] at e; omega
  · rw [e1]; rfl

section
variable {H : Hp} {Q : Post} {key : ByteArray}
theorem entA : entD (buildD kvA) = kvA := by
  have := allA
  unfold allE at this
  rw [decide_eq_true hA] at this
  exact this
theorem findA1 : (findE (buildD kvA) (mkS [99])).isSome = true := by rw [findE_of hA, entA]; decide +kernel
theorem findA2 : findE (buildD kvA) (mkS [120]) = none := by rw [findE_of hA, entA]; decide +kernel
theorem delA : delK kvA (mkS [99]) = [(mkS [97], mkS [49]), (mkS [98], mkS []), (mkS [100], mkS []), (mkS [101], mkS [53])] := by decide +kernel
theorem all_er {T T' : List Pg} (h : 0 < heightD T) (r : ErR T key T') (hs : (findE T key).isSome = true) : 0 < heightD T' ∧ allE T' = delK (entD T) key ∧ errE 1400 T' = 0 := by
  rw [findE_of h] at hs
  obtain ⟨h1, h2⟩ := r.yes h hs
  refine ⟨h1, ?_, ?_⟩
  · unfold allE; rw [decide_eq_true h1]; exact h2
  · unfold errE; rw [decide_eq_true h1]
theorem err_ok {T : List Pg} (h : 0 < heightD T) (e : Int) : errE e T = 0 := by unfold errE; rw [decide_eq_true h]
theorem er_none {T T' : List Pg} (r : ErR T key T') (hs : findE T key = none) : T' = T ∨ (heightD T = 0 ∧ T' = []) := by
  by_cases h : 0 < heightD T
  · rw [findE_of h] at hs; exact .inl (r.no h hs)
  · exact .inr ⟨by omega, r.bad (by omega)⟩
set_option maxRecDepth 100000 in
theorem law13_awake_spec (hQ : ∀ H', H <+: H' → Q (.g (.bool true)) H') : law13_awake [] H Q := by
  refine ⟨1, ?_⟩
  rw [law13_awake_eq]
  simp only [pu_def, ln_def]
  have pA := pre_pu H (.row false 1000003 [(.str (mkS [97])), (.str (mkS [49])), (.str (mkS [98])), (.str (mkS [])), (.str (mkS [99])), (.str (mkS [51])), (.str (mkS [100])), (.str (mkS [])), (.str (mkS [101])), (.str (mkS [53]))])
  refine ref9_Build_spec (kvA_at H) (by omega) fun H1 tp cs p1 oT => ?_
  simp only [rA_agg, uC_cons, dL_sl, uN_nil]
  have n0 : errE 1300 (buildD kvA) = 0 := err_ok hA _
  refine erase_Erase_spec oT.tr (by omega) fun a m ds T1 H2 p2 t1 r1 w1 b1 => ?_
  simp only [rT_tup, uR_cons, rC_a, uC_cons, dL_sl, uN_nil, rS_s, dB_bool, dI_int, uE_nil]
  refine erase_Erase_spec (oT.tr.mono p2) (by omega) fun a' m' ds' T2 H3 p3 t2 r2 w2 b2 => ?_
  simp only [rT_tup, uR_cons, rC_a, uC_cons, dL_sl, uN_nil, rS_s, dB_bool, dI_int, uE_nil]
  refine erase_Erase_spec (tr_nil H3) (by omega) fun a'' m'' ds'' T3 H4 p4 t3 r3 w3 b3 => ?_
  simp only [rT_tup, uR_cons, rC_a, uC_cons, dL_sl, uN_nil, rS_s, dB_bool, dI_int, uE_nil]
  obtain ⟨h1, h2, h3⟩ := all_er hA r1 findA1
  refine ref9_All_spec (t1.mono (p3.trans p4)) fun c k H5 p5 o5 l5 => ?_
  simp only [rT_tup, uR_cons, rS_s, dL_sl, dI_int, uE_nil]
  have hE : errE 1300 [] = 1300 := by decide +kernel
  have e2 : T2 = buildD kvA := (er_none r2 findA2).resolve_right fun h => by have := hA; omega
  rw [h3, n0, findA1, findA2, hE, bite_t rfl]
  refine law0_Num_spec ?_
  simp only [rG_g, dI_int]
  rw [bite_t (by decide), bite_t (by decide)]
  refine law0_Num_spec ?_
  simp only [rG_g, dI_int]
  rw [bite_t (by decide)]
  refine law0_SameTree_spec (t2.mono (p4.trans p5)) (oT.tr.mono (p2.trans (p3.trans (p4.trans p5)))) (by omega) fun b hb => ?_
  simp only [rG_g, dB_bool]
  rw [bite_t (hb.2 e2)]
  refine law0_Num_spec ?_
  simp only [rG_g, dI_int]
  rw [bite_t (by decide), bite_t (by decide)]
  rw [h2, entA, delA] at o5 l5
  have hk : k = 4 := l5.symm
  subst hk
  rw [bite_t (by decide), chk_true]
  refine chk_of (by decide) ?_
  obtain ⟨l, o, ea, q1, q2⟩ := (o5.kv rfl).get (i := 2) (by simp)
  subst ea
  have et : tN 2 = 2 := rfl
  rw [pS_some, et, Nat.add_zero, rd_of q1, dS_str]
  have : strEq (mkS [100]) (mkS [100]) = true := by simp
  show Q (.g (.bool (strEq (mkS [100]) (mkS [100])))) H5
  rw [this]
  exact hQ _ (pA.trans (p1.trans (p2.trans (p3.trans (p4.trans p5)))))

end
end Go.Am
namespace Go.Am

/-! how many pages a tree has -/
theorem KidsR.pages {R : Nat → List Nat → KV → Prop} (hR : ∀ k P ps, R k P ps → 4 * P.length + 2 ≤ 3 * ps.length) : ∀ {ks : List Int} {ss : List ByteArray} {P : List Nat} {ps : KV}, KidsR R ks ss P ps → 4 * P.length + 2 * ks.length ≤ 3 * ps.length
  | [], _, _, _, h => h.elim
  | k :: ks, [], P, ps, h => by
    have := hR _ _ _ h.2
    rw [h.1]; simpa using this
  | k :: ks, s :: ss, P, ps, ⟨P1, ps1, P2, ps2, h1, h2, e1, e2, _, _⟩ => by
    have a := hR _ _ _ h1
    have b := KidsR.pages hR h2
    subst e1; subst e2
    simp only [List.length_append, List.length_cons]
    omega
theorem SubB.pages {T : List Pg} : ∀ {d k : Nat} {P : List Nat} {ps : KV}, SubB T d k P ps → 4 * P.length + 2 ≤ 3 * ps.length
  | 0, _, _, _, h => h.1.elim
  | d + 1, k, P, ps, h => by
    obtain ⟨⟨p, hp, hm, hc⟩, q, hq, h2⟩ := h
    rw [hp] at hq
    obtain rfl := Option.some.inj hq
    rcases hc with ⟨_, hl, eP, es⟩ | ⟨hl, P', eP, hk⟩
    · have := (hm.2.leaf hl).1
      subst eP; subst es
      simp [List.length_zip]
      omega
    · have a := KidsR.pages (fun _ _ _ h => SubB.pages h) hk
      have b := (hm.2.inner hl).2.2.1
      subst eP
      simp only [List.length_cons]
      omega

/-! entries -/
section
variable {l r ps : KV} {k v : ByteArray}
theorem insK_right (h : ∀ x ∈ r, blt k x.1 = true) : insK (l ++ r) k v = insK l k v ++ r := by
  induction l with
  | nil =>
    show insK r k v = (k, v) :: r
    have := insK_new (l := []) (r := r) (k := k) (v := v) (fun x hx => by cases hx) h
    simpa using this
  | cons x l ih =>
    show (match decide (x.1 = k) with | true => (k, v) :: (l ++ r) | false => match blt x.1 k with | true => x :: insK (l ++ r) k v | false => (k, v) :: x :: (l ++ r)) = (match decide (x.1 = k) with | true => (k, v) :: l | false => match blt x.1 k with | true => x :: insK l k v | false => (k, v) :: x :: l) ++ r
    rw [ih]
    cases decide (x.1 = k) <;> cases blt x.1 k <;> rfl
theorem insK_le (h : Asc ps) : (insK ps k v).length ≤ ps.length + 1 := by
  rw [insK_len h]; split <;> omega
end

/-! a page with one key more -/
def insP (p : Pg) (i : Nat) (k v : ByteArray) : Pg := ⟨p.used, p.leaf, p.keys.take i ++ k :: p.keys.drop i, p.vals.take i ++ v :: p.vals.drop i, p.kids⟩
def insI (p : Pg) (i : Nat) (s : ByteArray) (f : Int) : Pg := ⟨p.used, p.leaf, p.keys.take i ++ s :: p.keys.drop i, p.vals, p.kids.take (i + 1) ++ f :: p.kids.drop (i + 1)⟩
/-- a subtree whose root may have a key too many -/
def SubF (T : List Pg) (d a : Nat) (P : List Nat) (ps : KV) : Prop := ∃ p, T[a]? = some p ∧ FitsP p ∧
  ((d = 1 ∧ p.leaf = true ∧ P = [a] ∧ ps = p.keys.zip p.vals) ∨ (p.leaf = false ∧ ∃ d' P', d = d' + 2 ∧ P = a :: P' ∧ KidsR (SubB T (d' + 1)) p.kids p.keys P' ps))
section
variable {T T' T1 : List Pg} {d a f : Nat} {p : Pg} {key v s : ByteArray} {P : List Nat} {ps : KV}
theorem SubF.sub (h : SubF T d a P ps) (hp : T[a]? = some p) (h4 : p.keys.length ≤ 4) : Sub T d a P ps := by
  obtain ⟨q, hq, hf, hc⟩ := h
  rw [hp] at hq
  obtain rfl := Option.some.inj hq
  rcases hc with ⟨e, h1, h2, h3⟩ | ⟨h1, d', P', e, h2, h3⟩
  · subst e; exact ⟨p, hp, ⟨h4, hf⟩, .inl ⟨rfl, h1, h2, h3⟩⟩
  · subst e; exact ⟨p, hp, ⟨h4, hf⟩, .inr ⟨h1, P', h2, h3⟩⟩
theorem mem_ins {α : Type} {xs : List α} {i : Nat} {x y : α} (h : y ∈ xs.take i ++ x :: xs.drop i) : y = x ∨ y ∈ xs := by
  rcases List.mem_append.1 h with q | q
  · exact .inr (List.mem_of_mem_take q)
  · rcases List.mem_cons.1 q with z | z
    · exact .inl z
    · exact .inr (List.mem_of_mem_drop z)
theorem slot_split {ks : List ByteArray} (pw : Pw ks) (hb : slotB ks key = false) : (∀ s ∈ ks.take (slotN ks key), blt s key = true) ∧ (∀ s ∈ ks.drop (slotN ks key), blt key s = true) ∧ slotN ks key ≤ ks.length := by
  obtain ⟨k1, k2, k3⟩ := kidN_split (key := key) pw
  have e : kidN ks key = slotN ks key := by unfold kidN; rw [hb]; rfl
  rw [e] at k1 k2 k3
  refine ⟨fun s hs => not_blt (k1 s hs) fun q => ?_, k2, k3⟩
  have := slotB_of_mem (key := key) pw (by rw [q]; exact List.mem_of_mem_take hs)
  rw [hb] at this; cases this
theorem ins_leaf (hS : Sub T d a P ps) (hp : T[a]? = some p) (hl : p.leaf = true) (hb : slotB p.keys key = false) (h1 : 1 ≤ key.size) (h2 : key.size ≤ 6) (h3 : v.size ≤ 10) :
    d = 1 ∧ P = [a] ∧ SubF (T.set a (insP p (slotN p.keys key) key v)) d a P (insK ps key v) := by
  have hm := hS.may hp
  obtain ⟨e1, e2, e3⟩ := hS.leafD hp hl
  obtain ⟨f1, f2, f3⟩ := hm.2.leaf hl
  have pw := rising_pw hm.2.rising
  obtain ⟨k1, k2, k3⟩ := slot_split pw hb
  have hlt := (List.getElem?_eq_some_iff.1 hp).1
  refine ⟨e1, e2, _, List.getElem?_set_self hlt, ⟨hm.2.used, pw_rising ?_, fun k hk => ?_, fun _ => ⟨?_, f2, fun w hw => ?_⟩, fun q => ?_⟩, .inl ⟨e1, hl, e2, ?_⟩⟩
  · refine List.pairwise_append.2 ⟨pw.sublist (List.take_sublist _ _), List.pairwise_cons.2 ⟨k2, pw.sublist (List.drop_sublist _ _)⟩, fun x hx y hy => ?_⟩
    rcases List.mem_cons.1 hy with z | z
    · rw [z]; exact k1 x hx
    · exact blt_trans (k1 x hx) (k2 y z)
  · rcases mem_ins hk with z | z
    · rw [z]; exact ⟨h1, h2⟩
    · exact hm.2.keys k z
  · show (p.vals.take _ ++ v :: p.vals.drop _).length = (p.keys.take _ ++ key :: p.keys.drop _).length
    simp; omega
  · rcases mem_ins hw with z | z
    · rw [z]; exact h3
    · exact f3 w z
  · have q' : p.leaf = false := q
    rw [hl] at q'; cases q'
  · show insK ps key v = (p.keys.take _ ++ key :: p.keys.drop _).zip (p.vals.take _ ++ v :: p.vals.drop _)
    rw [List.zip_append (by simp; omega), List.zip_cons_cons, zip_take, zip_drop, e3]
    have hx : ∀ x ∈ (p.keys.zip p.vals).take (slotN p.keys key), blt x.1 key = true := fun x hx => by
      rw [← zip_take] at hx
      exact k1 _ (zip_mem hx).1
    have hy : ∀ x ∈ (p.keys.zip p.vals).drop (slotN p.keys key), blt key x.1 = true := fun x hx => by
      rw [← zip_drop] at hx
      exact k2 _ (zip_mem hx).1
    rw [← insK_new hx hy, List.take_append_drop]

section
variable {D i : Nat} {PA Pi PC Pi' PX PY : List Nat} {psA psi psC psX psY : KV}
/-- what a key put in leaves beside its kid -/
theorem Kid.insK (h : Kid T d a p (kidN p.keys key) key P ps PA psA Pi psi PC psC) (hm : MayP p) : Am.insK ps key v = psA ++ (Am.insK psi key v ++ psC) := by
  obtain ⟨k1, k2, k3⟩ := kidN_split (key := key) (rising_pw hm.2.rising)
  rw [h.eps, insK_left fun x hx => ?_, insK_right fun x hx => ?_]
  · obtain ⟨s, hs, z⟩ := h.suf.ge x hx
    exact blt_le (k2 s hs) z
  · obtain ⟨s, hs, z⟩ := h.pre.lt x hx
    exact blt_le z (k1 s hs)
theorem Kid.low (h : Kid T d a p (kidN p.keys key) key P ps PA psA Pi psi PC psC) (hm : MayP p) {e} (he : e ∈ Am.insK psi key v) : ∀ s ∈ p.keys.take (kidN p.keys key), blt e.1 s = false := by
  obtain ⟨k1, k2, k3⟩ := kidN_split (key := key) (rising_pw hm.2.rising)
  intro s hs
  rcases insK_mem he with z | z
  · rw [z]; exact k1 s hs
  · exact h.c1 s hs e (List.mem_append.2 (.inl z))
theorem Kid.high (h : Kid T d a p (kidN p.keys key) key P ps PA psA Pi psi PC psC) (hm : MayP p) {e} (he : e ∈ Am.insK psi key v) : ∀ s ∈ p.keys.drop (kidN p.keys key), blt e.1 s = true := by
  obtain ⟨k1, k2, k3⟩ := kidN_split (key := key) (rising_pw hm.2.rising)
  have pw := (rising_pw hm.2.rising).sublist (List.drop_sublist (kidN p.keys key) p.keys)
  intro s hs
  rcases insK_mem he with z | z
  · rw [z]; exact k2 s hs
  · cases hd : p.keys.drop (kidN p.keys key) with
    | nil => rw [hd] at hs; cases hs
    | cons u us =>
      have q := h.c2 u (by rw [hd]; rfl) e z
      rw [hd] at hs pw
      rcases List.mem_cons.1 hs with y | y
      · rw [y]; exact q
      · exact blt_trans q ((List.pairwise_cons.1 pw).1 s y)
/-- behind a kid that was not split -/
theorem Kid.put1 (h : Kid T d a p (kidN p.keys key) key P ps PA psA Pi psi PC psC) (hp : T[a]? = some p) (hm : MayP p) (hl : p.leaf = false) {d' : Nat} (hd : d = d' + 1) (hA : ∀ j ∈ PA ++ PC, T1[j]? = T[j]?) (ha : T1[a]? = some p)
    (hk : SubB T1 d (p.kids[kidN p.keys key]'h.hi).toNat Pi' (Am.insK psi key v)) : Sub T1 (d + 1) a (a :: (PA ++ (Pi' ++ PC))) (Am.insK ps key v) := by
  refine ⟨p, ha, hm, .inr ⟨hl, _, rfl, ?_⟩⟩
  have pre := h.pre.imp (R' := SubB T1 d) fun k Q rs hb hin => hb.keep fun j hj => hA j (by simp [hin j hj])
  have suf := h.suf.imp (R' := SubB T1 d) fun k Q rs hb hin => hb.keep fun j hj => hA j (by simp [hin j hj])
  have k1 := SufR.glue hk suf fun s e x hx => h.high hm hx s (List.mem_of_mem_head? e)
  rw [← List.drop_eq_getElem_cons h.hi] at k1
  have k2 := pre.glue k1 fun s hs e he => by
    rcases List.mem_append.1 he with z | z
    · exact h.low hm z s hs
    · exact h.c1 s hs e (List.mem_append.2 (.inr z))
  rw [List.take_append_drop, List.take_append_drop] at k2
  rw [h.insK hm]
  exact k2
/-- behind a kid that was split -/
theorem Kid.put2 (h : Kid T d a p (kidN p.keys key) key P ps PA psA Pi psi PC psC) (hp : T[a]? = some p) (hm : MayP p) (hl : p.leaf = false) {d' : Nat} (hd : d = d' + 1) (hf : f ∉ P) (hf1 : 1 ≤ f) (hf2 : f < 48) (hs : 1 ≤ s.size ∧ s.size ≤ 6)
    (hA : ∀ j ∈ PA ++ PC, T1[j]? = T[j]?) (hX : SubB T1 d (p.kids[kidN p.keys key]'h.hi).toNat PX psX) (hY : SubB T1 d f PY psY) (hXY : psX ++ psY = Am.insK psi key v) (lt : ∀ e ∈ psX, blt e.1 s = true) (ge : ∀ e ∈ psY, blt e.1 s = false)
    (ha : T1[a]? = some (insI p (kidN p.keys key) s (f : Int))) : SubF T1 (d + 1) a (a :: (PA ++ (PX ++ (PY ++ PC)))) (Am.insK ps key v) := by
  obtain ⟨k1, k2, k3⟩ := kidN_split (key := key) (rising_pw hm.2.rising)
  have pw := rising_pw hm.2.rising
  obtain ⟨f1, f2, f3, f4, f5⟩ := hm.2.inner hl
  have hi := h.hi
  obtain ⟨x0, hx0⟩ := List.exists_mem_of_ne_nil _ hX.ne
  obtain ⟨y0, hy0⟩ := List.exists_mem_of_ne_nil _ hY.ne
  have inX : ∀ e ∈ psX, e ∈ Am.insK psi key v := fun e he => by rw [← hXY]; exact List.mem_append.2 (.inl he)
  have inY : ∀ e ∈ psY, e ∈ Am.insK psi key v := fun e he => by rw [← hXY]; exact List.mem_append.2 (.inr he)
  have lo : ∀ t ∈ p.keys.take (kidN p.keys key), blt t s = true := fun t ht => le_blt (h.low hm (inX x0 hx0) t ht) (lt x0 hx0)
  have hi' : ∀ t ∈ p.keys.drop (kidN p.keys key), blt s t = true := fun t ht => le_blt (ge y0 hy0) (h.high hm (inY y0 hy0) t ht)
  have pre := h.pre.imp (R' := SubB T1 d) fun k Q rs hb hin => hb.keep fun j hj => hA j (by simp [hin j hj])
  have suf := h.suf.imp (R' := SubB T1 d) fun k Q rs hb hin => hb.keep fun j hj => hA j (by simp [hin j hj])
  have etf : (f : Int).toNat = f := rfl
  have g1 := SufR.glue (k := (f : Int)) (by rw [etf]; exact hY) suf fun u e x hx => h.high hm (inY x hx) u (List.mem_of_mem_head? e)
  have geC : ∀ e ∈ psC, blt e.1 s = false := fun e he => by
    obtain ⟨u, hu, z⟩ := h.suf.ge e he
    exact le_le (blt_asy (hi' u hu)) z
  have g2 : KidsR (SubB T1 d) ((p.kids[kidN p.keys key]'hi) :: (f : Int) :: p.kids.drop (kidN p.keys key + 1)) (s :: p.keys.drop (kidN p.keys key)) (PX ++ (PY ++ PC)) (psX ++ (psY ++ psC)) :=
    ⟨PX, psX, _, _, hX, g1, rfl, rfl, lt, fun e he => by
      rcases List.mem_append.1 he with z | z
      · exact ge e z
      · exact geC e z⟩
  have g3 := pre.glue g2 fun t ht e he => by
    rcases List.mem_append.1 he with z | z
    · exact h.low hm (inX e z) t ht
    · rcases List.mem_append.1 z with z | z
      · exact h.low hm (inY e z) t ht
      · exact h.c1 t ht e (List.mem_append.2 (.inr z))
  have ek : p.kids.take (kidN p.keys key) ++ (p.kids[kidN p.keys key]'hi) :: (f : Int) :: p.kids.drop (kidN p.keys key + 1) = p.kids.take (kidN p.keys key + 1) ++ (f : Int) :: p.kids.drop (kidN p.keys key + 1) := by
    rw [List.take_succ_eq_append_getElem hi, List.append_assoc]; rfl
  rw [ek] at g3
  have kin : ∀ k ∈ p.kids, k.toNat ∈ P := fun k hk => by
    have hh : ∀ k Q qs, SubB T d k Q qs → k ∈ Q := fun k Q qs h => h.1.head
    have whole : KidsR (SubB T d) p.kids p.keys (PA ++ (Pi ++ PC)) (psA ++ (psi ++ psC)) := by
      have q1 := SufR.glue h.kid h.suf h.c2
      rw [← List.drop_eq_getElem_cons h.hi] at q1
      have q2 := h.pre.glue q1 h.c1
      rwa [List.take_append_drop, List.take_append_drop] at q2
    rw [h.eP]
    exact List.mem_cons_of_mem _ (kids_in hh whole k hk)
  refine ⟨_, ha, ⟨hm.2.used, pw_rising ?_, fun k hk => ?_, fun q => ?_, fun _ => ⟨?_, f2, ?_, fun k hk => ?_, ?_⟩⟩, .inr ⟨hl, d', PA ++ (PX ++ (PY ++ PC)), by omega, rfl, ?_⟩⟩
  · refine List.pairwise_append.2 ⟨pw.sublist (List.take_sublist _ _), List.pairwise_cons.2 ⟨hi', pw.sublist (List.drop_sublist _ _)⟩, fun x hx y hy => ?_⟩
    rcases List.mem_cons.1 hy with z | z
    · rw [z]; exact lo x hx
    · exact blt_trans (lo x hx) (hi' y z)
  · rcases mem_ins hk with z | z
    · rw [z]; exact hs
    · exact hm.2.keys k z
  · have q' : p.leaf = true := q
    rw [hl] at q'; cases q'
  · show 1 ≤ (p.keys.take _ ++ s :: p.keys.drop _).length; simp; omega
  · show (p.kids.take _ ++ (f : Int) :: p.kids.drop _).length = (p.keys.take _ ++ s :: p.keys.drop _).length + 1
    simp; omega
  · rcases mem_ins (i := kidN p.keys key + 1) hk with z | z
    · rw [z]; omega
    · exact f4 k z
  · show (p.kids.take _ ++ (f : Int) :: p.kids.drop _).Nodup
    have f5' := f5
    rw [← List.take_append_drop (kidN p.keys key + 1) p.kids] at f5'
    have n1 := List.nodup_append.1 f5'
    have nf : (f : Int) ∉ p.kids := fun q => hf (by have := kin _ q; simpa using this)
    refine List.nodup_append.2 ⟨n1.1, List.nodup_cons.2 ⟨fun q => nf (List.mem_of_mem_drop q), n1.2.1⟩, fun u hu w hw e => ?_⟩
    rcases List.mem_cons.1 hw with z | z
    · rw [← e] at z; rw [z] at hu; exact nf (List.mem_of_mem_take hu)
    · exact n1.2.2 u hu w z e
  · show KidsR (SubB T1 (d' + 1)) (p.kids.take _ ++ (f : Int) :: p.kids.drop _) (p.keys.take _ ++ s :: p.keys.drop _) _ _
    rw [h.insK hm, ← hXY, List.append_assoc, ← hd]
    exact g3
end

/-! a page split in two -/
def cutAt (p : Pg) : Nat := match p.leaf with | true => 3 | false => 2
theorem split_sub (h : SubF T d a P ps) (hp : T[a]? = some p) (h5 : p.keys.length = 5) (hnd : P.Nodup) (hf : f ∉ P) (hT : ∀ j ∈ P, j ≠ a → T'[j]? = T[j]?) (hx : T'[a]? = some (cutL p (cutAt p))) (hy : T'[f]? = some (cutR p (cutAt p))) (hk : cutAt p < p.keys.length) :
    ∃ PX psX PY psY, SubB T' d a PX psX ∧ SubB T' d f PY psY ∧ psX ++ psY = ps ∧ (PX ++ PY).Nodup ∧ (∀ j, j ∈ PX ++ PY ↔ j ∈ P ∨ j = f) ∧ (PX ++ PY).length = P.length + 1 ∧ (∀ e ∈ psX, blt e.1 p.keys[cutAt p] = true) ∧ (∀ e ∈ psY, blt e.1 p.keys[cutAt p] = false) := by
  obtain ⟨q, hq, hfit, hc⟩ := h
  rw [hp] at hq
  obtain rfl := Option.some.inj hq
  have pw := rising_pw hfit.rising
  have hsplit : p.keys = p.keys.take (cutAt p) ++ p.keys[cutAt p] :: p.keys.drop (cutAt p + 1) := by rw [List.getElem_cons_drop, List.take_append_drop]
  have ltk : ∀ t ∈ p.keys.take (cutAt p), blt t p.keys[cutAt p] = true := fun t ht => by
    have pw' := pw
    rw [hsplit] at pw'
    exact (List.pairwise_append.1 pw').2.2 t ht _ List.mem_cons_self
  have gtk : ∀ t ∈ p.keys.drop (cutAt p + 1), blt p.keys[cutAt p] t = true := fun t ht => by
    have pw' := pw
    rw [hsplit] at pw'
    exact (List.pairwise_cons.1 (List.pairwise_append.1 pw').2.1).1 t ht
  have fL := fits_cutL hfit hk (by unfold cutAt; cases p.leaf <;> simp)
  rcases hc with ⟨ed, hl, eP, es⟩ | ⟨hl, d', P', ed, eP, hkk⟩
  · obtain ⟨f1, f2, f3⟩ := hfit.leaf hl
    have ec : cutAt p = 3 := by unfold cutAt; rw [hl]
    have eL : (cutL p (cutAt p)).keys = p.keys.take 3 ∧ (cutL p (cutAt p)).vals = p.vals.take 3 ∧ (cutL p (cutAt p)).leaf = true := by rw [ec]; unfold cutL; rw [hl]; exact ⟨rfl, rfl, rfl⟩
    have eR : (cutR p (cutAt p)).keys = p.keys.drop 3 ∧ (cutR p (cutAt p)).vals = p.vals.drop 3 ∧ (cutR p (cutAt p)).leaf = true := by rw [ec]; unfold cutR; rw [hl]; exact ⟨rfl, rfl, rfl⟩
    have fR := fits_cutR (k := cutAt p) hfit (by rw [eR.1]; simp; omega)
    subst ed; subst eP
    have hfa : a ≠ f := fun e => hf (by simp [e])
    refine ⟨[a], _, [f], _, ⟨⟨_, hx, ⟨by rw [eL.1]; simp; omega, fL⟩, .inl ⟨rfl, eL.2.2, rfl, rfl⟩⟩, _, hx, by rw [eL.1]; simp; omega⟩, ⟨⟨_, hy, ⟨by rw [eR.1]; simp; omega, fR⟩, .inl ⟨rfl, eR.2.2, rfl, rfl⟩⟩, _, hy, by rw [eR.1]; simp; omega⟩, ?_, ?_, fun j => by simp, rfl, fun e he => ?_, fun e he => ?_⟩
    · rw [eL.1, eL.2.1, eR.1, eR.2.1, zip_take, zip_drop, List.take_append_drop, es]
    · simp [hfa]
    · rw [eL.1, ← ec] at he
      exact ltk _ (zip_mem he).1
    · rw [eR.1, ← ec] at he
      have := (zip_mem he).1
      rw [← List.getElem_cons_drop (h := hk)] at this
      rcases List.mem_cons.1 this with q | q
      · rw [q]; exact blt_irr _
      · exact blt_asy (gtk _ q)
  · obtain ⟨f1, f2, f3, f4, f5⟩ := hfit.inner hl
    have ec : cutAt p = 2 := by unfold cutAt; rw [hl]
    have eL : (cutL p (cutAt p)).keys = p.keys.take 2 ∧ (cutL p (cutAt p)).kids = p.kids.take 3 ∧ (cutL p (cutAt p)).leaf = false := by rw [ec]; unfold cutL; rw [hl]; exact ⟨rfl, rfl, rfl⟩
    have eR : (cutR p (cutAt p)).keys = p.keys.drop 3 ∧ (cutR p (cutAt p)).kids = p.kids.drop 3 ∧ (cutR p (cutAt p)).leaf = false := by rw [ec]; unfold cutR; rw [hl]; exact ⟨rfl, rfl, rfl⟩
    have fR := fits_cutR (k := cutAt p) hfit (by rw [eR.1]; simp; omega)
    have ek : p.kids = p.kids.take 3 ++ p.kids.drop 3 := (List.take_append_drop _ _).symm
    have hkk' : KidsR (SubB T (d' + 1)) (p.kids.take 3 ++ p.kids.drop 3) (p.keys.take (cutAt p) ++ p.keys[cutAt p] :: p.keys.drop (cutAt p + 1)) P' ps := by rw [← ek, ← hsplit]; exact hkk
    obtain ⟨P1, ps1, P2, ps2, r1, r2, e1, e2, r3, r4⟩ := KidsR.cut (by intro q; have := congrArg List.length q; simp at this; omega) (by rw [ec]; simp; omega) hkk' ltk
    subst ed; subst eP; subst e1; subst e2
    have n1 := List.nodup_cons.1 hnd
    have hfa : a ≠ f := fun e => hf (by simp [e])
    have keep : ∀ j ∈ P1 ++ P2, T'[j]? = T[j]? := fun j hj => hT j (List.mem_cons_of_mem _ hj) fun e => n1.1 (by rw [← e]; exact hj)
    have ec1 : cutAt p + 1 = 3 := by omega
    rw [ec1] at r2
    rw [ec] at r1
    have hnd' : (P1 ++ P2).Nodup := n1.2
    have n2 := List.nodup_append.1 hnd'
    refine ⟨a :: P1, ps1, f :: P2, ps2, ⟨⟨_, hx, ⟨by rw [eL.1]; simp; omega, fL⟩, .inr ⟨eL.2.2, P1, rfl, ?_⟩⟩, _, hx, by rw [eL.1]; simp; omega⟩, ⟨⟨_, hy, ⟨by rw [eR.1]; simp; omega, fR⟩, .inr ⟨eR.2.2, P2, rfl, ?_⟩⟩, _, hy, by rw [eR.1]; simp; omega⟩, rfl, ?_, fun j => ?_, by simp; omega, r3, r4⟩
    · rw [eL.1, eL.2.1]
      exact r1.imp fun k Q qs hb hin => hb.keep fun j hj => keep j (List.mem_append.2 (.inl (hin j hj)))
    · rw [eR.1, eR.2.1]
      exact r2.imp fun k Q qs hb hin => hb.keep fun j hj => keep j (List.mem_append.2 (.inr (hin j hj)))
    · have hf1 : f ∉ P1 := fun q => hf (by simp [q])
      have hf2 : f ∉ P2 := fun q => hf (by simp [q])
      have ha1 : a ∉ P1 := fun q => n1.1 (by simp [q])
      have ha2 : a ∉ P2 := fun q => n1.1 (by simp [q])
      refine List.nodup_append.2 ⟨List.nodup_cons.2 ⟨ha1, n2.1⟩, List.nodup_cons.2 ⟨hf2, n2.2.1⟩, fun u hu w hw e => ?_⟩
      subst e
      rcases List.mem_cons.1 hu with z | z <;> rcases List.mem_cons.1 hw with y | y
      · exact hfa (z.symm.trans y)
      · exact ha2 (by rw [← z]; exact y)
      · exact hf1 (by rw [← y]; exact z)
      · exact n2.2.2 u z u y rfl
    · simp only [List.mem_append, List.mem_cons]
      constructor
      · rintro ((z | z) | (z | z)) <;> simp [z]
      · rintro ((z | z | z) | z) <;> simp [z]
end
end Go.Am
