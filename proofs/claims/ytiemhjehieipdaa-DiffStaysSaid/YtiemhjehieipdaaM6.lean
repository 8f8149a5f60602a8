import Derived.Test.YtiemhjehieipdaaM5
set_option linter.unusedVariables false
set_option linter.unusedSimpArgs false
namespace Go.Am

/-! a tree whose walk goes well, without the walk's state -/
def WfT (T : List Pg) : Nat → Nat → Prop
  | 0, _ => False
  | f + 1, a => ∃ p, T[a]? = some p ∧ MayP p ∧ ∀ k ∈ p.kids, WfT T f k.toNat
theorem walkD_good (T : List Pg) : ∀ (f a deep : Nat) (lo hi : ByteArray) (st st' : WS), walkD T f a deep lo hi st = some st' → WfT T f a := by
  intro f
  induction f with
  | zero => intro _ _ _ _ _ _ h; cases h
  | succ f ih =>
    intro a deep lo hi st st' h
    obtain ⟨p, hp, hok, hcase⟩ := walkD_step h
    obtain ⟨_, hmay, _, _⟩ := okD_met hok
    have hm := (mayB_iff p).1 hmay
    refine ⟨p, hp, hm, fun k hk => ?_⟩
    rcases hcase with ⟨hl, _⟩ | ⟨_, hks⟩
    · rw [(hm.2.leaf hl).2.1] at hk; simp at hk
    · have key := kidsD_ind' (P := fun ks _ _ => ∀ k ∈ ks, WfT T f k.toNat) (fun _ k hk => (by simp at hk)) (fun k ks i s s1 s' hr hP k' hk' => by
        rcases List.mem_cons.1 hk' with e | e
        · rw [e]; exact ih _ _ _ _ _ _ hr
        · exact hP k' e) _ _ _ _ hks
      exact key k hk
theorem SF.good {T : List Pg} {st : WS} (s : SF T st) : WfT T 49 0 := walkD_good T _ _ _ _ _ _ _ s.walk
theorem WfT_vals {p : Pg} (h : MayP p) : p.vals.length ≤ p.keys.length ∧ (p.keys.zip p.vals).length = p.vals.length := by
  have : p.vals.length ≤ p.keys.length := by
    cases hl : p.leaf with
    | true => have := (h.2.leaf hl).1; omega
    | false => have := (h.2.inner hl).2.1; rw [this]; simp
  exact ⟨this, by rw [List.length_zip]; omega⟩
theorem flat_len {T : List Pg} {f : Nat} (ks : List Int) (i : Nat) (hi : i < ks.length) : (ks.drop i).flatMap (fun k => allD T f k.toNat) = allD T f (ks[i]).toNat ++ (ks.drop (i + 1)).flatMap (fun k => allD T f k.toNat) := by
  rw [List.drop_eq_getElem_cons hi, List.flatMap_cons]
theorem allD_eq {T : List Pg} {f a : Nat} {p : Pg} (hp : T[a]? = some p) : allD T (f + 1) a = p.keys.zip p.vals ++ p.kids.flatMap fun k => allD T f k.toNat := by rw [allD, hp]
theorem take_zip {α : Type} (l : List α) (i : Nat) (hi : i < l.length) : l.take (i + 1) = l.take i ++ [l[i]] := by rw [List.take_succ_eq_append_getElem hi]

section
variable {H0 : Hp} {x : Pl} {cs : List PC} {T : List Pg}
/-- append a pair -/
theorem ap_kv' {H0 H : Hp} {a : Pl} {n : Nat} {ps : KV} {K : Pl → Nat → Hp → Prop} (h0 : H0 <+: H) (h : Own H H0.length tKV a (n * 2) (kvCells ps)) (hl : ps.length = n) (x y : ByteArray) (hn : n ≤ 100000)
    (hK : ∀ a' H', H0 <+: H' → Own H' H0.length tKV a' ((n + 1) * 2) (kvCells (ps ++ [(x, y)])) → (ps ++ [(x, y)]).length = n + 1 → Ex H0 a H H' → (∀ l o, a' = some (l, o) → H.length ≤ l ∧ o = 0) → K a' (n + 1) H') : ap H tKV 2 32 a n [.str x, .str y] 1 K :=
  ap_z (by omega) h0 h (by rfl) (by unfold Lim; omega) fun a' H' o e f => hK a' H' e.pre (by rw [kvCells_append']; exact o) (by simp [hl]) e f
where
  kvCells_append' : ∀ {ps qs : KV}, kvCells (ps ++ qs) = kvCells ps ++ kvCells qs := by intro ps qs; simp [kvCells]
set_option maxRecDepth 100000 in
theorem ref9_all_main (hT : Tr H0 x 48 cs T) : ∀ (f at_ : Nat) (H : Hp) (Q : Post) (a : Pl) (n : Nat) (ps : KV), WfT T f at_ → at_ < 48 → H0 <+: H → Own H H0.length tKV a (n * 2) (kvCells ps) → ps.length = n → n + (allD T f at_).length ≤ 1000 →
    (∀ a' m H', H0 <+: H' → Own H' H0.length tKV a' (m * 2) (kvCells (ps ++ allD T f at_)) → (ps ++ allD T f at_).length = m → Q (.g (.sl a' m 2)) H') →
    ref9_all.at f [.agg [.sl x 48 5], .g (.int .i64 (at_ : Int)), .g (.sl a n 2)] H Q := by
  intro f
  induction f with
  | zero => intro _ _ _ _ _ _ h; exact h.elim
  | succ f ih =>
    intro at_ H Q a n ps hg hat h0 hO hl hb hQ
    obtain ⟨p, hp, hm, hkids⟩ := hg
    obtain ⟨l, o, c, p', rfl, hc, hp', hpc, g0, g1, g2, g3, g4⟩ := hT.get hat
    rw [hp] at hp'; cases hp'
    obtain ⟨hv1, hv2⟩ := WfT_vals hm
    rw [allD_eq hp] at hb hQ
    rw [List.length_append, hv2] at hb
    have hn1 := hpc.keys.len
    have hn2 := hpc.vals.len
    have hn3 := hpc.kids.len
    have hl3 := hpc.kids.lim
    have hl2 := hpc.vals.lim
    have k48 : ∀ k ∈ p.kids, 1 ≤ k ∧ k < 48 := fun k hk => by
      cases hlf : p.leaf with
      | true => rw [(hm.2.leaf hlf).2.1] at hk; simp at hk
      | false => exact (hm.2.inner hlf).2.2.2.1 k hk
    -- the kids
    have l7 : ∀ (F i : Nat) (H : Hp) (a : Pl) (n : Nat) (qs : KV), p.kids.length - i < F → i ≤ p.kids.length → H0 <+: H → Own H H0.length tKV a (n * 2) (kvCells qs) → qs.length = n → n + ((p.kids.drop i).flatMap fun k => allD T f k.toNat).length ≤ 1000 →
        qs ++ ((p.kids.drop i).flatMap fun k => allD T f k.toNat) = ps ++ (p.keys.zip p.vals ++ p.kids.flatMap fun k => allD T f k.toNat) →
        ref9_all.l7 (ref9_all.at f) F a n (some (l, o)) 48 c.u c.l c.a1 c.n1 c.a2 c.n2 c.a3 c.n3 (i : Int) H Q := by
      intro F
      induction F with
      | zero => intro i _ _ _ _ h; omega
      | succ F ihF =>
        intro i H a n qs hF hi h0 hO hl hb he
        rw [ref9_all.l7_eq]
        by_cases hik : i < p.kids.length
        · rw [flat_len p.kids i hik] at hb he
          rw [List.length_append] at hb
          have hmem := List.getElem_mem hik
          have hk := k48 _ hmem
          have ek : p.kids[i] = ((p.kids[i].toNat : Nat) : Int) := by omega
          rw [bite_t (by simp; omega), chk_true, (hpc.mono h0).kids.rd i rfl hik]
          generalize hkk : p.kids[i] = kk at *
          rw [ek]
          refine ih kk.toNat H _ a n qs (hkids kk hmem) (by omega) h0 hO hl (by omega) fun a' m H' h0' hO' hl' => ?_
          simp only [rG_g, dL_sl]
          rw [wrap_succ (by omega)]
          exact ihF (i + 1) H' a' m _ (by omega) (by omega) h0' hO' hl' (by rw [← hl', List.length_append, hl]; omega) (by rw [List.append_assoc]; exact he)
        · rw [bite_f (by simp; omega)]
          rw [List.drop_of_length_le (by omega), List.flatMap_nil, List.append_nil] at he
          subst he
          exact hQ a n H h0 hO hl
    -- the values
    have l3 : ∀ (F i : Nat) (H : Hp) (a : Pl) (n : Nat), p.vals.length - i + p.kids.length + 2 < F → i ≤ p.vals.length → H0 <+: H → Own H H0.length tKV a (n * 2) (kvCells (ps ++ (p.keys.zip p.vals).take i)) → (ps ++ (p.keys.zip p.vals).take i).length = n →
        ref9_all.l3 (ref9_all.at f) F a n (some (l, o)) 48 c.u c.l c.a1 c.n1 c.a2 c.n2 c.a3 c.n3 (i : Int) H Q := by
      intro F
      induction F with
      | zero => intro i _ _ _ h; omega
      | succ F ihF =>
        intro i H a n hF hi h0 hO hl'
        rw [ref9_all.l3_eq]
        have hnn : n = ps.length + i := by rw [← hl', List.length_append, List.length_take, hv2]; omega
        by_cases hik : i < p.vals.length
        · rw [bite_t (by simp; omega), chk_true, (hpc.mono h0).keys.rd i rfl (by omega), chk_true, (hpc.mono h0).vals.rd i rfl hik, chk_true]
          refine ap_kv' h0 hO hl' _ _ (by omega) fun a' H' h0' hO' hl2 _ _ => ?_
          rw [wrap_succ (by omega)]
          have e : (p.keys.zip p.vals)[i]'(by omega) = (p.keys[i]'(by omega), p.vals[i]) := by simp
          have e2 : ps ++ (p.keys.zip p.vals).take (i + 1) = ps ++ (p.keys.zip p.vals).take i ++ [(p.keys[i]'(by omega), p.vals[i])] := by
            rw [take_zip _ i (by omega), e, List.append_assoc]
          exact ihF (i + 1) H' a' (n + 1) (by omega) (by omega) h0' (by rw [e2]; exact hO') (by rw [e2]; exact hl2)
        · rw [bite_f (by simp; omega)]
          have e : (p.keys.zip p.vals).take i = p.keys.zip p.vals := List.take_of_length_le (by omega)
          rw [e] at hO hl'
          refine l7 F 0 H a n _ (by omega) (by omega) h0 hO hl' ?_ (by rw [List.drop_zero, List.append_assoc])
          rw [List.drop_zero]
          omega
    refine ⟨p.vals.length + p.kids.length + 4, ?_⟩
    rw [ref9_all_eq, chk_true]
    refine chk_of (by simp; omega) ?_
    have etN : tN (at_ : Int) = at_ := rfl
    rw [pS_some, etN, rdPage_of (gt_pre h0 g0) (gt_pre h0 g1) (gt_pre h0 g2) (gt_pre h0 g3) (gt_pre h0 g4)]
    exact l3 _ 0 H a n (by omega) (by omega) h0 (by simpa using hO) (by simpa using hl)
end

/-- what a scan answers -/
def inR (lo hi : ByteArray) (x : ByteArray × ByteArray) : Bool := !(blt x.1 lo) && (decide (hi.size = 0) || blt x.1 hi)
def allE (T : List Pg) : KV := match decide (0 < heightD T) with | true => entD T | false => []
def errE (e : Int) (T : List Pg) : Int := match decide (0 < heightD T) with | true => 0 | false => e
def scanE (T : List Pg) (lo hi : ByteArray) : KV := (allE T).filter (inR lo hi)
theorem allE_len (T : List Pg) : (allE T).length ≤ 60 := by
  unfold allE
  by_cases h : 0 < heightD T
  · rw [decide_eq_true h]
    obtain ⟨st, s⟩ := SF.of h
    exact s.ents.2.2.2
  · rw [decide_eq_false h]; simp
theorem scanE_all (T : List Pg) : scanE T (mkS []) (mkS []) = allE T := by
  unfold scanE
  rw [List.filter_eq_self]
  intro x _
  unfold inR
  rw [blt_mk]; rfl
section
variable {H : Hp} {Q : Post} {x : Pl} {n : Nat} {cs : List PC} {T : List Pg}
theorem ref9_All_spec (hT : Tr H x n cs T) (hQ : ∀ a m H', H <+: H' → Own H' H.length tKV a (m * 2) (kvCells (allE T)) → (allE T).length = m → Q (.tup [.s (.sl a m 2), .s (.int .i64 (errE 1400 T))]) H') : ref9_All [.agg [.sl x n 5]] H Q := by
  refine ⟨1, ?_⟩
  rw [ref9_All_eq]
  refine ref9_Sound_spec hT fun H1 p1 => ?_
  simp only [rG_g, dB_bool]
  unfold allE errE at hQ
  by_cases h : 0 < heightD T
  · rw [decide_eq_true h] at hQ ⊢
    rw [bite_f (by decide)]
    obtain ⟨st, s⟩ := SF.of h
    have hn : n = 48 := by have := hT.lenT; have := s.len; omega
    subst hn
    refine ⟨49, ?_⟩
    refine ref9_all_main (hT.mono p1) 49 0 H1 _ none 0 [] s.good (by omega) (List.prefix_refl _) (.inl ⟨rfl, rfl, rfl⟩) rfl (by have := s.ents.2.2.2; unfold entD at this; omega) fun a m H' p' hO hl => ?_
    simp only [rG_g, dL_sl]
    exact hQ a m H' (p1.trans p') (hO.base (pre_len p1)) hl
  · rw [decide_eq_false h] at hQ ⊢
    rw [bite_t (by decide)]
    exact hQ none 0 H1 p1 (.inl ⟨rfl, rfl, rfl⟩) rfl
end
end Go.Am
namespace Go.Am

theorem kvCells_append {ps qs : KV} : kvCells (ps ++ qs) = kvCells ps ++ kvCells qs := by simp [kvCells]
theorem inR_eq (lo hi k v : ByteArray) : inR lo hi (k, v) = (!(blt k lo) && (decide (hi = mkS []) || blt k hi)) := by
  unfold inR
  dsimp only
  congr 2
  rw [decide_eq_decide]
  exact (empty_size hi).symm

/-- entries gathered at a place; B: the heap ahead of the place -/
structure SJ (B H : Hp) (t : TypeId) (ps : KV) : Prop where
  pre : B <+: H
  out : ∃ a n, H[B.length]? = some (.row true t [.sl a n 2]) ∧ Own H (B.length + 1) tKV a (n * 2) (kvCells ps) ∧ ps.length = n
section
variable {B H : Hp} {t : TypeId} {ps : KV} {lf lt : Nat} {lo hi : ByteArray} {Q : Post}
theorem SJ.add (g : SJ B H t ps) (k v : ByteArray) (hn : ps.length ≤ 1000) {K : Hp → Prop} (hK : ∀ H', SJ B H' t (ps ++ [(k, v)]) → K H') :
    rd H B.length 0 fun c => dL 2 c fun x n => chk true (ap H tKV 2 32 x n [.str k, .str v] 1 fun x n H => wr H B.length 0 (.sl x n 2) fun H => K H) := by
  obtain ⟨a, n, hrow, hO, hl⟩ := g.out
  have hlt := (List.getElem?_eq_some_iff.1 hrow).1
  rw [rd_of (v := .sl a n 2) (by rw [gt_some hrow]; rfl), dL_sl, chk_true]
  have hb : (H.take (B.length + 1)).length = B.length + 1 := by rw [List.length_take]; omega
  refine ap_z (H0 := H.take (B.length + 1)) (by omega) (List.take_prefix _ _) (by rw [hb]; exact hO) rfl (by unfold Lim; omega) fun a' H' o e f => ?_
  rw [hb] at o
  have hrow' : H'[B.length]? = some (.row true t [.sl a n 2]) := by
    rw [pre_at e.pre (by omega), List.getElem?_take, if_pos (by omega)]; exact hrow
  rw [wr_of hrow' (by simp)]
  have hB : B <+: H' := by
    refine List.IsPrefix.trans ?_ e.pre
    exact List.prefix_take_iff.2 ⟨g.pre, by omega⟩
  refine hK _ ⟨pre_set hB (Nat.le_refl _) _, a', n + 1, ?_, ?_, by simp [hl]⟩
  · rw [List.getElem?_set_self (List.getElem?_eq_some_iff.1 hrow').1]; rfl
  · rw [kvCells_append]
    exact Own.keep o fun l e' => by rw [List.getElem?_set_ne (by have := (f l 0 e').1; omega)]
theorem scan_Range_1_spec (g : SJ B H t ps) (hf : gt B lf 0 = some (.str lo)) (ht : gt B lt 0 = some (.str hi)) (hn : ps.length ≤ 1000) (k v : ByteArray)
    (hQ : ∀ H', SJ B H' t (ps ++ [(k, v)].filter (inR lo hi)) → Q (.tup []) H') : scan_Range_1 [.agg [.str k, .str v], .g (.ptr (some (lf, 0))), .g (.ptr (some (lt, 0))), .g (.ptr (some (B.length, 0)))] H Q := by
  have no : inR lo hi (k, v) = false → Q (.tup []) H := fun e => hQ H (by rw [List.filter_cons, e]; simpa using g)
  have yes : inR lo hi (k, v) = true → ∀ H', SJ B H' t (ps ++ [(k, v)]) → Q (.tup []) H' := fun e H' g' => hQ H' (by rw [List.filter_cons, e]; simpa using g')
  rw [inR_eq] at no yes
  refine ⟨1, ?_⟩
  rw [scan_Range_1_eq, rd_of (gt_pre g.pre hf), dS_str, blt_eq]
  refine bite_of (fun e => ?_) (fun e => no (by simp at e; rw [e]; rfl))
  have e' : blt k lo = false := by simpa using e
  rw [e'] at no yes
  rw [rd_of (gt_pre g.pre ht), dS_str]
  refine bite_of (fun e2 => ?_) (fun e2 => ?_)
  · have e2' : hi = mkS [] := by simpa using e2
    exact g.add k v hn (yes (by rw [decide_eq_true e2']; rfl))
  · have e2' : ¬ hi = mkS [] := by simpa using e2
    rw [rd_of (gt_pre g.pre ht), dS_str, blt_eq]
    refine bite_of (fun e3 => ?_) (fun e3 => ?_)
    · exact g.add k v hn (yes (by rw [e3]; simp))
    · exact no (by rw [e3, decide_eq_false e2']; rfl)
end

section
variable {H0 B : Hp} {x : Pl} {cs : List PC} {T : List Pg} {t : TypeId} {lp lf lt gf : Nat} {lo hi : ByteArray} {E : Nat → Sm}
set_option maxRecDepth 100000 in
theorem scan_walk_main (hT : Tr H0 x 48 cs T) (h0B : H0 <+: B) (hlp : gt B lp 0 = some (.sl x 48 5)) (hf : gt B lf 0 = some (.str lo)) (ht : gt B lt 0 = some (.str hi)) (hE : E gf = scan_Range_1) :
    ∀ (f at_ : Nat) (H : Hp) (Q : Post) (ps : KV), WfT T f at_ → at_ < 48 → SJ B H t ps → ps.length + (allD T f at_).length ≤ 1000 → (∀ H', SJ B H' t (ps ++ (allD T f at_).filter (inR lo hi)) → Q (.tup []) H') →
      scan_walk.at E f [.g (.ptr (some (lp, 0))), .g (.int .i64 (at_ : Int)), .g (.fn gf [(lf, 0), (lt, 0), (B.length, 0)])] H Q := by
  intro f
  induction f with
  | zero => intro _ _ _ _ h; exact h.elim
  | succ f ih =>
    intro at_ H Q ps hg hat g hb hQ
    obtain ⟨p, hp, hm, hkids⟩ := hg
    obtain ⟨l, o, c, p', rfl, hc, hp', hpc, g0, g1, g2, g3, g4⟩ := hT.get hat
    rw [hp] at hp'; cases hp'
    obtain ⟨hv1, hv2⟩ := WfT_vals hm
    have hswap : p.keys.zip p.vals ++ (p.kids.flatMap fun k => allD T f k.toNat) = (p.kids.flatMap fun k => allD T f k.toNat) ++ p.keys.zip p.vals := by
      cases hl : p.leaf with
      | true => rw [(hm.2.leaf hl).2.1]; simp
      | false => rw [(hm.2.inner hl).2.1]; simp
    rw [allD_eq hp, hswap] at hb hQ
    rw [List.length_append, hv2] at hb
    have hn1 := hpc.keys.len
    have hn2 := hpc.vals.len
    have hn3 := hpc.kids.len
    have hl3 := hpc.kids.lim
    have hl2 := hpc.vals.lim
    have k48 : ∀ k ∈ p.kids, 1 ≤ k ∧ k < 48 := fun k hk => by
      cases hlf : p.leaf with
      | true => rw [(hm.2.leaf hlf).2.1] at hk; simp at hk
      | false => exact (hm.2.inner hlf).2.2.2.1 k hk
    have etN : tN (at_ : Int) = at_ := rfl
    -- the values
    have l7 : ∀ (F i : Nat) (H : Hp) (qs : KV), p.vals.length - i < F → i ≤ p.vals.length → SJ B H t qs → qs.length + (p.vals.length - i) ≤ 1000 → qs ++ ((p.keys.zip p.vals).drop i).filter (inR lo hi) = ps ++ ((p.kids.flatMap fun k => allD T f k.toNat) ++ p.keys.zip p.vals).filter (inR lo hi) →
        scan_walk.l7 E (scan_walk.at E f) F gf [(lf, 0), (lt, 0), (B.length, 0)] l (o + at_ * 5) c.a2 c.n2 (nI c.n2) (i : Int) H Q := by
      intro F
      induction F with
      | zero => intro i _ _ h; omega
      | succ F ihF =>
        intro i H qs hF hi' g hb he
        have hH := h0B.trans g.pre
        rw [scan_walk.l7_eq]
        by_cases hik : i < p.vals.length
        · rw [bite_t (by simp; omega), chk_true, (hpc.mono hH).vals.rd i rfl hik, rd_of (v := .sl c.a1 c.n1 1) (by exact gt_pre hH g2), dL_sl, chk_true, (hpc.mono hH).keys.rd i rfl (by omega)]
          have e : (p.keys.zip p.vals).drop i = (p.keys[i]'(by omega), p.vals[i]) :: (p.keys.zip p.vals).drop (i + 1) := by
            rw [List.drop_eq_getElem_cons (by omega)]; simp
          rw [e] at he
          rw [hE]
          refine scan_Range_1_spec g hf ht (by omega) _ _ fun H' g' => ?_
          rw [wrap_succ (by omega)]
          have hfl : ([(p.keys[i]'(by omega), p.vals[i])].filter (inR lo hi)).length ≤ 1 := List.length_filter_le _ _
          refine ihF (i + 1) H' _ (by omega) (by omega) g' (by rw [List.length_append]; omega) ?_
          rw [List.append_assoc, ← List.filter_append]
          exact he
        · rw [bite_f (by simp; omega)]
          rw [List.drop_of_length_le (by omega), List.filter_nil, List.append_nil] at he
          subst he
          exact hQ H g
    -- the kids
    have l2 : ∀ (F i : Nat) (H : Hp) (qs : KV), p.kids.length - i + p.vals.length + 2 < F → i ≤ p.kids.length → SJ B H t qs → qs.length + ((p.kids.drop i).flatMap fun k => allD T f k.toNat).length + p.vals.length ≤ 1000 →
        qs ++ (((p.kids.drop i).flatMap fun k => allD T f k.toNat) ++ p.keys.zip p.vals).filter (inR lo hi) = ps ++ ((p.kids.flatMap fun k => allD T f k.toNat) ++ p.keys.zip p.vals).filter (inR lo hi) →
        scan_walk.l2 E (scan_walk.at E f) F (some (lp, 0)) gf [(lf, 0), (lt, 0), (B.length, 0)] l (o + at_ * 5) c.a3 c.n3 (nI c.n3) (i : Int) H Q := by
      intro F
      induction F with
      | zero => intro i _ _ h; omega
      | succ F ihF =>
        intro i H qs hF hi' g hb he
        have hH := h0B.trans g.pre
        rw [scan_walk.l2_eq]
        by_cases hik : i < p.kids.length
        · rw [flat_len p.kids i hik] at hb he
          rw [List.length_append] at hb
          have hmem := List.getElem_mem hik
          have hk := k48 _ hmem
          have ek : p.kids[i] = ((p.kids[i].toNat : Nat) : Int) := by omega
          rw [bite_t (by simp; omega), chk_true, (hpc.mono hH).kids.rd i rfl hik]
          generalize hkk : p.kids[i] = kk at *
          rw [ek]
          refine ih kk.toNat H _ qs (hkids kk hmem) (by omega) g (by omega) fun H' g' => ?_
          rw [wrap_succ (by omega)]
          have hfl : ((allD T f kk.toNat).filter (inR lo hi)).length ≤ (allD T f kk.toNat).length := List.length_filter_le _ _
          refine ihF (i + 1) H' _ (by omega) (by omega) g' (by rw [List.length_append]; omega) ?_
          rw [List.append_assoc, ← List.filter_append, ← List.append_assoc (allD T f kk.toNat)]
          exact he
        · rw [bite_f (by simp; omega), rd_of (v := .sl c.a2 c.n2 1) (by exact gt_pre hH g3), dL_sl]
          rw [List.drop_of_length_le (by omega), List.flatMap_nil, List.nil_append] at he
          rw [List.drop_of_length_le (by omega)] at hb
          exact l7 F 0 H qs (by omega) (by omega) g (by simp at hb; omega) (by rw [List.drop_zero]; exact he)
    have hH := h0B.trans g.pre
    refine ⟨p.vals.length + p.kids.length + 4, ?_⟩
    rw [scan_walk_eq, pS_some, rd_of (v := .sl (some (l, o)) 48 5) (by exact gt_pre g.pre hlp), dL_sl, chk_true]
    refine chk_of (by simp; omega) ?_
    rw [pS_some, etN, rd_of (v := .sl c.a3 c.n3 1) (by exact gt_pre hH g4), dL_sl]
    exact l2 _ 0 H ps (by omega) (by omega) g (by rw [List.drop_zero]; omega) (by rw [List.drop_zero])
end

section
variable {H : Hp} {Q : Post} {x : Pl} {n : Nat} {cs : List PC} {T : List Pg} {lo hi : ByteArray}
theorem scan_Range_spec (hT : Tr H x n cs T) (hQ : ∀ a m H', H <+: H' → Own H' H.length tKV a (m * 2) (kvCells (scanE T lo hi)) → (scanE T lo hi).length = m → Q (.tup [.s (.sl a m 2), .s (.int .i64 (errE 1400 T))]) H') : scan_Range [.agg [.sl x n 5], .g (.str lo), .g (.str hi)] H Q := by
  refine ⟨1, ?_⟩
  rw [scan_Range_eq]
  simp only [pu_def, ln_def]
  generalize hB : (((H ++ [Obj.row true tTr [.sl x n 5]]) ++ [Obj.row true tS [.str lo]]) ++ [Obj.row true tS [.str hi]]) = B0
  have pB : H <+: B0 := by rw [← hB]; exact ((pre_pu _ _).trans (pre_pu _ _)).trans (pre_pu _ _)
  have gp : gt B0 H.length 0 = some (.sl x n 5) := by rw [← hB]; simp [gt]
  have gf : gt B0 (H ++ [Obj.row true tTr [.sl x n 5]]).length 0 = some (.str lo) := by rw [← hB]; simp [gt]
  have gt' : gt B0 ((H ++ [Obj.row true tTr [.sl x n 5]]) ++ [Obj.row true tS [.str lo]]).length 0 = some (.str hi) := by rw [← hB]; simp [gt]
  rw [rd_of gp, dL_sl]
  refine sound_Sound_spec (hT.mono pB) fun H1 p1 => ?_
  simp only [rG_g, dB_bool]
  by_cases h : 0 < heightD T
  · have e1 : errE 1400 T = 0 := by unfold errE; rw [decide_eq_true h]
    have e2 : allE T = entD T := by unfold allE; rw [decide_eq_true h]
    rw [e1] at hQ
    rw [decide_eq_true h, bite_f (by decide)]
    obtain ⟨st, s⟩ := SF.of h
    have hn : n = 48 := by have := hT.lenT; have := s.len; omega
    subst hn
    refine ⟨49, ?_⟩
    refine scan_walk_main (B := H1) (t := tKVs) (hT.mono (pB.trans p1)) (List.prefix_refl _) (gt_pre p1 gp) (gt_pre p1 gf) (gt_pre p1 gt') (by rw [dynOf_hit]) 49 0 _ _ [] s.good (by omega)
      ⟨pre_pu _ _, none, 0, by simp, .inl ⟨rfl, rfl, rfl⟩, rfl⟩ (by have := s.ents.2.2.2; unfold entD at this; simp; omega) fun H2 g => ?_
    obtain ⟨a, m, hrow, hO, hl⟩ := g.out
    rw [rd_of (v := .sl a m 2) (by rw [gt_some hrow]; rfl), dL_sl]
    rw [List.nil_append] at hO hl
    refine hQ a m H2 (pB.trans (p1.trans g.pre)) ?_ ?_
    · unfold scanE; rw [e2]; exact hO.base (by have := pre_len pB; have := pre_len p1; omega)
    · unfold scanE; rw [e2]; exact hl
  · have e1 : errE 1400 T = 1400 := by unfold errE; rw [decide_eq_false h]
    have e2 : scanE T lo hi = [] := by unfold scanE allE; rw [decide_eq_false h]; rfl
    rw [e1, e2] at hQ
    rw [decide_eq_false h, bite_t (by decide)]
    exact hQ none 0 H1 (pB.trans p1) (.inl ⟨rfl, rfl, rfl⟩) rfl
theorem scan_All_spec (hT : Tr H x n cs T) (hQ : ∀ a m H', H <+: H' → Own H' H.length tKV a (m * 2) (kvCells (allE T)) → (allE T).length = m → Q (.tup [.s (.sl a m 2), .s (.int .i64 (errE 1400 T))]) H') : scan_All [.agg [.sl x n 5]] H Q := by
  refine ⟨1, ?_⟩
  rw [scan_All_eq]
  refine scan_Range_spec hT fun a m H' p o l => ?_
  rw [scanE_all] at o l
  simp only [rT_tup, uR_cons, rS_s, dL_sl, dI_int, uE_nil]
  exact hQ a m H' p o l
set_option maxRecDepth 100000 in
theorem ref9_Range_spec (hT : Tr H x n cs T) (hQ : ∀ a m H', H <+: H' → Own H' H.length tKV a (m * 2) (kvCells (scanE T lo hi)) → (scanE T lo hi).length = m → Q (.tup [.s (.sl a m 2), .s (.int .i64 (errE 1400 T))]) H') : ref9_Range [.agg [.sl x n 5], .g (.str lo), .g (.str hi)] H Q := by
  refine ⟨70, ?_⟩
  rw [ref9_Range_eq]
  refine ref9_All_spec hT fun a m H1 p1 o1 l1 => ?_
  simp only [rT_tup, uR_cons, rS_s, dL_sl, dI_int, uE_nil]
  have hm := allE_len T
  have loop : ∀ (F i : Nat) (H2 : Hp) (a2 : Pl) (n2 : Nat) (qs : KV), m - i < F → i ≤ m → H1 <+: H2 → Own H2 H1.length tKV a2 (n2 * 2) (kvCells qs) → qs.length = n2 → n2 ≤ i → qs ++ ((allE T).drop i).filter (inR lo hi) = scanE T lo hi →
      ref9_Range.l4 F lo hi a m (errE 1400 T) a2 n2 (i : Int) H2 Q := by
    intro F
    induction F with
    | zero => intro i _ _ _ _ h; omega
    | succ F ih =>
      intro i H2 a2 n2 qs hF hi' p2 o2 l2 hni he
      rw [ref9_Range.l4_eq]
      by_cases him : i < m
      · obtain ⟨l, o, rfl, q1, q2⟩ := Kv.get (H := H2) (Kv.mono p2 ⟨o1.cells, l1⟩) (i := i) (by omega)
        have etN : tN (i : Int) = i := rfl
        have hidx : (leI 0 (i : Int) && ltI (i : Int) (nI m)) = true := by simp; omega
        rw [List.drop_eq_getElem_cons (by omega), List.filter_cons] at he
        generalize hx : (allE T)[i]'(by omega) = kv at *
        obtain ⟨k, v⟩ := kv
        rw [inR_eq] at he
        rw [bite_t (by simp; omega), chk_true]
        refine chk_of hidx ?_
        rw [pS_some, etN, Nat.add_zero, rd_of q1, dS_str, blt_eq, wrap_succ (by omega)]
        have no : qs ++ ((allE T).drop (i + 1)).filter (inR lo hi) = scanE T lo hi → ref9_Range.l4 F lo hi (some (l, o)) m (errE 1400 T) a2 n2 ((i + 1 : Nat) : Int) H2 Q := fun e => ih (i + 1) H2 a2 n2 qs (by omega) (by omega) p2 o2 l2 (by omega) e
        have yes : qs ++ (k, v) :: ((allE T).drop (i + 1)).filter (inR lo hi) = scanE T lo hi → chk true (chk (leI 0 (i : Int) && ltI (i : Int) (nI m)) (pS (some (l, o)) fun n4 n5 => rd H2 n4 (n5 + i * 2) fun v6 => dS v6 fun s7 => rd H2 n4 (n5 + i * 2 + 1) fun v8 => dS v8 fun s9 =>
            chk true (ap H2 tKV 2 32 a2 n2 [.str s7, .str s9] 1 fun x10 n11 H12 => ref9_Range.l4 F lo hi (some (l, o)) m (errE 1400 T) x10 n11 ((i + 1 : Nat) : Int) H12 Q))) := fun e => by
          rw [chk_true]
          refine chk_of hidx ?_
          rw [pS_some, rd_of q1, dS_str, rd_of q2, dS_str, chk_true]
          refine ap_kv' p2 o2 l2 _ _ (by omega) fun a' H' p' o' l' _ _ => ?_
          exact ih (i + 1) H' a' (n2 + 1) _ (by omega) (by omega) p' o' l' (by omega) (by rw [List.append_assoc]; exact e)
        refine bite_of (fun e => ?_) (fun e => ?_)
        · have e' : blt k lo = false := by simpa using e
          rw [e'] at he
          refine bite_of (fun e2 => ?_) (fun e2 => ?_)
          · have e2' : hi = mkS [] := by simpa using e2
            rw [decide_eq_true e2'] at he
            exact yes he
          · have e2' : ¬ hi = mkS [] := by simpa using e2
            rw [decide_eq_false e2'] at he
            rw [chk_true]
            refine chk_of hidx ?_
            rw [pS_some, Nat.add_zero, rd_of q1, dS_str, blt_eq]
            refine bite_of (fun e3 => ?_) (fun e3 => ?_)
            · rw [e3] at he; exact yes he
            · rw [e3] at he; exact no he
        · have e' : blt k lo = true := by simpa using e
          rw [e'] at he
          exact no he
      · rw [bite_f (by simp; omega)]
        rw [List.drop_of_length_le (by omega), List.filter_nil, List.append_nil] at he
        subst he
        exact hQ a2 n2 H2 (p1.trans p2) (o2.base (pre_len p1)) l2
  exact loop 69 0 H1 none 0 [] (by omega) (by omega) (List.prefix_refl _) (.inl ⟨rfl, rfl, rfl⟩) rfl (Nat.le_refl _) (by rw [List.drop_zero]; rfl)
/-- entries spoilt -/
theorem law0_SpoilPairs_spec {H0 : Hp} {a : Pl} {m : Nat} {ps : KV} {b : Nat} {t : TypeId} (h0 : H0 <+: H) (hb : H0.length ≤ b) (hO : Own H b t a (m * 2) (kvCells ps)) (hl : ps.length = m) (hm : m ≤ 100000)
    (hQ : ∀ H', H0 <+: H' → (∀ l, a ≠ some (l, 0) → H'[l]? = H[l]?) → Q (.tup []) H') : law0_SpoilPairs [.g (.sl a m 2)] H Q := by
  refine ⟨m + 2, ?_⟩
  rw [law0_SpoilPairs_eq]
  have loop : ∀ (F i : Nat) (H2 : Hp) (cs : List GV), m - i < F → i ≤ m → H0 <+: H2 → Own H2 b t a (m * 2) cs → (∀ l, a ≠ some (l, 0) → H2[l]? = H[l]?) → law0_SpoilPairs.l1 F a m (i : Int) H2 Q := by
    intro F
    induction F with
    | zero => intro i _ _ h; omega
    | succ F ih =>
      intro i H2 cs hF hi' p2 o2 hk
      rw [law0_SpoilPairs.l1_eq]
      by_cases him : i < m
      · rw [bite_t (by simp; omega), chk_true]
        refine chk_of (by simp; omega) ?_
        rcases o2 with ⟨_, q, _⟩ | ⟨l, rfl, q1, q2, q3⟩
        · omega
        have etN : tN (i : Int) = i := rfl
        rw [pS_some, etN]
        have hlt := (List.getElem?_eq_some_iff.1 q2).1
        rw [wr_of q2 (by omega), wrap_succ (by omega)]
        exact ih (i + 1) _ _ (by omega) (by omega) (pre_set p2 (by omega) _) (.inr ⟨l, rfl, q1, List.getElem?_set_self hlt, by simp [q3]⟩) (fun l' hne => by
          rw [List.getElem?_set_ne (fun e => hne (by rw [e]))]; exact hk l' hne)
      · rw [bite_f (by simp; omega)]
        exact hQ H2 p2 hk
  exact loop _ 0 H _ (by omega) (by omega) h0 hO (fun _ _ => rfl)
end
end Go.Am
namespace Go.Am

theorem kvCells_drop : ∀ (ps : KV) (k : Nat), kvCells (ps.drop k) = (kvCells ps).drop (k * 2)
  | [], k => by simp [kvCells]
  | x :: ps, 0 => by simp
  | x :: ps, k + 1 => by
    rw [List.drop_succ_cons, kvCells_drop ps k]
    have e : (k + 1) * 2 = k * 2 + 1 + 1 := by omega
    rw [e]; rfl
theorem kvCells_take : ∀ (ps : KV) (k : Nat), kvCells (ps.take k) = (kvCells ps).take (k * 2)
  | [], k => by simp [kvCells]
  | x :: ps, 0 => by simp [kvCells]
  | x :: ps, k + 1 => by
    have e : (k + 1) * 2 = k * 2 + 1 + 1 := by omega
    rw [List.take_succ_cons, e]
    show GV.str x.1 :: GV.str x.2 :: kvCells (ps.take k) = _
    rw [kvCells_take ps k]; rfl
theorem Kv.part {H : Hp} {a : Pl} {n : Nat} {ps : KV} (h : Kv H a n ps) (k m : Nat) (hm : k + m ≤ n) : Kv H (shf a (k * 2)) m ((ps.drop k).take m) := by
  refine ⟨?_, by rw [List.length_take, List.length_drop, h.len]; omega⟩
  rw [kvCells_take, kvCells_drop]
  exact cells_part h.cells (k * 2) (m * 2) (by omega)

section
variable {H : Hp} {Q : Post}
theorem law0_SamePairs_spec {a1 a2 : Pl} {n1 n2 : Nat} {xs ys : KV} (h1 : Kv H a1 n1 xs) (h2 : Kv H a2 n2 ys) (hn : n1 ≤ 100000) (hQ : ∀ b, (b = true ↔ xs = ys) → Q (.g (.bool b)) H) : law0_SamePairs [.g (.sl a1 n1 2), .g (.sl a2 n2 2)] H Q := by
  have l1 := h1.len
  have l2 := h2.len
  refine ⟨n1 + 2, ?_⟩
  rw [law0_SamePairs_eq]
  refine bite_of (fun e => hQ false ⟨fun q => (by cases q), fun q => ?_⟩) (fun e => ?_)
  · subst q
    simp at e; omega
  have hnn : n1 = n2 := by simp at e; omega
  have loop : ∀ (F i : Nat), n1 - i < F → i ≤ n1 → (∀ j (h : j < xs.length) (h' : j < ys.length), j < i → xs[j] = ys[j]) → law0_SamePairs.l4 F a1 n1 a2 n2 (i : Int) H Q := by
    intro F
    induction F with
    | zero => intro i h; omega
    | succ F ih =>
      intro i hF hi he
      rw [law0_SamePairs.l4_eq]
      by_cases hik : i < n1
      · obtain ⟨l, o, ea, q1, q2⟩ := h1.get (i := i) (by omega)
        obtain ⟨l', o', ea', q1', q2'⟩ := h2.get (i := i) (by omega)
        subst ea; subst ea'
        have etN : tN (i : Int) = i := rfl
        rw [bite_t (by simp; omega), chk_true]
        refine chk_of (by simp; omega) ?_
        rw [pS_some, etN, rd_of q1, dS_str, rd_of q2, dS_str, chk_true]
        refine chk_of (by simp; omega) ?_
        rw [pS_some, rd_of q1', dS_str, rd_of q2', dS_str]
        refine bite_of (fun e => hQ false ⟨fun q => (by cases q), fun q => ?_⟩) (fun e => ?_)
        · subst q; simp at e
        · rw [wrap_succ (by omega)]
          refine ih (i + 1) (by omega) (by omega) fun j h h' hj => ?_
          by_cases ej : j = i
          · subst ej
            simp at e
            exact Prod.ext e.1 e.2
          · exact he j h h' (by omega)
      · rw [bite_f (by simp; omega)]
        refine hQ true ⟨fun _ => ?_, fun _ => rfl⟩
        exact List.ext_getElem (by omega) fun j h h' => he j h h' (by omega)
  exact loop _ 0 (by omega) (Nat.zero_le _) (fun j _ _ h => by omega)
theorem law14_letters_spec {k : Nat} (hk : k ≤ 100000) (hQ : ∀ H', H <+: H' → Q (.g (.str (lettersD k))) H') : law14_letters [.g (.int .i64 (k : Int))] H Q := by
  refine ⟨1, ?_⟩
  obtain ⟨e1, e2⟩ := letters_word hk
  rw [law14_letters_eq, e1, e2]
  simp only [pu_def, ln_def]
  rw [rdN_of (cs := u8s [bof ((97 + k / 16 % 16 : Nat) : Int), bof ((97 + k % 16 : Nat) : Int)]) (by simp [cells?, u8s]), txt_u8s]
  exact hQ _ (pre_pu _ _)
theorem law11_letters_spec {k : Nat} (hk : k ≤ 100000) (hQ : ∀ H', H <+: H' → Q (.g (.str (lettersD k))) H') : law11_letters [.g (.int .i64 (k : Int))] H Q := by
  refine ⟨1, ?_⟩
  obtain ⟨e1, e2⟩ := letters_word hk
  rw [law11_letters_eq, e1, e2]
  simp only [pu_def, ln_def]
  rw [rdN_of (cs := u8s [bof ((97 + k / 16 % 16 : Nat) : Int), bof ((97 + k % 16 : Nat) : Int)]) (by simp [cells?, u8s]), txt_u8s]
  exact hQ _ (pre_pu _ _)
end

/-! the tree that awakes -/
def kvA : KV := [(mkS [97], mkS [49]), (mkS [98], mkS []), (mkS [99], mkS [51]), (mkS [100], mkS []), (mkS [101], mkS [53])]
theorem hA : 0 < heightD (buildD kvA) := by decide +kernel
theorem eA : errE 1400 (buildD kvA) = 0 := by decide +kernel
theorem allA : allE (buildD kvA) = kvA := by decide +kernel
theorem rA1 : scanE (buildD kvA) (mkS [98]) (mkS [100]) = (kvA.drop 1).take 2 := by decide +kernel
theorem rA2 : scanE (buildD kvA) (mkS [100]) (mkS []) = (kvA.drop 3).take 2 := by decide +kernel
theorem kvA_own (H : Hp) (t : TypeId) : Kv (H ++ [.row true t [(.str (mkS [97])), (.str (mkS [49])), (.str (mkS [98])), (.str (mkS [])), (.str (mkS [99])), (.str (mkS [51])), (.str (mkS [100])), (.str (mkS [])), (.str (mkS [101])), (.str (mkS [53]))]]) (some (H.length, 0)) 5 kvA :=
  ⟨by simp [cells?, kvCells, kvA], rfl⟩
theorem kvA_at (H : Hp) : Kv (H ++ [.row false 0 [(.str (mkS [97])), (.str (mkS [49])), (.str (mkS [98])), (.str (mkS [])), (.str (mkS [99])), (.str (mkS [51])), (.str (mkS [100])), (.str (mkS [])), (.str (mkS [101])), (.str (mkS [53]))]]) (some (H.length, 0)) 5 kvA :=
  ⟨by simp [cells?, kvCells, kvA], rfl⟩
section
variable {H : Hp} {Q : Post}
set_option maxRecDepth 100000 in
theorem law14_awake_spec (hQ : ∀ H', H <+: H' → Q (.g (.bool true)) H') : law14_awake [] H Q := by
  refine ⟨1, ?_⟩
  rw [law14_awake_eq]
  simp only [pu_def, ln_def]
  have pA := pre_pu H (.row true tKV [(.str (mkS [97])), (.str (mkS [49])), (.str (mkS [98])), (.str (mkS [])), (.str (mkS [99])), (.str (mkS [51])), (.str (mkS [100])), (.str (mkS [])), (.str (mkS [101])), (.str (mkS [53]))])
  have kA := kvA_own H tKV
  refine ref9_Build_spec kA (by omega) fun H1 tp cs p1 oT => ?_
  simp only [rA_agg, uC_cons, dL_sl, uN_nil]
  refine scan_All_spec oT.tr fun a1 m1 H2 p2 o1 l1 => ?_
  simp only [rT_tup, uR_cons, rS_s, dL_sl, dI_int, uE_nil]
  refine scan_Range_spec (oT.tr.mono p2) fun a2 m2 H3 p3 o2 l2 => ?_
  simp only [rT_tup, uR_cons, rS_s, dL_sl, dI_int, uE_nil]
  refine scan_Range_spec (oT.tr.mono (p2.trans p3)) fun a3 m3 H4 p4 o3 l3 => ?_
  simp only [rT_tup, uR_cons, rS_s, dL_sl, dI_int, uE_nil]
  refine scan_All_spec (tr_nil H4) fun a4 m4 H5 p5 o4 l4 => ?_
  simp only [rT_tup, uR_cons, rS_s, dL_sl, dI_int, uE_nil]
  have kAH : Kv H5 (some (H.length, 0)) 5 kvA := kA.mono (p1.trans (p2.trans (p3.trans (p4.trans p5))))
  rw [allA] at o1 l1
  rw [rA1] at o2 l2
  rw [rA2] at o3 l3
  have c1 : Kv H5 a1 m1 kvA := ((o1.kv l1).mono (p3.trans (p4.trans p5)))
  have c2 : Kv H5 a2 m2 _ := ((o2.kv l2).mono (p4.trans p5))
  have c3 : Kv H5 a3 m3 _ := ((o3.kv l3).mono p5)
  have m1e : m1 = 5 := l1.symm
  have m2e : m2 = 2 := l2.symm
  have m3e : m3 = 2 := l3.symm
  have hE : errE 1400 [] = 1400 := by decide +kernel
  rw [eA, hE]
  refine law0_SamePairs_spec c1 kAH (by omega) fun b hb => ?_
  simp only [rG_g, dB_bool]
  rw [bite_t (hb.2 rfl)]
  refine law0_Num_spec ?_
  simp only [rG_g, dI_int]
  rw [bite_t (by decide), chk_true]
  refine chk_of (by simp) ?_
  refine law0_SamePairs_spec c2 (kAH.part 1 2 (by omega)) (by omega) fun b hb => ?_
  simp only [rG_g, dB_bool]
  rw [bite_t (hb.2 rfl)]
  refine law0_Num_spec ?_
  simp only [rG_g, dI_int]
  rw [bite_t (by decide), chk_true]
  refine chk_of (by simp) ?_
  refine law0_SamePairs_spec c3 (kAH.part 3 2 (by omega)) (by omega) fun b hb => ?_
  simp only [rG_g, dB_bool]
  rw [bite_t (hb.2 rfl)]
  refine law0_Num_spec ?_
  simp only [rG_g, dI_int]
  rw [bite_t (by decide)]
  refine law0_Num_spec ?_
  simp only [rG_g, dI_int]
  exact hQ _ (pA.trans (p1.trans (p2.trans (p3.trans (p4.trans p5)))))

theorem scanE_len (T : List Pg) (lo hi : ByteArray) : (scanE T lo hi).length ≤ 60 := Nat.le_trans (List.length_filter_le _ _) (allE_len T)
set_option maxRecDepth 100000 in
theorem law14_Scans_spec {z : Pl} {n : Nat} {cs : List PC} {T : List Pg} {lo hi : ByteArray} (hT : Tr H z n cs T) (hn : n * 80 ≤ 140737488351232) (hQ : ∀ H', Q (.g (.bool true)) H') : law14_Scans [.agg [.sl z n 5], .g (.str lo), .g (.str hi)] H Q := by
  refine ⟨1, ?_⟩
  rw [law14_Scans_eq]
  refine law0_CopyTree_ct hT hn fun x ds H1 g => ?_
  simp only [rA_agg, uC_cons, dL_sl, uN_nil]
  have hX := g.ot.tr
  have hZ := hT.mono g.pre
  refine scan_All_spec hX fun a1 m1 H2 p2 o1 l1 => ?_
  simp only [rT_tup, uR_cons, rS_s, dL_sl, dI_int, uE_nil]
  refine ref9_All_spec (hZ.mono p2) fun a2 m2 H3 p3 o2 l2 => ?_
  simp only [rT_tup, uR_cons, rS_s, dL_sl, dI_int, uE_nil]
  refine scan_Range_spec (hX.mono (p2.trans p3)) fun a3 m3 H4 p4 o3 l3 => ?_
  simp only [rT_tup, uR_cons, rS_s, dL_sl, dI_int, uE_nil]
  refine ref9_Range_spec (hZ.mono (p2.trans (p3.trans p4))) fun a4 m4 H5 p5 o4 l4 => ?_
  simp only [rT_tup, uR_cons, rS_s, dL_sl, dI_int, uE_nil]
  have hl := allE_len T
  have hl2 := scanE_len T lo hi
  have q15 : H1 <+: H5 := p2.trans (p3.trans (p4.trans p5))
  refine law0_SamePairs_spec ((o1.kv l1).mono (p3.trans (p4.trans p5))) ((o2.kv l2).mono (p4.trans p5)) (by omega) fun b hb => ?_
  simp only [rG_g, dB_bool]
  rw [hb.2 rfl, bite_f (by decide)]
  refine law0_Num_spec ?_
  simp only [rG_g, dI_int]
  rw [bite_f (by simp)]
  refine law0_SamePairs_spec ((o3.kv l3).mono p5) (o4.kv l4) (by omega) fun b hb => ?_
  simp only [rG_g, dB_bool]
  rw [hb.2 rfl, bite_f (by decide)]
  refine law0_Num_spec ?_
  simp only [rG_g, dI_int]
  rw [bite_f (by simp)]
  have o1' := o1.mono (p3.trans (p4.trans p5))
  have o3' := o3.mono p5
  refine law0_SpoilPairs_spec q15 (Nat.le_refl _) o1' l1 (by omega) fun H6 q6 k6 => ?_
  have o3'' : Own H6 H3.length tKV a3 (m3 * 2) (kvCells (scanE T lo hi)) := o3'.keep fun l e => k6 l fun e1 => by
    have z1 := o1.ltAny e1
    have z3 := o3.above e
    have := pre_len p3
    omega
  refine law0_SpoilPairs_spec q6 (Nat.le_trans (pre_len p2) (pre_len p3)) o3'' l3 (by omega) fun H7 q7 k7 => ?_
  refine law0_SameTree_spec (hX.mono q7) (hZ.mono q7) (by omega) fun b hb => ?_
  simp only [rG_g, dB_bool]
  rw [bite_t (hb.2 rfl)]
  refine law14_awake_spec fun H8 p8 => ?_
  simp only [rG_g, dB_bool]
  exact hQ _

theorem asc_parts {ps : KV} (h : Asc ps) (c : ByteArray) : (ps.filter fun x => blt x.1 c) ++ (ps.filter fun x => !(blt x.1 c)) = ps := by
  induction ps with
  | nil => rfl
  | cons x ps ih =>
    obtain ⟨h1, h2⟩ := List.pairwise_cons.1 h
    cases e : blt x.1 c with
    | true => rw [List.filter_cons_of_pos (by simpa using e), List.filter_cons_of_neg (by simp [e]), List.cons_append, ih h2]
    | false =>
      have e1 : ps.filter (fun x => blt x.1 c) = [] := by
        rw [List.filter_eq_nil_iff]
        intro y hy
        rw [le_le e (blt_asy (h1 y hy))]; simp
      have e2 : ps.filter (fun x => !(blt x.1 c)) = ps := by
        rw [List.filter_eq_self]
        intro y hy
        rw [le_le e (blt_asy (h1 y hy))]; rfl
      rw [List.filter_cons_of_neg (by simp [e]), List.filter_cons_of_pos (by simp [e]), e1, e2]; rfl
theorem allE_asc (T : List Pg) : Asc (allE T) := by
  unfold allE
  by_cases h : 0 < heightD T
  · rw [decide_eq_true h]
    obtain ⟨st, s⟩ := SF.of h
    exact s.ents.1
  · rw [decide_eq_false h]; exact List.Pairwise.nil
theorem scanE_parts (T : List Pg) {c : ByteArray} (hc : c ≠ mkS []) : scanE T (mkS []) c ++ scanE T c (mkS []) = allE T := by
  have e1 : scanE T (mkS []) c = (allE T).filter fun x => blt x.1 c := by
    unfold scanE
    congr 1
    funext x
    obtain ⟨k, v⟩ := x
    rw [inR_eq, blt_mk, decide_eq_false hc]; rfl
  have e2 : scanE T c (mkS []) = (allE T).filter fun x => !(blt x.1 c) := by
    unfold scanE
    congr 1
    funext x
    obtain ⟨k, v⟩ := x
    rw [inR_eq, decide_eq_true rfl]; simp
  rw [e1, e2, asc_parts (allE_asc T)]
theorem err_cases (T : List Pg) (e : Int) : (heightD T = 0 ∧ errE e T = e ∧ allE T = []) ∨ (0 < heightD T ∧ errE e T = 0 ∧ allE T = entD T) := by
  unfold errE allE
  rcases Nat.eq_zero_or_pos (heightD T) with h | h
  · rw [decide_eq_false (by omega)]; exact .inl ⟨h, rfl, rfl⟩
  · rw [decide_eq_true h]; exact .inr ⟨h, rfl, rfl⟩
set_option maxRecDepth 100000 in
theorem law14_ScanParts_spec {z : Pl} {n : Nat} {cs : List PC} {T : List Pg} {c : ByteArray} (hT : Tr H z n cs T) (_ : n * 80 ≤ 140737488351232) (hQ : ∀ H', Q (.g (.bool true)) H') : law14_ScanParts [.agg [.sl z n 5], .g (.str c)] H Q := by
  refine ⟨80, ?_⟩
  rw [law14_ScanParts_eq]
  refine law14_awake_spec fun H1 p1 => ?_
  simp only [rG_g, dB_bool]
  rw [bite_f (by decide)]
  refine scan_All_spec (hT.mono p1) fun a1 m1 H2 p2 o1 l1 => ?_
  simp only [rT_tup, uR_cons, rS_s, dL_sl, dI_int, uE_nil]
  refine law0_Num_spec ?_
  simp only [rG_g, dI_int]
  rcases err_cases T 1400 with ⟨e0, e1, e2⟩ | ⟨e0, e1, e2⟩
  · rw [e1, bite_t (by decide)]
    have : m1 = 0 := by rw [← l1, e2]; rfl
    rw [this]
    exact hQ _
  rw [e1, bite_f (by decide)]
  have hl := allE_len T
  refine scan_Range_spec (hT.mono (p1.trans p2)) fun a2 m2 H3 p3 o2 l2 => ?_
  simp only [rT_tup, uR_cons, rS_s, dL_sl, dI_int, uE_nil]
  refine scan_Range_spec (hT.mono (p1.trans (p2.trans p3))) fun a3 m3 H4 p4 o3 l3 => ?_
  simp only [rT_tup, uR_cons, rS_s, dL_sl, dI_int, uE_nil]
  rw [e1]
  have s2 := scanE_len T (mkS []) c
  have s3 := scanE_len T c (mkS [])
  refine bite_of (fun ec => ?_) (fun ec => ?_)
  · have ec' : c = mkS [] := by simpa using ec
    subst ec'
    rw [scanE_all] at o2 l2 o3 l3
    refine law0_Num_spec ?_
    simp only [rG_g, dI_int]
    rw [bite_t (by decide)]
    refine law0_SamePairs_spec ((o2.kv l2).mono p4) ((o1.kv l1).mono (p3.trans p4)) (by omega) fun b hb => ?_
    simp only [rG_g, dB_bool]
    rw [bite_t (hb.2 rfl)]
    refine law0_SamePairs_spec (o3.kv l3) ((o1.kv l1).mono (p3.trans p4)) (by omega) fun b hb => ?_
    simp only [rG_g, dB_bool]
    rw [hb.2 rfl]
    exact hQ _
  · have ec' : c ≠ mkS [] := by simpa using ec
    have k2 := (o2.kv l2).mono p4
    have k3 := o3.kv l3
    rw [chk_true, rdN_of k2.cells]
    refine ⟨⟨by unfold Lim; omega, by rw [kvCells_length, l2]⟩, ?_⟩
    dsimp only [ln_def]
    have pp := pre_pu H4 (.row true tKV (kvCells (scanE T (mkS []) c)))
    rw [chk_true, rdN_of (k3.mono pp).cells, chk_true]
    have oo : Own (H4 ++ [.row true tKV (kvCells (scanE T (mkS []) c))]) H4.length tKV (some (H4.length, 0)) (m2 * 2) (kvCells (scanE T (mkS []) c)) := .inr ⟨_, rfl, Nat.le_refl _, by simp, by rw [kvCells_length, l2]⟩
    refine ap_z (H0 := H4) (by omega) pp oo (by rw [kvCells_length, l3]) (by unfold Lim; omega) fun a5 H5 o5 x5 f5 => ?_
    rw [← kvCells_append, scanE_parts T ec'] at o5
    have hsum : m2 + m3 = (allE T).length := by rw [← l2, ← l3, ← List.length_append, scanE_parts T ec']
    have k5 : Kv H5 a5 (m2 + m3) (allE T) := ⟨o5.cells, hsum.symm⟩
    have k1 : Kv H5 a1 m1 (allE T) := (o1.kv l1).mono (p3.trans (p4.trans x5.pre))
    have loop : ∀ (F i : Nat), m1 + 1 - i < F → 1 ≤ i → i ≤ m1 + 1 → law14_ScanParts.l13 F a1 m1 0 0 a5 (m2 + m3) (i : Int) H5 Q := by
      intro F
      induction F with
      | zero => intro i h; omega
      | succ F ih =>
        intro i hF h1 hi
        rw [law14_ScanParts.l13_eq]
        by_cases hik : i < m1
        · obtain ⟨j, rfl⟩ : ∃ j, i = j + 1 := ⟨i - 1, by omega⟩
          obtain ⟨l, o, ea, q1, q2⟩ := k1.get (i := j + 1) (by omega)
          obtain ⟨l', o', ea', q1', q2'⟩ := k1.get (i := j) (by omega)
          subst ea; cases ea'
          have etN : tN ((j + 1 : Nat) : Int) = j + 1 := rfl
          have etN' : tN (j : Int) = j := rfl
          rw [bite_t (by simp; omega), chk_true]
          refine chk_of (by simp; omega) ?_
          rw [pS_some, etN, Nat.add_zero, rd_of q1, dS_str, chk_true, wrap_pred (by omega)]
          refine chk_of (by simp; omega) ?_
          rw [pS_some, etN', Nat.add_zero, rd_of q1', dS_str]
          have hlt := List.pairwise_iff_getElem.1 (allE_asc T) j (j + 1) (by omega) (by omega) (by omega)
          rw [blt_eq, blt_asy hlt, bite_f (by simp; exact (Ne.symm (blt_ne hlt))), wrap_succ (by omega)]
          exact ih (j + 1 + 1) (by omega) (by omega) (by omega)
        · rw [bite_f (by simp; omega)]
          refine law0_Num_spec ?_
          simp only [rG_g, dI_int]
          rw [bite_t (by decide)]
          refine law0_Num_spec ?_
          simp only [rG_g, dI_int]
          rw [bite_t (by decide)]
          refine law0_SamePairs_spec k5 k1 (by omega) fun b hb => ?_
          simp only [rG_g, dB_bool]
          rw [hb.2 rfl]
          exact hQ _
    exact loop 79 1 (by omega) (by omega) (by omega)
end
end Go.Am
namespace Go.Am

section
variable {H : Hp} {Q : Post} {key : ByteArray} {ks : List ByteArray}
theorem slotN_take (i : Nat) (hi : i < ks.length) : slotN (ks.take (i + 1)) key = slotN (ks.take i) key + (match blt ks[i] key with | true => 1 | false => 0) := by
  unfold slotN
  rw [List.take_succ_eq_append_getElem hi, List.countP_append]
  congr 1
theorem slotN_le : slotN ks key ≤ ks.length := List.countP_le_length
theorem node_Slot_spec {a : Pl} {n : Nat} (h : Ss H a n ks) (hQ : Q (.tup [.s (.int .i64 (slotN ks key : Int)), .s (.bool (slotB ks key))]) H) : node_Slot [.g (.sl a n 1), .g (.str key)] H Q := by
  have hn := h.len
  have hlim := h.lim
  refine ⟨n + 2, ?_⟩
  rw [node_Slot_eq]
  have loop : ∀ (F i : Nat), n - i < F → i ≤ n → node_Slot.l3 F a n key (slotN (ks.take i) key : Int) a n (nI n) (i : Int) H Q := by
    intro F
    induction F with
    | zero => intro i h; omega
    | succ F ih =>
      intro i hF hi
      rw [node_Slot.l3_eq]
      by_cases hik : i < n
      · have hle : slotN (ks.take i) key ≤ i := Nat.le_trans slotN_le (List.length_take_le _ _)
        rw [bite_t (by simp; omega), chk_true, h.rd i rfl (by omega), blt_eq, wrap_succ (by omega), wrap_succ (by omega)]
        have := ih (i + 1) (by omega) (by omega)
        rw [slotN_take i (by omega)] at this
        refine bite_of (fun e => ?_) (fun e => ?_)
        · rw [e] at this; exact this
        · rw [e] at this; exact this
      · rw [bite_f (by simp; omega), List.take_of_length_le (by omega)]
        have hle := slotN_le (ks := ks) (key := key)
        refine bite_of (fun e => ?_) (fun e => ?_)
        · have hlt : slotN ks key < ks.length := by simp at e; omega
          rw [chk_true, h.rd (slotN ks key) rfl hlt]
          have : slotB ks key = strEq ks[slotN ks key] key := by
            unfold slotB; rw [List.getElem?_eq_getElem hlt, strEq_def]; simp
          rw [this] at hQ
          exact hQ
        · have : slotB ks key = false := by
            unfold slotB
            rw [List.getElem?_eq_none (by simp at e; omega)]; simp
          rw [this] at hQ
          exact hQ
  exact loop _ 0 (by omega) (Nat.zero_le _)
theorem find_Kid_spec {l o n : Nat} {a : Pl} (hg : gt H l (o + 2) = some (.sl a n 1)) (h : Ss H a n ks) (hQ : Q (.g (.int .i64 (kidN ks key : Int))) H) : find_Kid [.g (.ptr (some (l, o))), .g (.str key)] H Q := by
  have hn := h.len
  have hlim := h.lim
  have hle := slotN_le (ks := ks) (key := key)
  refine ⟨1, ?_⟩
  rw [find_Kid_eq, pS_some, rd_of hg, dL_sl]
  refine node_Slot_spec h ?_
  simp only [rT_tup, uR_cons, rS_s, dI_int, dB_bool, uE_nil]
  unfold kidN at hQ
  refine bite_of (fun e => ?_) (fun e => ?_)
  · rw [e] at hQ
    rw [wrap_succ (by omega)]
    exact hQ
  · rw [e] at hQ; exact hQ
end

section
variable {H : Hp} {Q : Post} {x : Pl} {n : Nat} {cs : List PC} {T : List Pg} {key : ByteArray}

def findE (T : List Pg) (key : ByteArray) : Option ByteArray := findK (allE T) key
set_option maxRecDepth 100000 in
theorem find_Find_spec (hT : Tr H x n cs T) (hQ : ∀ H', H <+: H' → Q (.tup [.s (.str ((findE T key).getD (mkS []))), .s (.bool (findE T key).isSome), .s (.int .i64 (errE 1100 T))]) H') : find_Find [.agg [.sl x n 5], .g (.str key)] H Q := by
  refine ⟨60, ?_⟩
  rw [find_Find_eq]
  refine sound_Sound_spec hT fun H1 p1 => ?_
  simp only [rG_g, dB_bool]
  unfold findE at hQ
  rcases err_cases T 1100 with ⟨e0, e1, e2⟩ | ⟨e0, e1, e2⟩
  · rw [e1, e2] at hQ
    rw [decide_eq_false (by omega), bite_t (by decide)]
    exact hQ H1 p1
  rw [e1, e2] at hQ
  rw [decide_eq_true e0, bite_f (by decide)]
  obtain ⟨P, w⟩ := whole_of e0
  have hT1 := hT.mono p1
  have hn : n = 48 := by have := hT.lenT; have := w.len; omega
  subst hn
  obtain ⟨l, o, c0, p0, rfl, _⟩ := hT1.get (i := 0) (by omega)
  rw [chk_true]
  refine chk_of (by simp) ?_
  rw [pS_some]
  have loop : ∀ (d F a : Nat) (P : List Nat) (ps : KV), Sub T d a P ps → d < F → findK (entD T) key = findK ps key → find_Find.l4 F key (some (l, o)) 48 l (o + a * 5) H1 Q := by
    intro d
    induction d with
    | zero => intro F a P ps h; exact h.elim
    | succ d ih =>
      intro F a P ps h hF he
      obtain ⟨F, rfl⟩ : ∃ F', F = F' + 1 := ⟨F - 1, by omega⟩
      have hlt := h.inT a h.head
      obtain ⟨p, hp, hm, hcase⟩ := h
      obtain ⟨l', o', c, p', ee, hc, hp', hpc, g0, g1, g2, g3, g4⟩ := hT1.get (i := a) (by rw [w.len] at hlt; exact hlt)
      cases ee
      rw [hp] at hp'; cases hp'
      have hpl : p.leaf = c.l := hpc.leaf
      have hpw := rising_pw hm.2.rising
      rw [find_Find.l4_eq, rd_of (v := .bool c.l) (by exact g1), dB_bool]
      rcases hcase with ⟨_, hl, _, e⟩ | ⟨hl, P', _, hk⟩
      · rw [bite_f (by rw [← hpl, hl]; rfl), rd_of (v := .sl c.a1 c.n1 1) (by exact g2), dL_sl]
        refine node_Slot_spec hpc.keys ?_
        simp only [rT_tup, uR_cons, rS_s, dI_int, dB_bool, uE_nil]
        have v1 := (hm.2.leaf hl).1
        rw [e, findK_zip hpw v1] at he
        refine bite_of (fun eb => ?_) (fun eb => ?_)
        · have eb' : slotB p.keys key = false := by simpa using eb
          rw [eb'] at he
          rw [he] at hQ
          exact hQ H1 p1
        · have eb' : slotB p.keys key = true := by simpa using eb
          rw [eb'] at he
          have hs : slotN p.keys key < p.vals.length := by
            unfold slotB at eb'
            have := (List.getElem?_eq_some_iff.1 (of_decide_eq_true eb')).1
            omega
          rw [rd_of (v := .sl c.a2 c.n2 1) (by exact g3), dL_sl, chk_true, hpc.vals.rd (slotN p.keys key) rfl hs]
          dsimp only at he
          rw [List.getElem?_eq_getElem hs] at he
          rw [he] at hQ
          exact hQ H1 p1
      · rw [bite_t (by rw [← hpl, hl]; rfl), rd_of (v := .sl c.a3 c.n3 1) (by exact g4), dL_sl]
        refine find_Kid_spec (by exact g2) hpc.keys ?_
        simp only [rG_g, dI_int]
        obtain ⟨k, P1, ps1, hk1, hk2, hk3⟩ := kids_find (key := key) hk hpw
        have hkl := (List.getElem?_eq_some_iff.1 hk1).1
        rw [rd_of (v := .sl c.a3 c.n3 1) (by exact g4), dL_sl]
        refine ⟨rfl, ?_⟩
        rw [chk_true, hpc.kids.rd (kidN p.keys key) rfl hkl]
        have hke : p.kids[kidN p.keys key] = k := by rw [List.getElem?_eq_getElem hkl] at hk1; exact Option.some.inj hk1
        have hk48 := (hm.2.inner hl).2.2.2.1 k (by rw [← hke]; exact List.getElem_mem _)
        rw [hke, chk_true]
        refine chk_of (by simp; omega) ?_
        rw [pS_some]
        exact ih F k.toNat P1 ps1 hk2.1 (by omega) (he.trans hk3)
  have hd := w.sub.low
  have hc := w.count
  have := loop (heightD T) 59 0 P (entD T) w.sub (by omega) rfl
  exact this
set_option maxRecDepth 100000 in
theorem ref9_Find_spec (hT : Tr H x n cs T) (hQ : ∀ H', H <+: H' → Q (.tup [.s (.str ((findE T key).getD (mkS []))), .s (.bool (findE T key).isSome), .s (.int .i64 (errE 1100 T))]) H') : ref9_Find [.agg [.sl x n 5], .g (.str key)] H Q := by
  refine ⟨70, ?_⟩
  rw [ref9_Find_eq]
  refine ref9_All_spec hT fun a m H1 p1 o1 l1 => ?_
  simp only [rT_tup, uR_cons, rS_s, dL_sl, dI_int, uE_nil]
  have hl := allE_len T
  unfold findE at hQ
  rcases err_cases T 1400 with ⟨e0, e1, e2⟩ | ⟨e0, e1, e2⟩
  · have e3 : errE 1100 T = 1100 := by unfold errE; rw [decide_eq_false (by omega)]
    rw [e1, bite_t (by decide)]
    rw [e2, e3] at hQ
    exact hQ H1 p1
  have e3 : errE 1100 T = 0 := by unfold errE; rw [decide_eq_true e0]
  rw [e3] at hQ
  rw [e1, bite_f (by decide)]
  have k1 := o1.kv l1
  have loop : ∀ (F i : Nat), m - i < F → i ≤ m → findK ((allE T).drop i) key = findK (allE T) key → ref9_Find.l5 F key a m (i : Int) H1 Q := by
    intro F
    induction F with
    | zero => intro i h; omega
    | succ F ih =>
      intro i hF hi he
      rw [ref9_Find.l5_eq]
      by_cases hik : i < m
      · obtain ⟨l, o, rfl, q1, q2⟩ := k1.get (i := i) (by omega)
        have etN : tN (i : Int) = i := rfl
        rw [bite_t (by simp; omega), chk_true]
        refine chk_of (by simp; omega) ?_
        rw [pS_some, etN, Nat.add_zero, rd_of q1, dS_str]
        rw [List.drop_eq_getElem_cons (by omega)] at he
        rw [findK_cons] at he
        refine bite_of (fun e => ?_) (fun e => ?_)
        · rw [decide_eq_true (by simpa using e)] at he
          rw [chk_true]
          refine chk_of (by simp; omega) ?_
          rw [pS_some, rd_of q2, dS_str]
          dsimp only at he
          rw [← he] at hQ
          exact hQ H1 p1
        · rw [decide_eq_false (by simpa using e)] at he
          rw [wrap_succ (by omega)]
          exact ih (i + 1) (by omega) (by omega) he
      · rw [bite_f (by simp; omega)]
        rw [List.drop_of_length_le (by omega)] at he
        rw [← he] at hQ
        exact hQ H1 p1
  exact loop 69 0 (by omega) (by omega) rfl
theorem fA1 : findE (buildD kvA) (mkS [101]) = some (mkS [53]) := by decide +kernel
theorem fA2 : findE (buildD kvA) (mkS [98, 98]) = none := by decide +kernel
theorem eA2 : errE 1100 (buildD kvA) = 0 := by decide +kernel
set_option maxRecDepth 100000 in
theorem law11_awake_spec (hQ : ∀ H', H <+: H' → Q (.g (.bool true)) H') : law11_awake [] H Q := by
  refine ⟨1, ?_⟩
  rw [law11_awake_eq]
  simp only [pu_def, ln_def]
  have pA := pre_pu H (.row false 0 [(.str (mkS [97])), (.str (mkS [49])), (.str (mkS [98])), (.str (mkS [])), (.str (mkS [99])), (.str (mkS [51])), (.str (mkS [100])), (.str (mkS [])), (.str (mkS [101])), (.str (mkS [53]))])
  refine ref9_Build_spec (kvA_at H) (by omega) fun H1 tp cs p1 oT => ?_
  simp only [rA_agg, uC_cons, dL_sl, uN_nil]
  refine find_Find_spec oT.tr fun H2 p2 => ?_
  simp only [rT_tup, uR_cons, rS_s, dS_str, dB_bool, dI_int, uE_nil]
  refine find_Find_spec (oT.tr.mono p2) fun H3 p3 => ?_
  simp only [rT_tup, uR_cons, rS_s, dS_str, dB_bool, dI_int, uE_nil]
  refine find_Find_spec (tr_nil H3) fun H4 p4 => ?_
  simp only [rT_tup, uR_cons, rS_s, dS_str, dB_bool, dI_int, uE_nil]
  have hE : errE 1100 [] = 1100 := by decide +kernel
  rw [fA1, fA2, eA2, hE, bite_t (by simp)]
  simp only [Option.isSome_some, Option.isSome_none, Bool.not_false, bite_true]
  refine law0_Num_spec ?_
  simp only [rG_g, dI_int]
  rw [bite_t (by decide)]
  refine law0_Num_spec ?_
  simp only [rG_g, dI_int]
  rw [bite_t (by decide)]
  refine law0_Num_spec ?_
  simp only [rG_g, dI_int]
  exact hQ _ (pA.trans (p1.trans (p2.trans (p3.trans p4))))
set_option maxRecDepth 100000 in
theorem law11_Finds_spec {z : Pl} (hT : Tr H z n cs T) (hn : n * 80 ≤ 140737488351232) (hQ : ∀ H', Q (.g (.bool true)) H') : law11_Finds [.agg [.sl z n 5], .g (.str key)] H Q := by
  refine ⟨1, ?_⟩
  rw [law11_Finds_eq]
  refine law0_CopyTree_ct hT hn fun x ds H1 g => ?_
  simp only [rA_agg, uC_cons, dL_sl, uN_nil]
  refine find_Find_spec g.ot.tr fun H2 p2 => ?_
  simp only [rT_tup, uR_cons, rS_s, dS_str, dB_bool, dI_int, uE_nil]
  refine ref9_Find_spec (hT.mono (g.pre.trans p2)) fun H3 p3 => ?_
  simp only [rT_tup, uR_cons, rS_s, dS_str, dB_bool, dI_int, uE_nil]
  rw [bite_t (by simp), bite_t (by simp)]
  refine law0_Num_spec ?_
  simp only [rG_g, dI_int]
  rw [bite_t (by simp)]
  refine law0_SameTree_spec (g.ot.tr.mono (p2.trans p3)) (hT.mono (g.pre.trans (p2.trans p3))) (by omega) fun b hb => ?_
  simp only [rG_g, dB_bool]
  rw [bite_t (hb.2 rfl)]
  refine law11_awake_spec fun H8 p8 => ?_
  simp only [rG_g, dB_bool]
  exact hQ _
theorem usedSum_take (g : Pg → Nat) {i : Nat} {p : Pg} (hp : T[i]? = some p) : usedSum g (T.take (i + 1)) = usedSum g (T.take i) + (match p.used with | true => g p | false => 0) := by
  obtain ⟨hi, e⟩ := List.getElem?_eq_some_iff.1 hp
  unfold usedSum
  rw [List.take_succ_eq_append_getElem hi, List.map_append, List.sum_append, e]
  simp only [List.map_cons, List.map_nil, List.sum_cons, List.sum_nil, Nat.add_zero]
  cases p.used <;> rfl
set_option maxRecDepth 100000 in
theorem law10_SoundPages_spec {z : Pl} (hT : Tr H z n cs T) (_ : n * 80 ≤ 140737488351232) (hQ : ∀ H', Q (.g (.bool true)) H') : law10_SoundPages [.agg [.sl z n 5]] H Q := by
  refine ⟨60, ?_⟩
  rw [law10_SoundPages_eq]
  refine law10_awake_spec fun H1 p1 => ?_
  simp only [rG_g, dB_bool]
  rw [bite_f (by decide)]
  refine sound_Sound_spec (hT.mono p1) fun H2 p2 => ?_
  simp only [rG_g, dB_bool]
  rcases err_cases T 1400 with ⟨e0, e1, e2⟩ | ⟨e0, e1, e2⟩
  · rw [decide_eq_false (by omega), bite_t (by decide)]
    refine sound_Height_spec (hT.mono (p1.trans p2)) fun H3 p3 => ?_
    simp only [rG_g, dI_int]
    rw [e0]
    exact hQ _
  rw [decide_eq_true e0, bite_f (by decide)]
  refine ref9_All_spec (hT.mono (p1.trans p2)) fun a m H3 p3 o3 l3 => ?_
  simp only [rT_tup, uR_cons, rS_s, dL_sl, dI_int, uE_nil]
  obtain ⟨st, s⟩ := SF.of e0
  have hn48 : n = 48 := by have := hT.lenT; have := s.len; omega
  subst hn48
  obtain ⟨u1, u2, u3, u4⟩ := s.sums
  have u5 := s.ents.2.2.2
  rw [e1]
  have hT3 := hT.mono (p1.trans (p2.trans p3))
  have loop : ∀ (F i : Nat) (H4 : Hp), 48 - i < F → i ≤ 48 → H3 <+: H4 → usedSum gK (T.take i) ≤ 4 * i → usedSum gL (T.take i) ≤ i → law10_SoundPages.l8 F z 48 a m 0 (usedSum gK (T.take i) : Int) (usedSum gL (T.take i) : Int) (i : Int) H4 Q := by
    intro F
    induction F with
    | zero => intro i _ h; omega
    | succ F ih =>
      intro i H4 hF hi p4 b1 b2
      rw [law10_SoundPages.l8_eq]
      by_cases hik : i < 48
      · obtain ⟨l, o, c, p, rfl, hc, hp, hpc, g0, g1, g2, g3, g4⟩ := (hT3.mono p4).get hik
        have etN : tN (i : Int) = i := rfl
        have hpu : p.used = c.u := hpc.used
        have hpl : p.leaf = c.l := hpc.leaf
        have hn1 := hpc.keys.len
        have sK := usedSum_take gK hp
        have sL := usedSum_take gL hp
        rw [bite_t (by simp; omega), chk_true]
        refine chk_of (by simp; omega) ?_
        have wi : wrapI .i64 ((i : Int) + 1) = ((i + 1 : Nat) : Int) := wrap_succ (by omega)
        rw [pS_some, etN, rdPage_of g0 g1 g2 g3 g4, wi]
        refine bite_of (fun eu => ?_) (fun eu => ?_)
        · have hu : p.used = true := by rw [hpu, eu]
          obtain ⟨_, hmay, h2⟩ := s.used hp hu
          have hM := (mayB_iff p).1 hmay
          have h4 := hM.1
          rw [hu] at sK sL
          dsimp only at sK sL
          have fin : ∀ H5, H3 <+: H5 → bite c.u (bite c.l (law10_SoundPages.l8 F (some (l, o)) 48 a m 0 (wrapI .i64 ((usedSum gK (T.take i) : Int) + nI c.n1)) (wrapI .i64 ((usedSum gL (T.take i) : Int) + 1)) ((i + 1 : Nat) : Int) H5 Q)
              (law10_SoundPages.l8 F (some (l, o)) 48 a m 0 (usedSum gK (T.take i) : Int) (usedSum gL (T.take i) : Int) ((i + 1 : Nat) : Int) H5 Q)) (law10_SoundPages.l8 F (some (l, o)) 48 a m 0 (usedSum gK (T.take i) : Int) (usedSum gL (T.take i) : Int) ((i + 1 : Nat) : Int) H5 Q) := fun H5 p5 => by
            rw [bite_t eu]
            refine bite_of (fun el => ?_) (fun el => ?_)
            · have hl : p.leaf = true := by rw [hpl, el]
              have gk : gK p = c.n1 := by unfold gK; rw [hl, hn1]
              have gl : gL p = 1 := by unfold gL; rw [hl]
              rw [gk] at sK
              rw [gl] at sL
              have w1 : wrapI .i64 ((usedSum gK (T.take i) : Int) + nI c.n1) = (usedSum gK (T.take (i + 1)) : Int) := by rw [sK, nI_def, wrap64 (by omega) (by omega)]; omega
              have w2 : wrapI .i64 ((usedSum gL (T.take i) : Int) + 1) = (usedSum gL (T.take (i + 1)) : Int) := by rw [sL, wrap_succ (by omega)]
              rw [w1, w2]
              exact ih (i + 1) H5 (by omega) (by omega) p5 (by omega) (by omega)
            · have hl : p.leaf = false := by rw [hpl, el]
              have gk : gK p = 0 := by unfold gK; rw [hl]
              have gl : gL p = 0 := by unfold gL; rw [hl]
              rw [gk] at sK
              rw [gl] at sL
              have sK' : usedSum gK (T.take (i + 1)) = usedSum gK (T.take i) := by omega
              have sL' : usedSum gL (T.take (i + 1)) = usedSum gL (T.take i) := by omega
              rw [← sK', ← sL']
              exact ih (i + 1) H5 (by omega) (by omega) p5 (by omega) (by omega)
          refine ref1_PageMay_spec hpc fun b hb => ?_
          simp only [rG_g, dB_bool]
          rw [bite_f (by rw [hb.2 hM]; rfl)]
          refine bite_of (fun ei => ?_) (fun ei => ?_)
          · rw [bite_f (by have := h2 (by simpa using ei); simp; omega)]
            exact fin H4 p4
          · exact fin H4 p4
        · have hu : p.used = false := by rw [hpu, eu]
          rw [hu] at sK sL
          dsimp only at sK sL
          have sK' : usedSum gK (T.take (i + 1)) = usedSum gK (T.take i) := by omega
          have sL' : usedSum gL (T.take (i + 1)) = usedSum gL (T.take i) := by omega
          rw [eu]
          simp only [bite_false]
          rw [← sK', ← sL']
          exact ih (i + 1) H4 (by omega) (by omega) p4 (by omega) (by omega)
      · have h48 : i = 48 := by omega
        subst h48
        have ht : T.take 48 = T := List.take_of_length_le (by rw [s.len]; exact Nat.le_refl _)
        rw [bite_f (by simp), ht]
        refine sound_Height_spec (hT3.mono p4) fun H5 p5 => ?_
        simp only [rG_g, dI_int]
        have hm : m = usedSum gK T := by rw [← l3, e2, u1]
        rw [bite_t (by decide), bite_t (by simp; omega), bite_t (by simp; omega), bite_t (by simp; omega)]
        rw [bite_t (by
          simp only [eqI_def, eqB_def, beq_iff_eq, decide_eq_decide]
          constructor
          · intro h; have := u2.1 (by omega); omega
          · intro h; have := u2.2 (by omega); omega)]
        rw [leI_def, decide_eq_true (by omega)]
        exact hQ _
  exact loop 59 0 H3 (by omega) (by omega) (List.prefix_refl _) (by simp [usedSum]) (by simp [usedSum])
end
end Go.Am
namespace Go.Am

/-! keys by numbers -/
theorem letters_lt : ∀ i j : Fin 128, blt (lettersD i.1) (lettersD j.1) = decide (i.1 < j.1) := by decide +kernel
theorem letters_size (i : Nat) : (lettersD i).size = 2 := rfl
theorem letters_blt {i j : Nat} (hi : i < 128) (hj : j < 128) : blt (lettersD i) (lettersD j) = decide (i < j) := letters_lt ⟨i, hi⟩ ⟨j, hj⟩
theorem letters_inj {i j : Nat} (hi : i < 128) (hj : j < 128) (h : lettersD i = lettersD j) : i = j := by
  have h1 := letters_blt hi hj
  have h2 := letters_blt hj hi
  rw [h, blt_irr] at h1
  rw [h, blt_irr] at h2
  have := of_decide_eq_false h1.symm
  have := of_decide_eq_false h2.symm
  omega
def kvW (l : List Nat) : KV := l.map fun i => (lettersD i, mkS [118])
theorem kvW_append (l m : List Nat) : kvW (l ++ m) = kvW l ++ kvW m := by simp [kvW]
theorem kvW_ok (l : List Nat) : KVok (kvW l) := fun x hx => by
  obtain ⟨i, _, rfl⟩ := List.mem_map.1 hx
  exact ⟨⟨by show 1 ≤ (lettersD i).size; rw [letters_size]; omega, by show (lettersD i).size ≤ 6; rw [letters_size]; omega⟩, by show (mkS [118]).size ≤ 10; decide⟩
theorem kvW_asc {k : Nat} (hk : k ≤ 100) : Asc (kvW (List.range k)) := by
  unfold Asc kvW
  rw [List.pairwise_map]
  refine (List.pairwise_lt_range (n := k)).imp_of_mem fun {a b} ha hb h => ?_
  have := List.mem_range.1 ha
  have := List.mem_range.1 hb
  show blt (lettersD a) (lettersD b) = true
  rw [letters_blt (by omega) (by omega), decide_eq_true h]
theorem kvW_scan {k x y : Nat} (hk : k ≤ 60) (hx : x < 128) (hy : y < 128) : scanE (buildD (kvW (List.range k))) (lettersD x) (lettersD y) = kvW ((List.range k).filter fun i => decide (x ≤ i) && decide (i < y)) ∧ allE (buildD (kvW (List.range k))) = kvW (List.range k) ∧ 0 < heightD (buildD (kvW (List.range k))) := by
  obtain ⟨b1, b2⟩ := build_sound (kvW_asc (k := k) (by omega)) (kvW_ok _) (by simp [kvW]; omega)
  have e : allE (buildD (kvW (List.range k))) = kvW (List.range k) := by unfold allE; rw [decide_eq_true b1]; exact b2
  refine ⟨?_, e, b1⟩
  unfold scanE
  rw [e]
  unfold kvW
  rw [List.filter_map]
  congr 1
  apply List.filter_congr
  intro i hi
  have := List.mem_range.1 hi
  show inR (lettersD x) (lettersD y) (lettersD i, mkS [118]) = _
  unfold inR
  dsimp only
  rw [letters_blt (by omega) hx, letters_blt (by omega) hy, letters_size]
  by_cases q : x ≤ i
  · rw [decide_eq_true q, decide_eq_false (by omega)]; simp
  · rw [decide_eq_false q, decide_eq_true (by omega)]; rfl
section
variable {H : Hp} {Q : Post}
set_option maxRecDepth 100000 in
theorem law14_ScanRange_spec {a b c : Int} (hQ : ∀ H', Q (.g (.bool true)) H') : law14_ScanRange [.g (.int .i64 a), .g (.int .i64 b), .g (.int .i64 c)] H Q := by
  refine ⟨80, ?_⟩
  rw [law14_ScanRange_eq]
  refine law14_awake_spec fun H1 p1 => ?_
  simp only [rG_g, dB_bool]
  rw [bite_f (by decide)]
  obtain ⟨ka, hka, eka⟩ := and_le a (m := 63) (by omega) (j := 63) rfl
  obtain ⟨x, hx, ex⟩ := and_le b (m := 63) (by omega) (j := 63) rfl
  obtain ⟨y, hy, ey⟩ := and_le c (m := 63) (by omega) (j := 63) rfl
  have main : ∀ k : Nat, k ≤ 60 → law14_ScanRange.l6 79 b c (k : Int) H1 Q := by
    intro k hk
    rw [law14_ScanRange.l6_eq, ex, ey]
    obtain ⟨s1, s2, s3⟩ := kvW_scan (k := k) (x := x) (y := y) hk (by omega) (by omega)
    have loop : ∀ (F i : Nat) (H2 : Hp) (a1 : Pl) (n1 : Nat) (a2 : Pl) (n2 : Nat), k - i < F → i ≤ k → H1 <+: H2 → Own H2 H1.length tKV a1 (n1 * 2) (kvCells (kvW (List.range i))) → (kvW (List.range i)).length = n1 →
        Own H2 H1.length tKV a2 (n2 * 2) (kvCells (kvW ((List.range i).filter fun i => decide (x ≤ i) && decide (i < y)))) → (kvW ((List.range i).filter fun i => decide (x ≤ i) && decide (i < y))).length = n2 → Dj a1 a2 →
        law14_ScanRange.l9 F (k : Int) a1 n1 a2 n2 (x : Int) (y : Int) (i : Int) H2 Q := by
      intro F
      induction F with
      | zero => intro i _ _ _ _ _ h; omega
      | succ F ih =>
        intro i H2 a1 n1 a2 n2 hF hi p2 o1 l1 o2 l2 hd
        rw [law14_ScanRange.l9_eq]
        have hn1 : n1 = i := by rw [← l1]; simp [kvW]
        have hn2 : n2 ≤ i := by
          rw [← l2]
          show (List.map _ _).length ≤ i
          rw [List.length_map]
          exact Nat.le_trans (List.length_filter_le _ _) (by simp)
        by_cases hik : i < k
        · rw [bite_t (by simp; omega)]
          refine law14_letters_spec (k := i) (by omega) fun H3 p3 => ?_
          simp only [rG_g, dS_str]
          rw [chk_true]
          refine ap_kv' (p2.trans p3) (o1.mono p3) l1 _ _ (by omega) fun a1' H4 h4 o1' l1' e4 f4 => ?_
          have hd' : Dj a1' a2 := fun l q1 q2 => by have := (f4 l 0 q1).1; have := (o2.mono p3).lt' q2; omega
          have o2' := (o2.mono p3).after hd e4
          rw [wrap_succ (by omega)]
          have er : kvW (List.range i) ++ [(lettersD i, mkS [118])] = kvW (List.range (i + 1)) := by rw [List.range_succ, kvW_append]; rfl
          rw [er] at o1' l1'
          have ef : (List.range (i + 1)).filter (fun i => decide (x ≤ i) && decide (i < y)) = (List.range i).filter (fun i => decide (x ≤ i) && decide (i < y)) ++ (match decide (x ≤ i) && decide (i < y) with | true => [i] | false => []) := by
            rw [List.range_succ, List.filter_append]
            congr 1
          have no : (decide (x ≤ i) && decide (i < y)) = false → law14_ScanRange.l9 F (k : Int) a1' (n1 + 1) a2 n2 (x : Int) (y : Int) ((i + 1 : Nat) : Int) H4 Q := fun e => by
            rw [e, List.append_nil] at ef
            exact ih (i + 1) H4 a1' (n1 + 1) a2 n2 (by omega) (by omega) h4 o1' l1' (by rw [ef]; exact o2') (by rw [ef]; exact l2) hd'
          refine bite_of (fun e1 => ?_) (fun e1 => ?_)
          · refine bite_of (fun e2 => ?_) (fun e2 => ?_)
            · have e3 : (decide (x ≤ i) && decide (i < y)) = true := by simp at e1 e2; simp; omega
              rw [e3] at ef
              rw [chk_true]
              refine ap_kv' h4 o2' l2 _ _ (by omega) fun a2' H5 h5 o2'' l2' e5 f5 => ?_
              have er2 : kvW ((List.range i).filter fun i => decide (x ≤ i) && decide (i < y)) ++ [(lettersD i, mkS [118])] = kvW ((List.range (i + 1)).filter fun i => decide (x ≤ i) && decide (i < y)) := by rw [ef, kvW_append]; rfl
              rw [er2] at o2'' l2'
              exact ih (i + 1) H5 a1' (n1 + 1) a2' (n2 + 1) (by omega) (by omega) h5 (o1'.after hd'.symm e5) l1' o2'' l2' (fun l q1 q2 => by have := (f5 l 0 q2).1; have := o1'.lt' q1; omega)
            · exact no (by simp at e1 e2; simp; omega)
          · exact no (by simp at e1; simp; omega)
        · have hik' : i = k := by omega
          subst hik'
          rw [bite_f (by simp)]
          refine ref9_Build_spec (o1.kv l1) (by omega) fun H3 tp cs p3 oT => ?_
          simp only [rA_agg, uC_cons, dL_sl, uN_nil]
          refine law14_letters_spec (k := x) (by omega) fun H4 p4 => ?_
          simp only [rG_g, dS_str]
          refine law14_letters_spec (k := y) (by omega) fun H5 p5 => ?_
          simp only [rG_g, dS_str]
          refine scan_Range_spec (oT.tr.mono (p4.trans p5)) fun a3 m3 H6 p6 o3 l3 => ?_
          simp only [rT_tup, uR_cons, rS_s, dL_sl, dI_int, uE_nil]
          refine scan_All_spec (oT.tr.mono (p4.trans (p5.trans p6))) fun a4 m4 H7 p7 o4 l4 => ?_
          simp only [rT_tup, uR_cons, rS_s, dL_sl, dI_int, uE_nil]
          have eE : errE 1400 (buildD (kvW (List.range i))) = 0 := by unfold errE; rw [decide_eq_true s3]
          rw [s1] at o3 l3
          rw [s2] at o4 l4
          have p27 := p3.trans (p4.trans (p5.trans (p6.trans p7)))
          have hn3 : m3 ≤ i := by rw [← l3, l2]; exact hn2
          have hn4 : m4 = i := by rw [← l4, l1]; exact hn1
          rw [eE]
          refine law0_Num_spec ?_
          simp only [rG_g, dI_int]
          rw [bite_t (by decide)]
          refine law0_SamePairs_spec ((o3.kv l3).mono p7) ((o2.kv l2).mono p27) (by omega) fun b hb => ?_
          simp only [rG_g, dB_bool]
          rw [bite_t (hb.2 rfl)]
          refine law0_Num_spec ?_
          simp only [rG_g, dI_int]
          rw [bite_t (by decide)]
          refine law0_SamePairs_spec (o4.kv l4) ((o1.kv l1).mono p27) (by omega) fun b hb => ?_
          simp only [rG_g, dB_bool]
          rw [hb.2 rfl]
          exact hQ _
    exact loop 78 0 H1 none 0 none 0 (by omega) (by omega) (List.prefix_refl _) (.inl ⟨rfl, rfl, rfl⟩) rfl (.inl ⟨rfl, rfl, rfl⟩) rfl (fun l e => by cases e)
  rw [eka]
  refine bite_of (fun e => main 60 (by omega)) (fun e => main ka (by simp at e; omega))

/-! every entry is found -/
theorem findK_long {ps : KV} (h : KVok ps) {key : ByteArray} (hs : 6 < key.size) : findK ps key = none := findK_none fun x hx e => by
  have := (h x hx).1.2
  rw [e] at this; omega
theorem allE_ok (T : List Pg) : KVok (allE T) := by
  rcases err_cases T 0 with ⟨_, _, e⟩ | ⟨e0, _, e⟩
  · rw [e]; exact fun x hx => by simp at hx
  · rw [e]; obtain ⟨st, s⟩ := SF.of e0; exact s.ents.2.1
set_option maxRecDepth 100000 in
theorem law11_FindAll_spec {z : Pl} {n : Nat} {cs : List PC} {T : List Pg} {key : ByteArray} (hT : Tr H z n cs T) (_ : n * 80 ≤ 140737488351232) (hQ : ∀ H', Q (.g (.bool true)) H') : law11_FindAll [.agg [.sl z n 5], .g (.str key)] H Q := by
  refine ⟨70, ?_⟩
  rw [law11_FindAll_eq]
  refine law11_awake_spec fun H1 p1 => ?_
  simp only [rG_g, dB_bool]
  rw [bite_f (by decide)]
  refine ref9_All_spec (hT.mono p1) fun a m H2 p2 o2 l2 => ?_
  simp only [rT_tup, uR_cons, rS_s, dL_sl, dI_int, uE_nil]
  have hl := allE_len T
  have hT2 := hT.mono (p1.trans p2)
  rcases err_cases T 1400 with ⟨e0, e1, e2⟩ | ⟨e0, e1, e2⟩
  · have e3 : errE 1100 T = 1100 := by unfold errE; rw [decide_eq_false (by omega)]
    rw [e1, bite_t (by decide)]
    refine find_Find_spec hT2 fun H3 p3 => ?_
    simp only [rT_tup, uR_cons, rS_s, dS_str, dB_bool, dI_int, uE_nil]
    refine law0_Num_spec ?_
    simp only [rG_g, dI_int]
    rw [e3]
    exact hQ _
  have e3 : errE 1100 T = 0 := by unfold errE; rw [decide_eq_true e0]
  rw [e1, bite_f (by decide)]
  have loop : ∀ (F i : Nat) (H3 : Hp), m - i < F → i ≤ m → H2 <+: H3 → law11_FindAll.l9 F key z n a m (((allE T).take i).any fun x => decide (x.1 = key)) (i : Int) H3 Q := by
    intro F
    induction F with
    | zero => intro i _ h; omega
    | succ F ih =>
      intro i H3 hF hi p3
      rw [law11_FindAll.l9_eq]
      by_cases hik : i < m
      · obtain ⟨l, o, rfl, q1, q2⟩ := ((o2.kv l2).mono p3).get (i := i) (by omega)
        have etN : tN (i : Int) = i := rfl
        have hidx : (leI 0 (i : Int) && ltI (i : Int) (nI m)) = true := by simp; omega
        have hmem : (allE T)[i]'(by omega) ∈ allE T := List.getElem_mem _
        have hok := allE_ok T _ hmem
        have hfind := findK_mem (allE_asc T) hmem
        have htake : (allE T).take (i + 1) = (allE T).take i ++ [(allE T)[i]'(by omega)] := List.take_succ_eq_append_getElem (by omega)
        generalize hxi : (allE T)[i]'(by omega) = kv at *
        obtain ⟨k, v⟩ := kv
        dsimp only at q1 q2 hok hfind
        rw [bite_t (by simp; omega), chk_true]
        refine chk_of hidx ?_
        rw [pS_some, etN, Nat.add_zero, rd_of q1, dS_str]
        refine find_Find_spec (hT2.mono p3) fun H4 p4 => ?_
        simp only [rT_tup, uR_cons, rS_s, dS_str, dB_bool, dI_int, uE_nil]
        have hf1 : findE T k = some v := hfind
        rw [chk_true]
        refine chk_of hidx ?_
        rw [pS_some, Nat.add_zero, rd_of (gt_pre p4 q1), dS_str]
        refine ⟨by show k.size + 2 ≤ _; omega, ?_⟩
        refine find_Find_spec (hT2.mono (p3.trans p4)) fun H5 p5 => ?_
        simp only [rT_tup, uR_cons, rS_s, dS_str, dB_bool, dI_int, uE_nil]
        rw [hf1, e3]
        simp only [Option.isSome_some, Option.getD_some]
        have g1 := gt_pre (p4.trans p5) q1
        have g2 := gt_pre (p4.trans p5) q2
        refine law0_Num_spec ?_
        simp only [rG_g, dI_int]
        rw [bite_f (by decide), bite_f (by decide), chk_true]
        refine chk_of hidx ?_
        rw [pS_some, rd_of g2, dS_str, bite_f (by simp)]
        refine law0_Num_spec ?_
        simp only [rG_g, dI_int]
        rw [bite_f (by decide), wrap_succ (by omega)]
        have go : bite (((allE T).take i).any fun x => decide (x.1 = key)) (law11_FindAll.l9 F key z n (some (l, o)) m true ((i + 1 : Nat) : Int) H5 Q)
            (chk true (chk (leI 0 (i : Int) && ltI (i : Int) (nI m)) (pS (some (l, o)) fun n55 n56 => rd H5 n55 (n56 + i * 2 + 0) fun v57 => dS v57 fun s58 => law11_FindAll.l9 F key z n (some (l, o)) m (strEq s58 key) ((i + 1 : Nat) : Int) H5 Q))) := by
          have := ih (i + 1) H5 (by omega) (by omega) (p3.trans (p4.trans p5))
          rw [htake, List.any_append] at this
          refine bite_of (fun e => ?_) (fun e => ?_)
          · rw [e, Bool.true_or] at this; exact this
          · rw [e, Bool.false_or] at this
            rw [chk_true]
            refine chk_of hidx ?_
            rw [pS_some, Nat.add_zero, rd_of g1, dS_str, strEq_def]
            simpa using this
        refine bite_of (fun e => ?_) (fun e => ?_)
        · rw [chk_true]
          refine chk_of hidx ?_
          rw [pS_some, Nat.add_zero, rd_of g1, dS_str]
          rw [bite_f (by
            by_cases q : 4 < k.size
            · have : findE T (k ++ mkS [0, 0]) = none := findK_long (allE_ok T) (by rw [ByteArray.size_append]; show 6 < k.size + 2; omega)
              rw [this] at e; cases e
            · simp; omega)]
          exact go
        · exact go
      · have him : i = m := by omega
        subst him
        rw [bite_f (by simp)]
        refine find_Find_spec (hT2.mono p3) fun H4 p4 => ?_
        simp only [rT_tup, uR_cons, rS_s, dS_str, dB_bool, dI_int, uE_nil]
        refine law0_Num_spec ?_
        simp only [rG_g, dI_int]
        rw [e3, bite_t (by decide)]
        have : (findE T key).isSome = ((allE T).take i).any fun x => decide (x.1 = key) := by
          rw [List.take_of_length_le (by omega)]; exact findK_is
        rw [this]
        simp only [eqB_def, beq_self_eq_true]
        exact hQ _
  exact loop 69 0 H2 (by omega) (by omega) (List.prefix_refl _)

/-! every second one -/
def kvF (n : Nat) : KV := (List.range n).map fun i => (lettersD (2 * i), lettersD i)
theorem kvF_succ (n : Nat) : kvF (n + 1) = kvF n ++ [(lettersD (2 * n), lettersD n)] := by simp [kvF, List.range_succ]
theorem kvF_asc {k : Nat} (hk : k ≤ 60) : Asc (kvF k) := by
  unfold Asc kvF
  rw [List.pairwise_map]
  refine (List.pairwise_lt_range (n := k)).imp_of_mem fun {a b} ha hb h => ?_
  have := List.mem_range.1 ha
  have := List.mem_range.1 hb
  show blt (lettersD (2 * a)) (lettersD (2 * b)) = true
  rw [letters_blt (by omega) (by omega), decide_eq_true (by omega)]
theorem kvF_ok (n : Nat) : KVok (kvF n) := fun x hx => by
  obtain ⟨i, _, rfl⟩ := List.mem_map.1 hx
  exact ⟨⟨by show 1 ≤ (lettersD (2 * i)).size; rw [letters_size]; omega, by show (lettersD (2 * i)).size ≤ 6; rw [letters_size]; omega⟩, by show (lettersD i).size ≤ 10; rw [letters_size]; omega⟩
theorem kvF_find {k j : Nat} (hk : k ≤ 60) (hj : j < 128) : (∀ i, j = 2 * i → i < k → findK (kvF k) (lettersD j) = some (lettersD i)) ∧ ((∀ i, j = 2 * i → ¬ i < k) → findK (kvF k) (lettersD j) = none) := by
  refine ⟨fun i hi hik => ?_, fun h => ?_⟩
  · subst hi
    exact findK_mem (x := (lettersD (2 * i), lettersD i)) (kvF_asc hk) (List.mem_map.2 ⟨i, List.mem_range.2 hik, rfl⟩)
  · refine findK_none fun x hx e => ?_
    obtain ⟨i, hi, rfl⟩ := List.mem_map.1 hx
    have hi := List.mem_range.1 hi
    exact h i (letters_inj (by omega) hj e).symm hi
set_option maxRecDepth 100000 in
theorem law11_FindRow_spec {a b : Int} (hQ : ∀ H', Q (.g (.bool true)) H') : law11_FindRow [.g (.int .i64 a), .g (.int .i64 b)] H Q := by
  refine ⟨80, ?_⟩
  rw [law11_FindRow_eq]
  refine law11_awake_spec fun H1 p1 => ?_
  simp only [rG_g, dB_bool]
  rw [bite_f (by decide)]
  obtain ⟨ka, hka, eka⟩ := and_le a (m := 63) (by omega) (j := 63) rfl
  obtain ⟨j, hj, ej⟩ := and_le b (m := 127) (by omega) (j := 127) rfl
  have main : ∀ k : Nat, k ≤ 60 → law11_FindRow.l6 79 b (k : Int) H1 Q := by
    intro k hk
    rw [law11_FindRow.l6_eq]
    obtain ⟨b1, b2⟩ := build_sound (kvF_asc hk) (kvF_ok k) (by simp [kvF]; omega)
    have eA : allE (buildD (kvF k)) = kvF k := by unfold allE; rw [decide_eq_true b1]; exact b2
    have eE : errE 1100 (buildD (kvF k)) = 0 := by unfold errE; rw [decide_eq_true b1]
    have fN : findE (buildD (kvF k)) (mkS []) = none := by
      unfold findE
      rw [eA]
      refine findK_none fun x hx e => ?_
      have := (kvF_ok k x hx).1.1
      rw [e] at this
      exact absurd this (by decide)
    obtain ⟨fy, fn⟩ := kvF_find (k := k) (j := j) hk (by omega)
    have loop : ∀ (F i : Nat) (H2 : Hp) (a1 : Pl) (n1 : Nat), k - i < F → i ≤ k → H1 <+: H2 → Own H2 H1.length tKV a1 (n1 * 2) (kvCells (kvF i)) → (kvF i).length = n1 → law11_FindRow.l8 F b (k : Int) a1 n1 (i : Int) H2 Q := by
      intro F
      induction F with
      | zero => intro i _ _ _ h; omega
      | succ F ih =>
        intro i H2 a1 n1 hF hi p2 o1 l1
        rw [law11_FindRow.l8_eq]
        have hn1 : n1 = i := by rw [← l1]; simp [kvF]
        by_cases hik : i < k
        · have w2 : wrapI .i64 (2 * (i : Int)) = ((2 * i : Nat) : Int) := by rw [wrap64 (by omega) (by omega)]; omega
          rw [bite_t (by simp; omega), w2]
          refine law11_letters_spec (k := 2 * i) (by omega) fun H3 p3 => ?_
          simp only [rG_g, dS_str]
          refine law11_letters_spec (k := i) (by omega) fun H4 p4 => ?_
          simp only [rG_g, dS_str]
          rw [chk_true]
          refine ap_kv' (p2.trans (p3.trans p4)) (o1.mono (p3.trans p4)) l1 _ _ (by omega) fun a1' H5 h5 o1' l1' _ _ => ?_
          rw [wrap_succ (by omega)]
          rw [← kvF_succ] at o1' l1'
          exact ih (i + 1) H5 a1' (n1 + 1) (by omega) (by omega) h5 o1' l1'
        · have hik' : i = k := by omega
          subst hik'
          rw [bite_f (by simp), ej]
          refine ref9_Build_spec (o1.kv l1) (by omega) fun H3 tp cs p3 oT => ?_
          simp only [rA_agg, uC_cons, dL_sl, uN_nil]
          refine law11_letters_spec (k := j) (by omega) fun H4 p4 => ?_
          simp only [rG_g, dS_str]
          refine find_Find_spec (oT.tr.mono p4) fun H5 p5 => ?_
          simp only [rT_tup, uR_cons, rS_s, dS_str, dB_bool, dI_int, uE_nil]
          have fj : findE (buildD (kvF i)) (lettersD j) = findK (kvF i) (lettersD j) := by unfold findE; rw [eA]
          have tm : Int.tmod (j : Int) 2 = ((j % 2 : Nat) : Int) := rfl
          have td : Int.tdiv (j : Int) 2 = ((j / 2 : Nat) : Int) := rfl
          have wd : wrapI .i64 ((j / 2 : Nat) : Int) = ((j / 2 : Nat) : Int) := wrap64 (by omega) (by omega)
          rw [fj, eE, tm, td, wd]
          refine bite_of (fun e => ?_) (fun e => ?_)
          · have hj2 : j % 2 = 0 := by simp at e; omega
            refine find_Find_spec (oT.tr.mono (p4.trans p5)) fun H6 p6 => ?_
            simp only [rT_tup, uR_cons, rS_s, dS_str, dB_bool, dI_int, uE_nil]
            rw [fN, eE]
            simp only [Option.isSome_none, Option.getD_none]
            refine law0_Num_spec ?_
            simp only [rG_g, dI_int]
            rw [bite_t (by decide)]
            by_cases q : j / 2 < i
            · rw [fy (j / 2) (by omega) q]
              simp only [Option.isSome_some, Option.getD_some]
              rw [bite_t (by simp; omega), bite_f (by decide)]
              refine law11_letters_spec (k := j / 2) (by omega) fun H7 p7 => ?_
              simp only [rG_g, dS_str]
              rw [bite_t (by simp)]
              simp only [bite_true, Bool.not_false]
              refine law0_Num_spec ?_
              simp only [rG_g, dI_int]
              exact hQ _
            · rw [fn (fun i' h1 h2 => q (by omega))]
              simp only [Option.isSome_none, Option.getD_none]
              rw [bite_t (by simp; omega), bite_t (by decide), bite_f rfl, bite_t (by simp), bite_t (by decide)]
              refine law0_Num_spec ?_
              simp only [rG_g, dI_int]
              exact hQ _
          · have hj2 : j % 2 ≠ 0 := by simp at e; omega
            refine find_Find_spec (oT.tr.mono (p4.trans p5)) fun H6 p6 => ?_
            simp only [rT_tup, uR_cons, rS_s, dS_str, dB_bool, dI_int, uE_nil]
            rw [fN, eE, fn (fun i' h1 h2 => by omega)]
            simp only [Option.isSome_none, Option.getD_none]
            refine law0_Num_spec ?_
            simp only [rG_g, dI_int]
            rw [bite_t (by decide), bite_t (by decide), bite_t (by decide), bite_f rfl, bite_t (by simp), bite_t (by decide)]
            refine law0_Num_spec ?_
            simp only [rG_g, dI_int]
            exact hQ _
    exact loop 78 0 H1 none 0 (by omega) (by omega) (List.prefix_refl _) (.inl ⟨rfl, rfl, rfl⟩) rfl
  rw [eka]
  refine bite_of (fun e => main 60 (by omega)) (fun e => main ka (by simp at e; omega))
end
end Go.Am
namespace Go.Am

/-! an entry put among entries -/
def insK : KV → ByteArray → ByteArray → KV
  | [], k, v => [(k, v)]
  | x :: ps, k, v => match decide (x.1 = k) with
    | true => (k, v) :: ps
    | false => match blt x.1 k with
      | true => x :: insK ps k v
      | false => (k, v) :: x :: ps
theorem not_blt {a b : ByteArray} (h : blt a b = false) (hne : a ≠ b) : blt b a = true := by
  rcases blt_tri a b with z | z | z
  · rw [z.1] at h; cases h
  · exact (hne z.1).elim
  · exact z.1
/-- entries cut at a key -/
theorem insK_split : ∀ {ps : KV} (k v : ByteArray), Asc ps → ∃ L M R, ps = L ++ M ++ R ∧ insK ps k v = L ++ (k, v) :: R ∧ (M = [] ∨ ∃ v0, M = [(k, v0)]) ∧ (∀ x ∈ L, blt x.1 k = true) ∧ (∀ x ∈ R, blt k x.1 = true)
  | [], k, v, _ => ⟨[], [], [], rfl, rfl, .inl rfl, fun x h => by simp at h, fun x h => by simp at h⟩
  | x :: ps, k, v, h => by
    obtain ⟨h1, h2⟩ := List.pairwise_cons.1 h
    unfold insK
    by_cases e : x.1 = k
    · rw [decide_eq_true e]
      obtain ⟨a, b⟩ := x
      dsimp only at e h1
      subst e
      exact ⟨[], [(a, b)], ps, rfl, rfl, .inr ⟨b, rfl⟩, fun x h => by simp at h, h1⟩
    · rw [decide_eq_false e]
      dsimp only
      cases hb : blt x.1 k with
      | true =>
        obtain ⟨L, M, R, q1, q2, q3, q4, q5⟩ := insK_split k v h2
        dsimp only
        refine ⟨x :: L, M, R, by rw [q1]; rfl, by rw [q2]; rfl, q3, fun y hy => ?_, q5⟩
        rcases List.mem_cons.1 hy with q | q
        · rw [q]; exact hb
        · exact q4 y q
      | false =>
        have hk := not_blt hb e
        refine ⟨[], [], x :: ps, rfl, rfl, .inl rfl, fun y h => by simp at h, fun y hy => ?_⟩
        rcases List.mem_cons.1 hy with q | q
        · rw [q]; exact hk
        · exact blt_trans hk (h1 y q)
theorem insK_left {l r : KV} {k v : ByteArray} (h : ∀ x ∈ l, blt x.1 k = true) : insK (l ++ r) k v = l ++ insK r k v := by
  induction l with
  | nil => rfl
  | cons x l ih =>
    have hx := h x (by simp)
    rw [List.cons_append]
    show (match decide (x.1 = k) with | true => (k, v) :: (l ++ r) | false => match blt x.1 k with | true => x :: insK (l ++ r) k v | false => (k, v) :: x :: (l ++ r)) = _
    rw [decide_eq_false (blt_ne hx), hx]
    dsimp only
    rw [ih fun y hy => h y (by simp [hy])]; rfl
theorem insK_mid {l r : KV} {k v v0 : ByteArray} (h : ∀ x ∈ l, blt x.1 k = true) : insK (l ++ (k, v0) :: r) k v = l ++ (k, v) :: r := by
  rw [insK_left h]
  show l ++ (match decide (k = k) with | true => (k, v) :: r | false => _) = _
  rw [decide_eq_true rfl]
theorem insK_new {l r : KV} {k v : ByteArray} (h : ∀ x ∈ l, blt x.1 k = true) (hr : ∀ x ∈ r, blt k x.1 = true) : insK (l ++ r) k v = l ++ (k, v) :: r := by
  rw [insK_left h]
  congr 1
  cases r with
  | nil => rfl
  | cons x r =>
    have hx := hr x (by simp)
    show (match decide (x.1 = k) with | true => (k, v) :: r | false => match blt x.1 k with | true => x :: insK r k v | false => (k, v) :: x :: r) = _
    rw [decide_eq_false (Ne.symm (blt_ne hx)), blt_asy hx]
theorem insK_asc {ps : KV} (h : Asc ps) (k v : ByteArray) : Asc (insK ps k v) := by
  obtain ⟨L, M, R, q1, q2, q3, q4, q5⟩ := insK_split k v h
  rw [q2]
  rw [q1] at h
  obtain ⟨a1, a2, a3⟩ := List.pairwise_append.1 h
  obtain ⟨b1, b2, b3⟩ := List.pairwise_append.1 a1
  refine List.pairwise_append.2 ⟨b1, List.pairwise_cons.2 ⟨fun x hx => q5 x hx, a2⟩, fun x hx y hy => ?_⟩
  rcases List.mem_cons.1 hy with e | e
  · rw [e]; exact q4 x hx
  · exact a3 x (List.mem_append.2 (.inl hx)) y e
theorem insK_mem {ps : KV} {k v : ByteArray} {x : ByteArray × ByteArray} : x ∈ insK ps k v → x = (k, v) ∨ x ∈ ps := by
  induction ps with
  | nil => intro h; simp [insK] at h; exact .inl h
  | cons y ps ih =>
    unfold insK
    by_cases e : y.1 = k
    · rw [decide_eq_true e]
      intro h
      rcases List.mem_cons.1 h with q | q
      · exact .inl q
      · exact .inr (by simp [q])
    · rw [decide_eq_false e]
      dsimp only
      cases blt y.1 k with
      | true =>
        intro h
        rcases List.mem_cons.1 h with q | q
        · exact .inr (by simp [q])
        · rcases ih q with z | z
          · exact .inl z
          · exact .inr (by simp [z])
      | false =>
        intro h
        rcases List.mem_cons.1 h with q | q
        · exact .inl q
        · exact .inr q
theorem insK_ok {ps : KV} (h : KVok ps) {k v : ByteArray} (h1 : 1 ≤ k.size) (h2 : k.size ≤ 6) (h3 : v.size ≤ 10) : KVok (insK ps k v) := fun x hx => by
  rcases insK_mem hx with e | e
  · rw [e]; exact ⟨⟨h1, h2⟩, h3⟩
  · exact h x e
theorem insK_find {ps : KV} (h : Asc ps) (k v k' : ByteArray) : findK (insK ps k v) k' = match decide (k = k') with | true => some v | false => findK ps k' := by
  obtain ⟨L, M, R, q1, q2, q3, q4, q5⟩ := insK_split k v h
  rw [q2]
  by_cases e : k = k'
  · subst e
    rw [decide_eq_true rfl, findK_right fun x hx => blt_ne (q4 x hx), findK_cons, decide_eq_true rfl]
  · rw [decide_eq_false e, q1]
    dsimp only
    rw [findK_append, findK_cons, decide_eq_false e, List.append_assoc, findK_append]
    dsimp only
    cases findK L k' with
    | some w => rfl
    | none =>
      dsimp only
      rcases q3 with rfl | ⟨v0, rfl⟩
      · rfl
      · rw [List.singleton_append, findK_cons, decide_eq_false e]
theorem insK_len {ps : KV} (h : Asc ps) (k v : ByteArray) : (insK ps k v).length = ps.length + (match (findK ps k).isNone with | true => 1 | false => 0) := by
  obtain ⟨L, M, R, q1, q2, q3, q4, q5⟩ := insK_split k v h
  rw [q2, q1, List.append_assoc, findK_right fun x hx => blt_ne (q4 x hx)]
  rcases q3 with rfl | ⟨v0, rfl⟩
  · rw [List.nil_append, findK_none fun x hx => Ne.symm (blt_ne (q5 x hx))]
    simp; omega
  · rw [List.singleton_append, findK_cons, decide_eq_true rfl]
    simp

/-! a value of a tree turned -/
theorem slotB_of_mem {ks : List ByteArray} {key : ByteArray} (pw : Pw ks) (h : key ∈ ks) : slotB ks key = true := by
  induction ks with
  | nil => simp at h
  | cons s ks ih =>
    obtain ⟨h1, h2⟩ := List.pairwise_cons.1 pw
    rcases List.mem_cons.1 h with e | e
    · subst e
      rw [(slot_ge pw (blt_irr _)).2, decide_eq_true rfl]
    · rw [(slot_lt (h1 key e)).2]
      exact ih h2 e
theorem slot_at {ks : List ByteArray} {key : ByteArray} (h : slotB ks key = true) : ∃ hs : slotN ks key < ks.length, ks[slotN ks key] = key := by
  unfold slotB at h
  exact List.getElem?_eq_some_iff.1 (of_decide_eq_true h)
theorem zip_set {ks vs : List ByteArray} {s : Nat} (hs : s < ks.length) (hl : vs.length = ks.length) (v : ByteArray) : ks.zip (vs.set s v) = (ks.zip vs).take s ++ (ks[s], v) :: (ks.zip vs).drop (s + 1) := by
  have e : ks.zip (vs.set s v) = (ks.zip vs).set s (ks[s], v) := by
    apply List.ext_getElem
    · simp
    · intro i h1 h2
      rw [List.getElem_zip, List.getElem_set, List.getElem_set]
      by_cases q : s = i
      · subst q; rw [if_pos rfl, if_pos rfl]
      · rw [if_neg q, if_neg q, List.getElem_zip]
  rw [e, List.set_eq_take_append_cons_drop, if_pos (by rw [List.length_zip]; omega)]
theorem zip_cut {ks vs : List ByteArray} {s : Nat} (hs : s < ks.length) (hl : vs.length = ks.length) : ks.zip vs = (ks.zip vs).take s ++ (ks[s], vs[s]'(by omega)) :: (ks.zip vs).drop (s + 1) := by
  have hz : s < (ks.zip vs).length := by rw [List.length_zip]; omega
  have e : (ks.zip vs)[s] = (ks[s], vs[s]'(by omega)) := List.getElem_zip
  rw [← e, ← List.drop_eq_getElem_cons hz, List.take_append_drop]
def setP (p : Pg) (key v : ByteArray) : Pg := { p with vals := p.vals.set (slotN p.keys key) v }
theorem setP_may {p : Pg} {key v : ByteArray} (h : MayP p) (hv : v.size ≤ 10) : MayP (setP p key v) := by
  refine ⟨h.1, ⟨h.2.used, h.2.rising, h.2.keys, fun hl => ?_, fun hl => ?_⟩⟩
  · obtain ⟨q1, q2, q3⟩ := h.2.leaf hl
    refine ⟨by show (p.vals.set _ v).length = _; rw [List.length_set]; exact q1, q2, fun w hw => ?_⟩
    rcases List.mem_or_eq_of_mem_set hw with z | z
    · exact q3 w z
    · rw [z]; exact hv
  · obtain ⟨q1, q2, q3⟩ := h.2.inner hl
    exact ⟨q1, by show p.vals.set _ v = []; rw [q2]; rfl, q3⟩
theorem Sub.setVal {T : List Pg} {key v : ByteArray} {i : Nat} {p : Pg} (hi : T[i]? = some p) (hl : p.leaf = true) (hs : slotB p.keys key = true) (hv : v.size ≤ 10) :
    ∀ {d a : Nat} {P : List Nat} {ps : KV}, Sub T d a P ps → P.Nodup → i ∈ P → ∃ L v0 R, ps = L ++ (key, v0) :: R ∧ Sub (T.set i (setP p key v)) d a P (L ++ (key, v) :: R)
  | 0, _, _, _, h, _, _ => h.elim
  | d + 1, a, P, ps, h, hnd, hiP => by
    have hlt := (List.getElem?_eq_some_iff.1 hi).1
    obtain ⟨q, hq, hm, ⟨e0, hql, e1, e2⟩ | ⟨hql, P', e1, hk⟩⟩ := h
    · subst e1
      obtain rfl : i = a := List.mem_singleton.1 hiP
      rw [hi] at hq
      obtain rfl := Option.some.inj hq
      obtain ⟨v1, _, _⟩ := hm.2.leaf hl
      obtain ⟨hsl, hse⟩ := slot_at hs
      have c1 := zip_cut hsl v1
      have c2 := zip_set hsl v1 v
      rw [hse] at c1 c2
      exact ⟨_, _, _, e2.trans c1, setP p key v, List.getElem?_set_self hlt, setP_may hm hv, .inl ⟨e0, hl, rfl, c2.symm⟩⟩
    · subst e1
      rw [List.nodup_cons] at hnd
      have hia : i ≠ a := fun e => by subst e; rw [hi] at hq; obtain rfl := Option.some.inj hq; rw [hl] at hql; cases hql
      have hiP' : i ∈ P' := by rcases List.mem_cons.1 hiP with e | e; exact (hia e).elim; exact e
      have big : ∀ {k : Nat}, (∃ q, T[k]? = some q ∧ 2 ≤ q.keys.length) → ∃ q, (T.set i (setP p key v))[k]? = some q ∧ 2 ≤ q.keys.length := fun {k} ⟨q, h1, h2⟩ => by
        by_cases e : i = k
        · subst e
          rw [hi] at h1
          obtain rfl := Option.some.inj h1
          exact ⟨_, List.getElem?_set_self hlt, h2⟩
        · exact ⟨q, by rw [List.getElem?_set_ne e]; exact h1, h2⟩
      have kids : ∀ {ks : List Int} {ss : List ByteArray} {P : List Nat} {ps : KV}, KidsR (SubB T d) ks ss P ps → P.Nodup → i ∈ P → ∃ L v0 R, ps = L ++ (key, v0) :: R ∧ KidsR (SubB (T.set i (setP p key v)) d) ks ss P (L ++ (key, v) :: R) := by
        intro ks
        induction ks with
        | nil => intro _ _ _ h; exact h.elim
        | cons k ks ih =>
          intro ss P ps h hnd hiP
          cases ss with
          | nil =>
            obtain ⟨L, v0, R, q1, q2⟩ := Sub.setVal hi hl hs hv h.2.1 hnd hiP
            exact ⟨L, v0, R, q1, h.1, q2, big h.2.2⟩
          | cons s ss =>
            obtain ⟨P1, ps1, P2, ps2, h1, h2, e1, e2, h3, h4⟩ := h
            subst e1; subst e2
            obtain ⟨d1, d2, d3⟩ := List.nodup_append.1 hnd
            have swap : ∀ {L R : KV} {v0 : ByteArray} {x}, x ∈ L ++ (key, v) :: R → ∃ y ∈ L ++ (key, v0) :: R, y.1 = x.1 := fun {L R v0 x} hx => by
              rcases List.mem_append.1 hx with z | z
              · exact ⟨x, List.mem_append.2 (.inl z), rfl⟩
              · rcases List.mem_cons.1 z with z | z
                · exact ⟨(key, v0), by simp, by rw [z]⟩
                · exact ⟨x, by simp [z], rfl⟩
            rcases List.mem_append.1 hiP with z | z
            · obtain ⟨L, v0, R, q1, q2⟩ := Sub.setVal hi hl hs hv h1.1 d1 z
              subst q1
              refine ⟨L, v0, R ++ ps2, by simp, P1, _, P2, ps2, ⟨q2, big h1.2⟩, h2.imp fun k Q qs hs' hin => hs'.keep fun j hj => List.getElem?_set_ne fun e => d3 i z j (hin j hj) e, rfl, by simp, fun x hx => ?_, h4⟩
              obtain ⟨y, hy, e⟩ := swap (v0 := v0) hx
              rw [← e]; exact h3 y hy
            · obtain ⟨L, v0, R, q1, q2⟩ := ih h2 d2 z
              subst q1
              refine ⟨ps1 ++ L, v0, R, by simp, P1, ps1, P2, _, h1.keep fun j hj => List.getElem?_set_ne fun e => d3 j hj i z e.symm, q2, rfl, by simp, h3, fun x hx => ?_⟩
              obtain ⟨y, hy, e⟩ := swap (v0 := v0) hx
              rw [← e]; exact h4 y hy
      obtain ⟨L, v0, R, q1, q2⟩ := kids hk hnd.2 hiP'
      exact ⟨L, v0, R, q1, q, by rw [List.getElem?_set_ne hia]; exact hq, hm, .inr ⟨hql, P', rfl, q2⟩⟩
/-- the leaf of an entry -/
theorem Sub.leafOf {T : List Pg} {x : ByteArray × ByteArray} : ∀ {d a : Nat} {P : List Nat} {ps : KV}, Sub T d a P ps → x ∈ ps → ∃ i p, i ∈ P ∧ T[i]? = some p ∧ p.leaf = true ∧ MayP p ∧ x ∈ p.keys.zip p.vals
  | 0, _, _, _, h, _ => h.elim
  | d + 1, a, P, ps, h, hx => by
    obtain ⟨q, hq, hm, ⟨e0, hql, e1, e2⟩ | ⟨hql, P', e1, hk⟩⟩ := h
    · subst e2; exact ⟨a, q, by rw [e1]; simp, hq, hql, hm, hx⟩
    · subst e1
      have kids : ∀ {ks : List Int} {ss : List ByteArray} {P : List Nat} {ps : KV}, KidsR (SubB T d) ks ss P ps → x ∈ ps → ∃ i p, i ∈ P ∧ T[i]? = some p ∧ p.leaf = true ∧ MayP p ∧ x ∈ p.keys.zip p.vals := by
        intro ks
        induction ks with
        | nil => intro _ _ _ h; exact h.elim
        | cons k ks ih =>
          intro ss P ps h hx
          cases ss with
          | nil => exact Sub.leafOf h.2.1 hx
          | cons s ss =>
            obtain ⟨P1, ps1, P2, ps2, h1, h2, e1, e2, h3, h4⟩ := h
            subst e1; subst e2
            rcases List.mem_append.1 hx with z | z
            · obtain ⟨i, p, q1, q2⟩ := Sub.leafOf h1.1 z
              exact ⟨i, p, List.mem_append.2 (.inl q1), q2⟩
            · obtain ⟨i, p, q1, q2⟩ := ih h2 z
              exact ⟨i, p, List.mem_append.2 (.inr q1), q2⟩
      obtain ⟨i, p, q1, q2⟩ := kids hk hx
      exact ⟨i, p, by simp [q1], q2⟩
/-- one leaf alone holds a key -/
theorem Sub.leafOne {T : List Pg} {key : ByteArray} {i j : Nat} {p q : Pg} (hi : T[i]? = some p) (hpl : p.leaf = true) (hp : key ∈ p.keys) (hj : T[j]? = some q) (hql : q.leaf = true) (hq : key ∈ q.keys) :
    ∀ {d a : Nat} {P : List Nat} {ps : KV}, Sub T d a P ps → i ∈ P → j ∈ P → i = j := by
  have ent : ∀ {i : Nat} {p : Pg}, T[i]? = some p → p.leaf = true → key ∈ p.keys → ∀ {d a : Nat} {P : List Nat} {ps : KV}, Sub T d a P ps → i ∈ P → ∃ v, (key, v) ∈ ps := by
    intro i p hi hpl hp d
    induction d with
    | zero => intro a P ps h; exact h.elim
    | succ d ihd =>
      intro a P ps h hiP
      obtain ⟨r, hr, hm, ⟨e0, hrl, e1, e2⟩ | ⟨hrl, P', e1, hk⟩⟩ := h
      · subst e1
        obtain rfl := List.mem_singleton.1 hiP
        rw [hi] at hr
        obtain rfl := Option.some.inj hr
        obtain ⟨s, hs, e⟩ := List.getElem_of_mem hp
        have v1 := (hm.2.leaf hpl).1
        refine ⟨p.vals[s]'(by omega), ?_⟩
        rw [e2, ← e]
        have : (p.keys.zip p.vals)[s]'(by rw [List.length_zip]; omega) = (p.keys[s], p.vals[s]'(by omega)) := List.getElem_zip
        rw [← this]; exact List.getElem_mem _
      · subst e1
        have hia : i ≠ a := fun e => by subst e; rw [hi] at hr; obtain rfl := Option.some.inj hr; rw [hpl] at hrl; cases hrl
        have hiP' : i ∈ P' := by rcases List.mem_cons.1 hiP with e | e; exact (hia e).elim; exact e
        have kids : ∀ {ks : List Int} {ss : List ByteArray} {P : List Nat} {ps : KV}, KidsR (SubB T d) ks ss P ps → i ∈ P → ∃ v, (key, v) ∈ ps := by
          intro ks
          induction ks with
          | nil => intro _ _ _ h; exact h.elim
          | cons k ks ih =>
            intro ss P ps h hiP
            cases ss with
            | nil => exact ihd h.2.1 hiP
            | cons s ss =>
              obtain ⟨P1, ps1, P2, ps2, h1, h2, e1, e2, h3, h4⟩ := h
              subst e1; subst e2
              rcases List.mem_append.1 hiP with z | z
              · obtain ⟨v, hv⟩ := ihd h1.1 z; exact ⟨v, by simp [hv]⟩
              · obtain ⟨v, hv⟩ := ih h2 z; exact ⟨v, by simp [hv]⟩
        exact kids hk hiP'
  intro d
  induction d with
  | zero => intro a P ps h; exact h.elim
  | succ d ihd =>
    intro a P ps h hiP hjP
    obtain ⟨r, hr, hm, ⟨e0, hrl, e1, e2⟩ | ⟨hrl, P', e1, hk⟩⟩ := h
    · subst e1
      rw [List.mem_singleton.1 hiP, List.mem_singleton.1 hjP]
    · subst e1
      have hia : i ≠ a := fun e => by subst e; rw [hi] at hr; obtain rfl := Option.some.inj hr; rw [hpl] at hrl; cases hrl
      have hja : j ≠ a := fun e => by subst e; rw [hj] at hr; obtain rfl := Option.some.inj hr; rw [hql] at hrl; cases hrl
      have hiP' : i ∈ P' := by rcases List.mem_cons.1 hiP with e | e; exact (hia e).elim; exact e
      have hjP' : j ∈ P' := by rcases List.mem_cons.1 hjP with e | e; exact (hja e).elim; exact e
      have kent : ∀ {i : Nat} {p : Pg}, T[i]? = some p → p.leaf = true → key ∈ p.keys → ∀ {ks : List Int} {ss : List ByteArray} {P : List Nat} {ps : KV}, KidsR (SubB T d) ks ss P ps → i ∈ P → ∃ v, (key, v) ∈ ps := by
        intro i p hi hpl hp ks
        induction ks with
        | nil => intro _ _ _ h; exact h.elim
        | cons k ks ih =>
          intro ss P ps h hiP
          cases ss with
          | nil => exact ent hi hpl hp h.2.1 hiP
          | cons s ss =>
            obtain ⟨P1, ps1, P2, ps2, h1, h2, e1, e2, h3, h4⟩ := h
            subst e1; subst e2
            rcases List.mem_append.1 hiP with z | z
            · obtain ⟨v, hv⟩ := ent hi hpl hp h1.1 z; exact ⟨v, by simp [hv]⟩
            · obtain ⟨v, hv⟩ := ih h2 z; exact ⟨v, by simp [hv]⟩
      have kids : ∀ {ks : List Int} {ss : List ByteArray} {P : List Nat} {ps : KV}, KidsR (SubB T d) ks ss P ps → i ∈ P → j ∈ P → i = j := by
        intro ks
        induction ks with
        | nil => intro _ _ _ h; exact h.elim
        | cons k ks ih =>
          intro ss P ps h hiP hjP
          cases ss with
          | nil => exact ihd h.2.1 hiP hjP
          | cons s ss =>
            obtain ⟨P1, ps1, P2, ps2, h1, h2, e1, e2, h3, h4⟩ := h
            subst e1; subst e2
            have cross : ∀ {v w : ByteArray}, (key, v) ∈ ps1 → (key, w) ∈ ps2 → False := fun hv hw => by
              have z1 := h3 _ hv
              have z2 := h4 _ hw
              dsimp only at z1 z2
              rw [z1] at z2; cases z2
            rcases List.mem_append.1 hiP with z | z
            · rcases List.mem_append.1 hjP with y | y
              · exact ihd h1.1 z y
              · obtain ⟨v, hv⟩ := ent hi hpl hp h1.1 z
                obtain ⟨w, hw⟩ := kent hj hql hq h2 y
                exact (cross hv hw).elim
            · rcases List.mem_append.1 hjP with y | y
              · obtain ⟨v, hv⟩ := ent hj hql hq h1.1 y
                obtain ⟨w, hw⟩ := kent hi hpl hp h2 z
                exact (cross hv hw).elim
              · exact ih h2 z y
      exact kids hk hiP' hjP'
section
variable {T : List Pg} {d : Nat} {P : List Nat} {ps : KV} {i : Nat} {p : Pg} {key v : ByteArray}
theorem Whole.leafIn (w : Whole T d P ps) (hi : T[i]? = some p) (hl : p.leaf = true) : i ∈ P := Decidable.byContradiction fun h => by
  have := w.rest i p hi h
  unfold nothingB at this
  rw [hl] at this; simp at this
theorem Whole.setVal (w : Whole T d P ps) (hi : T[i]? = some p) (hl : p.leaf = true) (hs : slotB p.keys key = true) (hv : v.size ≤ 10) : Whole (T.set i (setP p key v)) d P (insK ps key v) ∧ (findK ps key).isSome = true := by
  have hiP := w.leafIn hi hl
  obtain ⟨L, v0, R, e1, e2⟩ := Sub.setVal hi hl hs hv w.sub w.nodup hiP
  have ha := w.sub.asc.1
  rw [e1] at ha
  have hL : ∀ x ∈ L, blt x.1 key = true := fun x hx => (List.pairwise_append.1 ha).2.2 x hx (key, v0) (by simp)
  have hp : insK ps key v = L ++ (key, v) :: R := by rw [e1, insK_mid hL]
  have hc := w.count
  refine ⟨⟨by rw [List.length_set]; exact w.len, by rw [hp]; exact e2, w.nodup, fun j q hq hj => ?_, ?_⟩, ?_⟩
  · rw [List.getElem?_set_ne (fun e => hj (by rw [← e]; exact hiP))] at hq
    exact w.rest j q hq hj
  · rw [hp]; rw [e1] at hc; simpa using hc
  · rw [e1, findK_right fun x hx => blt_ne (hL x hx), findK_cons, decide_eq_true rfl]; rfl
/-- no leaf has the key -/
theorem Whole.noLeaf (w : Whole T d P ps) (h : ∀ (j : Nat) (q : Pg), T[j]? = some q → q.leaf = true → slotB q.keys key = false) : findK ps key = none := findK_none fun x hx e => by
  obtain ⟨i, p, _, q1, q2, q3, q4⟩ := w.sub.leafOf hx
  have := h i p q1 q2
  rw [slotB_of_mem (rising_pw q3.2.rising) (by rw [← e]; exact (zip_mem q4).1)] at this
  cases this
end
end Go.Am
namespace Go.Am
/-! 22: cryostat/cryostatref9.Slot -/
def ref9_Slot.cx : Cx := ⟨tys, [], [(3, [0, 1, 6, 7])], [], [], noDyn, [.tmp 4, .tmp 5]⟩
def ref9_Slot : Sm := fun xs H Q => ∃ k, callK (ref9_Slot.cx) Go.Proofs.Try.f22 k xs H Q
def ref9_Slot.l3 (k : Nat) (xx0 : Pl) (nx1 : Nat) (sx2 : ByteArray) (ix3 : Int) (ix4 : Int) (H : Hp) (Q : Post) : Prop := loopK (ref9_Slot.cx) Go.Proofs.Try.f22 3 k ((.g (.sl xx0 nx1 1)) :: (.g (.str sx2)) :: B 4 ((.g (.int .i64 ix3)) :: (.g (.int .i64 ix4)) :: B 27 ([]))) H Q
theorem ref9_Slot_eq (k : Nat) (z0 : Pl) (z0n : Nat) (z1 : ByteArray) (H : Hp) (Q : Post) : callK (ref9_Slot.cx) Go.Proofs.Try.f22 (k + 1) [.g (.sl z0 z0n 1), .g (.str z1)] H Q = (
 ref9_Slot.l3 k z0 z0n z1 0 0 H Q) := by kernel_rfl
theorem ref9_Slot.l3_eq (k : Nat) (xx0 : Pl) (nx1 : Nat) (sx2 : ByteArray) (ix3 : Int) (ix4 : Int) (H : Hp) (Q : Post) : ref9_Slot.l3 (k + 1) xx0 nx1 sx2 ix3 ix4 H Q = (
 bite (ltI ix4 (nI nx1))
 (chk true (chk ((leI 0 ix4) && (ltI ix4 (nI nx1))) (pS xx0 fun n0 n1 =>
  rd H n0 (n1 + ((tN ix4) * 1)) fun v2 =>
  dS v2 fun s3 =>
  bite (strLt s3 sx2)
  (ref9_Slot.l3 k xx0 nx1 sx2 (wrapI .i64 (ix3 + 1)) (wrapI .i64 (ix4 + 1)) H Q)
  (ref9_Slot.l3 k xx0 nx1 sx2 ix3 (wrapI .i64 (ix4 + 1)) H Q))))
 (bite (ltI ix3 (nI nx1))
  (chk true (chk ((leI 0 ix3) && (ltI ix3 (nI nx1))) (pS xx0 fun n4 n5 =>
   rd H n4 (n5 + ((tN ix3) * 1)) fun v6 =>
   dS v6 fun s7 =>
   Q (.tup [(.s (.int .i64 ix3)), (.s (.bool (strEq s7 sx2)))]) H)))
  (Q (.tup [(.s (.int .i64 ix3)), (.s (.bool false))]) H))) := by kernel_rfl
theorem ref9_Slot_ok : Sound Go.Proofs.Try.prog 22 (ref9_Slot) := prog_ok.sound (cx := ref9_Slot.cx) rfl (EnvOK.nil _) (noDyn_ok _) Go.Proofs.Try.func22 rfl

/-! 89: cryostat/cryostatref9.texts -/
def ref9_texts.cx : Cx := ⟨tys, [], [], [], [], noDyn, [.tmp 2]⟩
def ref9_texts : Sm := fun xs H Q => ∃ k, callK (ref9_texts.cx) Go.Proofs.Try.f89 k xs H Q
theorem ref9_texts_eq (k : Nat) (z0 : Pl) (z0n : Nat) (H : Hp) (Q : Post) : callK (ref9_texts.cx) Go.Proofs.Try.f89 (k + 1) [.g (.sl z0 z0n 1)] H Q = (
 chk true (rdN H z0 (z0n * 1) fun c0 =>
 ap0 H 9 1 16 c0 z0n fun H1 =>
 Q (.g (.sl (some ((ln H), 0)) z0n 1)) H1)) := by kernel_rfl
theorem ref9_texts_ok : Sound Go.Proofs.Try.prog 89 (ref9_texts) := prog_ok.sound (cx := ref9_texts.cx) rfl (EnvOK.nil _) (noDyn_ok _) Go.Proofs.Try.func89 rfl

/-! 90: cryostat/cryostatref9.ints -/
def ref9_ints.cx : Cx := ⟨tys, [], [], [], [], noDyn, [.tmp 2]⟩
def ref9_ints : Sm := fun xs H Q => ∃ k, callK (ref9_ints.cx) Go.Proofs.Try.f90 k xs H Q
theorem ref9_ints_eq (k : Nat) (z0 : Pl) (z0n : Nat) (H : Hp) (Q : Post) : callK (ref9_ints.cx) Go.Proofs.Try.f90 (k + 1) [.g (.sl z0 z0n 1)] H Q = (
 chk true (rdN H z0 (z0n * 1) fun c0 =>
 ap0 H 3 1 8 c0 z0n fun H1 =>
 Q (.g (.sl (some ((ln H), 0)) z0n 1)) H1)) := by kernel_rfl
theorem ref9_ints_ok : Sound Go.Proofs.Try.prog 90 (ref9_ints) := prog_ok.sound (cx := ref9_ints.cx) rfl (EnvOK.nil _) (noDyn_ok _) Go.Proofs.Try.func90 rfl

/-! 67: cryostat/cryostatref9.CopyTree -/
def ref9_CopyTree.cx : Cx := ⟨tys, [], [(3, [1, 2, 3, 4])], [], [(89, ref9_texts), (90, ref9_ints)], noDyn, [.cell 2 34]⟩
def ref9_CopyTree : Sm := fun xs H Q => ∃ k, callK (ref9_CopyTree.cx) Go.Proofs.Try.f67 k xs H Q
def ref9_CopyTree.l3 (k : Nat) (xx0 : Pl) (nx1 : Nat) (ax2 : Pl) (nx3 : Nat) (ax4 : Pl) (nx5 : Nat) (ix6 : Int) (H : Hp) (Q : Post) : Prop := loopK (ref9_CopyTree.cx) Go.Proofs.Try.f67 3 k (.bad :: (.bx [(.sl xx0 nx1 5)]) :: (.bx [(.sl ax2 nx3 5)]) :: (.bx [(.sl ax4 nx5 5)]) :: (.g (.int .i64 ix6)) :: B 32 ([])) H Q
theorem ref9_CopyTree_eq (k : Nat) (z0 : Pl) (z0n : Nat) (H : Hp) (Q : Post) : callK (ref9_CopyTree.cx) Go.Proofs.Try.f67 (k + 1) [.agg [.sl z0 z0n 5]] H Q = (
 ref9_CopyTree.l3 k z0 z0n none 0 none 0 0 H Q) := by kernel_rfl
theorem ref9_CopyTree.l3_eq (k : Nat) (xx0 : Pl) (nx1 : Nat) (ax2 : Pl) (nx3 : Nat) (ax4 : Pl) (nx5 : Nat) (ix6 : Int) (H : Hp) (Q : Post) : ref9_CopyTree.l3 (k + 1) xx0 nx1 ax2 nx3 ax4 nx5 ix6 H Q = (
 bite (ltI ix6 (nI nx1))
 (chk true (chk ((leI 0 ix6) && (ltI ix6 (nI nx1))) (pS xx0 fun n0 n1 =>
  rd H n0 (n1 + ((tN ix6) * 5)) fun v2 =>
  dB v2 fun b3 =>
  rd H n0 ((n1 + ((tN ix6) * 5)) + 1) fun v4 =>
  dB v4 fun b5 =>
  rd H n0 (((n1 + ((tN ix6) * 5)) + 1) + 1) fun v6 =>
  dL 1 v6 fun x7 n8 =>
  rd H n0 ((((n1 + ((tN ix6) * 5)) + 1) + 1) + 1) fun v9 =>
  dL 1 v9 fun x10 n11 =>
  rd H n0 (((((n1 + ((tN ix6) * 5)) + 1) + 1) + 1) + 1) fun v12 =>
  dL 1 v12 fun x13 n14 =>
  cl ref9_texts [(.g (.sl x7 n8 1))] H fun r15 H16 =>
  rG r15 fun v17 =>
  dL 1 v17 fun x18 n19 =>
  cl ref9_texts [(.g (.sl x10 n11 1))] H16 fun r20 H21 =>
  rG r20 fun v22 =>
  dL 1 v22 fun x23 n24 =>
  cl ref9_ints [(.g (.sl x13 n14 1))] H21 fun r25 H26 =>
  rG r25 fun v27 =>
  dL 1 v27 fun x28 n29 =>
  chk true (ap H26 41 5 80 ax4 nx5 [(.bool b3), (.bool b5), (.sl x18 n19 1), (.sl x23 n24 1), (.sl x28 n29 1)] 1 fun x30 n31 H32 =>
  ref9_CopyTree.l3 k xx0 nx1 ax2 nx3 x30 n31 (wrapI .i64 (ix6 + 1)) H32 Q))))
 (Q (.agg [(.sl ax4 nx5 5)]) H)) := by kernel_rfl
theorem ref9_CopyTree_ok : Sound Go.Proofs.Try.prog 67 (ref9_CopyTree) := prog_ok.sound (cx := ref9_CopyTree.cx) rfl (EnvOK.cons ((ref9_texts_ok).c ⟨_, Go.Proofs.Try.func89, by kernel_rfl, by kernel_rfl⟩) (EnvOK.cons ((ref9_ints_ok).c ⟨_, Go.Proofs.Try.func90, by kernel_rfl, by kernel_rfl⟩) (EnvOK.nil _))) (noDyn_ok _) Go.Proofs.Try.func67 rfl

/-! 39: cryostat/cryostatref9.Insert -/
def ref9_Insert.cx : Cx := ⟨tys, [], [(4, [1, 2, 3, 6, 8]), (15, [1, 2, 6, 12, 13])], [], [(49, ref9_Sound), (22, ref9_Slot), (67, ref9_CopyTree), (60, ref9_all), (38, ref9_Build)], noDyn, [.cell 6 34, .tmp 7]⟩
def ref9_Insert : Sm := fun xs H Q => ∃ k, callK (ref9_Insert.cx) Go.Proofs.Try.f39 k xs H Q
def ref9_Insert.l4 (k : Nat) (sx0 : ByteArray) (sx1 : ByteArray) (xx2 : Pl) (nx3 : Nat) (ax4 : Pl) (nx5 : Nat) (ix6 : Int) (H : Hp) (Q : Post) : Prop := loopK (ref9_Insert.cx) Go.Proofs.Try.f39 4 k (.bad :: (.g (.str sx0)) :: (.g (.str sx1)) :: (.bx [(.sl xx2 nx3 5)]) :: .bad :: .bad :: (.bx [(.sl ax4 nx5 5)]) :: .bad :: (.g (.int .i64 ix6)) :: B 103 ([])) H Q
def ref9_Insert.l15 (k : Nat) (sx0 : ByteArray) (sx1 : ByteArray) (ax2 : Pl) (nx3 : Nat) (xx4 : Pl) (nx5 : Nat) (ix6 : Int) (H : Hp) (Q : Post) : Prop := loopK (ref9_Insert.cx) Go.Proofs.Try.f39 15 k (.bad :: (.g (.str sx0)) :: (.g (.str sx1)) :: B 3 ((.bx [(.sl ax2 nx3 5)]) :: B 5 ((.g (.sl xx4 nx5 2)) :: (.g (.int .i64 ix6)) :: B 98 ([])))) H Q
theorem ref9_Insert_eq (k : Nat) (z0 : Pl) (z0n : Nat) (z1 : ByteArray) (z2 : ByteArray) (H : Hp) (Q : Post) : callK (ref9_Insert.cx) Go.Proofs.Try.f39 (k + 1) [.agg [.sl z0 z0n 5], .g (.str z1), .g (.str z2)] H Q = (
 cl ref9_Sound [(.agg [(.sl z0 z0n 5)])] H fun r0 H1 =>
 rG r0 fun v2 =>
 dB v2 fun b3 =>
 bite (!b3)
 (Q (.tup [(.a [(.sl none 0 5)]), (.s (.int .i64 1200))]) H1)
 (bite (ltI (sz z1) 1)
  (Q (.tup [(.a [(.sl none 0 5)]), (.s (.int .i64 1200))]) H1)
  (bite (ltI 6 (sz z1))
   (Q (.tup [(.a [(.sl none 0 5)]), (.s (.int .i64 1200))]) H1)
   (bite (ltI 10 (sz z2))
    (Q (.tup [(.a [(.sl none 0 5)]), (.s (.int .i64 1200))]) H1)
    (ref9_Insert.l4 k z1 z2 z0 z0n none 0 0 H1 Q))))) := by kernel_rfl
theorem ref9_Insert.l4_eq (k : Nat) (sx0 : ByteArray) (sx1 : ByteArray) (xx2 : Pl) (nx3 : Nat) (ax4 : Pl) (nx5 : Nat) (ix6 : Int) (H : Hp) (Q : Post) : ref9_Insert.l4 (k + 1) sx0 sx1 xx2 nx3 ax4 nx5 ix6 H Q = (
 bite (ltI ix6 (nI nx3))
 (chk true (chk ((leI 0 ix6) && (ltI ix6 (nI nx3))) (pS xx2 fun n0 n1 =>
  rd H n0 ((n1 + ((tN ix6) * 5)) + 2) fun v2 =>
  dL 1 v2 fun x3 n4 =>
  cl ref9_Slot [(.g (.sl x3 n4 1)), (.g (.str sx0))] H fun r5 H6 =>
  rT r5 fun c7 =>
  uR c7 fun q8 c9 =>
  rS q8 fun v10 =>
  dI .i64 v10 fun i11 =>
  uR c9 fun q12 c13 =>
  rS q12 fun v14 =>
  dB v14 fun b15 =>
  uE c13 (chk true (chk ((leI 0 ix6) && (ltI ix6 (nI nx3))) (pS xx2 fun n16 n17 =>
  rd H6 n16 ((n17 + ((tN ix6) * 5)) + 1) fun v18 =>
  dB v18 fun b19 =>
  bite b19
  (bite b15
   (cl ref9_CopyTree [(.agg [(.sl xx2 nx3 5)])] H6 fun r20 H21 =>
    rA r20 fun c22 =>
    uC c22 fun v23 c24 =>
    dL 5 v23 fun x25 n26 =>
    uN c24 (chk true (chk ((leI 0 ix6) && (ltI ix6 (nI n26))) (pS x25 fun n27 n28 =>
    rd H21 n27 ((n28 + ((tN ix6) * 5)) + 3) fun v29 =>
    dL 1 v29 fun x30 n31 =>
    chk true (chk ((leI 0 i11) && (ltI i11 (nI n31))) (pS x30 fun n32 n33 =>
    wr H21 n32 (n33 + ((tN i11) * 1)) (.str sx1) fun H34 =>
    Q (.tup [(.a [(.sl x25 n26 5)]), (.s (.int .i64 0))]) H34))))))
   (ref9_Insert.l4 k sx0 sx1 xx2 nx3 ax4 nx5 (wrapI .i64 (ix6 + 1)) H6 Q))
  (ref9_Insert.l4 k sx0 sx1 xx2 nx3 ax4 nx5 (wrapI .i64 (ix6 + 1)) H6 Q)))))))
 (cl ref9_all [(.agg [(.sl xx2 nx3 5)]), (.g (.int .i64 0)), (.g (.sl none 0 2))] H fun r35 H36 =>
  rG r35 fun v37 =>
  dL 2 v37 fun x38 n39 =>
  bite (leI 60 (nI n39))
  (Q (.tup [(.a [(.sl none 0 5)]), (.s (.int .i64 1201))]) H36)
  (ref9_Insert.l15 k sx0 sx1 ax4 nx5 x38 n39 0 H36 Q))) := by kernel_rfl
theorem ref9_Insert.l15_eq (k : Nat) (sx0 : ByteArray) (sx1 : ByteArray) (ax2 : Pl) (nx3 : Nat) (xx4 : Pl) (nx5 : Nat) (ix6 : Int) (H : Hp) (Q : Post) : ref9_Insert.l15 (k + 1) sx0 sx1 ax2 nx3 xx4 nx5 ix6 H Q = (
 bite (ltI ix6 (nI nx5))
 (chk true (chk ((leI 0 ix6) && (ltI ix6 (nI nx5))) (pS xx4 fun n0 n1 =>
  rd H n0 ((n1 + ((tN ix6) * 2)) + 0) fun v2 =>
  dS v2 fun s3 =>
  bite (strLt s3 sx0)
  (ref9_Insert.l15 k sx0 sx1 ax2 nx3 xx4 nx5 (wrapI .i64 (ix6 + 1)) H Q)
  (chk true (chk (leI 0 ix6) (chk ((leN 0 (tN ix6)) && ((leN (tN ix6) nx5) || (room H xx4 ((tN ix6) * 2)))) (chk true (rdN H (shf xx4 0) (((tN ix6) - 0) * 2) fun c4 =>
   chk true (ap H 53 2 32 none 0 c4 ((tN ix6) - 0) fun x5 n6 H7 =>
   chk true (ap H7 53 2 32 x5 n6 [(.str sx0), (.str sx1)] 1 fun x8 n9 H10 =>
   chk true (chk (leI 0 ix6) (chk (leN (tN ix6) nx5) (chk true (rdN H10 (shf xx4 ((tN ix6) * 2)) ((nx5 - (tN ix6)) * 2) fun c11 =>
   chk true (ap H10 53 2 32 x8 n9 c11 (nx5 - (tN ix6)) fun x12 n13 H14 =>
   cl ref9_Build [(.g (.sl x12 n13 2))] H14 fun r15 H16 =>
   rA r15 fun c17 =>
   uC c17 fun v18 c19 =>
   dL 5 v18 fun x20 n21 =>
   uN c19 (Q (.tup [(.a [(.sl x20 n21 5)]), (.s (.int .i64 0))]) H16))))))))))))))))
 (chk true (chk (leI 0 ix6) (chk ((leN 0 (tN ix6)) && ((leN (tN ix6) nx5) || (room H xx4 ((tN ix6) * 2)))) (chk true (rdN H (shf xx4 0) (((tN ix6) - 0) * 2) fun c22 =>
  chk true (ap H 53 2 32 none 0 c22 ((tN ix6) - 0) fun x23 n24 H25 =>
  chk true (ap H25 53 2 32 x23 n24 [(.str sx0), (.str sx1)] 1 fun x26 n27 H28 =>
  chk true (chk (leI 0 ix6) (chk (leN (tN ix6) nx5) (chk true (rdN H28 (shf xx4 ((tN ix6) * 2)) ((nx5 - (tN ix6)) * 2) fun c29 =>
  chk true (ap H28 53 2 32 x26 n27 c29 (nx5 - (tN ix6)) fun x30 n31 H32 =>
  cl ref9_Build [(.g (.sl x30 n31 2))] H32 fun r33 H34 =>
  rA r33 fun c35 =>
  uC c35 fun v36 c37 =>
  dL 5 v36 fun x38 n39 =>
  uN c37 (Q (.tup [(.a [(.sl x38 n39 5)]), (.s (.int .i64 0))]) H34)))))))))))))) := by kernel_rfl
theorem ref9_Insert_ok : Sound Go.Proofs.Try.prog 39 (ref9_Insert) := prog_ok.sound (cx := ref9_Insert.cx) rfl (EnvOK.cons ((ref9_Sound_ok).c ⟨_, Go.Proofs.Try.func49, by kernel_rfl, by kernel_rfl⟩) (EnvOK.cons ((ref9_Slot_ok).c ⟨_, Go.Proofs.Try.func22, by kernel_rfl, by kernel_rfl⟩) (EnvOK.cons ((ref9_CopyTree_ok).c ⟨_, Go.Proofs.Try.func67, by kernel_rfl, by kernel_rfl⟩) (EnvOK.cons ((ref9_all_ok).c ⟨_, Go.Proofs.Try.func60, by kernel_rfl, by kernel_rfl⟩) (EnvOK.cons ((ref9_Build_ok).c ⟨_, Go.Proofs.Try.func38, by kernel_rfl, by kernel_rfl⟩) (EnvOK.nil _)))))) (noDyn_ok _) Go.Proofs.Try.func39 rfl

/-! 8: cryostat/cryostatlaw14.ScanInserts -/
def law14_ScanInserts.cx : Cx := ⟨tys, [], [(12, [1, 2, 9, 11, 13, 14, 15])], [], [(36, law14_awake), (39, ref9_Insert), (30, scan_All), (23, law0_Num)], noDyn, [.tmp 6]⟩
def law14_ScanInserts : Sm := fun xs H Q => ∃ k, callK (law14_ScanInserts.cx) Go.Proofs.Try.f8 k xs H Q
def law14_ScanInserts.l12 (k : Nat) (sx0 : ByteArray) (sx1 : ByteArray) (xx2 : Pl) (nx3 : Nat) (xx4 : Pl) (nx5 : Nat) (ix6 : Int) (bx7 : Bool) (ix8 : Int) (H : Hp) (Q : Post) : Prop := loopK (law14_ScanInserts.cx) Go.Proofs.Try.f8 12 k (.bad :: (.g (.str sx0)) :: (.g (.str sx1)) :: B 6 ((.g (.sl xx2 nx3 2)) :: .bad :: (.g (.sl xx4 nx5 2)) :: .bad :: (.g (.int .i64 ix6)) :: (.g (.bool bx7)) :: (.g (.int .i64 ix8)) :: B 91 ([]))) H Q
theorem law14_ScanInserts_eq (k : Nat) (z0 : Pl) (z0n : Nat) (z1 : ByteArray) (z2 : ByteArray) (H : Hp) (Q : Post) : callK (law14_ScanInserts.cx) Go.Proofs.Try.f8 (k + 1) [.agg [.sl z0 z0n 5], .g (.str z1), .g (.str z2)] H Q = (
 cl law14_awake [] H fun r0 H1 =>
 rG r0 fun v2 =>
 dB v2 fun b3 =>
 bite (!b3)
 (Q (.g (.bool false)) H1)
 (cl ref9_Insert [(.agg [(.sl z0 z0n 5)]), (.g (.str z1)), (.g (.str z2))] H1 fun r4 H5 =>
  rT r4 fun c6 =>
  uR c6 fun q7 c8 =>
  rC q7 fun c9 =>
  uC c9 fun v10 c11 =>
  dL 5 v10 fun x12 n13 =>
  uN c11 (uR c8 fun q14 c15 =>
  rS q14 fun v16 =>
  dI .i64 v16 fun i17 =>
  uE c15 (bite (!(eqI i17 0))
  (Q (.g (.bool true)) H5)
  (cl scan_All [(.agg [(.sl z0 z0n 5)])] H5 fun r18 H19 =>
   rT r18 fun c20 =>
   uR c20 fun q21 c22 =>
   rS q21 fun v23 =>
   dL 2 v23 fun x24 n25 =>
   uR c22 fun q26 c27 =>
   rS q26 fun v28 =>
   dI .i64 v28 fun i29 =>
   uE c27 (cl scan_All [(.agg [(.sl x12 n13 5)])] H19 fun r30 H31 =>
   rT r30 fun c32 =>
   uR c32 fun q33 c34 =>
   rS q33 fun v35 =>
   dL 2 v35 fun x36 n37 =>
   uR c34 fun q38 c39 =>
   rS q38 fun v40 =>
   dI .i64 v40 fun i41 =>
   uE c39 (cl law0_Num [(.g (.int .i64 i29))] H31 fun r42 H43 =>
   rG r42 fun v44 =>
   dI .i64 v44 fun i45 =>
   bite (!(eqI i45 0))
   (Q (.g (.bool false)) H43)
   (cl law0_Num [(.g (.int .i64 i41))] H43 fun r46 H47 =>
    rG r46 fun v48 =>
    dI .i64 v48 fun i49 =>
    bite (!(eqI i49 0))
    (Q (.g (.bool false)) H47)
    (law14_ScanInserts.l12 k z1 z2 x24 n25 x36 n37 0 false 0 H47 Q))))))))) := by kernel_rfl
theorem law14_ScanInserts.l12_eq (k : Nat) (sx0 : ByteArray) (sx1 : ByteArray) (xx2 : Pl) (nx3 : Nat) (xx4 : Pl) (nx5 : Nat) (ix6 : Int) (bx7 : Bool) (ix8 : Int) (H : Hp) (Q : Post) : law14_ScanInserts.l12 (k + 1) sx0 sx1 xx2 nx3 xx4 nx5 ix6 bx7 ix8 H Q = (
 bite (ltI ix8 (nI nx5))
 (chk true (chk ((leI 0 ix8) && (ltI ix8 (nI nx5))) (pS xx4 fun n0 n1 =>
  rd H n0 ((n1 + ((tN ix8) * 2)) + 0) fun v2 =>
  dS v2 fun s3 =>
  bite (strEq s3 sx0)
  (bite bx7
   (Q (.g (.bool false)) H)
   (chk true (chk ((leI 0 ix8) && (ltI ix8 (nI nx5))) (pS xx4 fun n4 n5 =>
    rd H n4 ((n5 + ((tN ix8) * 2)) + 1) fun v6 =>
    dS v6 fun s7 =>
    bite (!(strEq s7 sx1))
    (Q (.g (.bool false)) H)
    (bite (ltI ix6 (nI nx3))
     (chk true (chk ((leI 0 ix6) && (ltI ix6 (nI nx3))) (pS xx2 fun n8 n9 =>
      rd H n8 ((n9 + ((tN ix6) * 2)) + 0) fun v10 =>
      dS v10 fun s11 =>
      bite (strEq s11 sx0)
      (law14_ScanInserts.l12 k sx0 sx1 xx2 nx3 xx4 nx5 (wrapI .i64 (ix6 + 1)) true (wrapI .i64 (ix8 + 1)) H Q)
      (law14_ScanInserts.l12 k sx0 sx1 xx2 nx3 xx4 nx5 ix6 true (wrapI .i64 (ix8 + 1)) H Q))))
     (law14_ScanInserts.l12 k sx0 sx1 xx2 nx3 xx4 nx5 ix6 true (wrapI .i64 (ix8 + 1)) H Q))))))
  (bite (leI (nI nx3) ix6)
   (Q (.g (.bool false)) H)
   (chk true (chk ((leI 0 ix6) && (ltI ix6 (nI nx3))) (pS xx2 fun n12 n13 =>
    rd H n12 (n13 + ((tN ix6) * 2)) fun v14 =>
    dS v14 fun s15 =>
    rd H n12 ((n13 + ((tN ix6) * 2)) + 1) fun v16 =>
    dS v16 fun s17 =>
    chk true (chk ((leI 0 ix8) && (ltI ix8 (nI nx5))) (pS xx4 fun n18 n19 =>
    rd H n18 (n19 + ((tN ix8) * 2)) fun v20 =>
    dS v20 fun s21 =>
    rd H n18 ((n19 + ((tN ix8) * 2)) + 1) fun v22 =>
    dS v22 fun s23 =>
    bite (!((strEq s15 s21) && ((strEq s17 s23) && true)))
    (Q (.g (.bool false)) H)
    (law14_ScanInserts.l12 k sx0 sx1 xx2 nx3 xx4 nx5 (wrapI .i64 (ix6 + 1)) bx7 (wrapI .i64 (ix8 + 1)) H Q))))))))))
 (bite bx7
  (Q (.g (.bool (eqI ix6 (nI nx3)))) H)
  (Q (.g (.bool false)) H))) := by kernel_rfl
theorem law14_ScanInserts_ok : Sound Go.Proofs.Try.prog 8 (law14_ScanInserts) := prog_ok.sound (cx := law14_ScanInserts.cx) rfl (EnvOK.cons ((law14_awake_ok).c ⟨_, Go.Proofs.Try.func36, by kernel_rfl, by kernel_rfl⟩) (EnvOK.cons ((ref9_Insert_ok).c ⟨_, Go.Proofs.Try.func39, by kernel_rfl, by kernel_rfl⟩) (EnvOK.cons ((scan_All_ok).c ⟨_, Go.Proofs.Try.func30, by kernel_rfl, by kernel_rfl⟩) (EnvOK.cons ((law0_Num_ok).c ⟨_, Go.Proofs.Try.func23, by kernel_rfl, by kernel_rfl⟩) (EnvOK.nil _))))) (noDyn_ok _) Go.Proofs.Try.func8 rfl

/-! 12: cryostat/cryostatlaw11.FindNext -/
def law11_FindNext.cx : Cx := ⟨tys, [], [], [], [(42, law11_awake), (39, ref9_Insert), (40, find_Find), (23, law0_Num)], noDyn, [.tmp 8]⟩
def law11_FindNext : Sm := fun xs H Q => ∃ k, callK (law11_FindNext.cx) Go.Proofs.Try.f12 k xs H Q
theorem law11_FindNext_eq (k : Nat) (z0 : Pl) (z0n : Nat) (z1 : ByteArray) (z2 : ByteArray) (z3 : ByteArray) (H : Hp) (Q : Post) : callK (law11_FindNext.cx) Go.Proofs.Try.f12 (k + 1) [.agg [.sl z0 z0n 5], .g (.str z1), .g (.str z2), .g (.str z3)] H Q = (
 cl law11_awake [] H fun r0 H1 =>
 rG r0 fun v2 =>
 dB v2 fun b3 =>
 bite (!b3)
 (Q (.g (.bool false)) H1)
 (cl ref9_Insert [(.agg [(.sl z0 z0n 5)]), (.g (.str z1)), (.g (.str z2))] H1 fun r4 H5 =>
  rT r4 fun c6 =>
  uR c6 fun q7 c8 =>
  rC q7 fun c9 =>
  uC c9 fun v10 c11 =>
  dL 5 v10 fun x12 n13 =>
  uN c11 (uR c8 fun q14 c15 =>
  rS q14 fun v16 =>
  dI .i64 v16 fun i17 =>
  uE c15 (bite (!(eqI i17 0))
  (Q (.g (.bool true)) H5)
  (cl find_Find [(.agg [(.sl x12 n13 5)]), (.g (.str z1))] H5 fun r18 H19 =>
   rT r18 fun c20 =>
   uR c20 fun q21 c22 =>
   rS q21 fun v23 =>
   dS v23 fun s24 =>
   uR c22 fun q25 c26 =>
   rS q25 fun v27 =>
   dB v27 fun b28 =>
   uR c26 fun q29 c30 =>
   rS q29 fun v31 =>
   dI .i64 v31 fun i32 =>
   uE c30 (cl find_Find [(.agg [(.sl z0 z0n 5)]), (.g (.str z3))] H19 fun r33 H34 =>
   rT r33 fun c35 =>
   uR c35 fun q36 c37 =>
   rS q36 fun v38 =>
   dS v38 fun s39 =>
   uR c37 fun q40 c41 =>
   rS q40 fun v42 =>
   dB v42 fun b43 =>
   uR c41 fun q44 c45 =>
   rS q44 fun v46 =>
   dI .i64 v46 fun i47 =>
   uE c45 (cl find_Find [(.agg [(.sl x12 n13 5)]), (.g (.str z3))] H34 fun r48 H49 =>
   rT r48 fun c50 =>
   uR c50 fun q51 c52 =>
   rS q51 fun v53 =>
   dS v53 fun s54 =>
   uR c52 fun q55 c56 =>
   rS q55 fun v57 =>
   dB v57 fun b58 =>
   uR c56 fun q59 c60 =>
   rS q59 fun v61 =>
   dI .i64 v61 fun i62 =>
   uE c60 (cl law0_Num [(.g (.int .i64 i32))] H49 fun r63 H64 =>
   rG r63 fun v65 =>
   dI .i64 v65 fun i66 =>
   bite (eqI i66 0)
   (bite b28
    (bite (strEq s24 z2)
     (cl law0_Num [(.g (.int .i64 i47))] H64 fun r67 H68 =>
      rG r67 fun v69 =>
      dI .i64 v69 fun i70 =>
      bite (eqI i70 0)
      (cl law0_Num [(.g (.int .i64 i62))] H68 fun r71 H72 =>
       rG r71 fun v73 =>
       dI .i64 v73 fun i74 =>
       bite (eqI i74 0)
       (bite (strEq z3 z1)
        (Q (.g (.bool true)) H72)
        (bite (strEq s39 s54)
         (Q (.g (.bool (eqB b43 b58))) H72)
         (Q (.g (.bool false)) H72)))
       (Q (.g (.bool false)) H72))
      (Q (.g (.bool false)) H68))
     (Q (.g (.bool false)) H64))
    (Q (.g (.bool false)) H64))
   (Q (.g (.bool false)) H64))))))))) := by kernel_rfl
theorem law11_FindNext_ok : Sound Go.Proofs.Try.prog 12 (law11_FindNext) := prog_ok.sound (cx := law11_FindNext.cx) rfl (EnvOK.cons ((law11_awake_ok).c ⟨_, Go.Proofs.Try.func42, by kernel_rfl, by kernel_rfl⟩) (EnvOK.cons ((ref9_Insert_ok).c ⟨_, Go.Proofs.Try.func39, by kernel_rfl, by kernel_rfl⟩) (EnvOK.cons ((find_Find_ok).c ⟨_, Go.Proofs.Try.func40, by kernel_rfl, by kernel_rfl⟩) (EnvOK.cons ((law0_Num_ok).c ⟨_, Go.Proofs.Try.func23, by kernel_rfl, by kernel_rfl⟩) (EnvOK.nil _))))) (noDyn_ok _) Go.Proofs.Try.func12 rfl


end Go.Am
namespace Go.Am

section
variable {B H H' : Hp} {t : TypeId} {a : Pl} {n : Nat} {ds : List PC} {T : List Pg} {Q : Post}
theorem CT.val (g : CT B H t a n ds T) {i j : Nat} (hi : i < ds.length) (hi' : i < T.length) (hj : j < (T[i]).vals.length) (s : ByteArray) {K : Hp → Prop}
    (hK : ∀ H', CT B H' t a n ds (T.set i { T[i] with vals := (T[i]).vals.set j s }) → K H') : ∃ l, (ds[i]).a2 = some (l, 0) ∧ wr H l j (.str s) K := by
  have ho := g.own i hi hi'
  have hat := g.ot.all i hi hi'
  rcases ho.vals with ⟨_, h, _⟩ | ⟨l, e, hb, hr, hl⟩
  · have := hat.vals.len; omega
  have hlt := (List.getElem?_eq_some_iff.1 hr).1
  have hon : (ds[i]).on l := ⟨0, .inr (.inl e)⟩
  refine ⟨l, e, wr_row hr (by simpa using hj) ?_⟩
  rw [← List.map_set]
  have keep : ∀ {tt : TypeId} {x : Pl} {m : Nat} {es : List GV} (y : Obj), Own H B.length tt x m es → (∀ o, x ≠ some (l, o)) → Own (H.set l y) B.length tt x m es := fun y h hd => h.keep fun m e' => by
    rw [List.getElem?_set_ne]; intro q; subst q; exact hd 0 e'
  have how : (ds[i]).own (H.set l (.row true tS (((T[i]).vals.set j s).map GV.str))) B.length { T[i] with vals := (T[i]).vals.set j s } :=
    ⟨ho.used, ho.leaf, keep _ ho.keys (fun o e' => ho.d12 l o 0 e' e), .inr ⟨l, e, hb, List.getElem?_set_self hlt, by simpa using hl⟩, keep _ ho.kids (fun o e' => ho.d23 l 0 o e e'), ho.d12, ho.d13, ho.d23⟩
  refine hK _ (g.setRow hi hi' hon _ hb _ ⟨hat.used, hat.leaf, ⟨how.keys.cells, hat.keys.len, hat.keys.lim⟩, ⟨how.vals.cells, ?_, hat.vals.lim⟩, ⟨how.kids.cells, hat.kids.len, hat.kids.lim⟩⟩ how)
  simpa using hat.vals.len

/-- a page behind the others -/
theorem CT.add (g : CT B H t a n ds T) {d : PC} {p : Pg} {H2 : Hp} (p2 : H <+: H2) (hd : d.at H2 p) (hdo : d.own H2 H.length p) (hfr : ∀ l, d.on l → H.length ≤ l) (hl : (n + 1) * 80 ≤ Lim) {K : Pl → Nat → Hp → Prop}
    (hK : ∀ a' H', CT B H' t a' (n + 1) (ds ++ [d]) (T ++ [p]) → K a' (n + 1) H') : Am.ap H2 t 5 80 a n [.bool d.u, .bool d.l, .sl d.a1 d.n1 1, .sl d.a2 d.n2 1, .sl d.a3 d.n3 1] 1 K := by
  have ho := g.ot
  have ho2 := ho.mono p2
  have hlen := ho.len
  have hlenT := ho.lenT
  have hp := g.pre
  refine ho2.add (hp.trans p2) hd (fun l hl e => by have := hfr l hl; have := ho.own.lt' e; omega) hl fun a'' H3 o3 x3 f3 => ?_
  have keepA : ∀ i (h : i < ds.length) (l : Nat), (ds[i]).on l → H3[l]? = H[l]? := fun i h l hl => by
    rw [x3.row l (ho2.onlt (List.getElem_mem h) hl) (ho2.off _ (List.getElem_mem h) l hl), pre_at p2 (ho.onlt (List.getElem_mem h) hl)]
  refine hK a'' H3 ⟨x3.pre, o3, fun i h1 h2 => ?_, fun i j h1 h2 hne l hl1 hl2 => ?_⟩
  · rw [List.getElem_append, List.getElem_append]
    by_cases e : i < n
    · rw [dif_pos (by omega), dif_pos (by omega)]
      exact (g.own i (by omega) (by omega)).keep fun l hl => keepA i (by omega) l hl
    · have e' : i = n := by simp [hlen] at h1; omega
      subst e'
      rw [dif_neg (by omega), dif_neg (by omega)]
      simp only [List.getElem_singleton]
      have hdo' : d.own H3 H.length p := hdo.keep fun l hl => x3.row l (hd.lt hl) (fun e => by have := hfr l hl; have := ho.own.lt' e; omega)
      have hb : ∀ {t : TypeId} {x : Pl} {m : Nat} {es : List GV}, Own H3 H.length t x m es → Own H3 B.length t x m es := fun h => h.base hp.length_le
      exact ⟨hdo'.used, hdo'.leaf, hb hdo'.keys, hb hdo'.vals, hb hdo'.kids, hdo'.d12, hdo'.d13, hdo'.d23⟩
  · simp only [List.length_append, List.length_singleton] at h1 h2
    rw [List.getElem_append] at hl1 hl2
    by_cases e1 : i < n
    · rw [dif_pos (by omega)] at hl1
      by_cases e2 : j < n
      · rw [dif_pos (by omega)] at hl2
        exact g.ap i j (by omega) (by omega) hne l hl1 hl2
      · rw [dif_neg (by omega)] at hl2
        simp only [List.getElem_singleton] at hl2
        have := hfr l hl2
        have := ho.onlt (List.getElem_mem (by omega : i < ds.length)) hl1
        omega
    · rw [dif_neg (by omega)] at hl1
      simp only [List.getElem_singleton] at hl1
      by_cases e2 : j < n
      · rw [dif_pos (by omega)] at hl2
        have := hfr l hl1
        have := ho.onlt (List.getElem_mem (by omega : j < ds.length)) hl2
        omega
      · omega
theorem CT.nil (H : Hp) (t : TypeId) : CT H H t none 0 [] [] := ⟨List.prefix_refl _, OT.nil _ _ _, fun i h => (by simp at h), fun i j h => (by simp at h)⟩

/-! the document's copy of a tree -/
theorem ref9_texts_spec {a : Pl} {n : Nat} {xs : List ByteArray} (h : Ss H a n xs) (hQ : ∀ H', H' = H ++ [.row true tS (xs.map GV.str)] → Q (.g (.sl (some (H.length, 0)) n 1)) H') : ref9_texts [.g (.sl a n 1)] H Q := by
  have e := h.len
  have l := h.lim
  refine ⟨1, ?_⟩
  rw [ref9_texts_eq, chk_true, Nat.mul_one, rdN_of h.cells]
  refine ap0_of (by unfold Lim; omega) (by simp [e]) ?_
  exact hQ _ rfl
theorem ref9_ints_spec {a : Pl} {n : Nat} {xs : List Int} (h : Is H a n xs) (hQ : ∀ H', H' = H ++ [.row true tI (xs.map (GV.int .i64))] → Q (.g (.sl (some (H.length, 0)) n 1)) H') : ref9_ints [.g (.sl a n 1)] H Q := by
  have e := h.len
  have l := h.lim
  refine ⟨1, ?_⟩
  rw [ref9_ints_eq, chk_true, Nat.mul_one, rdN_of h.cells]
  refine ap0_of (by unfold Lim; omega) (by simp [e]) ?_
  exact hQ _ rfl
set_option maxRecDepth 100000 in
theorem ref9_CopyTree_ct {cs : List PC} (hT : Tr H a n cs T) (hn : n * 80 ≤ 140737488351232) (hQ : ∀ a' ds H', CT H H' tPg a' n ds T → Q (.agg [.sl a' n 5]) H') : ref9_CopyTree [.agg [.sl a n 5]] H Q := by
  have hlT := hT.lenT
  have loop : ∀ (f k : Nat) (a' : Pl) (ds : List PC) (H' : Hp), n - k < f → k ≤ n → CT H H' tPg a' k ds (T.take k) → ref9_CopyTree.l3 f a n none 0 a' k (k : Int) H' Q := by
    intro f
    induction f with
    | zero => intro k _ _ _ h; omega
    | succ f ih =>
      intro k a' ds H' hf hk g
      have hp := g.pre
      rw [ref9_CopyTree.l3_eq]
      by_cases hkn : k < n
      · obtain ⟨l, o, c, p, rfl, hc, hpp, hpc, g0, g1, g2, g3, g4⟩ := (hT.mono hp).get hkn
        have etN : tN (k : Int) = k := rfl
        rw [bite_t (by simp; omega), chk_true]
        refine chk_of (by simp; omega) ?_
        rw [pS_some, etN, rdPage_of g0 g1 g2 g3 g4]
        obtain ⟨hu, hl, hks, hvs, his⟩ := hpc
        have e1 := hks.len
        have e2 := hvs.len
        have e3 := his.len
        have l1 := hks.lim
        have l2 := hvs.lim
        have l3 := his.lim
        refine ref9_texts_spec hks fun Ha ha => ?_
        subst ha
        simp only [rG_g, dL_sl]
        have p1 := pre_pu H' (.row true tS (p.keys.map GV.str))
        refine ref9_texts_spec (hvs.mono p1) fun Hb hb => ?_
        subst hb
        simp only [rG_g, dL_sl]
        have p2 := p1.trans (pre_pu (H' ++ [.row true tS (p.keys.map GV.str)]) (.row true tS (p.vals.map GV.str)))
        refine ref9_ints_spec (his.mono p2) fun Hc hc' => ?_
        subst hc'
        simp only [rG_g, dL_sl]
        have o1 : Own (((H' ++ [Obj.row true tS (p.keys.map GV.str)]) ++ [Obj.row true tS (p.vals.map GV.str)]) ++ [Obj.row true tI (p.kids.map (GV.int .i64))]) H'.length tS (some (H'.length, 0)) c.n1 (p.keys.map GV.str) := .inr ⟨_, rfl, Nat.le_refl _, by rw [List.append_assoc, List.append_assoc]; simp, by simp [e1]⟩
        have o2 : Own (((H' ++ [Obj.row true tS (p.keys.map GV.str)]) ++ [Obj.row true tS (p.vals.map GV.str)]) ++ [Obj.row true tI (p.kids.map (GV.int .i64))]) H'.length tS (some ((H' ++ [Obj.row true tS (p.keys.map GV.str)]).length, 0)) c.n2 (p.vals.map GV.str) := .inr ⟨_, rfl, by simp, by rw [List.append_assoc]; simp, by simp [e2]⟩
        have o3 : Own (((H' ++ [Obj.row true tS (p.keys.map GV.str)]) ++ [Obj.row true tS (p.vals.map GV.str)]) ++ [Obj.row true tI (p.kids.map (GV.int .i64))]) H'.length tI (some (((H' ++ [Obj.row true tS (p.keys.map GV.str)]) ++ [Obj.row true tS (p.vals.map GV.str)]).length, 0)) c.n3 (p.kids.map (GV.int .i64)) := .inr ⟨_, rfl, by simp, by simp, by simp [e3]⟩
        have p2' : H' <+: (((H' ++ [Obj.row true tS (p.keys.map GV.str)]) ++ [Obj.row true tS (p.vals.map GV.str)]) ++ [Obj.row true tI (p.kids.map (GV.int .i64))]) := p2.trans (List.prefix_append _ _)
        have hfr : ∀ l, (⟨c.u, c.l, some (H'.length, 0), c.n1, some ((H' ++ [Obj.row true tS (p.keys.map GV.str)]).length, 0), c.n2, some (((H' ++ [Obj.row true tS (p.keys.map GV.str)]) ++ [Obj.row true tS (p.vals.map GV.str)]).length, 0), c.n3⟩ : PC).on l → H'.length ≤ l := by
          rintro l ⟨o, q | q | q⟩ <;> simp at q <;> omega
        have hd : (⟨c.u, c.l, some (H'.length, 0), c.n1, some ((H' ++ [Obj.row true tS (p.keys.map GV.str)]).length, 0), c.n2, some (((H' ++ [Obj.row true tS (p.keys.map GV.str)]) ++ [Obj.row true tS (p.vals.map GV.str)]).length, 0), c.n3⟩ : PC).at (((H' ++ [Obj.row true tS (p.keys.map GV.str)]) ++ [Obj.row true tS (p.vals.map GV.str)]) ++ [Obj.row true tI (p.kids.map (GV.int .i64))]) p := ⟨hu, hl, ⟨o1.cells, e1, l1⟩, ⟨o2.cells, e2, l2⟩, ⟨o3.cells, e3, l3⟩⟩
        have hdo : (⟨c.u, c.l, some (H'.length, 0), c.n1, some ((H' ++ [Obj.row true tS (p.keys.map GV.str)]).length, 0), c.n2, some (((H' ++ [Obj.row true tS (p.keys.map GV.str)]) ++ [Obj.row true tS (p.vals.map GV.str)]).length, 0), c.n3⟩ : PC).own (((H' ++ [Obj.row true tS (p.keys.map GV.str)]) ++ [Obj.row true tS (p.vals.map GV.str)]) ++ [Obj.row true tI (p.kids.map (GV.int .i64))]) H'.length p := by
          refine ⟨hu, hl, o1, o2, o3, ?_, ?_, ?_⟩
          · intro l o o' q1 q2; simp at q1 q2; omega
          · intro l o o' q1 q2; simp at q1 q2; omega
          · intro l o o' q1 q2; simp at q1 q2; omega
        rw [chk_true]
        have hTk : T.take k ++ [p] = T.take (k + 1) := by
          rw [List.take_add_one, hpp]; rfl
        have hlim : (k + 1) * 80 ≤ Lim := by unfold Lim; have := Nat.mul_le_mul_right 80 (show k + 1 ≤ n by omega); omega
        refine g.add p2' hd hdo hfr hlim fun a'' H3 g3 => ?_
        rw [hTk] at g3
        rw [wrap_succ (by omega)]
        exact ih (k + 1) a'' _ H3 (by omega) (by omega) g3
      · obtain rfl : k = n := by omega
        rw [bite_f (by simp)]
        rw [List.take_of_length_le (by omega)] at g
        exact hQ a' ds H' g
  refine ⟨n + 2, ?_⟩
  rw [ref9_CopyTree_eq]
  exact loop (n + 1) 0 none [] H (by omega) (Nat.zero_le _) (CT.nil H tPg)
end
end Go.Am
namespace Go.Am

section
variable {H : Hp} {Q : Post} {key v : ByteArray} {ks : List ByteArray}
theorem ref9_Slot_spec {a : Pl} {n : Nat} (h : Ss H a n ks) (hQ : Q (.tup [.s (.int .i64 (slotN ks key : Int)), .s (.bool (slotB ks key))]) H) : ref9_Slot [.g (.sl a n 1), .g (.str key)] H Q := by
  have hn := h.len
  have hlim := h.lim
  refine ⟨n + 2, ?_⟩
  rw [ref9_Slot_eq]
  have loop : ∀ (F i : Nat), n - i < F → i ≤ n → ref9_Slot.l3 F a n key (slotN (ks.take i) key : Int) (i : Int) H Q := by
    intro F
    induction F with
    | zero => intro i h; omega
    | succ F ih =>
      intro i hF hi
      rw [ref9_Slot.l3_eq]
      by_cases hik : i < n
      · have hle : slotN (ks.take i) key ≤ i := Nat.le_trans slotN_le (List.length_take_le _ _)
        rw [bite_t (by simp; omega), chk_true, h.rd i rfl (by omega), blt_eq, wrap_succ (by omega), wrap_succ (by omega)]
        have := ih (i + 1) (by omega) (by omega)
        rw [slotN_take i (by omega)] at this
        refine bite_of (fun e => ?_) (fun e => ?_)
        · rw [e] at this; exact this
        · rw [e] at this; exact this
      · rw [bite_f (by simp; omega), List.take_of_length_le (by omega)]
        have hle := slotN_le (ks := ks) (key := key)
        refine bite_of (fun e => ?_) (fun e => ?_)
        · have hlt : slotN ks key < ks.length := by simp at e; omega
          rw [chk_true, h.rd (slotN ks key) rfl hlt]
          have : slotB ks key = strEq ks[slotN ks key] key := by
            unfold slotB; rw [List.getElem?_eq_getElem hlt, strEq_def]; simp
          rw [this] at hQ
          exact hQ
        · have : slotB ks key = false := by
            unfold slotB
            rw [List.getElem?_eq_none (by simp at e; omega)]; simp
          rw [this] at hQ
          exact hQ
  exact loop _ 0 (by omega) (Nat.zero_le _)

/-- why nothing may be inserted (0: it may) -/
def formE (T : List Pg) (key v : ByteArray) : Bool := decide (0 < heightD T) && (decide (1 ≤ key.size) && (decide (key.size ≤ 6) && decide (v.size ≤ 10)))
def insE (T : List Pg) (key v : ByteArray) : Int := match formE T key v with
  | false => 1200
  | true => match (findK (entD T) key).isNone && decide (60 ≤ (entD T).length) with | true => 1201 | false => 0
structure InsOK (T A : List Pg) (key v : ByteArray) : Prop where
  pos : 0 < heightD A
  ent : entD A = insK (entD T) key v
  len : A.length = 48
  was : (findK (entD T) key).isSome = true → ∃ i p, T[i]? = some p ∧ p.leaf = true ∧ slotB p.keys key = true ∧ A = T.set i (setP p key v)
  anew : (findK (entD T) key).isSome = false → A = buildD (insK (entD T) key v)
theorem formE_true {T : List Pg} (h : formE T key v = true) : 0 < heightD T ∧ 1 ≤ key.size ∧ key.size ≤ 6 ∧ v.size ≤ 10 := by
  unfold formE at h
  simpa using h
set_option maxRecDepth 100000 in
theorem ref9_Insert_spec {x : Pl} {n : Nat} {cs : List PC} {T : List Pg} (hT : Tr H x n cs T) (hn : n * 80 ≤ 140737488351232) (hQ1 : ∀ H', insE T key v ≠ 0 → H <+: H' → Q (.tup [.a [.sl none 0 5], .s (.int .i64 (insE T key v))]) H')
    (hQ2 : insE T key v = 0 → 0 < heightD T → ∀ x' cs' A H', H <+: H' → Tr H' x' 48 cs' A → InsOK T A key v → Q (.tup [.a [.sl x' 48 5], .s (.int .i64 0)]) H') :
    ref9_Insert [.agg [.sl x n 5], .g (.str key), .g (.str v)] H Q := by
  refine ⟨130, ?_⟩
  rw [ref9_Insert_eq]
  refine ref9_Sound_spec hT fun H1 p1 => ?_
  simp only [rG_g, dB_bool]
  have bad : formE T key v = false → Q (.tup [.a [.sl none 0 5], .s (.int .i64 1200)]) H1 := fun e => by
    have e2 : insE T key v = 1200 := by unfold insE; rw [e]
    rw [e2] at hQ1
    exact hQ1 H1 (by decide) p1
  by_cases e0 : 0 < heightD T
  rotate_left
  · rw [decide_eq_false e0, bite_t (by decide)]
    exact bad (by unfold formE; rw [decide_eq_false e0]; rfl)
  rw [decide_eq_true e0, bite_f (by decide)]
  refine bite_of (fun e => bad (by unfold formE; simp at e; rw [decide_eq_false (show ¬ 1 ≤ key.size by omega)]; simp)) (fun k1 => ?_)
  refine bite_of (fun e => bad (by unfold formE; simp at e; rw [decide_eq_false (show ¬ key.size ≤ 6 by omega)]; simp)) (fun k2 => ?_)
  refine bite_of (fun e => bad (by unfold formE; simp at e; rw [decide_eq_false (show ¬ v.size ≤ 10 by omega)]; simp)) (fun k3 => ?_)
  have k1 : 1 ≤ key.size := by simp at k1; omega
  have k2 : key.size ≤ 6 := by simp at k2; omega
  have k3 : v.size ≤ 10 := by simp at k3; omega
  have hform : formE T key v = true := by unfold formE; simp; omega
  have hins : insE T key v = match (findK (entD T) key).isNone && decide (60 ≤ (entD T).length) with | true => 1201 | false => 0 := by unfold insE; rw [hform]
  obtain ⟨P, w⟩ := whole_of e0
  obtain ⟨st, s⟩ := SF.of e0
  have hn48 : n = 48 := by have := hT.lenT; have := w.len; omega
  subst hn48
  have hT1 := hT.mono p1
  have hc := w.count
  have loop : ∀ (F i : Nat), 48 - i + 70 < F → i ≤ 48 → (∀ (j : Nat) (q : Pg), j < i → T[j]? = some q → q.leaf = true → slotB q.keys key = false) → ref9_Insert.l4 F key v x 48 none 0 (i : Int) H1 Q := by
    intro F
    induction F with
    | zero => intro i h; omega
    | succ F ih =>
      intro i hF hi hno
      rw [ref9_Insert.l4_eq]
      by_cases hik : i < 48
      · obtain ⟨l, o, c, p, rfl, hcc, hp, hpc, g0, g1, g2, g3, g4⟩ := hT1.get hik
        have etN : tN (i : Int) = i := rfl
        have hpl : p.leaf = c.l := hpc.leaf
        have hidx : (leI 0 (i : Int) && ltI (i : Int) (nI 48)) = true := by simp; omega
        rw [bite_t (by simp; omega), chk_true]
        refine chk_of hidx ?_
        rw [pS_some, etN, rd_of (v := .sl c.a1 c.n1 1) (by exact g2), dL_sl]
        refine ref9_Slot_spec hpc.keys ?_
        simp only [rT_tup, uR_cons, rS_s, dI_int, dB_bool, uE_nil]
        rw [chk_true]
        refine chk_of hidx ?_
        rw [pS_some, rd_of (v := .bool c.l) (by exact g1), dB_bool, wrap_succ (by omega)]
        have next : (p.leaf = true → slotB p.keys key = false) → ref9_Insert.l4 F key v (some (l, o)) 48 none 0 ((i + 1 : Nat) : Int) H1 Q := fun hq => ih (i + 1) (by omega) (by omega) fun j q hj hjq hql => by
          by_cases e : j = i
          · subst e; rw [hp] at hjq; obtain rfl := Option.some.inj hjq; exact hq hql
          · exact hno j q (by omega) hjq hql
        refine bite_of (fun el => ?_) (fun el => next fun h => by rw [hpl, el] at h; cases h)
        refine bite_of (fun eb => ?_) (fun eb => next fun _ => eb)
        have hl : p.leaf = true := by rw [hpl, el]
        refine ref9_CopyTree_ct hT1 hn fun x' ds H2 g => ?_
        simp only [rA_agg, uC_cons, dL_sl, uN_nil]
        obtain ⟨l2, o2, c2, p2, rfl, hcc2, hp2, hpc2, f0, f1, f2, f3, f4⟩ := g.ot.tr.get hik
        rw [hp] at hp2; obtain rfl := Option.some.inj hp2
        rw [chk_true]
        refine chk_of hidx ?_
        rw [pS_some, rd_of (v := .sl c2.a2 c2.n2 1) (by exact f3), dL_sl, chk_true]
        obtain ⟨hsl, hse⟩ := slot_at eb
        have hmay : MayP p := by
          have := w.leafIn hp hl
          exact ((mayB_iff p).1 (s.used hp (by
            have := s.metU hp
            cases hu : p.used with
            | true => rfl
            | false =>
              have hz := rest_at s.rest (by rw [s.len]; exact hik) hp
              rw [this, hu] at hz
              unfold nothingB at hz
              rw [hl] at hz; simp at hz)).2.1)
        have hvl := (hmay.2.leaf hl).1
        have hn2 := hpc2.vals.len
        refine chk_of (by simp; omega) ?_
        have hT48 := w.len
        have hdl := g.ot.len
        have hTi : T[i]'(by omega) = p := by rw [List.getElem?_eq_getElem (by omega)] at hp; exact Option.some.inj hp
        have hdi : ds[i]'(by omega) = c2 := by rw [List.getElem?_eq_getElem (by omega)] at hcc2; exact Option.some.inj hcc2
        obtain ⟨l3, e3, hw⟩ := g.val (i := i) (j := slotN p.keys key) (by omega) (by omega) (by rw [hTi]; omega) v (K := fun H34 => Q (.tup [.a [.sl (some (l2, o2)) 48 5], .s (.int .i64 0)]) H34) (fun H' g' => by
          rw [hTi] at g'
          obtain ⟨w', hfs⟩ := w.setVal hp hl eb k3
          have hz : insE T key v = 0 := by rw [hins]; cases hq : findK (entD T) key with | none => rw [hq] at hfs; cases hfs | some _ => rfl
          exact hQ2 hz e0 _ _ _ H' (p1.trans g'.pre) g'.ot.tr ⟨w'.pos', w'.sound.2, w'.len, fun _ => ⟨i, p, hp, hl, eb, rfl⟩, fun q => (by rw [hfs] at q; cases q)⟩)
        rw [hdi] at e3
        rw [e3, pS_some]
        have ez : 0 + tN (slotN p.keys key : Int) * 1 = slotN p.keys key := by rw [Nat.zero_add, Nat.mul_one]; rfl
        rw [ez]
        exact hw
      · have hi48 : i = 48 := by omega
        subst hi48
        rw [bite_f (by simp)]
        have hnone : findK (entD T) key = none := w.noLeaf fun j q hj hjl => hno j q (by have := (List.getElem?_eq_some_iff.1 hj).1; rw [w.len] at this; exact this) hj hjl
        refine ⟨49, ?_⟩
        refine ref9_all_main hT1 49 0 H1 _ none 0 [] s.good (by omega) (List.prefix_refl _) (.inl ⟨rfl, rfl, rfl⟩) rfl (by unfold entD at hc; omega) fun a m H2 p2 hO hl => ?_
        simp only [rG_g, dL_sl]
        rw [List.nil_append] at hO hl
        have hm60 : m ≤ 60 := by rw [← hl]; exact hc
        refine bite_of (fun ef => ?_) (fun ef => ?_)
        · have hf : insE T key v = 1201 := by
            rw [hins, hnone]
            have : 60 ≤ (entD T).length := by show 60 ≤ (allD T 49 0).length; rw [hl]; simp at ef; omega
            rw [decide_eq_true this]; rfl
          rw [hf] at hQ1
          exact hQ1 H2 (by decide) (p1.trans p2)
        have hz : insE T key v = 0 := by
          rw [hins]
          have : ¬ 60 ≤ (entD T).length := by show ¬ 60 ≤ (allD T 49 0).length; rw [hl]; simp at ef; omega
          rw [decide_eq_false this, Bool.and_false]
        have hm59 : m ≤ 59 := by simp at ef; omega
        have kv := hO.kv hl
        have hasc : Asc (entD T) := w.sub.asc.1
        have hok : KVok (entD T) := w.sub.asc.2
        -- at the end
        have fin : ∀ i : Nat, i ≤ m → (∀ x ∈ (entD T).take i, blt x.1 key = true) → (∀ x ∈ (entD T).drop i, blt key x.1 = true) →
            chk true (chk (leI 0 (i : Int)) (chk ((leN 0 (tN (i : Int))) && ((leN (tN (i : Int)) m) || (room H2 a ((tN (i : Int)) * 2)))) (chk true (rdN H2 (shf a 0) (((tN (i : Int)) - 0) * 2) fun c22 =>
              chk true (Am.ap H2 tKV 2 32 none 0 c22 ((tN (i : Int)) - 0) fun x23 n24 H25 =>
              chk true (Am.ap H25 tKV 2 32 x23 n24 [(.str key), (.str v)] 1 fun x26 n27 H28 =>
              chk true (chk (leI 0 (i : Int)) (chk (leN (tN (i : Int)) m) (chk true (rdN H28 (shf a ((tN (i : Int)) * 2)) ((m - (tN (i : Int))) * 2) fun c29 =>
              chk true (Am.ap H28 tKV 2 32 x26 n27 c29 (m - (tN (i : Int))) fun x30 n31 H32 =>
              cl ref9_Build [(.g (.sl x30 n31 2))] H32 fun r33 H34 =>
              rA r33 fun c35 =>
              uC c35 fun v36 c37 =>
              dL 5 v36 fun x38 n39 =>
              uN c37 (Q (.tup [(.a [(.sl x38 n39 5)]), (.s (.int .i64 0))]) H34)))))))))))) := fun i hi h1 h2 => by
          have etN : tN (i : Int) = i := rfl
          have kvA := kv.part 0 i (by omega)
          have kvB := kv.part i (m - i) (by omega)
          rw [List.drop_zero] at kvA
          rw [List.take_of_length_le (l := (allD T 49 0).drop i) (by rw [List.length_drop]; omega)] at kvB
          change Kv H2 (shf a (0 * 2)) i ((entD T).take i) at kvA
          change Kv H2 (shf a (i * 2)) (m - i) ((entD T).drop i) at kvB
          rw [etN, chk_true]
          refine chk_of (by simp) ?_
          refine chk_of (by simp; omega) ?_
          have sh0 : shf a 0 = shf a (0 * 2) := rfl
          rw [chk_true, Nat.sub_zero, sh0, rdN_of kvA.cells, chk_true]
          refine ap_z (H0 := H2) (by omega) (List.prefix_refl _) (.inl ⟨rfl, by omega, rfl⟩) (by rw [kvCells_length, kvA.len]) (by unfold Lim; omega) fun a3 H3 o3 x3 f3 => ?_
          rw [List.nil_append, Nat.zero_add] at o3
          rw [Nat.zero_add, chk_true]
          refine ap_z (H0 := H2) (by omega) x3.pre o3 (by rfl) (by unfold Lim; omega) fun a4 H4 o4 x4 f4 => ?_
          rw [chk_true]
          refine chk_of (by simp) ?_
          refine chk_of (by simp; omega) ?_
          have e34 : H2 <+: H4 := x4.pre
          rw [chk_true, rdN_of (kvB.mono e34).cells, chk_true]
          refine ap_z (H0 := H2) (by omega) x4.pre o4 (by rw [kvCells_length, kvB.len]) (by unfold Lim; omega) fun a5 H5 o5 x5 f5 => ?_
          have hput : insK (entD T) key v = (entD T).take i ++ (key, v) :: (entD T).drop i := by
            have := insK_new (v := v) h1 h2
            rw [List.take_append_drop] at this
            exact this
          have hcell : kvCells ((entD T).take i) ++ [.str key, .str v] ++ kvCells ((entD T).drop i) = kvCells (insK (entD T) key v) := by
            rw [hput, kvCells_append]
            show _ = kvCells ((entD T).take i) ++ (.str key :: .str v :: kvCells ((entD T).drop i))
            simp
          rw [hcell] at o5
          have hlen : (insK (entD T) key v).length = i + 1 + (m - i) := by
            rw [hput, List.length_append, List.length_cons, kvA.len, kvB.len]; omega
          refine ref9_Build_spec (o5.kv hlen) (by omega) fun H6 tp cs' p6 oT => ?_
          simp only [rA_agg, uC_cons, dL_sl, uN_nil]
          obtain ⟨b1, b2⟩ := build_sound (insK_asc hasc key v) (insK_ok hok k1 k2 k3) (by omega)
          exact hQ2 hz e0 _ _ _ H6 (p1.trans (p2.trans (x5.pre.trans p6))) oT.tr ⟨b1, b2, oT.lenT, fun q => (by rw [hnone] at q; cases q), fun _ => rfl⟩
        have l15 : ∀ (F i : Nat), m - i < F → i ≤ m → (∀ x ∈ (entD T).take i, blt x.1 key = true) → ref9_Insert.l15 F key v none 0 a m (i : Int) H2 Q := by
          intro F
          induction F with
          | zero => intro i h; omega
          | succ F ihF =>
            intro i hF hi h1
            rw [ref9_Insert.l15_eq]
            by_cases him : i < m
            · obtain ⟨l, o, rfl, q1, q2⟩ := kv.get (i := i) (by show i < (allD T 49 0).length; omega)
              have etN : tN (i : Int) = i := rfl
              have hil : i < (entD T).length := by show i < (allD T 49 0).length; omega
              rw [bite_t (by simp; omega), chk_true]
              refine chk_of (by simp; omega) ?_
              rw [pS_some, etN, Nat.add_zero, rd_of q1, dS_str, blt_eq]
              refine bite_of (fun e => ?_) (fun e => ?_)
              · rw [wrap_succ (by omega)]
                refine ihF (i + 1) (by omega) (by omega) fun x hx => ?_
                rw [List.take_succ_eq_append_getElem hil] at hx
                rcases List.mem_append.1 hx with z | z
                · exact h1 x z
                · rw [List.mem_singleton.1 z]; exact e
              · have hne : (entD T)[i].1 ≠ key := fun q => by
                  have := findK_mem hasc (List.getElem_mem hil)
                  rw [q, hnone] at this; cases this
                have hgt := not_blt e hne
                have hd : ∀ x ∈ (entD T).drop i, blt key x.1 = true := fun x hx => by
                  rw [List.drop_eq_getElem_cons hil] at hx
                  rcases List.mem_cons.1 hx with z | z
                  · rw [z]; exact hgt
                  · have hd := hasc
                    rw [← List.take_append_drop i (entD T)] at hd
                    have hd2 := (List.pairwise_append.1 hd).2.1
                    rw [List.drop_eq_getElem_cons hil] at hd2
                    exact blt_trans hgt ((List.pairwise_cons.1 hd2).1 x z)
                exact fin i hi h1 hd
            · rw [bite_f (by simp; omega)]
              refine fin i hi h1 fun x hx => ?_
              rw [List.drop_of_length_le (by show (allD T 49 0).length ≤ i; omega)] at hx
              simp at hx
        exact l15 F 0 (by omega) (by omega) (fun x hx => by simp at hx)
  exact loop 129 0 (by omega) (by omega) (fun j q hj => by omega)

theorem insOK_all {T A : List Pg} (h : InsOK T A key v) (e0 : 0 < heightD T) : allE A = insK (allE T) key v ∧ ∀ e, errE e A = 0 := by
  have e1 : allE A = entD A := by unfold allE; rw [decide_eq_true h.pos]
  have e2 : allE T = entD T := by unfold allE; rw [decide_eq_true e0]
  exact ⟨by rw [e1, e2, h.ent], fun e => by unfold errE; rw [decide_eq_true h.pos]⟩
set_option maxRecDepth 100000 in
theorem law11_FindNext_spec {z : Pl} {n : Nat} {cs : List PC} {T : List Pg} {other : ByteArray} (hT : Tr H z n cs T) (hn : n * 80 ≤ 140737488351232) (hQ : ∀ H', Q (.g (.bool true)) H') : law11_FindNext [.agg [.sl z n 5], .g (.str key), .g (.str v), .g (.str other)] H Q := by
  refine ⟨1, ?_⟩
  rw [law11_FindNext_eq]
  refine law11_awake_spec fun H1 p1 => ?_
  simp only [rG_g, dB_bool]
  rw [bite_f (by decide)]
  refine ref9_Insert_spec (hT.mono p1) hn (fun H2 hne p2 => ?_) (fun hz e0 x cs' A H2 p2 hA hI => ?_)
  · simp only [rT_tup, uR_cons, rC_a, uC_cons, dL_sl, uN_nil, rS_s, dI_int, uE_nil]
    rw [bite_t (by simpa using hne)]
    exact hQ _
  simp only [rT_tup, uR_cons, rC_a, uC_cons, dL_sl, uN_nil, rS_s, dI_int, uE_nil]
  rw [bite_f (by decide)]
  obtain ⟨eA, eE⟩ := insOK_all hI e0
  have eT : errE 1100 T = 0 := by unfold errE; rw [decide_eq_true e0]
  have fk : ∀ k, findE A k = match decide (key = k) with | true => some v | false => findE T k := fun k => by
    unfold findE; rw [eA]; exact insK_find (allE_asc T) key v k
  refine find_Find_spec hA fun H3 p3 => ?_
  simp only [rT_tup, uR_cons, rS_s, dS_str, dB_bool, dI_int, uE_nil]
  refine find_Find_spec (hT.mono (p1.trans (p2.trans p3))) fun H4 p4 => ?_
  simp only [rT_tup, uR_cons, rS_s, dS_str, dB_bool, dI_int, uE_nil]
  refine find_Find_spec (hA.mono (p3.trans p4)) fun H5 p5 => ?_
  simp only [rT_tup, uR_cons, rS_s, dS_str, dB_bool, dI_int, uE_nil]
  rw [eE, eT, fk key, fk other, decide_eq_true rfl]
  simp only [Option.isSome_some, Option.getD_some]
  refine law0_Num_spec ?_
  simp only [rG_g, dI_int]
  rw [bite_t (by decide), bite_true, bite_t (by simp)]
  refine law0_Num_spec ?_
  simp only [rG_g, dI_int]
  rw [bite_t (by decide)]
  refine law0_Num_spec ?_
  simp only [rG_g, dI_int]
  rw [bite_t (by decide)]
  refine bite_of (fun e => hQ _) (fun e => ?_)
  have : ¬ key = other := fun q => by simp at e; exact e q.symm
  rw [decide_eq_false this, bite_t (by simp)]
  simp only [eqB_def, beq_self_eq_true]
  exact hQ _
set_option maxRecDepth 100000 in
theorem law14_ScanInserts_spec {z : Pl} {n : Nat} {cs : List PC} {T : List Pg} (hT : Tr H z n cs T) (hn : n * 80 ≤ 140737488351232) (hQ : ∀ H', Q (.g (.bool true)) H') : law14_ScanInserts [.agg [.sl z n 5], .g (.str key), .g (.str v)] H Q := by
  refine ⟨80, ?_⟩
  rw [law14_ScanInserts_eq]
  refine law14_awake_spec fun H1 p1 => ?_
  simp only [rG_g, dB_bool]
  rw [bite_f (by decide)]
  refine ref9_Insert_spec (hT.mono p1) hn (fun H2 hne p2 => ?_) (fun hz e0 x cs' A H2 p2 hA hI => ?_)
  · simp only [rT_tup, uR_cons, rC_a, uC_cons, dL_sl, uN_nil, rS_s, dI_int, uE_nil]
    rw [bite_t (by simpa using hne)]
    exact hQ _
  simp only [rT_tup, uR_cons, rC_a, uC_cons, dL_sl, uN_nil, rS_s, dI_int, uE_nil]
  rw [bite_f (by decide)]
  obtain ⟨eA, eE⟩ := insOK_all hI e0
  have eT : errE 1400 T = 0 := by unfold errE; rw [decide_eq_true e0]
  refine scan_All_spec (hT.mono (p1.trans p2)) fun a m H3 p3 o3 l3 => ?_
  simp only [rT_tup, uR_cons, rS_s, dL_sl, dI_int, uE_nil]
  refine scan_All_spec (hA.mono p3) fun a' m' H4 p4 o4 l4 => ?_
  simp only [rT_tup, uR_cons, rS_s, dL_sl, dI_int, uE_nil]
  rw [eE, eT]
  refine law0_Num_spec ?_
  simp only [rG_g, dI_int]
  rw [bite_f (by decide)]
  refine law0_Num_spec ?_
  simp only [rG_g, dI_int]
  rw [bite_f (by decide)]
  have la := allE_len T
  have lb := allE_len A
  obtain ⟨L, M, R, q1, q2, q3, q4, q5⟩ := insK_split key v (allE_asc T)
  rw [eA, q2] at o4 l4
  rw [eA, q2] at lb
  rw [q1] at o3 l3 la
  have kp := (o3.kv l3).mono p4
  have kq := o4.kv l4
  simp only [List.length_append, List.length_cons] at l3 l4 la lb
  have hM1 : M.length ≤ 1 := by rcases q3 with rfl | ⟨v0, rfl⟩ <;> simp
  -- behind the key
  have after : ∀ (F j : Nat), R.length - j < F → j ≤ R.length → law14_ScanInserts.l12 F key v a m a' m' ((L.length + M.length + j : Nat) : Int) true ((L.length + 1 + j : Nat) : Int) H4 Q := by
    intro F
    induction F with
    | zero => intro j h; omega
    | succ F ih =>
      intro j hF hj
      rw [law14_ScanInserts.l12_eq]
      by_cases hjr : j < R.length
      · obtain ⟨l, o, ea, x1, x2⟩ := kq.get (i := L.length + 1 + j) (by simp; omega)
        obtain ⟨l', o', ea', y1, y2⟩ := kp.get (i := L.length + M.length + j) (by simp; omega)
        subst ea; subst ea'
        have g1 : (L ++ (key, v) :: R)[L.length + 1 + j]'(by simp; omega) = R[j] := by
          rw [List.getElem_append_right (by omega)]
          simp only [show L.length + 1 + j - L.length = j + 1 by omega, List.getElem_cons_succ]
        have g2 : (L ++ M ++ R)[L.length + M.length + j]'(by simp; omega) = R[j] := by
          rw [List.getElem_append_right (by simp)]
          congr 1
          simp
        rw [g1] at x1 x2
        rw [g2] at y1 y2
        have etN : tN ((L.length + 1 + j : Nat) : Int) = L.length + 1 + j := rfl
        have etN' : tN ((L.length + M.length + j : Nat) : Int) = L.length + M.length + j := rfl
        have hidx : (leI 0 ((L.length + 1 + j : Nat) : Int) && ltI ((L.length + 1 + j : Nat) : Int) (nI m')) = true := by simp; omega
        rw [bite_t (by simp; omega), chk_true]
        refine chk_of hidx ?_
        have hgt := q5 R[j] (List.getElem_mem hjr)
        rw [pS_some, etN, Nat.add_zero, rd_of x1, dS_str, bite_f (by simp; exact Ne.symm (blt_ne hgt)), bite_f (by simp; omega), chk_true]
        refine chk_of (by simp; omega) ?_
        rw [pS_some, etN', rd_of y1, dS_str, rd_of y2, dS_str, chk_true]
        refine chk_of hidx ?_
        rw [pS_some, rd_of x1, dS_str, rd_of x2, dS_str, bite_f (by simp), wrap_succ (by omega), wrap_succ (by omega)]
        exact ih (j + 1) (by omega) (by omega)
      · rw [bite_f (by simp; omega), bite_true]
        have : (eqI ((L.length + M.length + j : Nat) : Int) (nI m)) = true := by simp; omega
        rw [this]
        exact hQ _
  have before : ∀ (F i : Nat), L.length - i + R.length + 2 < F → i ≤ L.length → law14_ScanInserts.l12 F key v a m a' m' (i : Int) false (i : Int) H4 Q := by
    intro F
    induction F with
    | zero => intro i h; omega
    | succ F ih =>
      intro i hF hi
      rw [law14_ScanInserts.l12_eq]
      have etN : tN (i : Int) = i := rfl
      have hidx : (leI 0 (i : Int) && ltI (i : Int) (nI m')) = true := by simp; omega
      obtain ⟨l, o, ea, x1, x2⟩ := kq.get (i := i) (by simp; omega)
      subst ea
      rw [bite_t (by simp; omega), chk_true]
      refine chk_of hidx ?_
      rw [pS_some, etN, Nat.add_zero, rd_of x1, dS_str]
      by_cases hil : i < L.length
      · obtain ⟨l', o', ea', y1, y2⟩ := kp.get (i := i) (by simp; omega)
        subst ea'
        have g1 : (L ++ (key, v) :: R)[i]'(by simp; omega) = L[i] := by rw [List.getElem_append_left hil]
        have g2 : (L ++ M ++ R)[i]'(by simp; omega) = L[i] := by rw [List.getElem_append_left (by simp; omega), List.getElem_append_left hil]
        rw [g1] at x1 x2 ⊢
        rw [g2] at y1 y2
        have hlt := q4 L[i] (List.getElem_mem hil)
        rw [bite_f (by simp; exact blt_ne hlt), bite_f (by simp; omega), chk_true]
        refine chk_of (by simp; omega) ?_
        rw [pS_some, rd_of y1, dS_str, rd_of y2, dS_str, chk_true]
        refine chk_of hidx ?_
        rw [pS_some, rd_of x1, dS_str, rd_of x2, dS_str, bite_f (by simp), wrap_succ (by omega)]
        exact ih (i + 1) (by omega) (by omega)
      · have hil : i = L.length := by omega
        subst hil
        have g1 : (L ++ (key, v) :: R)[L.length]'(by simp) = (key, v) := by simp
        rw [g1] at x1 x2 ⊢
        rw [bite_t (by simp), bite_false, chk_true]
        refine chk_of hidx ?_
        rw [pS_some, rd_of x2, dS_str, bite_f (by simp), wrap_succ (by omega)]
        have none_ : M = [] → law14_ScanInserts.l12 F key v a m (some (l, o)) m' (L.length : Int) true ((L.length + 1 : Nat) : Int) H4 Q := fun e => by
          subst e
          have := after F 0 (by omega) (by omega)
          simpa using this
        refine bite_of (fun e => ?_) (fun e => none_ (by
          rcases q3 with z | ⟨v0, z⟩
          · exact z
          · subst z; simp at e l3; omega))
        obtain ⟨l', o', ea', y1, y2⟩ := kp.get (i := L.length) (by simp at e; simp; omega)
        subst ea'
        rw [chk_true]
        refine chk_of (by simp at e; simp; omega) ?_
        rw [pS_some, Nat.add_zero, rd_of y1, dS_str]
        rcases q3 with z | ⟨v0, z⟩
        · subst z
          have hR : 0 < R.length := by simp at e l3; omega
          have g2 : (L ++ [] ++ R)[L.length]'(by simp; omega) = R[0] := by
            simp only [List.append_nil]
            rw [List.getElem_append_right (by omega)]
            simp
          rw [g2]
          have hgt := q5 R[0] (List.getElem_mem hR)
          rw [bite_f (by simp; exact Ne.symm (blt_ne hgt))]
          exact none_ rfl
        · subst z
          have g2 : (L ++ [(key, v0)] ++ R)[L.length]'(by simp) = (key, v0) := by simp
          rw [g2, bite_t (by simp)]
          have := after F 0 (by omega) (by omega)
          simpa using this
  exact before 79 0 (by omega) (by omega)
end
end Go.Am
