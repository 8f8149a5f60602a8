import Derived.Test.YtiemhjehieipdaaM4
set_option linter.unusedVariables false
set_option linter.unusedSimpArgs false
namespace Go.Am

/-! a tree whose walk goes well, without the walk's state -/
def WfT (T : List Pg) : Nat → Nat → Prop
  | 0, _ => False
  | f + 1, a => ∃ p, T[a]? = some p ∧ MayP p ∧ ∀ k ∈ p.kids, WfT T f k.toNat
theorem walkD_good (T : List Pg) : ∀ (f a deep : Nat) (lo hi : ByteArray) (st st' : WS), walkD T f a deep lo hi st = some st' → WfT T f a := by
  intro f
  induction f with
  | zero => intro _ _ _ _ _ _ h; cases h
  | succ f ih =>
    intro a deep lo hi st st' h
    obtain ⟨p, hp, hok, hcase⟩ := walkD_step h
    obtain ⟨_, hmay, _, _⟩ := okD_met hok
    have hm := (mayB_iff p).1 hmay
    refine ⟨p, hp, hm, fun k hk => ?_⟩
    rcases hcase with ⟨hl, _⟩ | ⟨_, hks⟩
    · rw [(hm.2.leaf hl).2.1] at hk; simp at hk
    · have key := kidsD_ind' (P := fun ks _ _ => ∀ k ∈ ks, WfT T f k.toNat) (fun _ k hk => (by simp at hk)) (fun k ks i s s1 s' hr hP k' hk' => by
        rcases List.mem_cons.1 hk' with e | e
        · rw [e]; exact ih _ _ _ _ _ _ hr
        · exact hP k' e) _ _ _ _ hks
      exact key k hk
theorem SF.good {T : List Pg} {st : WS} (s : SF T st) : WfT T 49 0 := walkD_good T _ _ _ _ _ _ _ s.walk
theorem WfT_vals {p : Pg} (h : MayP p) : p.vals.length ≤ p.keys.length ∧ (p.keys.zip p.vals).length = p.vals.length := by
  have : p.vals.length ≤ p.keys.length := by
    cases hl : p.leaf with
    | true => have := (h.2.leaf hl).1; omega
    | false => have := (h.2.inner hl).2.1; rw [this]; simp
  exact ⟨this, by rw [List.length_zip]; omega⟩
theorem flat_len {T : List Pg} {f : Nat} (ks : List Int) (i : Nat) (hi : i < ks.length) : (ks.drop i).flatMap (fun k => allD T f k.toNat) = allD T f (ks[i]).toNat ++ (ks.drop (i + 1)).flatMap (fun k => allD T f k.toNat) := by
  rw [List.drop_eq_getElem_cons hi, List.flatMap_cons]
theorem allD_eq {T : List Pg} {f a : Nat} {p : Pg} (hp : T[a]? = some p) : allD T (f + 1) a = p.keys.zip p.vals ++ p.kids.flatMap fun k => allD T f k.toNat := by rw [allD, hp]
theorem take_zip {α : Type} (l : List α) (i : Nat) (hi : i < l.length) : l.take (i + 1) = l.take i ++ [l[i]] := by rw [List.take_succ_eq_append_getElem hi]

section
variable {H0 : Hp} {x : Pl} {cs : List PC} {T : List Pg}
/-- append a pair -/
theorem ap_kv' {H0 H : Hp} {a : Pl} {n : Nat} {ps : KV} {K : Pl → Nat → Hp → Prop} (h0 : H0 <+: H) (h : Own H H0.length tKV a (n * 2) (kvCells ps)) (hl : ps.length = n) (x y : ByteArray) (hn : n ≤ 100000)
    (hK : ∀ a' H', H0 <+: H' → Own H' H0.length tKV a' ((n + 1) * 2) (kvCells (ps ++ [(x, y)])) → (ps ++ [(x, y)]).length = n + 1 → Ex H0 a H H' → (∀ l o, a' = some (l, o) → H.length ≤ l ∧ o = 0) → K a' (n + 1) H') : ap H tKV 2 32 a n [.str x, .str y] 1 K :=
  ap_z (by omega) h0 h (by rfl) (by unfold Lim; omega) fun a' H' o e f => hK a' H' e.pre (by rw [kvCells_append']; exact o) (by simp [hl]) e f
where
  kvCells_append' : ∀ {ps qs : KV}, kvCells (ps ++ qs) = kvCells ps ++ kvCells qs := by intro ps qs; simp [kvCells]
set_option maxRecDepth 100000 in
theorem ref9_all_main (hT : Tr H0 x 48 cs T) : ∀ (f at_ : Nat) (H : Hp) (Q : Post) (a : Pl) (n : Nat) (ps : KV), WfT T f at_ → at_ < 48 → H0 <+: H → Own H H0.length tKV a (n * 2) (kvCells ps) → ps.length = n → n + (allD T f at_).length ≤ 1000 →
    (∀ a' m H', H0 <+: H' → Own H' H0.length tKV a' (m * 2) (kvCells (ps ++ allD T f at_)) → (ps ++ allD T f at_).length = m → Q (.g (.sl a' m 2)) H') →
    ref9_all.at f [.agg [.sl x 48 5], .g (.int .i64 (at_ : Int)), .g (.sl a n 2)] H Q := by
  intro f
  induction f with
  | zero => intro _ _ _ _ _ _ h; exact h.elim
  | succ f ih =>
    intro at_ H Q a n ps hg hat h0 hO hl hb hQ
    obtain ⟨p, hp, hm, hkids⟩ := hg
    obtain ⟨l, o, c, p', rfl, hc, hp', hpc, g0, g1, g2, g3, g4⟩ := hT.get hat
    rw [hp] at hp'; cases hp'
    obtain ⟨hv1, hv2⟩ := WfT_vals hm
    rw [allD_eq hp] at hb hQ
    rw [List.length_append, hv2] at hb
    have hn1 := hpc.keys.len
    have hn2 := hpc.vals.len
    have hn3 := hpc.kids.len
    have hl3 := hpc.kids.lim
    have hl2 := hpc.vals.lim
    have k48 : ∀ k ∈ p.kids, 1 ≤ k ∧ k < 48 := fun k hk => by
      cases hlf : p.leaf with
      | true => rw [(hm.2.leaf hlf).2.1] at hk; simp at hk
      | false => exact (hm.2.inner hlf).2.2.2.1 k hk
    -- the kids
    have l7 : ∀ (F i : Nat) (H : Hp) (a : Pl) (n : Nat) (qs : KV), p.kids.length - i < F → i ≤ p.kids.length → H0 <+: H → Own H H0.length tKV a (n * 2) (kvCells qs) → qs.length = n → n + ((p.kids.drop i).flatMap fun k => allD T f k.toNat).length ≤ 1000 →
        qs ++ ((p.kids.drop i).flatMap fun k => allD T f k.toNat) = ps ++ (p.keys.zip p.vals ++ p.kids.flatMap fun k => allD T f k.toNat) →
        ref9_all.l7 (ref9_all.at f) F a n (some (l, o)) 48 c.u c.l c.a1 c.n1 c.a2 c.n2 c.a3 c.n3 (i : Int) H Q := by
      intro F
      induction F with
      | zero => intro i _ _ _ _ h; omega
      | succ F ihF =>
        intro i H a n qs hF hi h0 hO hl hb he
        rw [ref9_all.l7_eq]
        by_cases hik : i < p.kids.length
        · rw [flat_len p.kids i hik] at hb he
          rw [List.length_append] at hb
          have hmem := List.getElem_mem hik
          have hk := k48 _ hmem
          have ek : p.kids[i] = ((p.kids[i].toNat : Nat) : Int) := by omega
          rw [bite_t (by simp; omega), chk_true, (hpc.mono h0).kids.rd i rfl hik]
          generalize hkk : p.kids[i] = kk at *
          rw [ek]
          refine ih kk.toNat H _ a n qs (hkids kk hmem) (by omega) h0 hO hl (by omega) fun a' m H' h0' hO' hl' => ?_
          simp only [rG_g, dL_sl]
          rw [wrap_succ (by omega)]
          exact ihF (i + 1) H' a' m _ (by omega) (by omega) h0' hO' hl' (by rw [← hl', List.length_append, hl]; omega) (by rw [List.append_assoc]; exact he)
        · rw [bite_f (by simp; omega)]
          rw [List.drop_of_length_le (by omega), List.flatMap_nil, List.append_nil] at he
          subst he
          exact hQ a n H h0 hO hl
    -- the values
    have l3 : ∀ (F i : Nat) (H : Hp) (a : Pl) (n : Nat), p.vals.length - i + p.kids.length + 2 < F → i ≤ p.vals.length → H0 <+: H → Own H H0.length tKV a (n * 2) (kvCells (ps ++ (p.keys.zip p.vals).take i)) → (ps ++ (p.keys.zip p.vals).take i).length = n →
        ref9_all.l3 (ref9_all.at f) F a n (some (l, o)) 48 c.u c.l c.a1 c.n1 c.a2 c.n2 c.a3 c.n3 (i : Int) H Q := by
      intro F
      induction F with
      | zero => intro i _ _ _ h; omega
      | succ F ihF =>
        intro i H a n hF hi h0 hO hl'
        rw [ref9_all.l3_eq]
        have hnn : n = ps.length + i := by rw [← hl', List.length_append, List.length_take, hv2]; omega
        by_cases hik : i < p.vals.length
        · rw [bite_t (by simp; omega), chk_true, (hpc.mono h0).keys.rd i rfl (by omega), chk_true, (hpc.mono h0).vals.rd i rfl hik, chk_true]
          refine ap_kv' h0 hO hl' _ _ (by omega) fun a' H' h0' hO' hl2 _ _ => ?_
          rw [wrap_succ (by omega)]
          have e : (p.keys.zip p.vals)[i]'(by omega) = (p.keys[i]'(by omega), p.vals[i]) := by simp
          have e2 : ps ++ (p.keys.zip p.vals).take (i + 1) = ps ++ (p.keys.zip p.vals).take i ++ [(p.keys[i]'(by omega), p.vals[i])] := by
            rw [take_zip _ i (by omega), e, List.append_assoc]
          exact ihF (i + 1) H' a' (n + 1) (by omega) (by omega) h0' (by rw [e2]; exact hO') (by rw [e2]; exact hl2)
        · rw [bite_f (by simp; omega)]
          have e : (p.keys.zip p.vals).take i = p.keys.zip p.vals := List.take_of_length_le (by omega)
          rw [e] at hO hl'
          refine l7 F 0 H a n _ (by omega) (by omega) h0 hO hl' ?_ (by rw [List.drop_zero, List.append_assoc])
          rw [List.drop_zero]
          omega
    refine ⟨p.vals.length + p.kids.length + 4, ?_⟩
    rw [ref9_all_eq, chk_true]
    refine chk_of (by simp; omega) ?_
    have etN : tN (at_ : Int) = at_ := rfl
    rw [pS_some, etN, rdPage_of (gt_pre h0 g0) (gt_pre h0 g1) (gt_pre h0 g2) (gt_pre h0 g3) (gt_pre h0 g4)]
    exact l3 _ 0 H a n (by omega) (by omega) h0 (by simpa using hO) (by simpa using hl)
end

/-- what a scan answers -/
def inR (lo hi : ByteArray) (x : ByteArray × ByteArray) : Bool := !(blt x.1 lo) && (decide (hi.size = 0) || blt x.1 hi)
def allE (T : List Pg) : KV := match decide (0 < heightD T) with | true => entD T | false => []
def errE (e : Int) (T : List Pg) : Int := match decide (0 < heightD T) with | true => 0 | false => e
def scanE (T : List Pg) (lo hi : ByteArray) : KV := (allE T).filter (inR lo hi)
theorem allE_len (T : List Pg) : (allE T).length ≤ 60 := by
  unfold allE
  by_cases h : 0 < heightD T
  · rw [decide_eq_true h]
    obtain ⟨st, s⟩ := SF.of h
    exact s.ents.2.2.2
  · rw [decide_eq_false h]; simp
theorem scanE_all (T : List Pg) : scanE T (mkS []) (mkS []) = allE T := by
  unfold scanE
  rw [List.filter_eq_self]
  intro x _
  unfold inR
  rw [blt_mk]; rfl
section
variable {H : Hp} {Q : Post} {x : Pl} {n : Nat} {cs : List PC} {T : List Pg}
theorem ref9_All_spec (hT : Tr H x n cs T) (hQ : ∀ a m H', H <+: H' → Own H' H.length tKV a (m * 2) (kvCells (allE T)) → (allE T).length = m → Q (.tup [.s (.sl a m 2), .s (.int .i64 (errE 1400 T))]) H') : ref9_All [.agg [.sl x n 5]] H Q := by
  refine ⟨1, ?_⟩
  rw [ref9_All_eq]
  refine ref9_Sound_spec hT fun H1 p1 => ?_
  simp only [rG_g, dB_bool]
  unfold allE errE at hQ
  by_cases h : 0 < heightD T
  · rw [decide_eq_true h] at hQ ⊢
    rw [bite_f (by decide)]
    obtain ⟨st, s⟩ := SF.of h
    have hn : n = 48 := by have := hT.lenT; have := s.len; omega
    subst hn
    refine ⟨49, ?_⟩
    refine ref9_all_main (hT.mono p1) 49 0 H1 _ none 0 [] s.good (by omega) (List.prefix_refl _) (.inl ⟨rfl, rfl, rfl⟩) rfl (by have := s.ents.2.2.2; unfold entD at this; omega) fun a m H' p' hO hl => ?_
    simp only [rG_g, dL_sl]
    exact hQ a m H' (p1.trans p') (hO.base (pre_len p1)) hl
  · rw [decide_eq_false h] at hQ ⊢
    rw [bite_t (by decide)]
    exact hQ none 0 H1 p1 (.inl ⟨rfl, rfl, rfl⟩) rfl
end
end Go.Am
namespace Go.Am

theorem kvCells_append {ps qs : KV} : kvCells (ps ++ qs) = kvCells ps ++ kvCells qs := by simp [kvCells]
theorem inR_eq (lo hi k v : ByteArray) : inR lo hi (k, v) = (!(blt k lo) && (decide (hi = mkS []) || blt k hi)) := by
  unfold inR
  dsimp only
  congr 2
  rw [decide_eq_decide]
  exact (empty_size hi).symm

/-- entries gathered at a place; B: the heap ahead of the place -/
structure SJ (B H : Hp) (t : TypeId) (ps : KV) : Prop where
  pre : B <+: H
  out : ∃ a n, H[B.length]? = some (.row true t [.sl a n 2]) ∧ Own H (B.length + 1) tKV a (n * 2) (kvCells ps) ∧ ps.length = n
section
variable {B H : Hp} {t : TypeId} {ps : KV} {lf lt : Nat} {lo hi : ByteArray} {Q : Post}
theorem SJ.add (g : SJ B H t ps) (k v : ByteArray) (hn : ps.length ≤ 1000) {K : Hp → Prop} (hK : ∀ H', SJ B H' t (ps ++ [(k, v)]) → K H') :
    rd H B.length 0 fun c => dL 2 c fun x n => chk true (ap H tKV 2 32 x n [.str k, .str v] 1 fun x n H => wr H B.length 0 (.sl x n 2) fun H => K H) := by
  obtain ⟨a, n, hrow, hO, hl⟩ := g.out
  have hlt := (List.getElem?_eq_some_iff.1 hrow).1
  rw [rd_of (v := .sl a n 2) (by rw [gt_some hrow]; rfl), dL_sl, chk_true]
  have hb : (H.take (B.length + 1)).length = B.length + 1 := by rw [List.length_take]; omega
  refine ap_z (H0 := H.take (B.length + 1)) (by omega) (List.take_prefix _ _) (by rw [hb]; exact hO) rfl (by unfold Lim; omega) fun a' H' o e f => ?_
  rw [hb] at o
  have hrow' : H'[B.length]? = some (.row true t [.sl a n 2]) := by
    rw [pre_at e.pre (by omega), List.getElem?_take, if_pos (by omega)]; exact hrow
  rw [wr_of hrow' (by simp)]
  have hB : B <+: H' := by
    refine List.IsPrefix.trans ?_ e.pre
    exact List.prefix_take_iff.2 ⟨g.pre, by omega⟩
  refine hK _ ⟨pre_set hB (Nat.le_refl _) _, a', n + 1, ?_, ?_, by simp [hl]⟩
  · rw [List.getElem?_set_self (List.getElem?_eq_some_iff.1 hrow').1]; rfl
  · rw [kvCells_append]
    exact Own.keep o fun l e' => by rw [List.getElem?_set_ne (by have := (f l 0 e').1; omega)]
theorem scan_Range_1_spec (g : SJ B H t ps) (hf : gt B lf 0 = some (.str lo)) (ht : gt B lt 0 = some (.str hi)) (hn : ps.length ≤ 1000) (k v : ByteArray)
    (hQ : ∀ H', SJ B H' t (ps ++ [(k, v)].filter (inR lo hi)) → Q (.tup []) H') : scan_Range_1 [.agg [.str k, .str v], .g (.ptr (some (lf, 0))), .g (.ptr (some (lt, 0))), .g (.ptr (some (B.length, 0)))] H Q := by
  have no : inR lo hi (k, v) = false → Q (.tup []) H := fun e => hQ H (by rw [List.filter_cons, e]; simpa using g)
  have yes : inR lo hi (k, v) = true → ∀ H', SJ B H' t (ps ++ [(k, v)]) → Q (.tup []) H' := fun e H' g' => hQ H' (by rw [List.filter_cons, e]; simpa using g')
  rw [inR_eq] at no yes
  refine ⟨1, ?_⟩
  rw [scan_Range_1_eq, rd_of (gt_pre g.pre hf), dS_str, blt_eq]
  refine bite_of (fun e => ?_) (fun e => no (by simp at e; rw [e]; rfl))
  have e' : blt k lo = false := by simpa using e
  rw [e'] at no yes
  rw [rd_of (gt_pre g.pre ht), dS_str]
  refine bite_of (fun e2 => ?_) (fun e2 => ?_)
  · have e2' : hi = mkS [] := by simpa using e2
    exact g.add k v hn (yes (by rw [decide_eq_true e2']; rfl))
  · have e2' : ¬ hi = mkS [] := by simpa using e2
    rw [rd_of (gt_pre g.pre ht), dS_str, blt_eq]
    refine bite_of (fun e3 => ?_) (fun e3 => ?_)
    · exact g.add k v hn (yes (by rw [e3]; simp))
    · exact no (by rw [e3, decide_eq_false e2']; rfl)
end

section
variable {H0 B : Hp} {x : Pl} {cs : List PC} {T : List Pg} {t : TypeId} {lp lf lt gf : Nat} {lo hi : ByteArray} {E : Nat → Sm}
set_option maxRecDepth 100000 in
theorem scan_walk_main (hT : Tr H0 x 48 cs T) (h0B : H0 <+: B) (hlp : gt B lp 0 = some (.sl x 48 5)) (hf : gt B lf 0 = some (.str lo)) (ht : gt B lt 0 = some (.str hi)) (hE : E gf = scan_Range_1) :
    ∀ (f at_ : Nat) (H : Hp) (Q : Post) (ps : KV), WfT T f at_ → at_ < 48 → SJ B H t ps → ps.length + (allD T f at_).length ≤ 1000 → (∀ H', SJ B H' t (ps ++ (allD T f at_).filter (inR lo hi)) → Q (.tup []) H') →
      scan_walk.at E f [.g (.ptr (some (lp, 0))), .g (.int .i64 (at_ : Int)), .g (.fn gf [(lf, 0), (lt, 0), (B.length, 0)])] H Q := by
  intro f
  induction f with
  | zero => intro _ _ _ _ h; exact h.elim
  | succ f ih =>
    intro at_ H Q ps hg hat g hb hQ
    obtain ⟨p, hp, hm, hkids⟩ := hg
    obtain ⟨l, o, c, p', rfl, hc, hp', hpc, g0, g1, g2, g3, g4⟩ := hT.get hat
    rw [hp] at hp'; cases hp'
    obtain ⟨hv1, hv2⟩ := WfT_vals hm
    have hswap : p.keys.zip p.vals ++ (p.kids.flatMap fun k => allD T f k.toNat) = (p.kids.flatMap fun k => allD T f k.toNat) ++ p.keys.zip p.vals := by
      cases hl : p.leaf with
      | true => rw [(hm.2.leaf hl).2.1]; simp
      | false => rw [(hm.2.inner hl).2.1]; simp
    rw [allD_eq hp, hswap] at hb hQ
    rw [List.length_append, hv2] at hb
    have hn1 := hpc.keys.len
    have hn2 := hpc.vals.len
    have hn3 := hpc.kids.len
    have hl3 := hpc.kids.lim
    have hl2 := hpc.vals.lim
    have k48 : ∀ k ∈ p.kids, 1 ≤ k ∧ k < 48 := fun k hk => by
      cases hlf : p.leaf with
      | true => rw [(hm.2.leaf hlf).2.1] at hk; simp at hk
      | false => exact (hm.2.inner hlf).2.2.2.1 k hk
    have etN : tN (at_ : Int) = at_ := rfl
    -- the values
    have l7 : ∀ (F i : Nat) (H : Hp) (qs : KV), p.vals.length - i < F → i ≤ p.vals.length → SJ B H t qs → qs.length + (p.vals.length - i) ≤ 1000 → qs ++ ((p.keys.zip p.vals).drop i).filter (inR lo hi) = ps ++ ((p.kids.flatMap fun k => allD T f k.toNat) ++ p.keys.zip p.vals).filter (inR lo hi) →
        scan_walk.l7 E (scan_walk.at E f) F gf [(lf, 0), (lt, 0), (B.length, 0)] l (o + at_ * 5) c.a2 c.n2 (nI c.n2) (i : Int) H Q := by
      intro F
      induction F with
      | zero => intro i _ _ h; omega
      | succ F ihF =>
        intro i H qs hF hi' g hb he
        have hH := h0B.trans g.pre
        rw [scan_walk.l7_eq]
        by_cases hik : i < p.vals.length
        · rw [bite_t (by simp; omega), chk_true, (hpc.mono hH).vals.rd i rfl hik, rd_of (v := .sl c.a1 c.n1 1) (by exact gt_pre hH g2), dL_sl, chk_true, (hpc.mono hH).keys.rd i rfl (by omega)]
          have e : (p.keys.zip p.vals).drop i = (p.keys[i]'(by omega), p.vals[i]) :: (p.keys.zip p.vals).drop (i + 1) := by
            rw [List.drop_eq_getElem_cons (by omega)]; simp
          rw [e] at he
          rw [hE]
          refine scan_Range_1_spec g hf ht (by omega) _ _ fun H' g' => ?_
          rw [wrap_succ (by omega)]
          have hfl : ([(p.keys[i]'(by omega), p.vals[i])].filter (inR lo hi)).length ≤ 1 := List.length_filter_le _ _
          refine ihF (i + 1) H' _ (by omega) (by omega) g' (by rw [List.length_append]; omega) ?_
          rw [List.append_assoc, ← List.filter_append]
          exact he
        · rw [bite_f (by simp; omega)]
          rw [List.drop_of_length_le (by omega), List.filter_nil, List.append_nil] at he
          subst he
          exact hQ H g
    -- the kids
    have l2 : ∀ (F i : Nat) (H : Hp) (qs : KV), p.kids.length - i + p.vals.length + 2 < F → i ≤ p.kids.length → SJ B H t qs → qs.length + ((p.kids.drop i).flatMap fun k => allD T f k.toNat).length + p.vals.length ≤ 1000 →
        qs ++ (((p.kids.drop i).flatMap fun k => allD T f k.toNat) ++ p.keys.zip p.vals).filter (inR lo hi) = ps ++ ((p.kids.flatMap fun k => allD T f k.toNat) ++ p.keys.zip p.vals).filter (inR lo hi) →
        scan_walk.l2 E (scan_walk.at E f) F (some (lp, 0)) gf [(lf, 0), (lt, 0), (B.length, 0)] l (o + at_ * 5) c.a3 c.n3 (nI c.n3) (i : Int) H Q := by
      intro F
      induction F with
      | zero => intro i _ _ h; omega
      | succ F ihF =>
        intro i H qs hF hi' g hb he
        have hH := h0B.trans g.pre
        rw [scan_walk.l2_eq]
        by_cases hik : i < p.kids.length
        · rw [flat_len p.kids i hik] at hb he
          rw [List.length_append] at hb
          have hmem := List.getElem_mem hik
          have hk := k48 _ hmem
          have ek : p.kids[i] = ((p.kids[i].toNat : Nat) : Int) := by omega
          rw [bite_t (by simp; omega), chk_true, (hpc.mono hH).kids.rd i rfl hik]
          generalize hkk : p.kids[i] = kk at *
          rw [ek]
          refine ih kk.toNat H _ qs (hkids kk hmem) (by omega) g (by omega) fun H' g' => ?_
          rw [wrap_succ (by omega)]
          have hfl : ((allD T f kk.toNat).filter (inR lo hi)).length ≤ (allD T f kk.toNat).length := List.length_filter_le _ _
          refine ihF (i + 1) H' _ (by omega) (by omega) g' (by rw [List.length_append]; omega) ?_
          rw [List.append_assoc, ← List.filter_append, ← List.append_assoc (allD T f kk.toNat)]
          exact he
        · rw [bite_f (by simp; omega), rd_of (v := .sl c.a2 c.n2 1) (by exact gt_pre hH g3), dL_sl]
          rw [List.drop_of_length_le (by omega), List.flatMap_nil, List.nil_append] at he
          rw [List.drop_of_length_le (by omega)] at hb
          exact l7 F 0 H qs (by omega) (by omega) g (by simp at hb; omega) (by rw [List.drop_zero]; exact he)
    have hH := h0B.trans g.pre
    refine ⟨p.vals.length + p.kids.length + 4, ?_⟩
    rw [scan_walk_eq, pS_some, rd_of (v := .sl (some (l, o)) 48 5) (by exact gt_pre g.pre hlp), dL_sl, chk_true]
    refine chk_of (by simp; omega) ?_
    rw [pS_some, etN, rd_of (v := .sl c.a3 c.n3 1) (by exact gt_pre hH g4), dL_sl]
    exact l2 _ 0 H ps (by omega) (by omega) g (by rw [List.drop_zero]; omega) (by rw [List.drop_zero])
end

section
variable {H : Hp} {Q : Post} {x : Pl} {n : Nat} {cs : List PC} {T : List Pg} {lo hi : ByteArray}
theorem scan_Range_spec (hT : Tr H x n cs T) (hQ : ∀ a m H', H <+: H' → Own H' H.length tKV a (m * 2) (kvCells (scanE T lo hi)) → (scanE T lo hi).length = m → Q (.tup [.s (.sl a m 2), .s (.int .i64 (errE 1400 T))]) H') : scan_Range [.agg [.sl x n 5], .g (.str lo), .g (.str hi)] H Q := by
  refine ⟨1, ?_⟩
  rw [scan_Range_eq]
  simp only [pu_def, ln_def]
  generalize hB : (((H ++ [Obj.row true tTr [.sl x n 5]]) ++ [Obj.row true tS [.str lo]]) ++ [Obj.row true tS [.str hi]]) = B0
  have pB : H <+: B0 := by rw [← hB]; exact ((pre_pu _ _).trans (pre_pu _ _)).trans (pre_pu _ _)
  have gp : gt B0 H.length 0 = some (.sl x n 5) := by rw [← hB]; simp [gt]
  have gf : gt B0 (H ++ [Obj.row true tTr [.sl x n 5]]).length 0 = some (.str lo) := by rw [← hB]; simp [gt]
  have gt' : gt B0 ((H ++ [Obj.row true tTr [.sl x n 5]]) ++ [Obj.row true tS [.str lo]]).length 0 = some (.str hi) := by rw [← hB]; simp [gt]
  rw [rd_of gp, dL_sl]
  refine sound_Sound_spec (hT.mono pB) fun H1 p1 => ?_
  simp only [rG_g, dB_bool]
  by_cases h : 0 < heightD T
  · have e1 : errE 1400 T = 0 := by unfold errE; rw [decide_eq_true h]
    have e2 : allE T = entD T := by unfold allE; rw [decide_eq_true h]
    rw [e1] at hQ
    rw [decide_eq_true h, bite_f (by decide)]
    obtain ⟨st, s⟩ := SF.of h
    have hn : n = 48 := by have := hT.lenT; have := s.len; omega
    subst hn
    refine ⟨49, ?_⟩
    refine scan_walk_main (B := H1) (t := tKVs) (hT.mono (pB.trans p1)) (List.prefix_refl _) (gt_pre p1 gp) (gt_pre p1 gf) (gt_pre p1 gt') (by rw [dynOf_hit]) 49 0 _ _ [] s.good (by omega)
      ⟨pre_pu _ _, none, 0, by simp, .inl ⟨rfl, rfl, rfl⟩, rfl⟩ (by have := s.ents.2.2.2; unfold entD at this; simp; omega) fun H2 g => ?_
    obtain ⟨a, m, hrow, hO, hl⟩ := g.out
    rw [rd_of (v := .sl a m 2) (by rw [gt_some hrow]; rfl), dL_sl]
    rw [List.nil_append] at hO hl
    refine hQ a m H2 (pB.trans (p1.trans g.pre)) ?_ ?_
    · unfold scanE; rw [e2]; exact hO.base (by have := pre_len pB; have := pre_len p1; omega)
    · unfold scanE; rw [e2]; exact hl
  · have e1 : errE 1400 T = 1400 := by unfold errE; rw [decide_eq_false h]
    have e2 : scanE T lo hi = [] := by unfold scanE allE; rw [decide_eq_false h]; rfl
    rw [e1, e2] at hQ
    rw [decide_eq_false h, bite_t (by decide)]
    exact hQ none 0 H1 (pB.trans p1) (.inl ⟨rfl, rfl, rfl⟩) rfl
theorem scan_All_spec (hT : Tr H x n cs T) (hQ : ∀ a m H', H <+: H' → Own H' H.length tKV a (m * 2) (kvCells (allE T)) → (allE T).length = m → Q (.tup [.s (.sl a m 2), .s (.int .i64 (errE 1400 T))]) H') : scan_All [.agg [.sl x n 5]] H Q := by
  refine ⟨1, ?_⟩
  rw [scan_All_eq]
  refine scan_Range_spec hT fun a m H' p o l => ?_
  rw [scanE_all] at o l
  simp only [rT_tup, uR_cons, rS_s, dL_sl, dI_int, uE_nil]
  exact hQ a m H' p o l
set_option maxRecDepth 100000 in
theorem ref9_Range_spec (hT : Tr H x n cs T) (hQ : ∀ a m H', H <+: H' → Own H' H.length tKV a (m * 2) (kvCells (scanE T lo hi)) → (scanE T lo hi).length = m → Q (.tup [.s (.sl a m 2), .s (.int .i64 (errE 1400 T))]) H') : ref9_Range [.agg [.sl x n 5], .g (.str lo), .g (.str hi)] H Q := by
  refine ⟨70, ?_⟩
  rw [ref9_Range_eq]
  refine ref9_All_spec hT fun a m H1 p1 o1 l1 => ?_
  simp only [rT_tup, uR_cons, rS_s, dL_sl, dI_int, uE_nil]
  have hm := allE_len T
  have loop : ∀ (F i : Nat) (H2 : Hp) (a2 : Pl) (n2 : Nat) (qs : KV), m - i < F → i ≤ m → H1 <+: H2 → Own H2 H1.length tKV a2 (n2 * 2) (kvCells qs) → qs.length = n2 → n2 ≤ i → qs ++ ((allE T).drop i).filter (inR lo hi) = scanE T lo hi →
      ref9_Range.l4 F lo hi a m (errE 1400 T) a2 n2 (i : Int) H2 Q := by
    intro F
    induction F with
    | zero => intro i _ _ _ _ h; omega
    | succ F ih =>
      intro i H2 a2 n2 qs hF hi' p2 o2 l2 hni he
      rw [ref9_Range.l4_eq]
      by_cases him : i < m
      · obtain ⟨l, o, rfl, q1, q2⟩ := Kv.get (H := H2) (Kv.mono p2 ⟨o1.cells, l1⟩) (i := i) (by omega)
        have etN : tN (i : Int) = i := rfl
        have hidx : (leI 0 (i : Int) && ltI (i : Int) (nI m)) = true := by simp; omega
        rw [List.drop_eq_getElem_cons (by omega), List.filter_cons] at he
        generalize hx : (allE T)[i]'(by omega) = kv at *
        obtain ⟨k, v⟩ := kv
        rw [inR_eq] at he
        rw [bite_t (by simp; omega), chk_true]
        refine chk_of hidx ?_
        rw [pS_some, etN, Nat.add_zero, rd_of q1, dS_str, blt_eq, wrap_succ (by omega)]
        have no : qs ++ ((allE T).drop (i + 1)).filter (inR lo hi) = scanE T lo hi → ref9_Range.l4 F lo hi (some (l, o)) m (errE 1400 T) a2 n2 ((i + 1 : Nat) : Int) H2 Q := fun e => ih (i + 1) H2 a2 n2 qs (by omega) (by omega) p2 o2 l2 (by omega) e
        have yes : qs ++ (k, v) :: ((allE T).drop (i + 1)).filter (inR lo hi) = scanE T lo hi → chk true (chk (leI 0 (i : Int) && ltI (i : Int) (nI m)) (pS (some (l, o)) fun n4 n5 => rd H2 n4 (n5 + i * 2) fun v6 => dS v6 fun s7 => rd H2 n4 (n5 + i * 2 + 1) fun v8 => dS v8 fun s9 =>
            chk true (ap H2 tKV 2 32 a2 n2 [.str s7, .str s9] 1 fun x10 n11 H12 => ref9_Range.l4 F lo hi (some (l, o)) m (errE 1400 T) x10 n11 ((i + 1 : Nat) : Int) H12 Q))) := fun e => by
          rw [chk_true]
          refine chk_of hidx ?_
          rw [pS_some, rd_of q1, dS_str, rd_of q2, dS_str, chk_true]
          refine ap_kv' p2 o2 l2 _ _ (by omega) fun a' H' p' o' l' _ _ => ?_
          exact ih (i + 1) H' a' (n2 + 1) _ (by omega) (by omega) p' o' l' (by omega) (by rw [List.append_assoc]; exact e)
        refine bite_of (fun e => ?_) (fun e => ?_)
        · have e' : blt k lo = false := by simpa using e
          rw [e'] at he
          refine bite_of (fun e2 => ?_) (fun e2 => ?_)
          · have e2' : hi = mkS [] := by simpa using e2
            rw [decide_eq_true e2'] at he
            exact yes he
          · have e2' : ¬ hi = mkS [] := by simpa using e2
            rw [decide_eq_false e2'] at he
            rw [chk_true]
            refine chk_of hidx ?_
            rw [pS_some, Nat.add_zero, rd_of q1, dS_str, blt_eq]
            refine bite_of (fun e3 => ?_) (fun e3 => ?_)
            · rw [e3] at he; exact yes he
            · rw [e3] at he; exact no he
        · have e' : blt k lo = true := by simpa using e
          rw [e'] at he
          exact no he
      · rw [bite_f (by simp; omega)]
        rw [List.drop_of_length_le (by omega), List.filter_nil, List.append_nil] at he
        subst he
        exact hQ a2 n2 H2 (p1.trans p2) (o2.base (pre_len p1)) l2
  exact loop 69 0 H1 none 0 [] (by omega) (by omega) (List.prefix_refl _) (.inl ⟨rfl, rfl, rfl⟩) rfl (Nat.le_refl _) (by rw [List.drop_zero]; rfl)
/-- entries spoilt -/
theorem law0_SpoilPairs_spec {H0 : Hp} {a : Pl} {m : Nat} {ps : KV} {b : Nat} {t : TypeId} (h0 : H0 <+: H) (hb : H0.length ≤ b) (hO : Own H b t a (m * 2) (kvCells ps)) (hl : ps.length = m) (hm : m ≤ 100000)
    (hQ : ∀ H', H0 <+: H' → (∀ l, a ≠ some (l, 0) → H'[l]? = H[l]?) → Q (.tup []) H') : law0_SpoilPairs [.g (.sl a m 2)] H Q := by
  refine ⟨m + 2, ?_⟩
  rw [law0_SpoilPairs_eq]
  have loop : ∀ (F i : Nat) (H2 : Hp) (cs : List GV), m - i < F → i ≤ m → H0 <+: H2 → Own H2 b t a (m * 2) cs → (∀ l, a ≠ some (l, 0) → H2[l]? = H[l]?) → law0_SpoilPairs.l1 F a m (i : Int) H2 Q := by
    intro F
    induction F with
    | zero => intro i _ _ h; omega
    | succ F ih =>
      intro i H2 cs hF hi' p2 o2 hk
      rw [law0_SpoilPairs.l1_eq]
      by_cases him : i < m
      · rw [bite_t (by simp; omega), chk_true]
        refine chk_of (by simp; omega) ?_
        rcases o2 with ⟨_, q, _⟩ | ⟨l, rfl, q1, q2, q3⟩
        · omega
        have etN : tN (i : Int) = i := rfl
        rw [pS_some, etN]
        have hlt := (List.getElem?_eq_some_iff.1 q2).1
        rw [wr_of q2 (by omega), wrap_succ (by omega)]
        exact ih (i + 1) _ _ (by omega) (by omega) (pre_set p2 (by omega) _) (.inr ⟨l, rfl, q1, List.getElem?_set_self hlt, by simp [q3]⟩) (fun l' hne => by
          rw [List.getElem?_set_ne (fun e => hne (by rw [e]))]; exact hk l' hne)
      · rw [bite_f (by simp; omega)]
        exact hQ H2 p2 hk
  exact loop _ 0 H _ (by omega) (by omega) h0 hO (fun _ _ => rfl)
end
end Go.Am
namespace Go.Am

theorem kvCells_drop : ∀ (ps : KV) (k : Nat), kvCells (ps.drop k) = (kvCells ps).drop (k * 2)
  | [], k => by simp [kvCells]
  | x :: ps, 0 => by simp
  | x :: ps, k + 1 => by
    rw [List.drop_succ_cons, kvCells_drop ps k]
    have e : (k + 1) * 2 = k * 2 + 1 + 1 := by omega
    rw [e]; rfl
theorem kvCells_take : ∀ (ps : KV) (k : Nat), kvCells (ps.take k) = (kvCells ps).take (k * 2)
  | [], k => by simp [kvCells]
  | x :: ps, 0 => by simp [kvCells]
  | x :: ps, k + 1 => by
    have e : (k + 1) * 2 = k * 2 + 1 + 1 := by omega
    rw [List.take_succ_cons, e]
    show GV.str x.1 :: GV.str x.2 :: kvCells (ps.take k) = _
    rw [kvCells_take ps k]; rfl
theorem Kv.part {H : Hp} {a : Pl} {n : Nat} {ps : KV} (h : Kv H a n ps) (k m : Nat) (hm : k + m ≤ n) : Kv H (shf a (k * 2)) m ((ps.drop k).take m) := by
  refine ⟨?_, by rw [List.length_take, List.length_drop, h.len]; omega⟩
  rw [kvCells_take, kvCells_drop]
  exact cells_part h.cells (k * 2) (m * 2) (by omega)

section
variable {H : Hp} {Q : Post}
theorem law0_SamePairs_spec {a1 a2 : Pl} {n1 n2 : Nat} {xs ys : KV} (h1 : Kv H a1 n1 xs) (h2 : Kv H a2 n2 ys) (hn : n1 ≤ 100000) (hQ : ∀ b, (b = true ↔ xs = ys) → Q (.g (.bool b)) H) : law0_SamePairs [.g (.sl a1 n1 2), .g (.sl a2 n2 2)] H Q := by
  have l1 := h1.len
  have l2 := h2.len
  refine ⟨n1 + 2, ?_⟩
  rw [law0_SamePairs_eq]
  refine bite_of (fun e => hQ false ⟨fun q => (by cases q), fun q => ?_⟩) (fun e => ?_)
  · subst q
    simp at e; omega
  have hnn : n1 = n2 := by simp at e; omega
  have loop : ∀ (F i : Nat), n1 - i < F → i ≤ n1 → (∀ j (h : j < xs.length) (h' : j < ys.length), j < i → xs[j] = ys[j]) → law0_SamePairs.l4 F a1 n1 a2 n2 (i : Int) H Q := by
    intro F
    induction F with
    | zero => intro i h; omega
    | succ F ih =>
      intro i hF hi he
      rw [law0_SamePairs.l4_eq]
      by_cases hik : i < n1
      · obtain ⟨l, o, ea, q1, q2⟩ := h1.get (i := i) (by omega)
        obtain ⟨l', o', ea', q1', q2'⟩ := h2.get (i := i) (by omega)
        subst ea; subst ea'
        have etN : tN (i : Int) = i := rfl
        rw [bite_t (by simp; omega), chk_true]
        refine chk_of (by simp; omega) ?_
        rw [pS_some, etN, rd_of q1, dS_str, rd_of q2, dS_str, chk_true]
        refine chk_of (by simp; omega) ?_
        rw [pS_some, rd_of q1', dS_str, rd_of q2', dS_str]
        refine bite_of (fun e => hQ false ⟨fun q => (by cases q), fun q => ?_⟩) (fun e => ?_)
        · subst q; simp at e
        · rw [wrap_succ (by omega)]
          refine ih (i + 1) (by omega) (by omega) fun j h h' hj => ?_
          by_cases ej : j = i
          · subst ej
            simp at e
            exact Prod.ext e.1 e.2
          · exact he j h h' (by omega)
      · rw [bite_f (by simp; omega)]
        refine hQ true ⟨fun _ => ?_, fun _ => rfl⟩
        exact List.ext_getElem (by omega) fun j h h' => he j h h' (by omega)
  exact loop _ 0 (by omega) (Nat.zero_le _) (fun j _ _ h => by omega)
theorem law14_letters_spec {k : Nat} (hk : k ≤ 100000) (hQ : ∀ H', H <+: H' → Q (.g (.str (lettersD k))) H') : law14_letters [.g (.int .i64 (k : Int))] H Q := by
  refine ⟨1, ?_⟩
  obtain ⟨e1, e2⟩ := letters_word hk
  rw [law14_letters_eq, e1, e2]
  simp only [pu_def, ln_def]
  rw [rdN_of (cs := u8s [bof ((97 + k / 16 % 16 : Nat) : Int), bof ((97 + k % 16 : Nat) : Int)]) (by simp [cells?, u8s]), txt_u8s]
  exact hQ _ (pre_pu _ _)
theorem law11_letters_spec {k : Nat} (hk : k ≤ 100000) (hQ : ∀ H', H <+: H' → Q (.g (.str (lettersD k))) H') : law11_letters [.g (.int .i64 (k : Int))] H Q := by
  refine ⟨1, ?_⟩
  obtain ⟨e1, e2⟩ := letters_word hk
  rw [law11_letters_eq, e1, e2]
  simp only [pu_def, ln_def]
  rw [rdN_of (cs := u8s [bof ((97 + k / 16 % 16 : Nat) : Int), bof ((97 + k % 16 : Nat) : Int)]) (by simp [cells?, u8s]), txt_u8s]
  exact hQ _ (pre_pu _ _)
end

/-! the tree that awakes -/
def kvA : KV := [(mkS [97], mkS [49]), (mkS [98], mkS []), (mkS [99], mkS [51]), (mkS [100], mkS []), (mkS [101], mkS [53])]
theorem hA : 0 < heightD (buildD kvA) := by decide +kernel
theorem eA : errE 1400 (buildD kvA) = 0 := by decide +kernel
theorem allA : allE (buildD kvA) = kvA := by decide +kernel
theorem rA1 : scanE (buildD kvA) (mkS [98]) (mkS [100]) = (kvA.drop 1).take 2 := by decide +kernel
theorem rA2 : scanE (buildD kvA) (mkS [100]) (mkS []) = (kvA.drop 3).take 2 := by decide +kernel
theorem kvA_own (H : Hp) (t : TypeId) : Kv (H ++ [.row true t [(.str (mkS [97])), (.str (mkS [49])), (.str (mkS [98])), (.str (mkS [])), (.str (mkS [99])), (.str (mkS [51])), (.str (mkS [100])), (.str (mkS [])), (.str (mkS [101])), (.str (mkS [53]))]]) (some (H.length, 0)) 5 kvA :=
  ⟨by simp [cells?, kvCells, kvA], rfl⟩
theorem kvA_at (H : Hp) : Kv (H ++ [.row false 0 [(.str (mkS [97])), (.str (mkS [49])), (.str (mkS [98])), (.str (mkS [])), (.str (mkS [99])), (.str (mkS [51])), (.str (mkS [100])), (.str (mkS [])), (.str (mkS [101])), (.str (mkS [53]))]]) (some (H.length, 0)) 5 kvA :=
  ⟨by simp [cells?, kvCells, kvA], rfl⟩
section
variable {H : Hp} {Q : Post}
set_option maxRecDepth 100000 in
theorem law14_awake_spec (hQ : ∀ H', H <+: H' → Q (.g (.bool true)) H') : law14_awake [] H Q := by
  refine ⟨1, ?_⟩
  rw [law14_awake_eq]
  simp only [pu_def, ln_def]
  have pA := pre_pu H (.row true tKV [(.str (mkS [97])), (.str (mkS [49])), (.str (mkS [98])), (.str (mkS [])), (.str (mkS [99])), (.str (mkS [51])), (.str (mkS [100])), (.str (mkS [])), (.str (mkS [101])), (.str (mkS [53]))])
  have kA := kvA_own H tKV
  refine ref9_Build_spec kA (by omega) fun H1 tp cs p1 oT => ?_
  simp only [rA_agg, uC_cons, dL_sl, uN_nil]
  refine scan_All_spec oT.tr fun a1 m1 H2 p2 o1 l1 => ?_
  simp only [rT_tup, uR_cons, rS_s, dL_sl, dI_int, uE_nil]
  refine scan_Range_spec (oT.tr.mono p2) fun a2 m2 H3 p3 o2 l2 => ?_
  simp only [rT_tup, uR_cons, rS_s, dL_sl, dI_int, uE_nil]
  refine scan_Range_spec (oT.tr.mono (p2.trans p3)) fun a3 m3 H4 p4 o3 l3 => ?_
  simp only [rT_tup, uR_cons, rS_s, dL_sl, dI_int, uE_nil]
  refine scan_All_spec (tr_nil H4) fun a4 m4 H5 p5 o4 l4 => ?_
  simp only [rT_tup, uR_cons, rS_s, dL_sl, dI_int, uE_nil]
  have kAH : Kv H5 (some (H.length, 0)) 5 kvA := kA.mono (p1.trans (p2.trans (p3.trans (p4.trans p5))))
  rw [allA] at o1 l1
  rw [rA1] at o2 l2
  rw [rA2] at o3 l3
  have c1 : Kv H5 a1 m1 kvA := ((o1.kv l1).mono (p3.trans (p4.trans p5)))
  have c2 : Kv H5 a2 m2 _ := ((o2.kv l2).mono (p4.trans p5))
  have c3 : Kv H5 a3 m3 _ := ((o3.kv l3).mono p5)
  have m1e : m1 = 5 := l1.symm
  have m2e : m2 = 2 := l2.symm
  have m3e : m3 = 2 := l3.symm
  have hE : errE 1400 [] = 1400 := by decide +kernel
  rw [eA, hE]
  refine law0_SamePairs_spec c1 kAH (by omega) fun b hb => ?_
  simp only [rG_g, dB_bool]
  rw [bite_t (hb.2 rfl)]
  refine law0_Num_spec ?_
  simp only [rG_g, dI_int]
  rw [bite_t (by decide), chk_true]
  refine chk_of (by simp) ?_
  refine law0_SamePairs_spec c2 (kAH.part 1 2 (by omega)) (by omega) fun b hb => ?_
  simp only [rG_g, dB_bool]
  rw [bite_t (hb.2 rfl)]
  refine law0_Num_spec ?_
  simp only [rG_g, dI_int]
  rw [bite_t (by decide), chk_true]
  refine chk_of (by simp) ?_
  refine law0_SamePairs_spec c3 (kAH.part 3 2 (by omega)) (by omega) fun b hb => ?_
  simp only [rG_g, dB_bool]
  rw [bite_t (hb.2 rfl)]
  refine law0_Num_spec ?_
  simp only [rG_g, dI_int]
  rw [bite_t (by decide)]
  refine law0_Num_spec ?_
  simp only [rG_g, dI_int]
  exact hQ _ (pA.trans (p1.trans (p2.trans (p3.trans (p4.trans p5)))))

theorem scanE_len (T : List Pg) (lo hi : ByteArray) : (scanE T lo hi).length ≤ 60 := Nat.le_trans (List.length_filter_le _ _) (allE_len T)
set_option maxRecDepth 100000 in
theorem law14_Scans_spec {z : Pl} {n : Nat} {cs : List PC} {T : List Pg} {lo hi : ByteArray} (hT : Tr H z n cs T) (hn : n * 80 ≤ 140737488351232) (hQ : ∀ H', Q (.g (.bool true)) H') : law14_Scans [.agg [.sl z n 5], .g (.str lo), .g (.str hi)] H Q := by
  refine ⟨1, ?_⟩
  rw [law14_Scans_eq]
  refine law0_CopyTree_ct hT hn fun x ds H1 g => ?_
  simp only [rA_agg, uC_cons, dL_sl, uN_nil]
  have hX := g.ot.tr
  have hZ := hT.mono g.pre
  refine scan_All_spec hX fun a1 m1 H2 p2 o1 l1 => ?_
  simp only [rT_tup, uR_cons, rS_s, dL_sl, dI_int, uE_nil]
  refine ref9_All_spec (hZ.mono p2) fun a2 m2 H3 p3 o2 l2 => ?_
  simp only [rT_tup, uR_cons, rS_s, dL_sl, dI_int, uE_nil]
  refine scan_Range_spec (hX.mono (p2.trans p3)) fun a3 m3 H4 p4 o3 l3 => ?_
  simp only [rT_tup, uR_cons, rS_s, dL_sl, dI_int, uE_nil]
  refine ref9_Range_spec (hZ.mono (p2.trans (p3.trans p4))) fun a4 m4 H5 p5 o4 l4 => ?_
  simp only [rT_tup, uR_cons, rS_s, dL_sl, dI_int, uE_nil]
  have hl := allE_len T
  have hl2 := scanE_len T lo hi
  have q15 : H1 <+: H5 := p2.trans (p3.trans (p4.trans p5))
  refine law0_SamePairs_spec ((o1.kv l1).mono (p3.trans (p4.trans p5))) ((o2.kv l2).mono (p4.trans p5)) (by omega) fun b hb => ?_
  simp only [rG_g, dB_bool]
  rw [hb.2 rfl, bite_f (by decide)]
  refine law0_Num_spec ?_
  simp only [rG_g, dI_int]
  rw [bite_f (by simp)]
  refine law0_SamePairs_spec ((o3.kv l3).mono p5) (o4.kv l4) (by omega) fun b hb => ?_
  simp only [rG_g, dB_bool]
  rw [hb.2 rfl, bite_f (by decide)]
  refine law0_Num_spec ?_
  simp only [rG_g, dI_int]
  rw [bite_f (by simp)]
  have o1' := o1.mono (p3.trans (p4.trans p5))
  have o3' := o3.mono p5
  refine law0_SpoilPairs_spec q15 (Nat.le_refl _) o1' l1 (by omega) fun H6 q6 k6 => ?_
  have o3'' : Own H6 H3.length tKV a3 (m3 * 2) (kvCells (scanE T lo hi)) := o3'.keep fun l e => k6 l fun e1 => by
    have z1 := o1.ltAny e1
    have z3 := o3.above e
    have := pre_len p3
    omega
  refine law0_SpoilPairs_spec q6 (Nat.le_trans (pre_len p2) (pre_len p3)) o3'' l3 (by omega) fun H7 q7 k7 => ?_
  refine law0_SameTree_spec (hX.mono q7) (hZ.mono q7) (by omega) fun b hb => ?_
  simp only [rG_g, dB_bool]
  rw [bite_t (hb.2 rfl)]
  refine law14_awake_spec fun H8 p8 => ?_
  simp only [rG_g, dB_bool]
  exact hQ _

theorem asc_parts {ps : KV} (h : Asc ps) (c : ByteArray) : (ps.filter fun x => blt x.1 c) ++ (ps.filter fun x => !(blt x.1 c)) = ps := by
  induction ps with
  | nil => rfl
  | cons x ps ih =>
    obtain ⟨h1, h2⟩ := List.pairwise_cons.1 h
    cases e : blt x.1 c with
    | true => rw [List.filter_cons_of_pos (by simpa using e), List.filter_cons_of_neg (by simp [e]), List.cons_append, ih h2]
    | false =>
      have e1 : ps.filter (fun x => blt x.1 c) = [] := by
        rw [List.filter_eq_nil_iff]
        intro y hy
        rw [le_le e (blt_asy (h1 y hy))]; simp
      have e2 : ps.filter (fun x => !(blt x.1 c)) = ps := by
        rw [List.filter_eq_self]
        intro y hy
        rw [le_le e (blt_asy (h1 y hy))]; rfl
      rw [List.filter_cons_of_neg (by simp [e]), List.filter_cons_of_pos (by simp [e]), e1, e2]; rfl
theorem allE_asc (T : List Pg) : Asc (allE T) := by
  unfold allE
  by_cases h : 0 < heightD T
  · rw [decide_eq_true h]
    obtain ⟨st, s⟩ := SF.of h
    exact s.ents.1
  · rw [decide_eq_false h]; exact List.Pairwise.nil
theorem scanE_parts (T : List Pg) {c : ByteArray} (hc : c ≠ mkS []) : scanE T (mkS []) c ++ scanE T c (mkS []) = allE T := by
  have e1 : scanE T (mkS []) c = (allE T).filter fun x => blt x.1 c := by
    unfold scanE
    congr 1
    funext x
    obtain ⟨k, v⟩ := x
    rw [inR_eq, blt_mk, decide_eq_false hc]; rfl
  have e2 : scanE T c (mkS []) = (allE T).filter fun x => !(blt x.1 c) := by
    unfold scanE
    congr 1
    funext x
    obtain ⟨k, v⟩ := x
    rw [inR_eq, decide_eq_true rfl]; simp
  rw [e1, e2, asc_parts (allE_asc T)]
theorem err_cases (T : List Pg) (e : Int) : (heightD T = 0 ∧ errE e T = e ∧ allE T = []) ∨ (0 < heightD T ∧ errE e T = 0 ∧ allE T = entD T) := by
  unfold errE allE
  rcases Nat.eq_zero_or_pos (heightD T) with h | h
  · rw [decide_eq_false (by omega)]; exact .inl ⟨h, rfl, rfl⟩
  · rw [decide_eq_true h]; exact .inr ⟨h, rfl, rfl⟩
set_option maxRecDepth 100000 in
theorem law14_ScanParts_spec {z : Pl} {n : Nat} {cs : List PC} {T : List Pg} {c : ByteArray} (hT : Tr H z n cs T) (_ : n * 80 ≤ 140737488351232) (hQ : ∀ H', Q (.g (.bool true)) H') : law14_ScanParts [.agg [.sl z n 5], .g (.str c)] H Q := by
  refine ⟨80, ?_⟩
  rw [law14_ScanParts_eq]
  refine law14_awake_spec fun H1 p1 => ?_
  simp only [rG_g, dB_bool]
  rw [bite_f (by decide)]
  refine scan_All_spec (hT.mono p1) fun a1 m1 H2 p2 o1 l1 => ?_
  simp only [rT_tup, uR_cons, rS_s, dL_sl, dI_int, uE_nil]
  refine law0_Num_spec ?_
  simp only [rG_g, dI_int]
  rcases err_cases T 1400 with ⟨e0, e1, e2⟩ | ⟨e0, e1, e2⟩
  · rw [e1, bite_t (by decide)]
    have : m1 = 0 := by rw [← l1, e2]; rfl
    rw [this]
    exact hQ _
  rw [e1, bite_f (by decide)]
  have hl := allE_len T
  refine scan_Range_spec (hT.mono (p1.trans p2)) fun a2 m2 H3 p3 o2 l2 => ?_
  simp only [rT_tup, uR_cons, rS_s, dL_sl, dI_int, uE_nil]
  refine scan_Range_spec (hT.mono (p1.trans (p2.trans p3))) fun a3 m3 H4 p4 o3 l3 => ?_
  simp only [rT_tup, uR_cons, rS_s, dL_sl, dI_int, uE_nil]
  rw [e1]
  have s2 := scanE_len T (mkS []) c
  have s3 := scanE_len T c (mkS [])
  refine bite_of (fun ec => ?_) (fun ec => ?_)
  · have ec' : c = mkS [] := by simpa using ec
    subst ec'
    rw [scanE_all] at o2 l2 o3 l3
    refine law0_Num_spec ?_
    simp only [rG_g, dI_int]
    rw [bite_t (by decide)]
    refine law0_SamePairs_spec ((o2.kv l2).mono p4) ((o1.kv l1).mono (p3.trans p4)) (by omega) fun b hb => ?_
    simp only [rG_g, dB_bool]
    rw [bite_t (hb.2 rfl)]
    refine law0_SamePairs_spec (o3.kv l3) ((o1.kv l1).mono (p3.trans p4)) (by omega) fun b hb => ?_
    simp only [rG_g, dB_bool]
    rw [hb.2 rfl]
    exact hQ _
  · have ec' : c ≠ mkS [] := by simpa using ec
    have k2 := (o2.kv l2).mono p4
    have k3 := o3.kv l3
    rw [chk_true, rdN_of k2.cells]
    refine ⟨⟨by unfold Lim; omega, by rw [kvCells_length, l2]⟩, ?_⟩
    dsimp only [ln_def]
    have pp := pre_pu H4 (.row true tKV (kvCells (scanE T (mkS []) c)))
    rw [chk_true, rdN_of (k3.mono pp).cells, chk_true]
    have oo : Own (H4 ++ [.row true tKV (kvCells (scanE T (mkS []) c))]) H4.length tKV (some (H4.length, 0)) (m2 * 2) (kvCells (scanE T (mkS []) c)) := .inr ⟨_, rfl, Nat.le_refl _, by simp, by rw [kvCells_length, l2]⟩
    refine ap_z (H0 := H4) (by omega) pp oo (by rw [kvCells_length, l3]) (by unfold Lim; omega) fun a5 H5 o5 x5 f5 => ?_
    rw [← kvCells_append, scanE_parts T ec'] at o5
    have hsum : m2 + m3 = (allE T).length := by rw [← l2, ← l3, ← List.length_append, scanE_parts T ec']
    have k5 : Kv H5 a5 (m2 + m3) (allE T) := ⟨o5.cells, hsum.symm⟩
    have k1 : Kv H5 a1 m1 (allE T) := (o1.kv l1).mono (p3.trans (p4.trans x5.pre))
    have loop : ∀ (F i : Nat), m1 + 1 - i < F → 1 ≤ i → i ≤ m1 + 1 → law14_ScanParts.l13 F a1 m1 0 0 a5 (m2 + m3) (i : Int) H5 Q := by
      intro F
      induction F with
      | zero => intro i h; omega
      | succ F ih =>
        intro i hF h1 hi
        rw [law14_ScanParts.l13_eq]
        by_cases hik : i < m1
        · obtain ⟨j, rfl⟩ : ∃ j, i = j + 1 := ⟨i - 1, by omega⟩
          obtain ⟨l, o, ea, q1, q2⟩ := k1.get (i := j + 1) (by omega)
          obtain ⟨l', o', ea', q1', q2'⟩ := k1.get (i := j) (by omega)
          subst ea; cases ea'
          have etN : tN ((j + 1 : Nat) : Int) = j + 1 := rfl
          have etN' : tN (j : Int) = j := rfl
          rw [bite_t (by simp; omega), chk_true]
          refine chk_of (by simp; omega) ?_
          rw [pS_some, etN, Nat.add_zero, rd_of q1, dS_str, chk_true, wrap_pred (by omega)]
          refine chk_of (by simp; omega) ?_
          rw [pS_some, etN', Nat.add_zero, rd_of q1', dS_str]
          have hlt := List.pairwise_iff_getElem.1 (allE_asc T) j (j + 1) (by omega) (by omega) (by omega)
          rw [blt_eq, blt_asy hlt, bite_f (by simp; exact (Ne.symm (blt_ne hlt))), wrap_succ (by omega)]
          exact ih (j + 1 + 1) (by omega) (by omega) (by omega)
        · rw [bite_f (by simp; omega)]
          refine law0_Num_spec ?_
          simp only [rG_g, dI_int]
          rw [bite_t (by decide)]
          refine law0_Num_spec ?_
          simp only [rG_g, dI_int]
          rw [bite_t (by decide)]
          refine law0_SamePairs_spec k5 k1 (by omega) fun b hb => ?_
          simp only [rG_g, dB_bool]
          rw [hb.2 rfl]
          exact hQ _
    exact loop 79 1 (by omega) (by omega) (by omega)
end
end Go.Am
namespace Go.Am

section
variable {H : Hp} {Q : Post} {key : ByteArray} {ks : List ByteArray}
theorem slotN_take (i : Nat) (hi : i < ks.length) : slotN (ks.take (i + 1)) key = slotN (ks.take i) key + (match blt ks[i] key with | true => 1 | false => 0) := by
  unfold slotN
  rw [List.take_succ_eq_append_getElem hi, List.countP_append]
  congr 1
theorem slotN_le : slotN ks key ≤ ks.length := List.countP_le_length
theorem node_Slot_spec {a : Pl} {n : Nat} (h : Ss H a n ks) (hQ : Q (.tup [.s (.int .i64 (slotN ks key : Int)), .s (.bool (slotB ks key))]) H) : node_Slot [.g (.sl a n 1), .g (.str key)] H Q := by
  have hn := h.len
  have hlim := h.lim
  refine ⟨n + 2, ?_⟩
  rw [node_Slot_eq]
  have loop : ∀ (F i : Nat), n - i < F → i ≤ n → node_Slot.l3 F a n key (slotN (ks.take i) key : Int) a n (nI n) (i : Int) H Q := by
    intro F
    induction F with
    | zero => intro i h; omega
    | succ F ih =>
      intro i hF hi
      rw [node_Slot.l3_eq]
      by_cases hik : i < n
      · have hle : slotN (ks.take i) key ≤ i := Nat.le_trans slotN_le (List.length_take_le _ _)
        rw [bite_t (by simp; omega), chk_true, h.rd i rfl (by omega), blt_eq, wrap_succ (by omega), wrap_succ (by omega)]
        have := ih (i + 1) (by omega) (by omega)
        rw [slotN_take i (by omega)] at this
        refine bite_of (fun e => ?_) (fun e => ?_)
        · rw [e] at this; exact this
        · rw [e] at this; exact this
      · rw [bite_f (by simp; omega), List.take_of_length_le (by omega)]
        have hle := slotN_le (ks := ks) (key := key)
        refine bite_of (fun e => ?_) (fun e => ?_)
        · have hlt : slotN ks key < ks.length := by simp at e; omega
          rw [chk_true, h.rd (slotN ks key) rfl hlt]
          have : slotB ks key = strEq ks[slotN ks key] key := by
            unfold slotB; rw [List.getElem?_eq_getElem hlt, strEq_def]; simp
          rw [this] at hQ
          exact hQ
        · have : slotB ks key = false := by
            unfold slotB
            rw [List.getElem?_eq_none (by simp at e; omega)]; simp
          rw [this] at hQ
          exact hQ
  exact loop _ 0 (by omega) (Nat.zero_le _)
theorem find_Kid_spec {l o n : Nat} {a : Pl} (hg : gt H l (o + 2) = some (.sl a n 1)) (h : Ss H a n ks) (hQ : Q (.g (.int .i64 (kidN ks key : Int))) H) : find_Kid [.g (.ptr (some (l, o))), .g (.str key)] H Q := by
  have hn := h.len
  have hlim := h.lim
  have hle := slotN_le (ks := ks) (key := key)
  refine ⟨1, ?_⟩
  rw [find_Kid_eq, pS_some, rd_of hg, dL_sl]
  refine node_Slot_spec h ?_
  simp only [rT_tup, uR_cons, rS_s, dI_int, dB_bool, uE_nil]
  unfold kidN at hQ
  refine bite_of (fun e => ?_) (fun e => ?_)
  · rw [e] at hQ
    rw [wrap_succ (by omega)]
    exact hQ
  · rw [e] at hQ; exact hQ
end

section
variable {H : Hp} {Q : Post} {x : Pl} {n : Nat} {cs : List PC} {T : List Pg} {key : ByteArray}

def findE (T : List Pg) (key : ByteArray) : Option ByteArray := findK (allE T) key
set_option maxRecDepth 100000 in
theorem find_Find_spec (hT : Tr H x n cs T) (hQ : ∀ H', H <+: H' → Q (.tup [.s (.str ((findE T key).getD (mkS []))), .s (.bool (findE T key).isSome), .s (.int .i64 (errE 1100 T))]) H') : find_Find [.agg [.sl x n 5], .g (.str key)] H Q := by
  refine ⟨60, ?_⟩
  rw [find_Find_eq]
  refine sound_Sound_spec hT fun H1 p1 => ?_
  simp only [rG_g, dB_bool]
  unfold findE at hQ
  rcases err_cases T 1100 with ⟨e0, e1, e2⟩ | ⟨e0, e1, e2⟩
  · rw [e1, e2] at hQ
    rw [decide_eq_false (by omega), bite_t (by decide)]
    exact hQ H1 p1
  rw [e1, e2] at hQ
  rw [decide_eq_true e0, bite_f (by decide)]
  obtain ⟨P, w⟩ := whole_of e0
  have hT1 := hT.mono p1
  have hn : n = 48 := by have := hT.lenT; have := w.len; omega
  subst hn
  obtain ⟨l, o, c0, p0, rfl, _⟩ := hT1.get (i := 0) (by omega)
  rw [chk_true]
  refine chk_of (by simp) ?_
  rw [pS_some]
  have loop : ∀ (d F a : Nat) (P : List Nat) (ps : KV), Sub T d a P ps → d < F → findK (entD T) key = findK ps key → find_Find.l4 F key (some (l, o)) 48 l (o + a * 5) H1 Q := by
    intro d
    induction d with
    | zero => intro F a P ps h; exact h.elim
    | succ d ih =>
      intro F a P ps h hF he
      obtain ⟨F, rfl⟩ : ∃ F', F = F' + 1 := ⟨F - 1, by omega⟩
      have hlt := h.inT a h.head
      obtain ⟨p, hp, hm, hcase⟩ := h
      obtain ⟨l', o', c, p', ee, hc, hp', hpc, g0, g1, g2, g3, g4⟩ := hT1.get (i := a) (by rw [w.len] at hlt; exact hlt)
      cases ee
      rw [hp] at hp'; cases hp'
      have hpl : p.leaf = c.l := hpc.leaf
      have hpw := rising_pw hm.2.rising
      rw [find_Find.l4_eq, rd_of (v := .bool c.l) (by exact g1), dB_bool]
      rcases hcase with ⟨_, hl, _, e⟩ | ⟨hl, P', _, hk⟩
      · rw [bite_f (by rw [← hpl, hl]; rfl), rd_of (v := .sl c.a1 c.n1 1) (by exact g2), dL_sl]
        refine node_Slot_spec hpc.keys ?_
        simp only [rT_tup, uR_cons, rS_s, dI_int, dB_bool, uE_nil]
        have v1 := (hm.2.leaf hl).1
        rw [e, findK_zip hpw v1] at he
        refine bite_of (fun eb => ?_) (fun eb => ?_)
        · have eb' : slotB p.keys key = false := by simpa using eb
          rw [eb'] at he
          rw [he] at hQ
          exact hQ H1 p1
        · have eb' : slotB p.keys key = true := by simpa using eb
          rw [eb'] at he
          have hs : slotN p.keys key < p.vals.length := by
            unfold slotB at eb'
            have := (List.getElem?_eq_some_iff.1 (of_decide_eq_true eb')).1
            omega
          rw [rd_of (v := .sl c.a2 c.n2 1) (by exact g3), dL_sl, chk_true, hpc.vals.rd (slotN p.keys key) rfl hs]
          dsimp only at he
          rw [List.getElem?_eq_getElem hs] at he
          rw [he] at hQ
          exact hQ H1 p1
      · rw [bite_t (by rw [← hpl, hl]; rfl), rd_of (v := .sl c.a3 c.n3 1) (by exact g4), dL_sl]
        refine find_Kid_spec (by exact g2) hpc.keys ?_
        simp only [rG_g, dI_int]
        obtain ⟨k, P1, ps1, hk1, hk2, hk3⟩ := kids_find (key := key) hk hpw
        have hkl := (List.getElem?_eq_some_iff.1 hk1).1
        rw [rd_of (v := .sl c.a3 c.n3 1) (by exact g4), dL_sl]
        refine ⟨rfl, ?_⟩
        rw [chk_true, hpc.kids.rd (kidN p.keys key) rfl hkl]
        have hke : p.kids[kidN p.keys key] = k := by rw [List.getElem?_eq_getElem hkl] at hk1; exact Option.some.inj hk1
        have hk48 := (hm.2.inner hl).2.2.2.1 k (by rw [← hke]; exact List.getElem_mem _)
        rw [hke, chk_true]
        refine chk_of (by simp; omega) ?_
        rw [pS_some]
        exact ih F k.toNat P1 ps1 hk2.1 (by omega) (he.trans hk3)
  have hd := w.sub.low
  have hc := w.count
  have := loop (heightD T) 59 0 P (entD T) w.sub (by omega) rfl
  exact this
set_option maxRecDepth 100000 in
theorem ref9_Find_spec (hT : Tr H x n cs T) (hQ : ∀ H', H <+: H' → Q (.tup [.s (.str ((findE T key).getD (mkS []))), .s (.bool (findE T key).isSome), .s (.int .i64 (errE 1100 T))]) H') : ref9_Find [.agg [.sl x n 5], .g (.str key)] H Q := by
  refine ⟨70, ?_⟩
  rw [ref9_Find_eq]
  refine ref9_All_spec hT fun a m H1 p1 o1 l1 => ?_
  simp only [rT_tup, uR_cons, rS_s, dL_sl, dI_int, uE_nil]
  have hl := allE_len T
  unfold findE at hQ
  rcases err_cases T 1400 with ⟨e0, e1, e2⟩ | ⟨e0, e1, e2⟩
  · have e3 : errE 1100 T = 1100 := by unfold errE; rw [decide_eq_false (by omega)]
    rw [e1, bite_t (by decide)]
    rw [e2, e3] at hQ
    exact hQ H1 p1
  have e3 : errE 1100 T = 0 := by unfold errE; rw [decide_eq_true e0]
  rw [e3] at hQ
  rw [e1, bite_f (by decide)]
  have k1 := o1.kv l1
  have loop : ∀ (F i : Nat), m - i < F → i ≤ m → findK ((allE T).drop i) key = findK (allE T) key → ref9_Find.l5 F key a m (i : Int) H1 Q := by
    intro F
    induction F with
    | zero => intro i h; omega
    | succ F ih =>
      intro i hF hi he
      rw [ref9_Find.l5_eq]
      by_cases hik : i < m
      · obtain ⟨l, o, rfl, q1, q2⟩ := k1.get (i := i) (by omega)
        have etN : tN (i : Int) = i := rfl
        rw [bite_t (by simp; omega), chk_true]
        refine chk_of (by simp; omega) ?_
        rw [pS_some, etN, Nat.add_zero, rd_of q1, dS_str]
        rw [List.drop_eq_getElem_cons (by omega)] at he
        rw [findK_cons] at he
        refine bite_of (fun e => ?_) (fun e => ?_)
        · rw [decide_eq_true (by simpa using e)] at he
          rw [chk_true]
          refine chk_of (by simp; omega) ?_
          rw [pS_some, rd_of q2, dS_str]
          dsimp only at he
          rw [← he] at hQ
          exact hQ H1 p1
        · rw [decide_eq_false (by simpa using e)] at he
          rw [wrap_succ (by omega)]
          exact ih (i + 1) (by omega) (by omega) he
      · rw [bite_f (by simp; omega)]
        rw [List.drop_of_length_le (by omega)] at he
        rw [← he] at hQ
        exact hQ H1 p1
  exact loop 69 0 (by omega) (by omega) rfl
theorem fA1 : findE (buildD kvA) (mkS [101]) = some (mkS [53]) := by decide +kernel
theorem fA2 : findE (buildD kvA) (mkS [98, 98]) = none := by decide +kernel
theorem eA2 : errE 1100 (buildD kvA) = 0 := by decide +kernel
set_option maxRecDepth 100000 in
theorem law11_awake_spec (hQ : ∀ H', H <+: H' → Q (.g (.bool true)) H') : law11_awake [] H Q := by
  refine ⟨1, ?_⟩
  rw [law11_awake_eq]
  simp only [pu_def, ln_def]
  have pA := pre_pu H (.row false 0 [(.str (mkS [97])), (.str (mkS [49])), (.str (mkS [98])), (.str (mkS [])), (.str (mkS [99])), (.str (mkS [51])), (.str (mkS [100])), (.str (mkS [])), (.str (mkS [101])), (.str (mkS [53]))])
  refine ref9_Build_spec (kvA_at H) (by omega) fun H1 tp cs p1 oT => ?_
  simp only [rA_agg, uC_cons, dL_sl, uN_nil]
  refine find_Find_spec oT.tr fun H2 p2 => ?_
  simp only [rT_tup, uR_cons, rS_s, dS_str, dB_bool, dI_int, uE_nil]
  refine find_Find_spec (oT.tr.mono p2) fun H3 p3 => ?_
  simp only [rT_tup, uR_cons, rS_s, dS_str, dB_bool, dI_int, uE_nil]
  refine find_Find_spec (tr_nil H3) fun H4 p4 => ?_
  simp only [rT_tup, uR_cons, rS_s, dS_str, dB_bool, dI_int, uE_nil]
  have hE : errE 1100 [] = 1100 := by decide +kernel
  rw [fA1, fA2, eA2, hE, bite_t (by simp)]
  simp only [Option.isSome_some, Option.isSome_none, Bool.not_false, bite_true]
  refine law0_Num_spec ?_
  simp only [rG_g, dI_int]
  rw [bite_t (by decide)]
  refine law0_Num_spec ?_
  simp only [rG_g, dI_int]
  rw [bite_t (by decide)]
  refine law0_Num_spec ?_
  simp only [rG_g, dI_int]
  exact hQ _ (pA.trans (p1.trans (p2.trans (p3.trans p4))))
set_option maxRecDepth 100000 in
theorem law11_Finds_spec {z : Pl} (hT : Tr H z n cs T) (hn : n * 80 ≤ 140737488351232) (hQ : ∀ H', Q (.g (.bool true)) H') : law11_Finds [.agg [.sl z n 5], .g (.str key)] H Q := by
  refine ⟨1, ?_⟩
  rw [law11_Finds_eq]
  refine law0_CopyTree_ct hT hn fun x ds H1 g => ?_
  simp only [rA_agg, uC_cons, dL_sl, uN_nil]
  refine find_Find_spec g.ot.tr fun H2 p2 => ?_
  simp only [rT_tup, uR_cons, rS_s, dS_str, dB_bool, dI_int, uE_nil]
  refine ref9_Find_spec (hT.mono (g.pre.trans p2)) fun H3 p3 => ?_
  simp only [rT_tup, uR_cons, rS_s, dS_str, dB_bool, dI_int, uE_nil]
  rw [bite_t (by simp), bite_t (by simp)]
  refine law0_Num_spec ?_
  simp only [rG_g, dI_int]
  rw [bite_t (by simp)]
  refine law0_SameTree_spec (g.ot.tr.mono (p2.trans p3)) (hT.mono (g.pre.trans (p2.trans p3))) (by omega) fun b hb => ?_
  simp only [rG_g, dB_bool]
  rw [bite_t (hb.2 rfl)]
  refine law11_awake_spec fun H8 p8 => ?_
  simp only [rG_g, dB_bool]
  exact hQ _
theorem usedSum_take (g : Pg → Nat) {i : Nat} {p : Pg} (hp : T[i]? = some p) : usedSum g (T.take (i + 1)) = usedSum g (T.take i) + (match p.used with | true => g p | false => 0) := by
  obtain ⟨hi, e⟩ := List.getElem?_eq_some_iff.1 hp
  unfold usedSum
  rw [List.take_succ_eq_append_getElem hi, List.map_append, List.sum_append, e]
  simp only [List.map_cons, List.map_nil, List.sum_cons, List.sum_nil, Nat.add_zero]
  cases p.used <;> rfl
set_option maxRecDepth 100000 in
theorem law10_SoundPages_spec {z : Pl} (hT : Tr H z n cs T) (_ : n * 80 ≤ 140737488351232) (hQ : ∀ H', Q (.g (.bool true)) H') : law10_SoundPages [.agg [.sl z n 5]] H Q := by
  refine ⟨60, ?_⟩
  rw [law10_SoundPages_eq]
  refine law10_awake_spec fun H1 p1 => ?_
  simp only [rG_g, dB_bool]
  rw [bite_f (by decide)]
  refine sound_Sound_spec (hT.mono p1) fun H2 p2 => ?_
  simp only [rG_g, dB_bool]
  rcases err_cases T 1400 with ⟨e0, e1, e2⟩ | ⟨e0, e1, e2⟩
  · rw [decide_eq_false (by omega), bite_t (by decide)]
    refine sound_Height_spec (hT.mono (p1.trans p2)) fun H3 p3 => ?_
    simp only [rG_g, dI_int]
    rw [e0]
    exact hQ _
  rw [decide_eq_true e0, bite_f (by decide)]
  refine ref9_All_spec (hT.mono (p1.trans p2)) fun a m H3 p3 o3 l3 => ?_
  simp only [rT_tup, uR_cons, rS_s, dL_sl, dI_int, uE_nil]
  obtain ⟨st, s⟩ := SF.of e0
  have hn48 : n = 48 := by have := hT.lenT; have := s.len; omega
  subst hn48
  obtain ⟨u1, u2, u3, u4⟩ := s.sums
  have u5 := s.ents.2.2.2
  rw [e1]
  have hT3 := hT.mono (p1.trans (p2.trans p3))
  have loop : ∀ (F i : Nat) (H4 : Hp), 48 - i < F → i ≤ 48 → H3 <+: H4 → usedSum gK (T.take i) ≤ 4 * i → usedSum gL (T.take i) ≤ i → law10_SoundPages.l8 F z 48 a m 0 (usedSum gK (T.take i) : Int) (usedSum gL (T.take i) : Int) (i : Int) H4 Q := by
    intro F
    induction F with
    | zero => intro i _ h; omega
    | succ F ih =>
      intro i H4 hF hi p4 b1 b2
      rw [law10_SoundPages.l8_eq]
      by_cases hik : i < 48
      · obtain ⟨l, o, c, p, rfl, hc, hp, hpc, g0, g1, g2, g3, g4⟩ := (hT3.mono p4).get hik
        have etN : tN (i : Int) = i := rfl
        have hpu : p.used = c.u := hpc.used
        have hpl : p.leaf = c.l := hpc.leaf
        have hn1 := hpc.keys.len
        have sK := usedSum_take gK hp
        have sL := usedSum_take gL hp
        rw [bite_t (by simp; omega), chk_true]
        refine chk_of (by simp; omega) ?_
        have wi : wrapI .i64 ((i : Int) + 1) = ((i + 1 : Nat) : Int) := wrap_succ (by omega)
        rw [pS_some, etN, rdPage_of g0 g1 g2 g3 g4, wi]
        refine bite_of (fun eu => ?_) (fun eu => ?_)
        · have hu : p.used = true := by rw [hpu, eu]
          obtain ⟨_, hmay, h2⟩ := s.used hp hu
          have hM := (mayB_iff p).1 hmay
          have h4 := hM.1
          rw [hu] at sK sL
          dsimp only at sK sL
          have fin : ∀ H5, H3 <+: H5 → bite c.u (bite c.l (law10_SoundPages.l8 F (some (l, o)) 48 a m 0 (wrapI .i64 ((usedSum gK (T.take i) : Int) + nI c.n1)) (wrapI .i64 ((usedSum gL (T.take i) : Int) + 1)) ((i + 1 : Nat) : Int) H5 Q)
              (law10_SoundPages.l8 F (some (l, o)) 48 a m 0 (usedSum gK (T.take i) : Int) (usedSum gL (T.take i) : Int) ((i + 1 : Nat) : Int) H5 Q)) (law10_SoundPages.l8 F (some (l, o)) 48 a m 0 (usedSum gK (T.take i) : Int) (usedSum gL (T.take i) : Int) ((i + 1 : Nat) : Int) H5 Q) := fun H5 p5 => by
            rw [bite_t eu]
            refine bite_of (fun el => ?_) (fun el => ?_)
            · have hl : p.leaf = true := by rw [hpl, el]
              have gk : gK p = c.n1 := by unfold gK; rw [hl, hn1]
              have gl : gL p = 1 := by unfold gL; rw [hl]
              rw [gk] at sK
              rw [gl] at sL
              have w1 : wrapI .i64 ((usedSum gK (T.take i) : Int) + nI c.n1) = (usedSum gK (T.take (i + 1)) : Int) := by rw [sK, nI_def, wrap64 (by omega) (by omega)]; omega
              have w2 : wrapI .i64 ((usedSum gL (T.take i) : Int) + 1) = (usedSum gL (T.take (i + 1)) : Int) := by rw [sL, wrap_succ (by omega)]
              rw [w1, w2]
              exact ih (i + 1) H5 (by omega) (by omega) p5 (by omega) (by omega)
            · have hl : p.leaf = false := by rw [hpl, el]
              have gk : gK p = 0 := by unfold gK; rw [hl]
              have gl : gL p = 0 := by unfold gL; rw [hl]
              rw [gk] at sK
              rw [gl] at sL
              have sK' : usedSum gK (T.take (i + 1)) = usedSum gK (T.take i) := by omega
              have sL' : usedSum gL (T.take (i + 1)) = usedSum gL (T.take i) := by omega
              rw [← sK', ← sL']
              exact ih (i + 1) H5 (by omega) (by omega) p5 (by omega) (by omega)
          refine ref1_PageMay_spec hpc fun b hb => ?_
          simp only [rG_g, dB_bool]
          rw [bite_f (by rw [hb.2 hM]; rfl)]
          refine bite_of (fun ei => ?_) (fun ei => ?_)
          · rw [bite_f (by have := h2 (by simpa using ei); simp; omega)]
            exact fin H4 p4
          · exact fin H4 p4
        · have hu : p.used = false := by rw [hpu, eu]
          rw [hu] at sK sL
          dsimp only at sK sL
          have sK' : usedSum gK (T.take (i + 1)) = usedSum gK (T.take i) := by omega
          have sL' : usedSum gL (T.take (i + 1)) = usedSum gL (T.take i) := by omega
          rw [eu]
          simp only [bite_false]
          rw [← sK', ← sL']
          exact ih (i + 1) H4 (by omega) (by omega) p4 (by omega) (by omega)
      · have h48 : i = 48 := by omega
        subst h48
        have ht : T.take 48 = T := List.take_of_length_le (by rw [s.len]; exact Nat.le_refl _)
        rw [bite_f (by simp), ht]
        refine sound_Height_spec (hT3.mono p4) fun H5 p5 => ?_
        simp only [rG_g, dI_int]
        have hm : m = usedSum gK T := by rw [← l3, e2, u1]
        rw [bite_t (by decide), bite_t (by simp; omega), bite_t (by simp; omega), bite_t (by simp; omega)]
        rw [bite_t (by
          simp only [eqI_def, eqB_def, beq_iff_eq, decide_eq_decide]
          constructor
          · intro h; have := u2.1 (by omega); omega
          · intro h; have := u2.2 (by omega); omega)]
        rw [leI_def, decide_eq_true (by omega)]
        exact hQ _
  exact loop 59 0 H3 (by omega) (by omega) (List.prefix_refl _) (by simp [usedSum]) (by simp [usedSum])
end
end Go.Am
namespace Go.Am

/-! keys by numbers -/
theorem letters_lt : ∀ i j : Fin 128, blt (lettersD i.1) (lettersD j.1) = decide (i.1 < j.1) := by decide +kernel
theorem letters_size (i : Nat) : (lettersD i).size = 2 := rfl
theorem letters_blt {i j : Nat} (hi : i < 128) (hj : j < 128) : blt (lettersD i) (lettersD j) = decide (i < j) := letters_lt ⟨i, hi⟩ ⟨j, hj⟩
theorem letters_inj {i j : Nat} (hi : i < 128) (hj : j < 128) (h : lettersD i = lettersD j) : i = j := by
  have h1 := letters_blt hi hj
  have h2 := letters_blt hj hi
  rw [h, blt_irr] at h1
  rw [h, blt_irr] at h2
  have := of_decide_eq_false h1.symm
  have := of_decide_eq_false h2.symm
  omega
def kvW (l : List Nat) : KV := l.map fun i => (lettersD i, mkS [118])
theorem kvW_append (l m : List Nat) : kvW (l ++ m) = kvW l ++ kvW m := by simp [kvW]
theorem kvW_ok (l : List Nat) : KVok (kvW l) := fun x hx => by
  obtain ⟨i, _, rfl⟩ := List.mem_map.1 hx
  exact ⟨⟨by show 1 ≤ (lettersD i).size; rw [letters_size]; omega, by show (lettersD i).size ≤ 6; rw [letters_size]; omega⟩, by show (mkS [118]).size ≤ 10; decide⟩
theorem kvW_asc {k : Nat} (hk : k ≤ 100) : Asc (kvW (List.range k)) := by
  unfold Asc kvW
  rw [List.pairwise_map]
  refine (List.pairwise_lt_range (n := k)).imp_of_mem fun {a b} ha hb h => ?_
  have := List.mem_range.1 ha
  have := List.mem_range.1 hb
  show blt (lettersD a) (lettersD b) = true
  rw [letters_blt (by omega) (by omega), decide_eq_true h]
theorem kvW_scan {k x y : Nat} (hk : k ≤ 60) (hx : x < 128) (hy : y < 128) : scanE (buildD (kvW (List.range k))) (lettersD x) (lettersD y) = kvW ((List.range k).filter fun i => decide (x ≤ i) && decide (i < y)) ∧ allE (buildD (kvW (List.range k))) = kvW (List.range k) ∧ 0 < heightD (buildD (kvW (List.range k))) := by
  obtain ⟨b1, b2⟩ := build_sound (kvW_asc (k := k) (by omega)) (kvW_ok _) (by simp [kvW]; omega)
  have e : allE (buildD (kvW (List.range k))) = kvW (List.range k) := by unfold allE; rw [decide_eq_true b1]; exact b2
  refine ⟨?_, e, b1⟩
  unfold scanE
  rw [e]
  unfold kvW
  rw [List.filter_map]
  congr 1
  apply List.filter_congr
  intro i hi
  have := List.mem_range.1 hi
  show inR (lettersD x) (lettersD y) (lettersD i, mkS [118]) = _
  unfold inR
  dsimp only
  rw [letters_blt (by omega) hx, letters_blt (by omega) hy, letters_size]
  by_cases q : x ≤ i
  · rw [decide_eq_true q, decide_eq_false (by omega)]; simp
  · rw [decide_eq_false q, decide_eq_true (by omega)]; rfl
section
variable {H : Hp} {Q : Post}
set_option maxRecDepth 100000 in
theorem law14_ScanRange_spec {a b c : Int} (hQ : ∀ H', Q (.g (.bool true)) H') : law14_ScanRange [.g (.int .i64 a), .g (.int .i64 b), .g (.int .i64 c)] H Q := by
  refine ⟨80, ?_⟩
  rw [law14_ScanRange_eq]
  refine law14_awake_spec fun H1 p1 => ?_
  simp only [rG_g, dB_bool]
  rw [bite_f (by decide)]
  obtain ⟨ka, hka, eka⟩ := and_le a (m := 63) (by omega) (j := 63) rfl
  obtain ⟨x, hx, ex⟩ := and_le b (m := 63) (by omega) (j := 63) rfl
  obtain ⟨y, hy, ey⟩ := and_le c (m := 63) (by omega) (j := 63) rfl
  have main : ∀ k : Nat, k ≤ 60 → law14_ScanRange.l6 79 b c (k : Int) H1 Q := by
    intro k hk
    rw [law14_ScanRange.l6_eq, ex, ey]
    obtain ⟨s1, s2, s3⟩ := kvW_scan (k := k) (x := x) (y := y) hk (by omega) (by omega)
    have loop : ∀ (F i : Nat) (H2 : Hp) (a1 : Pl) (n1 : Nat) (a2 : Pl) (n2 : Nat), k - i < F → i ≤ k → H1 <+: H2 → Own H2 H1.length tKV a1 (n1 * 2) (kvCells (kvW (List.range i))) → (kvW (List.range i)).length = n1 →
        Own H2 H1.length tKV a2 (n2 * 2) (kvCells (kvW ((List.range i).filter fun i => decide (x ≤ i) && decide (i < y)))) → (kvW ((List.range i).filter fun i => decide (x ≤ i) && decide (i < y))).length = n2 → Dj a1 a2 →
        law14_ScanRange.l9 F (k : Int) a1 n1 a2 n2 (x : Int) (y : Int) (i : Int) H2 Q := by
      intro F
      induction F with
      | zero => intro i _ _ _ _ _ h; omega
      | succ F ih =>
        intro i H2 a1 n1 a2 n2 hF hi p2 o1 l1 o2 l2 hd
        rw [law14_ScanRange.l9_eq]
        have hn1 : n1 = i := by rw [← l1]; simp [kvW]
        have hn2 : n2 ≤ i := by
          rw [← l2]
          show (List.map _ _).length ≤ i
          rw [List.length_map]
          exact Nat.le_trans (List.length_filter_le _ _) (by simp)
        by_cases hik : i < k
        · rw [bite_t (by simp; omega)]
          refine law14_letters_spec (k := i) (by omega) fun H3 p3 => ?_
          simp only [rG_g, dS_str]
          rw [chk_true]
          refine ap_kv' (p2.trans p3) (o1.mono p3) l1 _ _ (by omega) fun a1' H4 h4 o1' l1' e4 f4 => ?_
          have hd' : Dj a1' a2 := fun l q1 q2 => by have := (f4 l 0 q1).1; have := (o2.mono p3).lt' q2; omega
          have o2' := (o2.mono p3).after hd e4
          rw [wrap_succ (by omega)]
          have er : kvW (List.range i) ++ [(lettersD i, mkS [118])] = kvW (List.range (i + 1)) := by rw [List.range_succ, kvW_append]; rfl
          rw [er] at o1' l1'
          have ef : (List.range (i + 1)).filter (fun i => decide (x ≤ i) && decide (i < y)) = (List.range i).filter (fun i => decide (x ≤ i) && decide (i < y)) ++ (match decide (x ≤ i) && decide (i < y) with | true => [i] | false => []) := by
            rw [List.range_succ, List.filter_append]
            congr 1
          have no : (decide (x ≤ i) && decide (i < y)) = false → law14_ScanRange.l9 F (k : Int) a1' (n1 + 1) a2 n2 (x : Int) (y : Int) ((i + 1 : Nat) : Int) H4 Q := fun e => by
            rw [e, List.append_nil] at ef
            exact ih (i + 1) H4 a1' (n1 + 1) a2 n2 (by omega) (by omega) h4 o1' l1' (by rw [ef]; exact o2') (by rw [ef]; exact l2) hd'
          refine bite_of (fun e1 => ?_) (fun e1 => ?_)
          · refine bite_of (fun e2 => ?_) (fun e2 => ?_)
            · have e3 : (decide (x ≤ i) && decide (i < y)) = true := by simp at e1 e2; simp; omega
              rw [e3] at ef
              rw [chk_true]
              refine ap_kv' h4 o2' l2 _ _ (by omega) fun a2' H5 h5 o2'' l2' e5 f5 => ?_
              have er2 : kvW ((List.range i).filter fun i => decide (x ≤ i) && decide (i < y)) ++ [(lettersD i, mkS [118])] = kvW ((List.range (i + 1)).filter fun i => decide (x ≤ i) && decide (i < y)) := by rw [ef, kvW_append]; rfl
              rw [er2] at o2'' l2'
              exact ih (i + 1) H5 a1' (n1 + 1) a2' (n2 + 1) (by omega) (by omega) h5 (o1'.after hd'.symm e5) l1' o2'' l2' (fun l q1 q2 => by have := (f5 l 0 q2).1; have := o1'.lt' q1; omega)
            · exact no (by simp at e1 e2; simp; omega)
          · exact no (by simp at e1; simp; omega)
        · have hik' : i = k := by omega
          subst hik'
          rw [bite_f (by simp)]
          refine ref9_Build_spec (o1.kv l1) (by omega) fun H3 tp cs p3 oT => ?_
          simp only [rA_agg, uC_cons, dL_sl, uN_nil]
          refine law14_letters_spec (k := x) (by omega) fun H4 p4 => ?_
          simp only [rG_g, dS_str]
          refine law14_letters_spec (k := y) (by omega) fun H5 p5 => ?_
          simp only [rG_g, dS_str]
          refine scan_Range_spec (oT.tr.mono (p4.trans p5)) fun a3 m3 H6 p6 o3 l3 => ?_
          simp only [rT_tup, uR_cons, rS_s, dL_sl, dI_int, uE_nil]
          refine scan_All_spec (oT.tr.mono (p4.trans (p5.trans p6))) fun a4 m4 H7 p7 o4 l4 => ?_
          simp only [rT_tup, uR_cons, rS_s, dL_sl, dI_int, uE_nil]
          have eE : errE 1400 (buildD (kvW (List.range i))) = 0 := by unfold errE; rw [decide_eq_true s3]
          rw [s1] at o3 l3
          rw [s2] at o4 l4
          have p27 := p3.trans (p4.trans (p5.trans (p6.trans p7)))
          have hn3 : m3 ≤ i := by rw [← l3, l2]; exact hn2
          have hn4 : m4 = i := by rw [← l4, l1]; exact hn1
          rw [eE]
          refine law0_Num_spec ?_
          simp only [rG_g, dI_int]
          rw [bite_t (by decide)]
          refine law0_SamePairs_spec ((o3.kv l3).mono p7) ((o2.kv l2).mono p27) (by omega) fun b hb => ?_
          simp only [rG_g, dB_bool]
          rw [bite_t (hb.2 rfl)]
          refine law0_Num_spec ?_
          simp only [rG_g, dI_int]
          rw [bite_t (by decide)]
          refine law0_SamePairs_spec (o4.kv l4) ((o1.kv l1).mono p27) (by omega) fun b hb => ?_
          simp only [rG_g, dB_bool]
          rw [hb.2 rfl]
          exact hQ _
    exact loop 78 0 H1 none 0 none 0 (by omega) (by omega) (List.prefix_refl _) (.inl ⟨rfl, rfl, rfl⟩) rfl (.inl ⟨rfl, rfl, rfl⟩) rfl (fun l e => by cases e)
  rw [eka]
  refine bite_of (fun e => main 60 (by omega)) (fun e => main ka (by simp at e; omega))

/-! every entry is found -/
theorem findK_long {ps : KV} (h : KVok ps) {key : ByteArray} (hs : 6 < key.size) : findK ps key = none := findK_none fun x hx e => by
  have := (h x hx).1.2
  rw [e] at this; omega
theorem allE_ok (T : List Pg) : KVok (allE T) := by
  rcases err_cases T 0 with ⟨_, _, e⟩ | ⟨e0, _, e⟩
  · rw [e]; exact fun x hx => by simp at hx
  · rw [e]; obtain ⟨st, s⟩ := SF.of e0; exact s.ents.2.1
set_option maxRecDepth 100000 in
theorem law11_FindAll_spec {z : Pl} {n : Nat} {cs : List PC} {T : List Pg} {key : ByteArray} (hT : Tr H z n cs T) (_ : n * 80 ≤ 140737488351232) (hQ : ∀ H', Q (.g (.bool true)) H') : law11_FindAll [.agg [.sl z n 5], .g (.str key)] H Q := by
  refine ⟨70, ?_⟩
  rw [law11_FindAll_eq]
  refine law11_awake_spec fun H1 p1 => ?_
  simp only [rG_g, dB_bool]
  rw [bite_f (by decide)]
  refine ref9_All_spec (hT.mono p1) fun a m H2 p2 o2 l2 => ?_
  simp only [rT_tup, uR_cons, rS_s, dL_sl, dI_int, uE_nil]
  have hl := allE_len T
  have hT2 := hT.mono (p1.trans p2)
  rcases err_cases T 1400 with ⟨e0, e1, e2⟩ | ⟨e0, e1, e2⟩
  · have e3 : errE 1100 T = 1100 := by unfold errE; rw [decide_eq_false (by omega)]
    rw [e1, bite_t (by decide)]
    refine find_Find_spec hT2 fun H3 p3 => ?_
    simp only [rT_tup, uR_cons, rS_s, dS_str, dB_bool, dI_int, uE_nil]
    refine law0_Num_spec ?_
    simp only [rG_g, dI_int]
    rw [e3]
    exact hQ _
  have e3 : errE 1100 T = 0 := by unfold errE; rw [decide_eq_true e0]
  rw [e1, bite_f (by decide)]
  have loop : ∀ (F i : Nat) (H3 : Hp), m - i < F → i ≤ m → H2 <+: H3 → law11_FindAll.l9 F key z n a m (((allE T).take i).any fun x => decide (x.1 = key)) (i : Int) H3 Q := by
    intro F
    induction F with
    | zero => intro i _ h; omega
    | succ F ih =>
      intro i H3 hF hi p3
      rw [law11_FindAll.l9_eq]
      by_cases hik : i < m
      · obtain ⟨l, o, rfl, q1, q2⟩ := ((o2.kv l2).mono p3).get (i := i) (by omega)
        have etN : tN (i : Int) = i := rfl
        have hidx : (leI 0 (i : Int) && ltI (i : Int) (nI m)) = true := by simp; omega
        have hmem : (allE T)[i]'(by omega) ∈ allE T := List.getElem_mem _
        have hok := allE_ok T _ hmem
        have hfind := findK_mem (allE_asc T) hmem
        have htake : (allE T).take (i + 1) = (allE T).take i ++ [(allE T)[i]'(by omega)] := List.take_succ_eq_append_getElem (by omega)
        generalize hxi : (allE T)[i]'(by omega) = kv at *
        obtain ⟨k, v⟩ := kv
        dsimp only at q1 q2 hok hfind
        rw [bite_t (by simp; omega), chk_true]
        refine chk_of hidx ?_
        rw [pS_some, etN, Nat.add_zero, rd_of q1, dS_str]
        refine find_Find_spec (hT2.mono p3) fun H4 p4 => ?_
        simp only [rT_tup, uR_cons, rS_s, dS_str, dB_bool, dI_int, uE_nil]
        have hf1 : findE T k = some v := hfind
        rw [chk_true]
        refine chk_of hidx ?_
        rw [pS_some, Nat.add_zero, rd_of (gt_pre p4 q1), dS_str]
        refine ⟨by show k.size + 2 ≤ _; omega, ?_⟩
        refine find_Find_spec (hT2.mono (p3.trans p4)) fun H5 p5 => ?_
        simp only [rT_tup, uR_cons, rS_s, dS_str, dB_bool, dI_int, uE_nil]
        rw [hf1, e3]
        simp only [Option.isSome_some, Option.getD_some]
        have g1 := gt_pre (p4.trans p5) q1
        have g2 := gt_pre (p4.trans p5) q2
        refine law0_Num_spec ?_
        simp only [rG_g, dI_int]
        rw [bite_f (by decide), bite_f (by decide), chk_true]
        refine chk_of hidx ?_
        rw [pS_some, rd_of g2, dS_str, bite_f (by simp)]
        refine law0_Num_spec ?_
        simp only [rG_g, dI_int]
        rw [bite_f (by decide), wrap_succ (by omega)]
        have go : bite (((allE T).take i).any fun x => decide (x.1 = key)) (law11_FindAll.l9 F key z n (some (l, o)) m true ((i + 1 : Nat) : Int) H5 Q)
            (chk true (chk (leI 0 (i : Int) && ltI (i : Int) (nI m)) (pS (some (l, o)) fun n55 n56 => rd H5 n55 (n56 + i * 2 + 0) fun v57 => dS v57 fun s58 => law11_FindAll.l9 F key z n (some (l, o)) m (strEq s58 key) ((i + 1 : Nat) : Int) H5 Q))) := by
          have := ih (i + 1) H5 (by omega) (by omega) (p3.trans (p4.trans p5))
          rw [htake, List.any_append] at this
          refine bite_of (fun e => ?_) (fun e => ?_)
          · rw [e, Bool.true_or] at this; exact this
          · rw [e, Bool.false_or] at this
            rw [chk_true]
            refine chk_of hidx ?_
            rw [pS_some, Nat.add_zero, rd_of g1, dS_str, strEq_def]
            simpa using this
        refine bite_of (fun e => ?_) (fun e => ?_)
        · rw [chk_true]
          refine chk_of hidx ?_
          rw [pS_some, Nat.add_zero, rd_of g1, dS_str]
          rw [bite_f (by
            by_cases q : 4 < k.size
            · have : findE T (k ++ mkS [0, 0]) = none := findK_long (allE_ok T) (by rw [ByteArray.size_append]; show 6 < k.size + 2; omega)
              rw [this] at e; cases e
            · simp; omega)]
          exact go
        · exact go
      · have him : i = m := by omega
        subst him
        rw [bite_f (by simp)]
        refine find_Find_spec (hT2.mono p3) fun H4 p4 => ?_
        simp only [rT_tup, uR_cons, rS_s, dS_str, dB_bool, dI_int, uE_nil]
        refine law0_Num_spec ?_
        simp only [rG_g, dI_int]
        rw [e3, bite_t (by decide)]
        have : (findE T key).isSome = ((allE T).take i).any fun x => decide (x.1 = key) := by
          rw [List.take_of_length_le (by omega)]; exact findK_is
        rw [this]
        simp only [eqB_def, beq_self_eq_true]
        exact hQ _
  exact loop 69 0 H2 (by omega) (by omega) (List.prefix_refl _)

/-! every second one -/
def kvF (n : Nat) : KV := (List.range n).map fun i => (lettersD (2 * i), lettersD i)
theorem kvF_succ (n : Nat) : kvF (n + 1) = kvF n ++ [(lettersD (2 * n), lettersD n)] := by simp [kvF, List.range_succ]
theorem kvF_asc {k : Nat} (hk : k ≤ 60) : Asc (kvF k) := by
  unfold Asc kvF
  rw [List.pairwise_map]
  refine (List.pairwise_lt_range (n := k)).imp_of_mem fun {a b} ha hb h => ?_
  have := List.mem_range.1 ha
  have := List.mem_range.1 hb
  show blt (lettersD (2 * a)) (lettersD (2 * b)) = true
  rw [letters_blt (by omega) (by omega), decide_eq_true (by omega)]
theorem kvF_ok (n : Nat) : KVok (kvF n) := fun x hx => by
  obtain ⟨i, _, rfl⟩ := List.mem_map.1 hx
  exact ⟨⟨by show 1 ≤ (lettersD (2 * i)).size; rw [letters_size]; omega, by show (lettersD (2 * i)).size ≤ 6; rw [letters_size]; omega⟩, by show (lettersD i).size ≤ 10; rw [letters_size]; omega⟩
theorem kvF_find {k j : Nat} (hk : k ≤ 60) (hj : j < 128) : (∀ i, j = 2 * i → i < k → findK (kvF k) (lettersD j) = some (lettersD i)) ∧ ((∀ i, j = 2 * i → ¬ i < k) → findK (kvF k) (lettersD j) = none) := by
  refine ⟨fun i hi hik => ?_, fun h => ?_⟩
  · subst hi
    exact findK_mem (x := (lettersD (2 * i), lettersD i)) (kvF_asc hk) (List.mem_map.2 ⟨i, List.mem_range.2 hik, rfl⟩)
  · refine findK_none fun x hx e => ?_
    obtain ⟨i, hi, rfl⟩ := List.mem_map.1 hx
    have hi := List.mem_range.1 hi
    exact h i (letters_inj (by omega) hj e).symm hi
set_option maxRecDepth 100000 in
theorem law11_FindRow_spec {a b : Int} (hQ : ∀ H', Q (.g (.bool true)) H') : law11_FindRow [.g (.int .i64 a), .g (.int .i64 b)] H Q := by
  refine ⟨80, ?_⟩
  rw [law11_FindRow_eq]
  refine law11_awake_spec fun H1 p1 => ?_
  simp only [rG_g, dB_bool]
  rw [bite_f (by decide)]
  obtain ⟨ka, hka, eka⟩ := and_le a (m := 63) (by omega) (j := 63) rfl
  obtain ⟨j, hj, ej⟩ := and_le b (m := 127) (by omega) (j := 127) rfl
  have main : ∀ k : Nat, k ≤ 60 → law11_FindRow.l6 79 b (k : Int) H1 Q := by
    intro k hk
    rw [law11_FindRow.l6_eq]
    obtain ⟨b1, b2⟩ := build_sound (kvF_asc hk) (kvF_ok k) (by simp [kvF]; omega)
    have eA : allE (buildD (kvF k)) = kvF k := by unfold allE; rw [decide_eq_true b1]; exact b2
    have eE : errE 1100 (buildD (kvF k)) = 0 := by unfold errE; rw [decide_eq_true b1]
    have fN : findE (buildD (kvF k)) (mkS []) = none := by
      unfold findE
      rw [eA]
      refine findK_none fun x hx e => ?_
      have := (kvF_ok k x hx).1.1
      rw [e] at this
      exact absurd this (by decide)
    obtain ⟨fy, fn⟩ := kvF_find (k := k) (j := j) hk (by omega)
    have loop : ∀ (F i : Nat) (H2 : Hp) (a1 : Pl) (n1 : Nat), k - i < F → i ≤ k → H1 <+: H2 → Own H2 H1.length tKV a1 (n1 * 2) (kvCells (kvF i)) → (kvF i).length = n1 → law11_FindRow.l8 F b (k : Int) a1 n1 (i : Int) H2 Q := by
      intro F
      induction F with
      | zero => intro i _ _ _ h; omega
      | succ F ih =>
        intro i H2 a1 n1 hF hi p2 o1 l1
        rw [law11_FindRow.l8_eq]
        have hn1 : n1 = i := by rw [← l1]; simp [kvF]
        by_cases hik : i < k
        · have w2 : wrapI .i64 (2 * (i : Int)) = ((2 * i : Nat) : Int) := by rw [wrap64 (by omega) (by omega)]; omega
          rw [bite_t (by simp; omega), w2]
          refine law11_letters_spec (k := 2 * i) (by omega) fun H3 p3 => ?_
          simp only [rG_g, dS_str]
          refine law11_letters_spec (k := i) (by omega) fun H4 p4 => ?_
          simp only [rG_g, dS_str]
          rw [chk_true]
          refine ap_kv' (p2.trans (p3.trans p4)) (o1.mono (p3.trans p4)) l1 _ _ (by omega) fun a1' H5 h5 o1' l1' _ _ => ?_
          rw [wrap_succ (by omega)]
          rw [← kvF_succ] at o1' l1'
          exact ih (i + 1) H5 a1' (n1 + 1) (by omega) (by omega) h5 o1' l1'
        · have hik' : i = k := by omega
          subst hik'
          rw [bite_f (by simp), ej]
          refine ref9_Build_spec (o1.kv l1) (by omega) fun H3 tp cs p3 oT => ?_
          simp only [rA_agg, uC_cons, dL_sl, uN_nil]
          refine law11_letters_spec (k := j) (by omega) fun H4 p4 => ?_
          simp only [rG_g, dS_str]
          refine find_Find_spec (oT.tr.mono p4) fun H5 p5 => ?_
          simp only [rT_tup, uR_cons, rS_s, dS_str, dB_bool, dI_int, uE_nil]
          have fj : findE (buildD (kvF i)) (lettersD j) = findK (kvF i) (lettersD j) := by unfold findE; rw [eA]
          have tm : Int.tmod (j : Int) 2 = ((j % 2 : Nat) : Int) := rfl
          have td : Int.tdiv (j : Int) 2 = ((j / 2 : Nat) : Int) := rfl
          have wd : wrapI .i64 ((j / 2 : Nat) : Int) = ((j / 2 : Nat) : Int) := wrap64 (by omega) (by omega)
          rw [fj, eE, tm, td, wd]
          refine bite_of (fun e => ?_) (fun e => ?_)
          · have hj2 : j % 2 = 0 := by simp at e; omega
            refine find_Find_spec (oT.tr.mono (p4.trans p5)) fun H6 p6 => ?_
            simp only [rT_tup, uR_cons, rS_s, dS_str, dB_bool, dI_int, uE_nil]
            rw [fN, eE]
            simp only [Option.isSome_none, Option.getD_none]
            refine law0_Num_spec ?_
            simp only [rG_g, dI_int]
            rw [bite_t (by decide)]
            by_cases q : j / 2 < i
            · rw [fy (j / 2) (by omega) q]
              simp only [Option.isSome_some, Option.getD_some]
              rw [bite_t (by simp; omega), bite_f (by decide)]
              refine law11_letters_spec (k := j / 2) (by omega) fun H7 p7 => ?_
              simp only [rG_g, dS_str]
              rw [bite_t (by simp)]
              simp only [bite_true, Bool.not_false]
              refine law0_Num_spec ?_
              simp only [rG_g, dI_int]
              exact hQ _
            · rw [fn (fun i' h1 h2 => q (by omega))]
              simp only [Option.isSome_none, Option.getD_none]
              rw [bite_t (by simp; omega), bite_t (by decide), bite_f rfl, bite_t (by simp), bite_t (by decide)]
              refine law0_Num_spec ?_
              simp only [rG_g, dI_int]
              exact hQ _
          · have hj2 : j % 2 ≠ 0 := by simp at e; omega
            refine find_Find_spec (oT.tr.mono (p4.trans p5)) fun H6 p6 => ?_
            simp only [rT_tup, uR_cons, rS_s, dS_str, dB_bool, dI_int, uE_nil]
            rw [fN, eE, fn (fun i' h1 h2 => by omega)]
            simp only [Option.isSome_none, Option.getD_none]
            refine law0_Num_spec ?_
            simp only [rG_g, dI_int]
            rw [bite_t (by decide), bite_t (by decide), bite_t (by decide), bite_f rfl, bite_t (by simp), bite_t (by decide)]
            refine law0_Num_spec ?_
            simp only [rG_g, dI_int]
            exact hQ _
    exact loop 78 0 H1 none 0 (by omega) (by omega) (List.prefix_refl _) (.inl ⟨rfl, rfl, rfl⟩) rfl
  rw [eka]
  refine bite_of (fun e => main 60 (by omega)) (fun e => main ka (by simp at e; omega))
end
end Go.Am
