import Derived.Test.YtmjnenpllddhfaaEA
set_option linter.unusedVariables false
set_option linter.unusedSimpArgs false
namespace Go.Am

/-- pairs of texts -/
abbrev KV := List (ByteArray × ByteArray)
def kvCells (ps : KV) : List GV := ps.flatMap fun x => [.str x.1, .str x.2]
theorem kvCells_length (ps : KV) : (kvCells ps).length = ps.length * 2 := by
  unfold kvCells
  induction ps with
  | nil => rfl
  | cons c cs ih => simp [ih]; omega
theorem kvCells_get {ps : KV} {i : Nat} (hi : i < ps.length) : (kvCells ps)[i * 2]? = some (.str ps[i].1) ∧ (kvCells ps)[i * 2 + 1]? = some (.str ps[i].2) := by
  unfold kvCells
  induction ps generalizing i with
  | nil => simp at hi
  | cons c cs ih =>
    simp only [List.flatMap_cons]
    cases i with
    | zero => simp
    | succ i =>
      have := ih (i := i) (by simpa using hi)
      rw [List.getElem?_append_right (by simp; omega), List.getElem?_append_right (by simp; omega)]
      have e1 : (i + 1) * 2 - [GV.str c.1, GV.str c.2].length = i * 2 := by simp; omega
      have e2 : (i + 1) * 2 + 1 - [GV.str c.1, GV.str c.2].length = i * 2 + 1 := by simp; omega
      rw [e1, e2]
      simpa using this
structure Kv (H : Hp) (a : Pl) (n : Nat) (ps : KV) : Prop where
  cells : cells? H a (n * 2) = some (kvCells ps)
  len : ps.length = n
theorem Kv.mono {H H' : Hp} (hp : H <+: H') {a : Pl} {n : Nat} {ps : KV} (h : Kv H a n ps) : Kv H' a n ps := ⟨cells_mono hp h.cells, h.len⟩
theorem Kv.get {H : Hp} {a : Pl} {n : Nat} {ps : KV} (h : Kv H a n ps) {i : Nat} (hi : i < ps.length) : ∃ l o, a = some (l, o) ∧ gt H l (o + i * 2) = some (.str ps[i].1) ∧ gt H l (o + i * 2 + 1) = some (.str ps[i].2) := by
  have hc := h.cells
  have hl := h.len
  cases a with
  | none => simp [cells?] at hc; omega
  | some q =>
    obtain ⟨l, o⟩ := q
    obtain ⟨k1, k2⟩ := kvCells_get hi
    refine ⟨l, o, rfl, ?_, ?_⟩
    · rw [cells_get hc (by omega), k1]
    · rw [Nat.add_assoc, cells_get hc (by omega), k2]

/-- leaves being built: pages, their least keys; a page's keys, values -/
structure LJ (B H : Hp) (x : Pl) (m : Nat) (cs : List PC) (T : List Pg) (y : Pl) (ls : List ByteArray) (k : Pl) (ks : List ByteArray) (v : Pl) (vs : List ByteArray) : Prop where
  pre : B <+: H
  X : OT H B.length 34 x m cs T
  Y : Own H B.length 9 y m (ls.map GV.str)
  K : Own H B.length 9 k ks.length (ks.map GV.str)
  V : Own H B.length 9 v vs.length (vs.map GV.str)
  xy : Dj x y
  xk : Dj x k
  xv : Dj x v
  yk : Dj y k
  yv : Dj y v
  kv : Dj k v
  yo : ∀ c ∈ cs, ∀ l, c.on l → y ≠ some (l, 0)
  ko : ∀ c ∈ cs, ∀ l, c.on l → k ≠ some (l, 0)
  vo : ∀ c ∈ cs, ∀ l, c.on l → v ≠ some (l, 0)
  lo : ∀ c ∈ cs, ∀ l, c.on l → B.length ≤ l
section
variable {B H : Hp} {x : Pl} {m : Nat} {cs : List PC} {T : List Pg} {y : Pl} {ls : List ByteArray} {k : Pl} {ks : List ByteArray} {v : Pl} {vs : List ByteArray}
theorem OT.offNew {H : Hp} {b : Nat} {t : TypeId} {a a' : Pl} {n : Nat} {cs : List PC} {T : List Pg} (h : OT H b t a n cs T) (f : ∀ l o, a' = some (l, o) → H.length ≤ l) : ∀ c ∈ cs, ∀ l, c.on l → a' ≠ some (l, 0) := fun c hc l hl e => by
  have := f l 0 e; have := h.onlt hc hl; omega
theorem LJ.key (g : LJ B H x m cs T y ls k ks v vs) (s : ByteArray) (hn : ks.length ≤ 1000) {K : Pl → Nat → Hp → Prop} (hK : ∀ k' H', LJ B H' x m cs T y ls k' (ks ++ [s]) v vs → K k' (ks.length + 1) H') : ap H 9 1 16 k ks.length [.str s] 1 K :=
  ap_own g.pre g.K rfl (by unfold Lim; omega) fun k' H' o e f => hK k' H' ⟨e.pre, g.X.ex e g.xk.symm g.ko, g.Y.after g.yk.symm e, by rw [List.map_append, List.length_append]; exact o, g.V.after g.kv e,
    g.xy, (Dj.fresh g.X.own f).symm, g.xv, (Dj.fresh g.Y f).symm, g.yv, Dj.fresh g.V f, g.yo, g.X.offNew f, g.vo, g.lo⟩
theorem LJ.val (g : LJ B H x m cs T y ls k ks v vs) (s : ByteArray) (hn : vs.length ≤ 1000) {K : Pl → Nat → Hp → Prop} (hK : ∀ v' H', LJ B H' x m cs T y ls k ks v' (vs ++ [s]) → K v' (vs.length + 1) H') : ap H 9 1 16 v vs.length [.str s] 1 K :=
  ap_own g.pre g.V rfl (by unfold Lim; omega) fun v' H' o e f => hK v' H' ⟨e.pre, g.X.ex e g.xv.symm g.vo, g.Y.after g.yv.symm e, g.K.after g.kv.symm e, by rw [List.map_append, List.length_append]; exact o,
    g.xy, g.xk, (Dj.fresh g.X.own f).symm, g.yk, (Dj.fresh g.Y f).symm, (Dj.fresh g.K f).symm, g.yo, g.ko, g.X.offNew f, g.lo⟩
/-- a page done -/
theorem LJ.page (g : LJ B H x m cs T y ls k ks v vs) (hks : ks.length ≤ 1000) (hvs : vs.length ≤ 1000) (hm : m ≤ 1000) (s : ByteArray) {K : Pl → Nat → Hp → Pl → Nat → Hp → Prop}
    (hK : ∀ x' H1 y' H2 c, LJ B H2 x' (m + 1) (cs ++ [c]) (T ++ [⟨true, true, ks, vs, []⟩]) y' (ls ++ [s]) none [] none [] → K x' (m + 1) H1 y' (m + 1) H2) :
    ap H 34 5 80 x m [.bool true, .bool true, .sl k ks.length 1, .sl v vs.length 1, .sl none 0 1] 1 fun x' n' H1 => ap H1 9 1 16 y m [.str s] 1 fun y' n2 H2 => K x' n' H1 y' n2 H2 := by
  have hon : ∀ l, (⟨true, true, k, ks.length, v, vs.length, none, 0⟩ : PC).on l → k = some (l, 0) ∨ v = some (l, 0) := by
    rintro l ⟨o, q | q | q⟩
    · left; rcases g.K with ⟨e, _⟩ | ⟨l', e, _⟩
      · simp at q; rw [e] at q; cases q
      · simp at q; rw [e] at q; cases q; exact e
    · right; rcases g.V with ⟨e, _⟩ | ⟨l', e, _⟩
      · simp at q; rw [e] at q; cases q
      · simp at q; rw [e] at q; cases q; exact e
    · cases q
  have hat : (⟨true, true, k, ks.length, v, vs.length, none, 0⟩ : PC).at H ⟨true, true, ks, vs, []⟩ :=
    ⟨rfl, rfl, ⟨g.K.cells, rfl, by show ks.length * 16 ≤ _; omega⟩, ⟨g.V.cells, rfl, by show vs.length * 16 ≤ _; omega⟩, .nil _⟩
  refine g.X.add (c := ⟨true, true, k, ks.length, v, vs.length, none, 0⟩) g.pre hat (fun l hl e => by rcases hon l hl with q | q; exact g.xk l e q; exact g.xv l e q) (by unfold Lim; omega) fun x' H1 o1 e1 f1 => ?_
  have yo1 : ∀ c ∈ cs ++ [(⟨true, true, k, ks.length, v, vs.length, none, 0⟩ : PC)], ∀ l, c.on l → y ≠ some (l, 0) := by
    intro c hc l hl e
    rcases List.mem_append.1 hc with q | q
    · exact g.yo c q l hl e
    · rw [List.mem_singleton.1 q] at hl
      rcases hon l hl with q | q
      · exact g.yk l e q
      · exact g.yv l e q
  have f1' : ∀ l o, x' = some (l, o) → H.length ≤ l := fun l o e => (f1 l o e).1
  refine ap_own e1.pre (g.Y.after g.xy e1) rfl (by unfold Lim; omega) fun y' H2 o2 e2 f2 => hK x' H1 y' H2 _ ⟨e2.pre, o1.ex e2 (Dj.fresh g.Y f1').symm yo1, by rw [List.map_append]; exact o2, .inl ⟨rfl, rfl, rfl⟩, .inl ⟨rfl, rfl, rfl⟩,
    (Dj.fresh o1.own f2).symm, fun _ _ e => (by cases e), fun _ _ e => (by cases e), fun _ _ e => (by cases e), fun _ _ e => (by cases e), fun _ e => (by cases e), o1.offNew f2, fun c hc l hl e => (by cases e), fun c hc l hl e => (by cases e), fun c hc l hl => by
      rcases List.mem_append.1 hc with q | q
      · exact g.lo c q l hl
      · rw [List.mem_singleton.1 q] at hl
        rcases hon l hl with q | q
        · rcases g.K with ⟨e, _⟩ | ⟨l', e, hb, _⟩
          · rw [q] at e; cases e
          · rw [q] at e; cases e; exact hb
        · rcases g.V with ⟨e, _⟩ | ⟨l', e, hb, _⟩
          · rw [q] at e; cases e
          · rw [q] at e; cases e; exact hb⟩
end

section
variable {H0 : Hp} {Q : Post} {a : Pl} {n : Nat} {ps : KV}
theorem ref9_leaves_spec (hp : Kv H0 a n ps) (hn : n ≤ 1000)
    (hQ : ∀ x y cs H', H0 <+: H' → OT H' H0.length 34 x (leavesD ps).length cs ((leavesD ps).map (·.1)) → Own H' H0.length 9 y (leavesD ps).length (((leavesD ps).map (·.2)).map GV.str) → Dj x y → (∀ c ∈ cs, ∀ l, c.on l → y ≠ some (l, 0)) → (∀ c ∈ cs, ∀ l, c.on l → H0.length ≤ l) →
      Q (.agg [.sl x (leavesD ps).length 5, .sl y (leavesD ps).length 1]) H') : ref9_leaves [.g (.sl a n 2)] H0 Q := by
  have hpl := hp.len
  refine ⟨n + 3 * kOf ps.length 4 + 5, ?_⟩
  rw [ref9_leaves_eq]
  have enI : nI n = ((ps.length : Nat) : Int) := by rw [nI_def, hpl]
  rw [enI]
  refine ref9_sizes_spec (n := ps.length) (most := 4) (by omega) (by omega) (by omega) fun sa B pB _ hS => ?_
  simp only [rG_g, dL_sl]
  have hk := kOf_pos ps.length 4
  have hD : leavesD ps = (List.range (kOf ps.length 4)).map (leafAt ps (kOf ps.length 4)) := rfl
  have hSD : sizesD ps.length 4 = (List.range (kOf ps.length 4)).map fun i => cutN ps.length (kOf ps.length 4) (i + 1) - cutN ps.length (kOf ps.length 4) i := rfl
  have hk2 : kOf ps.length 4 ≤ 1001 := by
    unfold kOf
    have : (ps.length + 4 - 1) / 4 ≤ ps.length := by omega
    omega
  generalize kOf ps.length 4 = k at *
  have hDl : (leavesD ps).length = k := by rw [hD]; simp
  have hsl : ((sizesD ps.length 4).map fun (x : Nat) => (x : Int)).length = k := by rw [hSD]; simp
  have hsg : ∀ i (h : i < ((sizesD ps.length 4).map fun (x : Nat) => (x : Int)).length), ((sizesD ps.length 4).map fun (x : Nat) => (x : Int))[i] = ((cutN ps.length k (i + 1) - cutN ps.length k i : Nat) : Int) := fun i h => by
    simp only [hSD, List.getElem_map, List.getElem_range]
  have loop : ∀ (F i : Nat) (H : Hp) (x : Pl) (cs : List PC) (y : Pl), n + 3 * (k - i) + 1 < F + cutN ps.length k i → i ≤ k → LJ B H x i cs (((List.range i).map (leafAt ps k)).map (·.1)) y (((List.range i).map (leafAt ps k)).map (·.2)) none [] none [] →
      ref9_leaves.l5 F a n none 0 none 0 x i y i sa k ((cutN ps.length k i : Nat) : Int) (i : Int) H Q := by
    intro F
    induction F using Nat.strongRecOn with
    | _ F ihF =>
      intro i H x cs y hF hi g
      have hci := cutN_le (n := ps.length) (k := k) (i := i) hi hk
      obtain ⟨F, rfl⟩ : ∃ F', F = F' + 1 := ⟨F - 1, by omega⟩
      rw [ref9_leaves.l5_eq]
      by_cases hik : i < k
      · rw [bite_t (by simp; omega)]
        have hmono := cutN_mono ps.length k i
        have hci1 := cutN_le (n := ps.length) (k := k) (i := i + 1) (by omega) hk
        -- what the page has
        have inner : ∀ (d G : Nat) (j : Nat) (H : Hp) (kk : Pl) (v : Pl), cutN ps.length k (i + 1) - j = d → cutN ps.length k i ≤ j → j ≤ cutN ps.length k (i + 1) → n + 3 * (k - i) < G + j → G ≤ F →
            LJ B H x i cs (((List.range i).map (leafAt ps k)).map (·.1)) y (((List.range i).map (leafAt ps k)).map (·.2)) kk (((ps.drop (cutN ps.length k i)).take (j - cutN ps.length k i)).map (·.1)) v (((ps.drop (cutN ps.length k i)).take (j - cutN ps.length k i)).map (·.2)) →
            ref9_leaves.l9 G a n none 0 none 0 x i y i sa k ((cutN ps.length k i : Nat) : Int) (i : Int) true true kk (((ps.drop (cutN ps.length k i)).take (j - cutN ps.length k i)).map (·.1)).length v (((ps.drop (cutN ps.length k i)).take (j - cutN ps.length k i)).map (·.2)).length none 0 (j : Int) H Q := by
          intro d
          induction d with
          | zero =>
            intro G j H kk v hd hj1 hj2 hG hGF g
            obtain rfl : j = cutN ps.length k (i + 1) := by omega
            obtain ⟨G, rfl⟩ : ∃ G', G = G' + 2 := ⟨G - 2, by omega⟩
            have hS' := hS.mono g.pre
            rw [ref9_leaves.l9_eq, chk_true, hS'.rd i rfl (by rw [hsl]; exact hik), hsg]
            have w1 : wrapI .i64 (((cutN ps.length k i : Nat) : Int) + ((cutN ps.length k (i + 1) - cutN ps.length k i : Nat) : Int)) = ((cutN ps.length k (i + 1) : Nat) : Int) := by rw [wrap64 (by omega) (by omega)]; omega
            rw [w1, bite_f (by simp), chk_true, hS'.rd i rfl (by rw [hsl]; exact hik), hsg]
            have hle : ((ps.drop (cutN ps.length k i)).take (cutN ps.length k (i + 1) - cutN ps.length k i)).length ≤ 1000 := by simp; omega
            -- behind it
            have fin : ∀ s, s = (leafAt ps k i).2 → ref9_leaves.l16 (G + 1) a n none 0 none 0 x i y i sa k ((cutN ps.length k i : Nat) : Int) (i : Int) true true kk (((ps.drop (cutN ps.length k i)).take (cutN ps.length k (i + 1) - cutN ps.length k i)).map (·.1)).length v (((ps.drop (cutN ps.length k i)).take (cutN ps.length k (i + 1) - cutN ps.length k i)).map (·.2)).length none 0 s H Q := by
              intro s hs
              rw [ref9_leaves.l16_eq, chk_true]
              refine g.page (by simpa using hle) (by simpa using hle) (by omega) s (K := fun x0 n1 H2 x3 n4 H5 => chk true (chk ((leI 0 (i : Int)) && (ltI (i : Int) (nI k))) (pS sa fun n6 n7 => rd H5 n6 (n7 + ((tN (i : Int)) * 1)) fun v8 => dI .i64 v8 fun i9 => ref9_leaves.l5 G a n none 0 none 0 x0 n1 x3 n4 sa k (wrapI .i64 (((cutN ps.length k i : Nat) : Int) + i9)) (wrapI .i64 ((i : Int) + 1)) H5 Q))) ?_
              intro x' H1 y' H2 c g2
              have hS2 := hS.mono g2.pre
              rw [chk_true, hS2.rd i rfl (by rw [hsl]; exact hik), hsg, w1, wrap_succ (by omega)]
              refine ihF G (by omega) (i + 1) H2 x' (cs ++ [c]) y' (by omega) (by omega) ?_
              rw [List.range_succ, List.map_append, List.map_append, List.map_append]
              rw [hs] at g2
              exact g2
            refine bite_of (fun e => ?_) (fun e => ?_)
            · have h0 : 0 < cutN ps.length k (i + 1) - cutN ps.length k i := by simp at e; omega
              have hlt : cutN ps.length k i < ps.length := by omega
              obtain ⟨l, o, ea, hg1, hg2⟩ := (hp.mono (pB.trans g.pre)).get hlt
              subst ea
              rw [chk_true]
              refine chk_of (by simp; omega) ?_
              have etN : tN ((cutN ps.length k i : Nat) : Int) = cutN ps.length k i := rfl
              rw [pS_some, etN, rd_of (v := .str ps[cutN ps.length k i].1) (by exact hg1), dS_str]
              exact fin _ (by unfold leafAt; rw [decide_eq_true h0]; simp [hlt])
            · have h0 : ¬ 0 < cutN ps.length k (i + 1) - cutN ps.length k i := by simp at e; omega
              exact fin _ (by unfold leafAt; rw [decide_eq_false h0])
          | succ d ihd =>
            intro G j H kk v hd hj1 hj2 hG hGF g
            obtain ⟨G, rfl⟩ : ∃ G', G = G' + 1 := ⟨G - 1, by omega⟩
            have hS' := hS.mono g.pre
            have hjl : j < ps.length := by omega
            rw [ref9_leaves.l9_eq, chk_true, hS'.rd i rfl (by rw [hsl]; exact hik), hsg]
            have w1 : wrapI .i64 (((cutN ps.length k i : Nat) : Int) + ((cutN ps.length k (i + 1) - cutN ps.length k i : Nat) : Int)) = ((cutN ps.length k (i + 1) : Nat) : Int) := by rw [wrap64 (by omega) (by omega)]; omega
            rw [w1, bite_t (by simp; omega), chk_true]
            obtain ⟨l, o, ea, hg1, hg2⟩ := (hp.mono pB).get hjl
            subst ea
            have etN : tN (j : Int) = j := rfl
            have hlen : ((ps.drop (cutN ps.length k i)).take (j - cutN ps.length k i)).length ≤ 1000 := by simp; omega
            have hnext : (ps.drop (cutN ps.length k i)).take (j + 1 - cutN ps.length k i) = (ps.drop (cutN ps.length k i)).take (j - cutN ps.length k i) ++ [ps[j]] := by
              have e1 : j + 1 - cutN ps.length k i = (j - cutN ps.length k i) + 1 := by omega
              rw [e1, List.take_succ_eq_append_getElem (by simp; omega)]
              congr 1
              simp
              congr 1
              omega
            refine chk_of (by simp; omega) ?_
            rw [pS_some, etN, rd_of (v := .str ps[j].1) (by exact gt_pre g.pre hg1), dS_str, chk_true]
            refine g.key ps[j].1 (by simpa using hlen) fun k' H1 g1 => ?_
            rw [chk_true]
            refine chk_of (by simp; omega) ?_
            rw [pS_some, rd_of (v := .str ps[j].2) (by exact gt_pre g1.pre hg2), dS_str, chk_true]
            refine g1.val ps[j].2 (by simpa using hlen) fun v' H2 g2 => ?_
            rw [wrap_succ (by omega)]
            have := ihd G (j + 1) H2 k' v' (by omega) (by omega) (by omega) (by omega) (by omega) (by rw [hnext, List.map_append, List.map_append]; exact g2)
            rw [hnext, List.map_append, List.map_append, List.length_append, List.length_append] at this
            exact this
        have := inner _ F (cutN ps.length k i) H none none rfl (Nat.le_refl _) hmono (by omega) (Nat.le_refl _) (by simpa using g)
        simpa using this
      · obtain rfl : i = k := by omega
        rw [bite_f (by simp)]
        have := hQ x y cs H (pB.trans g.pre)
        rw [hDl, hD] at this
        have hbl := pB.length_le
        refine this ⟨?_, g.X.len, g.X.lenT, g.X.all, g.X.off⟩ ?_ g.xy g.yo (fun c hc l hl => by have := g.lo c hc l hl; omega)
        · rcases g.X.own with h | ⟨l, h1, h2, h3⟩
          · exact .inl h
          · exact .inr ⟨l, h1, by omega, h3⟩
        · rcases g.Y with h | ⟨l, h1, h2, h3⟩
          · exact .inl h
          · exact .inr ⟨l, h1, by omega, h3⟩
  have := loop (n + 3 * k + 4) 0 B none [] none (by rw [cutN_zero]; omega) (Nat.zero_le _) ⟨List.prefix_refl _, OT.nil _ _ _, .inl ⟨rfl, rfl, rfl⟩, .inl ⟨rfl, rfl, rfl⟩, .inl ⟨rfl, rfl, rfl⟩, fun _ e => (by cases e), fun _ e => (by cases e), fun _ e => (by cases e), fun _ e => (by cases e), fun _ e => (by cases e), fun _ e => (by cases e), fun c hc => (by simp at hc), fun c hc => (by simp at hc), fun c hc => (by simp at hc), fun c hc => (by simp at hc)⟩
  rw [cutN_zero] at this
  exact this
end
end Go.Am
