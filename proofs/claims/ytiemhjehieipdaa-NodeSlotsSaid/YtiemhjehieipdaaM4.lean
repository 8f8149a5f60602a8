import Derived.Test.YtiemhjehieipdaaM3
set_option linter.unusedVariables false
set_option linter.unusedSimpArgs false
namespace Go.Am

/-! rows that one writes (M), rows that stay (F), pages (P): apart -/
structure Sp (H : Hp) (M F : List Pl) (P : List PC) : Prop where
  mm : ∀ i j, i ≠ j → Dj (M.getD i none) (M.getD j none)
  mf : ∀ i, ∀ b ∈ F, Dj (M.getD i none) b
  mp : ∀ i, ∀ c ∈ P, ∀ l, c.on l → M.getD i none ≠ some (l, 0)
  lm : ∀ i l o, M.getD i none = some (l, o) → l < H.length
  lf : ∀ b ∈ F, ∀ l o, b = some (l, o) → l < H.length
  lp : ∀ c ∈ P, ∀ l, c.on l → l < H.length
section
variable {H H' : Hp} {M F : List Pl} {P : List PC} {B : Hp}
theorem getD_set (M : List Pl) (j : Nat) (a : Pl) (i : Nat) : (M.set j a).getD i none = a ∨ (M.set j a).getD i none = M.getD i none := by
  rw [List.getD_eq_getElem?_getD, List.getElem?_set]
  split
  · split
    · exact .inl rfl
    · right; rename_i e h; subst e; rw [List.getD_eq_getElem?_getD, List.getElem?_eq_none (by omega)]
  · right; rw [List.getD_eq_getElem?_getD]
theorem getD_set_self (M : List Pl) (j : Nat) (a : Pl) (i : Nat) (h : (M.set j a).getD i none ≠ M.getD i none) : i = j := by
  rw [List.getD_eq_getElem?_getD, List.getElem?_set, List.getD_eq_getElem?_getD] at h
  split at h
  · rename_i e; exact e.symm
  · exact (h rfl).elim
theorem Sp.grow (h : Sp H M F P) (hl : H.length ≤ H'.length) : Sp H' M F P :=
  ⟨h.mm, h.mf, h.mp, fun i l o e => Nat.lt_of_lt_of_le (h.lm i l o e) hl, fun b hb l o e => Nat.lt_of_lt_of_le (h.lf b hb l o e) hl, fun c hc l e => Nat.lt_of_lt_of_le (h.lp c hc l e) hl⟩
/-- one of them anew -/
theorem Sp.step (h : Sp H M F P) (hl : H.length ≤ H'.length) (j : Nat) {a : Pl} (f : ∀ l o, a = some (l, o) → H.length ≤ l ∧ l < H'.length) : Sp H' (M.set j a) F P := by
  refine ⟨fun i k hne l e1 e2 => ?_, fun i b hb l e1 e2 => ?_, fun i c hc l hl e => ?_, fun i l o e => ?_, fun b hb l o e => Nat.lt_of_lt_of_le (h.lf b hb l o e) hl, fun c hc l e => Nat.lt_of_lt_of_le (h.lp c hc l e) hl⟩
  · by_cases q1 : (M.set j a).getD i none = M.getD i none
    · by_cases q2 : (M.set j a).getD k none = M.getD k none
      · rw [q1] at e1; rw [q2] at e2; exact h.mm i k hne l e1 e2
      · rcases getD_set M j a k with q | q
        · rw [q] at e2; rw [q1] at e1
          have := f l 0 e2; have := h.lm i l 0 e1; omega
        · exact q2 q
    · by_cases q2 : (M.set j a).getD k none = M.getD k none
      · rcases getD_set M j a i with q | q
        · rw [q] at e1; rw [q2] at e2
          have := f l 0 e1; have := h.lm k l 0 e2; omega
        · exact q1 q
      · exact hne ((getD_set_self M j a i q1).trans (getD_set_self M j a k q2).symm)
  · rcases getD_set M j a i with q | q
    · rw [q] at e1; have := f l 0 e1; have := h.lf b hb l 0 e2; omega
    · rw [q] at e1; exact h.mf i b hb l e1 e2
  · rcases getD_set M j a i with q | q
    · rw [q] at e; have := f l 0 e; have := h.lp c hc l hl; omega
    · rw [q] at e; exact h.mp i c hc l hl e
  · rcases getD_set M j a i with q | q
    · rw [q] at e; exact (f l o e).2
    · rw [q] at e; exact Nat.lt_of_lt_of_le (h.lm i l o e) hl
end

/-! pages written -/
theorem pcells_set (cs : List PC) (i : Nat) (c : PC) (hi : i < cs.length) : (((((pcells cs).set (i * 5) (.bool c.u)).set (i * 5 + 1) (.bool c.l)).set (i * 5 + 1 + 1) (.sl c.a1 c.n1 1)).set (i * 5 + 1 + 1 + 1) (.sl c.a2 c.n2 1)).set (i * 5 + 1 + 1 + 1 + 1) (.sl c.a3 c.n3 1) = pcells (cs.set i c) := by
  induction cs generalizing i with
  | nil => simp at hi
  | cons d cs ih =>
    have e : pcells (d :: cs) = d.cells ++ pcells cs := rfl
    cases i with
    | zero => rw [e]; rfl
    | succ i =>
      have := ih i (by simpa using hi)
      rw [e]
      have s : ∀ (x : List GV) (k : Nat) (v : GV), (d.cells ++ x).set (i * 5 + 5 + k) v = d.cells ++ x.set (i * 5 + k) v := fun x k v => by
        rw [List.set_append_right _ _ (by simp; omega)]
        congr 2
        simp; omega
      have e5 : (i + 1) * 5 = i * 5 + 5 + 0 := by omega
      have q1 : (i + 1) * 5 + 1 = i * 5 + 5 + 1 := by omega
      have q2 : (i + 1) * 5 + 1 + 1 = i * 5 + 5 + (1 + 1) := by omega
      have q3 : (i + 1) * 5 + 1 + 1 + 1 = i * 5 + 5 + (1 + 1 + 1) := by omega
      have q4 : (i + 1) * 5 + 1 + 1 + 1 + 1 = i * 5 + 5 + (1 + 1 + 1 + 1) := by omega
      rw [q4, q3, q2, q1, e5, s, s, s, s, s]
      show d.cells ++ _ = d.cells ++ pcells (cs.set i c)
      rw [← this]
      rfl
theorem wr5 {H : Hp} {l : Nat} {t : TypeId} {cs : List PC} {i : Nat} {c : PC} {K : Hp → Prop} (h : H[l]? = some (.row true t (pcells cs))) (hi : i < cs.length) (hK : K (H.set l (.row true t (pcells (cs.set i c))))) :
    wr H l (i * 5) (.bool c.u) fun H1 => wr H1 l (i * 5 + 1) (.bool c.l) fun H2 => wr H2 l (i * 5 + 1 + 1) (.sl c.a1 c.n1 1) fun H3 => wr H3 l (i * 5 + 1 + 1 + 1) (.sl c.a2 c.n2 1) fun H4 => wr H4 l (i * 5 + 1 + 1 + 1 + 1) (.sl c.a3 c.n3 1) K := by
  have hl := (List.getElem?_eq_some_iff.1 h).1
  have hlen := pcells_length cs
  refine wr_row h (by omega) ?_
  refine wr_row (own := t) (cs := (pcells cs).set (i * 5) (.bool c.u)) (List.getElem?_set_self hl) (by simp; omega) ?_
  rw [List.set_set]
  refine wr_row (own := t) (cs := ((pcells cs).set (i * 5) (.bool c.u)).set (i * 5 + 1) (.bool c.l)) (List.getElem?_set_self hl) (by simp; omega) ?_
  rw [List.set_set]
  refine wr_row (own := t) (cs := (((pcells cs).set (i * 5) (.bool c.u)).set (i * 5 + 1) (.bool c.l)).set (i * 5 + 1 + 1) (.sl c.a1 c.n1 1)) (List.getElem?_set_self hl) (by simp; omega) ?_
  rw [List.set_set]
  refine wr_row (own := t) (cs := ((((pcells cs).set (i * 5) (.bool c.u)).set (i * 5 + 1) (.bool c.l)).set (i * 5 + 1 + 1) (.sl c.a1 c.n1 1)).set (i * 5 + 1 + 1 + 1) (.sl c.a2 c.n2 1)) (List.getElem?_set_self hl) (by simp; omega) ?_
  rw [List.set_set, pcells_set cs i c hi]
  exact hK
/-- a page of a row of one's own written -/
theorem OT.place {B H : Hp} {t : TypeId} {tp : Nat} {n : Nat} {cs : List PC} {T : List Pg} {i : Nat} {c : PC} {p : Pg} (h : OT H B.length t (some (tp, 0)) n cs T) (hi : i < n) (hc : c.at H p) (hoff : ∀ l, c.on l → l ≠ tp) :
    OT (H.set tp (.row true t (pcells (cs.set i c)))) B.length t (some (tp, 0)) n (cs.set i c) (T.set i p) := by
  have q1 := h.len
  have q2 := h.lenT
  rcases h.own with ⟨e, _⟩ | ⟨l, e, hb, hr, hl⟩
  · cases e
  cases e
  have hlt := (List.getElem?_eq_some_iff.1 hr).1
  have hoffT : ∀ d ∈ cs, ∀ l, d.on l → l ≠ tp := fun d hd l hl e => h.off d hd l hl (by rw [e])
  refine ⟨.inr ⟨tp, rfl, hb, List.getElem?_set_self hlt, by rw [pcells_length]; simp [q1]⟩, by simp [q1], by simp [q2], fun j h1 h2 => ?_, fun d hd l hl e => ?_⟩
  · rw [List.getElem_set, List.getElem_set]
    by_cases e : i = j
    · rw [if_pos e, if_pos e]
      exact hc.keep fun l hl => by rw [List.getElem?_set_ne (Ne.symm (hoff l hl))]
    · rw [if_neg e, if_neg e]
      simp at h1 h2
      exact (h.all j h1 h2).keep fun l hl => by rw [List.getElem?_set_ne (Ne.symm (hoffT _ (List.getElem_mem _) l hl))]
  · have e' : l = tp := by cases e; rfl
    rcases List.mem_or_eq_of_mem_set hd with q | q
    · exact hoffT d q l hl e'
    · subst q; exact hoff l hl e'
end Go.Am
namespace Go.Am

section
variable {H : Hp} {M F : List Pl} {P P' : List PC} {c : PC}
theorem Sp.sub (h : Sp H M F P) (hs : ∀ c ∈ P', c ∈ P) : Sp H M F P' := ⟨h.mm, h.mf, fun i c hc => h.mp i c (hs c hc), h.lm, h.lf, fun c hc => h.lp c (hs c hc)⟩
theorem Sp.addP (h : Sp H M F P) (hc : ∀ i l, c.on l → M.getD i none ≠ some (l, 0)) (hl : ∀ l, c.on l → l < H.length) : Sp H M F (P ++ [c]) :=
  ⟨h.mm, h.mf, fun i d hd l hon => by
    rcases List.mem_append.1 hd with q | q
    · exact h.mp i d q l hon
    · rw [List.mem_singleton.1 q] at hon; exact hc i l hon, h.lm, h.lf, fun d hd l hon => by
    rcases List.mem_append.1 hd with q | q
    · exact h.lp d q l hon
    · rw [List.mem_singleton.1 q] at hon; exact hl l hon⟩
theorem Own.ltAny {H : Hp} {b : Nat} {t : TypeId} {a : Pl} {n : Nat} {cs : List GV} (h : Own H b t a n cs) {l o : Nat} (e : a = some (l, o)) : l < H.length := by
  rcases h with ⟨q, _⟩ | ⟨m, q, _, hr, _⟩
  · rw [q] at e; cases e
  · rw [q] at e; cases e; exact (List.getElem?_eq_some_iff.1 hr).1
theorem Own.zero {H : Hp} {b : Nat} {t : TypeId} {a : Pl} {n : Nat} {cs : List GV} (h : Own H b t a n cs) {l o : Nat} (e : a = some (l, o)) : a = some (l, 0) := by
  rcases h with ⟨q, _⟩ | ⟨m, q, _, hr, _⟩
  · rw [q] at e; cases e
  · rw [q] at e; cases e; exact q
end

/-- a level of pages being built -/
structure BJ (B H : Hp) (tp : Nat) (tcs : List PC) (T : List Pg) (x : Pl) (n : Nat) (xcs : List PC) (xT : List Pg) (y : Pl) (yls : List ByteArray) (sa : Pl) (k : Nat) (ss : List Int)
    (up : Pl) (m : Nat) (ucs : List PC) (uT : List Pg) (ul : Pl) (m2 : Nat) (uls : List ByteArray) (kk : Pl) (ks : List ByteArray) (ii : Pl) (is : List Int) : Prop where
  pre : B <+: H
  TP : OT H B.length tPg (some (tp, 0)) 48 tcs T
  X : OT H B.length tPg x n xcs xT
  Y : Own H B.length tS y n (yls.map GV.str)
  S : Own H B.length tI sa k (ss.map (GV.int .i64))
  UP : OT H B.length tPg up m ucs uT
  UL : Own H B.length tS ul m2 (uls.map GV.str)
  K : Own H B.length tS kk ks.length (ks.map GV.str)
  I : Own H B.length tI ii is.length (is.map (GV.int .i64))
  sp : Sp H [some (tp, 0), up, ul, kk, ii] [x, y, sa] (tcs ++ xcs ++ ucs)
section
variable {B H : Hp} {tp : Nat} {tcs : List PC} {T : List Pg} {x : Pl} {n : Nat} {xcs : List PC} {xT : List Pg} {y : Pl} {yls : List ByteArray} {sa : Pl} {k : Nat} {ss : List Int}
    {up : Pl} {m : Nat} {ucs : List PC} {uT : List Pg} {ul : Pl} {m2 : Nat} {uls : List ByteArray} {kk : Pl} {ks : List ByteArray} {ii : Pl} {is : List Int}
theorem BJ.kid (g : BJ B H tp tcs T x n xcs xT y yls sa k ss up m ucs uT ul m2 uls kk ks ii is) (s : Int) (hn : is.length ≤ 1000) {K : Pl → Nat → Hp → Prop}
    (hK : ∀ i' H', BJ B H' tp tcs T x n xcs xT y yls sa k ss up m ucs uT ul m2 uls kk ks i' (is ++ [s]) → K i' (is.length + 1) H') : ap H tI 1 8 ii is.length [.int .i64 s] 1 K :=
  ap_own g.pre g.I rfl (by unfold Lim; omega) fun i' H' o e f => hK i' H'
    ⟨e.pre, g.TP.ex e (g.sp.mm 4 0 (by decide)) (fun c hc l hl => g.sp.mp 4 c (by simp [hc]) l hl), g.X.ex e (g.sp.mf 4 x (by simp)) (fun c hc l hl => g.sp.mp 4 c (by simp [hc]) l hl), g.Y.after (g.sp.mf 4 y (by simp)) e, g.S.after (g.sp.mf 4 sa (by simp)) e,
     g.UP.ex e (g.sp.mm 4 1 (by decide)) (fun c hc l hl => g.sp.mp 4 c (by simp [hc]) l hl), g.UL.after (g.sp.mm 4 2 (by decide)) e, g.K.after (g.sp.mm 4 3 (by decide)) e, by rw [List.map_append, List.length_append]; exact o,
     g.sp.step e.len 4 (fun l o' q => ⟨f l o' q, o.ltAny q⟩)⟩
theorem BJ.key (g : BJ B H tp tcs T x n xcs xT y yls sa k ss up m ucs uT ul m2 uls kk ks ii is) (s : ByteArray) (hn : ks.length ≤ 1000) {K : Pl → Nat → Hp → Prop}
    (hK : ∀ k' H', BJ B H' tp tcs T x n xcs xT y yls sa k ss up m ucs uT ul m2 uls k' (ks ++ [s]) ii is → K k' (ks.length + 1) H') : ap H tS 1 16 kk ks.length [.str s] 1 K :=
  ap_own g.pre g.K rfl (by unfold Lim; omega) fun i' H' o e f => hK i' H'
    ⟨e.pre, g.TP.ex e (g.sp.mm 3 0 (by decide)) (fun c hc l hl => g.sp.mp 3 c (by simp [hc]) l hl), g.X.ex e (g.sp.mf 3 x (by simp)) (fun c hc l hl => g.sp.mp 3 c (by simp [hc]) l hl), g.Y.after (g.sp.mf 3 y (by simp)) e, g.S.after (g.sp.mf 3 sa (by simp)) e,
     g.UP.ex e (g.sp.mm 3 1 (by decide)) (fun c hc l hl => g.sp.mp 3 c (by simp [hc]) l hl), g.UL.after (g.sp.mm 3 2 (by decide)) e, by rw [List.map_append, List.length_append]; exact o, g.I.after (g.sp.mm 3 4 (by decide)) e,
     g.sp.step e.len 3 (fun l o' q => ⟨f l o' q, o.ltAny q⟩)⟩
theorem BJ.least (g : BJ B H tp tcs T x n xcs xT y yls sa k ss up m ucs uT ul m2 uls kk ks ii is) (s : ByteArray) (hn : m2 ≤ 1000) {K : Pl → Nat → Hp → Prop}
    (hK : ∀ k' H', BJ B H' tp tcs T x n xcs xT y yls sa k ss up m ucs uT k' (m2 + 1) (uls ++ [s]) kk ks ii is → K k' (m2 + 1) H') : ap H tS 1 16 ul m2 [.str s] 1 K :=
  ap_own g.pre g.UL rfl (by unfold Lim; omega) fun i' H' o e f => hK i' H'
    ⟨e.pre, g.TP.ex e (g.sp.mm 2 0 (by decide)) (fun c hc l hl => g.sp.mp 2 c (by simp [hc]) l hl), g.X.ex e (g.sp.mf 2 x (by simp)) (fun c hc l hl => g.sp.mp 2 c (by simp [hc]) l hl), g.Y.after (g.sp.mf 2 y (by simp)) e, g.S.after (g.sp.mf 2 sa (by simp)) e,
     g.UP.ex e (g.sp.mm 2 1 (by decide)) (fun c hc l hl => g.sp.mp 2 c (by simp [hc]) l hl), by rw [List.map_append]; exact o, g.K.after (g.sp.mm 2 3 (by decide)) e, g.I.after (g.sp.mm 2 4 (by decide)) e,
     g.sp.step e.len 2 (fun l o' q => ⟨f l o' q, o.ltAny q⟩)⟩
/-- a page done -/
theorem BJ.page (g : BJ B H tp tcs T x n xcs xT y yls sa k ss up m ucs uT ul m2 uls kk ks ii is) (hks : ks.length ≤ 1000) (his : is.length ≤ 1000) (hm : m ≤ 1000) {K : Pl → Nat → Hp → Prop}
    (hK : ∀ u' H' c, BJ B H' tp tcs T x n xcs xT y yls sa k ss u' (m + 1) (ucs ++ [c]) (uT ++ [⟨true, false, ks, [], is⟩]) ul m2 uls none [] none [] → K u' (m + 1) H') :
    ap H tPg 5 80 up m [.bool true, .bool false, .sl kk ks.length 1, .sl none 0 1, .sl ii is.length 1] 1 K := by
  have hon : ∀ l, (⟨true, false, kk, ks.length, none, 0, ii, is.length⟩ : PC).on l → kk = some (l, 0) ∨ ii = some (l, 0) := by
    rintro l ⟨o, q | q | q⟩
    · exact .inl (g.K.zero q)
    · cases q
    · exact .inr (g.I.zero q)
  have hat : (⟨true, false, kk, ks.length, none, 0, ii, is.length⟩ : PC).at H ⟨true, false, ks, [], is⟩ :=
    ⟨rfl, rfl, ⟨g.K.cells, rfl, by show ks.length * 16 ≤ _; omega⟩, .nil _, ⟨g.I.cells, rfl, by show is.length * 8 ≤ _; omega⟩⟩
  refine g.UP.add (c := ⟨true, false, kk, ks.length, none, 0, ii, is.length⟩) g.pre hat (fun l hl e => by rcases hon l hl with q | q; exact g.sp.mm 1 3 (by decide) l e q; exact g.sp.mm 1 4 (by decide) l e q) (by unfold Lim; omega) fun u' H1 o1 e1 f1 => hK u' H1 ⟨true, false, kk, ks.length, none, 0, ii, is.length⟩ ?_
  have sp1 : Sp H [some (tp, 0), up, ul, none, none] [x, y, sa] (tcs ++ xcs ++ ucs) := (g.sp.step (Nat.le_refl _) 3 (a := none) (fun _ _ q => by cases q)).step (Nat.le_refl _) 4 (a := none) (fun _ _ q => by cases q)
  have sp2 := sp1.addP (c := ⟨true, false, kk, ks.length, none, 0, ii, is.length⟩) (fun i l hl e => by
    rcases hon l hl with q | q
    · match i, e with
      | 0, e => exact g.sp.mm 0 3 (by decide) l e q
      | 1, e => exact g.sp.mm 1 3 (by decide) l e q
      | 2, e => exact g.sp.mm 2 3 (by decide) l e q
      | 3, e => cases e
      | 4, e => cases e
      | i + 5, e => simp at e
    · match i, e with
      | 0, e => exact g.sp.mm 0 4 (by decide) l e q
      | 1, e => exact g.sp.mm 1 4 (by decide) l e q
      | 2, e => exact g.sp.mm 2 4 (by decide) l e q
      | 3, e => cases e
      | 4, e => cases e
      | i + 5, e => simp at e) (fun l hl => hat.lt hl)
  have sp3 := (sp2.sub (P' := tcs ++ xcs ++ (ucs ++ [⟨true, false, kk, ks.length, none, 0, ii, is.length⟩])) (fun c hc => by rw [List.append_assoc] at *; simpa using hc)).step e1.len 1 (a := u') (fun l o q => ⟨(f1 l o q).1, o1.own.ltAny q⟩)
  exact ⟨e1.pre, g.TP.ex e1 (g.sp.mm 1 0 (by decide)) (fun c hc l hl => g.sp.mp 1 c (by simp [hc]) l hl), g.X.ex e1 (g.sp.mf 1 x (by simp)) (fun c hc l hl => g.sp.mp 1 c (by simp [hc]) l hl), g.Y.after (g.sp.mf 1 y (by simp)) e1, g.S.after (g.sp.mf 1 sa (by simp)) e1,
    o1, g.UL.after (g.sp.mm 1 2 (by decide)) e1, .inl ⟨rfl, rfl, rfl⟩, .inl ⟨rfl, rfl, rfl⟩, sp3⟩
/-- a page put into the tree -/
theorem BJ.place (g : BJ B H tp tcs T x n xcs xT y yls sa k ss up m ucs uT ul m2 uls kk ks ii is) {i j : Nat} (hi : i < 48) {c : PC} {p : Pg} (hc : xcs[j]? = some c) (hp : xT[j]? = some p) {K : Hp → Prop}
    (hK : ∀ H' tcs', BJ B H' tp tcs' (T.set i p) x n xcs xT y yls sa k ss up m ucs uT ul m2 uls kk ks ii is → K H') :
    wr H tp (i * 5) (.bool c.u) fun H1 => wr H1 tp (i * 5 + 1) (.bool c.l) fun H2 => wr H2 tp (i * 5 + 1 + 1) (.sl c.a1 c.n1 1) fun H3 => wr H3 tp (i * 5 + 1 + 1 + 1) (.sl c.a2 c.n2 1) fun H4 => wr H4 tp (i * 5 + 1 + 1 + 1 + 1) (.sl c.a3 c.n3 1) K := by
  obtain ⟨hj, rfl⟩ := List.getElem?_eq_some_iff.1 hc
  obtain ⟨hj', rfl⟩ := List.getElem?_eq_some_iff.1 hp
  have hat := g.X.all j hj hj'
  have hmem : xcs[j] ∈ xcs := List.getElem_mem hj
  have hl := g.TP.len
  rcases g.TP.own with ⟨e, _⟩ | ⟨l, e, hb, hr, hlen⟩
  · cases e
  cases e
  have hoff : ∀ l, (xcs[j]).on l → l ≠ tp := fun l hl e => g.sp.mp 0 _ (by simp [hmem]) l hl (by rw [e]; rfl)
  refine wr5 hr (by omega) ?_
  have e : Ex B (some (tp, 0)) H (H.set tp (.row true tPg (pcells (tcs.set i xcs[j])))) := ⟨pre_set g.pre hb _, by simp, fun l _ hne => by rw [List.getElem?_set_ne]; intro q; subst q; exact hne rfl⟩
  refine hK _ (tcs.set i xcs[j]) ⟨e.pre, g.TP.place hi hat hoff, g.X.ex e (g.sp.mf 0 x (by simp)) (fun c hc l hl => g.sp.mp 0 c (by simp [hc]) l hl), g.Y.after (g.sp.mf 0 y (by simp)) e, g.S.after (g.sp.mf 0 sa (by simp)) e,
    g.UP.ex e (g.sp.mm 0 1 (by decide)) (fun c hc l hl => g.sp.mp 0 c (by simp [hc]) l hl), g.UL.after (g.sp.mm 0 2 (by decide)) e, g.K.after (g.sp.mm 0 3 (by decide)) e, g.I.after (g.sp.mm 0 4 (by decide)) e, (g.sp.grow e.len).sub fun c hc => ?_⟩
  simp only [List.mem_append] at hc ⊢
  rcases hc with (hc | hc) | hc
  · rcases List.mem_or_eq_of_mem_set hc with q | q
    · exact .inl (.inl q)
    · subst q; exact .inl (.inr hmem)
  · exact .inl (.inr hc)
  · exact .inr hc
end
end Go.Am
namespace Go.Am

theorem Own.base {H : Hp} {b b' : Nat} {t : TypeId} {a : Pl} {n : Nat} {cs : List GV} (h : Own H b t a n cs) (hb : b' ≤ b) : Own H b' t a n cs := by
  rcases h with h | ⟨l, h1, h2, h3⟩
  · exact .inl h
  · exact .inr ⟨l, h1, by omega, h3⟩
/-- a level done -/
structure BS (B H : Hp) (tp : Nat) (tcs : List PC) (T : List Pg) (x : Pl) (n : Nat) (xcs : List PC) (xT : List Pg) (y : Pl) (yls : List ByteArray) : Prop where
  pre : B <+: H
  TP : OT H B.length tPg (some (tp, 0)) 48 tcs T
  X : OT H B.length tPg x n xcs xT
  Y : Own H B.length tS y n (yls.map GV.str)
  sp : Sp H [some (tp, 0)] [x, y] (tcs ++ xcs)
section
variable {B H H' : Hp} {tp : Nat} {tcs : List PC} {T : List Pg} {x : Pl} {n : Nat} {xcs : List PC} {xT : List Pg} {y : Pl} {yls : List ByteArray} {sa : Pl} {k : Nat} {ss : List Int}
    {up : Pl} {m : Nat} {ucs : List PC} {uT : List Pg} {ul : Pl} {uls : List ByteArray}
theorem BJ.done (g : BJ B H tp tcs T x n xcs xT y yls sa k ss up m ucs uT ul m uls none [] none []) : BS B H tp tcs T up m ucs uT ul uls := by
  have hM : ∀ i l o, ([some (tp, 0)] : List Pl).getD i none = some (l, o) → i = 0 ∧ l = tp ∧ o = 0 := by
    intro i l o e
    match i, e with
    | 0, e => cases e; exact ⟨rfl, rfl, rfl⟩
    | i + 1, e => simp at e
  refine ⟨g.pre, g.TP, g.UP, g.UL, fun i j hne l e1 e2 => ?_, fun i b hb l e1 e2 => ?_, fun i c hc l hl' e => ?_, fun i l o e => ?_, fun b hb l o e => ?_, fun c hc l hl' => ?_⟩
  · exact hne ((hM i l 0 e1).1.trans (hM j l 0 e2).1.symm)
  · obtain ⟨_, rfl, _⟩ := hM i l 0 e1
    simp only [List.mem_cons, List.not_mem_nil, or_false] at hb
    rcases hb with rfl | rfl
    · exact g.sp.mm 0 1 (by decide) l rfl e2
    · exact g.sp.mm 0 2 (by decide) l rfl e2
  · obtain ⟨_, rfl, _⟩ := hM i l 0 e
    refine g.sp.mp 0 c ?_ l hl' rfl
    simp only [List.mem_append] at hc ⊢
    rcases hc with q | q
    · exact .inl (.inl q)
    · exact .inr q
  · obtain ⟨_, rfl, _⟩ := hM i l o e
    exact g.sp.lm 0 l 0 rfl
  · simp only [List.mem_cons, List.not_mem_nil, or_false] at hb
    rcases hb with rfl | rfl
    · exact g.sp.lm 1 l o e
    · exact g.sp.lm 2 l o e
  · refine g.sp.lp c ?_ l hl'
    simp only [List.mem_append] at hc ⊢
    rcases hc with q | q
    · exact .inl (.inl q)
    · exact .inr q
end

section
variable {B : Hp} {Q : Post} {tp : Nat}
end
end Go.Am
namespace Go.Am

theorem OT.base {H : Hp} {b b' : Nat} {t : TypeId} {a : Pl} {n : Nat} {cs : List PC} {T : List Pg} (h : OT H b t a n cs T) (hb : b' ≤ b) : OT H b' t a n cs T := ⟨h.own.base hb, h.len, h.lenT, h.all, h.off⟩
section
variable {B : Hp} {Q : Post} {tp : Nat}
end
end Go.Am
namespace Go.Am

/-- a tree whose rows are all one's own -/
structure CT (B H : Hp) (t : TypeId) (a : Pl) (n : Nat) (ds : List PC) (T : List Pg) : Prop where
  pre : B <+: H
  ot : OT H B.length t a n ds T
  own : ∀ i (h : i < ds.length) (h' : i < T.length), (ds[i]).own H B.length T[i]
  ap : ∀ i j (hi : i < ds.length) (hj : j < ds.length), i ≠ j → ∀ l, (ds[i]).on l → ¬ (ds[j]).on l
section
variable {B H H' : Hp} {t : TypeId} {a : Pl} {n : Nat} {ds : List PC} {T : List Pg}
theorem CT.mono (g : CT B H t a n ds T) (hp : H <+: H') : CT B H' t a n ds T :=
  ⟨g.pre.trans hp, g.ot.mono hp, fun i h h' => (g.own i h h').keep fun l hl => pre_at hp (g.ot.onlt (List.getElem_mem h) hl), g.ap⟩
/-- a page's row of keys turned -/
theorem CT.setRow (g : CT B H t a n ds T) {i : Nat} (hi : i < ds.length) (hi' : i < T.length) {l : Nat} (hon : (ds[i]).on l) (x : Obj) (hb : B.length ≤ l) (p : Pg)
    (hat : (ds[i]).at (H.set l x) p) (how : (ds[i]).own (H.set l x) B.length p) : CT B (H.set l x) t a n ds (T.set i p) := by
  have q1 := g.ot.len
  have q2 := g.ot.lenT
  have other : ∀ j (h : j < ds.length), j ≠ i → ∀ m, (ds[j]).on m → (H.set l x)[m]? = H[m]? := fun j h hne m hm => by
    rw [List.getElem?_set_ne]
    intro e; subst e
    exact g.ap i j hi h (Ne.symm hne) l hon hm
  refine ⟨pre_set g.pre hb x, ⟨g.ot.own.keep fun m e => ?_, q1, by simp [q2], fun j h1 h2 => ?_, g.ot.off⟩, fun j h1 h2 => ?_, g.ap⟩
  · rw [List.getElem?_set_ne]
    intro e'; subst e'
    exact g.ot.off _ (List.getElem_mem hi) l hon e
  · rw [List.getElem_set]
    by_cases e : i = j
    · subst e; rw [if_pos rfl]; exact hat
    · rw [if_neg e]
      simp at h2
      exact (g.ot.all j h1 h2).keep (other j h1 (Ne.symm e))
  · rw [List.getElem_set]
    by_cases e : i = j
    · subst e; rw [if_pos rfl]; exact how
    · rw [if_neg e]
      simp at h2
      exact (g.own j h1 h2).keep (other j h1 (Ne.symm e))
theorem CT.key (g : CT B H t a n ds T) {i j : Nat} (hi : i < ds.length) (hi' : i < T.length) (hj : j < (T[i]).keys.length) (s : ByteArray) {K : Hp → Prop}
    (hK : ∀ H', CT B H' t a n ds (T.set i { T[i] with keys := (T[i]).keys.set j s }) → K H') : ∃ l, (ds[i]).a1 = some (l, 0) ∧ wr H l j (.str s) K := by
  have ho := g.own i hi hi'
  have hat := g.ot.all i hi hi'
  rcases ho.keys with ⟨_, h, _⟩ | ⟨l, e, hb, hr, hl⟩
  · have := hat.keys.len; omega
  have hlt := (List.getElem?_eq_some_iff.1 hr).1
  have hon : (ds[i]).on l := ⟨0, .inl e⟩
  refine ⟨l, e, wr_row hr (by simpa using hj) ?_⟩
  rw [← List.map_set]
  have keep : ∀ {tt : TypeId} {x : Pl} {m : Nat} {es : List GV} (y : Obj), Own H B.length tt x m es → Dr (ds[i]).a1 x → Own (H.set l y) B.length tt x m es := fun y h hd => h.keep fun m e' => by
    rw [List.getElem?_set_ne]; intro q; subst q; exact hd l 0 0 e e'
  have how : (ds[i]).own (H.set l (.row true tS (((T[i]).keys.set j s).map GV.str))) B.length { T[i] with keys := (T[i]).keys.set j s } :=
    ⟨ho.used, ho.leaf, .inr ⟨l, e, hb, List.getElem?_set_self hlt, by simpa using hl⟩, keep _ ho.vals ho.d12, keep _ ho.kids ho.d13, ho.d12, ho.d13, ho.d23⟩
  refine hK _ (g.setRow hi hi' hon _ hb _ ⟨hat.used, hat.leaf, ⟨how.keys.cells, ?_, hat.keys.lim⟩, ⟨how.vals.cells, hat.vals.len, hat.vals.lim⟩, ⟨how.kids.cells, hat.kids.len, hat.kids.lim⟩⟩ how)
  simpa using hat.keys.len
theorem CT.kid (g : CT B H t a n ds T) {i j : Nat} (hi : i < ds.length) (hi' : i < T.length) (hj : j < (T[i]).kids.length) (s : Int) {K : Hp → Prop}
    (hK : ∀ H', CT B H' t a n ds (T.set i { T[i] with kids := (T[i]).kids.set j s }) → K H') : ∃ l, (ds[i]).a3 = some (l, 0) ∧ wr H l j (.int .i64 s) K := by
  have ho := g.own i hi hi'
  have hat := g.ot.all i hi hi'
  rcases ho.kids with ⟨_, h, _⟩ | ⟨l, e, hb, hr, hl⟩
  · have := hat.kids.len; omega
  have hlt := (List.getElem?_eq_some_iff.1 hr).1
  have hon : (ds[i]).on l := ⟨0, .inr (.inr e)⟩
  refine ⟨l, e, wr_row hr (by simpa using hj) ?_⟩
  rw [← List.map_set]
  have keep : ∀ {tt : TypeId} {x : Pl} {m : Nat} {es : List GV} (y : Obj), Own H B.length tt x m es → Dr x (ds[i]).a3 → Own (H.set l y) B.length tt x m es := fun y h hd => h.keep fun m e' => by
    rw [List.getElem?_set_ne]; intro q; subst q; exact hd l 0 0 e' e
  have how : (ds[i]).own (H.set l (.row true tI (((T[i]).kids.set j s).map (GV.int .i64)))) B.length { T[i] with kids := (T[i]).kids.set j s } :=
    ⟨ho.used, ho.leaf, keep _ ho.keys ho.d13, keep _ ho.vals ho.d23, .inr ⟨l, e, hb, List.getElem?_set_self hlt, by simpa using hl⟩, ho.d12, ho.d13, ho.d23⟩
  refine hK _ (g.setRow hi hi' hon _ hb _ ⟨hat.used, hat.leaf, ⟨how.keys.cells, hat.keys.len, hat.keys.lim⟩, ⟨how.vals.cells, hat.vals.len, hat.vals.lim⟩, ⟨how.kids.cells, ?_, hat.kids.lim⟩⟩ how)
  simpa using hat.kids.len
end

section
variable {H : Hp} {Q : Post}
end
end Go.Am
namespace Go.Am

section
variable {H : Hp} {Q : Post}
end
theorem Own.kv {H : Hp} {b : Nat} {t : TypeId} {a : Pl} {n : Nat} {ps : KV} (h : Own H b t a (n * 2) (kvCells ps)) (hl : ps.length = n) : Kv H a n ps := ⟨h.cells, hl⟩

/-! SoundFull -/
end Go.Am
namespace Go.Am

/-! a tree's outer row, cell by cell -/
theorem cells_part {H : Hp} {a : Pl} {n : Nat} {cs : List GV} (h : cells? H a n = some cs) (k m : Nat) (hm : k + m ≤ n) : cells? H (shf a k) m = some ((cs.drop k).take m) := by
  cases a with
  | none => simp [cells?] at h; obtain ⟨rfl, rfl⟩ := h; simp [cells?]; omega
  | some p =>
    obtain ⟨l, o⟩ := p
    unfold cells? at h
    simp only at h
    cases hr : H[l]? with
    | none => rw [hr] at h; cases h
    | some x =>
      rw [hr] at h
      cases x with
      | row own t ds =>
        simp only at h
        split at h
        · rename_i hle
          cases h
          simp only [shf_some, cells?, hr]
          rw [if_pos (by omega), List.drop_take, List.take_take, List.drop_drop, Nat.min_eq_left (by omega)]
        · cases h
      | _ => cases h
theorem Ss.part {H : Hp} {a : Pl} {n : Nat} {xs : List ByteArray} (h : Ss H a n xs) (k m : Nat) (hm : k + m ≤ n) : Ss H (shf a k) m ((xs.drop k).take m) := by
  have hn := h.len
  have hl := h.lim
  refine ⟨?_, by simp; omega, by omega⟩
  rw [cells_part h.cells k m hm, List.map_take, List.map_drop]
theorem pcells_set1 (cs : List PC) (i j : Nat) (v : GV) (c : PC) (hi : i < cs.length) (hj : j < 5) (hc : c.cells = (cs[i].cells).set j v) : (pcells cs).set (i * 5 + j) v = pcells (cs.set i c) := by
  induction cs generalizing i with
  | nil => simp at hi
  | cons d cs ih =>
    have e : pcells (d :: cs) = d.cells ++ pcells cs := rfl
    cases i with
    | zero =>
      rw [e, Nat.zero_mul, Nat.zero_add, List.set_append_left _ _ (by simpa using hj)]
      show _ = c.cells ++ pcells cs
      rw [hc]; rfl
    | succ i =>
      rw [e, List.set_append_right _ _ (by simp; omega)]
      show _ = d.cells ++ pcells (cs.set i c)
      rw [← ih i (by simpa using hi) (by simpa using hc)]
      congr 2
      simp; omega
section
variable {B H : Hp} {t : TypeId} {tp : Nat} {n : Nat} {cs : List PC} {T : List Pg} {i : Nat} {c : PC} {p : Pg}
theorem OT.at_row (h : OT H B.length t (some (tp, 0)) n cs T) : B.length ≤ tp ∧ H[tp]? = some (.row true t (pcells cs)) := by
  rcases h.own with ⟨e, _⟩ | ⟨l, e, hb, hr, hl⟩
  · cases e
  cases e
  exact ⟨hb, hr⟩
theorem OT.gt (h : OT H B.length t (some (tp, 0)) n cs T) (hi : i < cs.length) {j : Nat} (hj : j < 5) : Am.gt H tp (i * 5 + j) = (cs[i].cells)[j]? := by
  rw [gt_some h.at_row.2, pcells_get hi hj]
/-- one cell of a page written -/
theorem OT.cell (h : OT H B.length t (some (tp, 0)) n cs T) (hi : i < n) (hi' : i < cs.length) {j : Nat} (hj : j < 5) {v : GV} (hcell : c.cells = (cs[i].cells).set j v) (hc : c.at H p) (hoff : ∀ l, c.on l → l ≠ tp) {K : Hp → Prop}
    (hK : ∀ H', (∀ B', B' <+: H → B'.length ≤ tp → B' <+: H') → OT H' B.length t (some (tp, 0)) n (cs.set i c) (T.set i p) → K H') : wr H tp (i * 5 + j) v K := by
  obtain ⟨hb, hr⟩ := h.at_row
  refine wr_row hr (by rw [pcells_length]; omega) ?_
  rw [pcells_set1 cs i j v c hi' hj hcell]
  exact hK _ (fun B' hp hl => pre_set hp hl _) (h.place hi hc hoff)
theorem Tr.take {H : Hp} {a : Pl} {n : Nat} {cs : List PC} {T : List Pg} (h : Tr H a n cs T) {m : Nat} (hm : m ≤ n) : Tr H (shf a 0) m (cs.take m) (T.take m) := by
  have q1 := h.len
  have q2 := h.lenT
  refine ⟨?_, by simp [q1]; omega, by simp [q2]; omega, fun i h1 h2 => ?_⟩
  · have e : pcells (cs.take m) = (pcells cs).take (m * 5) := by
      have := pcells_append (cs.take m) (cs.drop m)
      rw [List.take_append_drop] at this
      rw [this, List.take_left' (by rw [pcells_length]; simp [q1]; omega)]
    rw [e, cells_part h.cells 0 (m * 5) (by omega), List.drop_zero]
  · simp at h1 h2
    rw [List.getElem_take, List.getElem_take]
    exact h.all i (by omega) (by omega)
end

/-! SoundForms -/
end Go.Am
namespace Go.Am

theorem sound_facts {T : List Pg} (h : 0 < heightD T) : ∃ st, T.length = 48 ∧ walkD T 49 0 1 (mkS []) (mkS []) ws0 = some st ∧ restD T st.met = true ∧ st.count ≤ 60 ∧ heightD T = st.deep := by
  unfold heightD at h ⊢
  by_cases hl : T.length = 48
  · rw [decide_eq_true hl] at h ⊢
    dsimp only at h ⊢
    cases hw : walkD T 49 0 1 (mkS []) (mkS []) ws0 with
    | none => rw [hw] at h; simp at h
    | some st =>
      rw [hw] at h
      dsimp only at h ⊢
      cases hr : restD T st.met && decide (st.count ≤ 60) with
      | false => rw [hr] at h; simp at h
      | true =>
        rw [Bool.and_eq_true, decide_eq_true_eq] at hr
        exact ⟨st, hl, rfl, hr.1, hr.2, rfl⟩
  · rw [decide_eq_false hl] at h; simp at h
theorem height_rest {T : List Pg} {st : WS} (h : walkD T 49 0 1 (mkS []) (mkS []) ws0 = some st) (hr : restD T st.met = false) : heightD T = 0 := by
  unfold heightD
  cases decide (T.length = 48) with
  | false => rfl
  | true => dsimp only; rw [h]; dsimp only; rw [hr]; rfl
theorem ws0_met (i : Nat) (h : i < 48) : ws0.met[i]? = some false := by
  show (List.replicate 48 false)[i]? = some false
  rw [List.getElem?_replicate, if_pos h]

theorem okD_met {p : Pg} {a : Nat} {lo hi : ByteArray} {st : WS} (h : okD p a lo hi st = true) : st.met[a]? = some false ∧ mayB_ p = true ∧ (0 < a → 2 ≤ p.keys.length) ∧ holdB lo hi p.keys = true := by
  unfold okD at h
  simp only [Bool.and_eq_true] at h
  obtain ⟨h1, h2, h3, h4⟩ := h
  refine ⟨?_, h2, fun ha => ?_, h4⟩
  · cases hq : st.met[a]? with
    | none => rw [hq] at h1; simp at h1
    | some b => rw [hq] at h1; simp at h1; rw [h1]
  · have : decide (0 < a) = true := decide_eq_true ha
    rw [this, Bool.true_and] at h3
    simp at h3; omega
theorem leafD_some {p : Pg} {deep : Nat} {st st' : WS} (h : leafD p deep st = some st') : st'.met = st.met ∧ st'.count = st.count + p.keys.length ∧ st'.deep = deep ∧ (st.deep = 0 ∨ st.deep = deep) := by
  unfold leafD at h
  split at h
  · rename_i e; cases h; exact ⟨rfl, rfl, rfl, .inl (of_decide_eq_true e)⟩
  · split at h
    · rename_i e; cases h; exact ⟨rfl, rfl, rfl, .inr (of_decide_eq_true e)⟩
    · cases h
/-- one step of a walk that goes well -/
theorem walkD_step {T : List Pg} {f a deep : Nat} {lo hi : ByteArray} {st st' : WS} (h : walkD T (f + 1) a deep lo hi st = some st') : ∃ p, T[a]? = some p ∧ okD p a lo hi st = true ∧
    ((p.leaf = true ∧ leafD p deep ⟨st.met.set a true, st.deep, st.count⟩ = some st') ∨ (p.leaf = false ∧ kidsD (fun k i s => walkD T f k.toNat (deep + 1) (loK p lo i) (hiK p hi i) s) p.kids 0 ⟨st.met.set a true, st.deep, st.count⟩ = some st')) := by
  cases hp : T[a]? with
  | none => unfold walkD at h; rw [hp] at h; cases h
  | some p =>
    rw [walkD_eq T f a deep lo hi st hp] at h
    refine ⟨p, rfl, ?_⟩
    cases hok : okD p a lo hi st with
    | false => rw [hok] at h; cases h
    | true =>
      rw [hok] at h
      dsimp only at h
      cases hl : p.leaf with
      | true => rw [hl] at h; exact ⟨rfl, .inl ⟨rfl, h⟩⟩
      | false => rw [hl] at h; exact ⟨rfl, .inr ⟨rfl, h⟩⟩
/-- kids that all go well -/
theorem kidsD_ind {rec : Int → Nat → WS → Option WS} {R : WS → WS → Prop} {P : List Int → WS → WS → Prop} (hnil : ∀ s, P [] s s) (hcons : ∀ k ks i s s1 s', rec k i s = some s1 → kidsD rec ks (i + 1) s1 = some s' → P ks s1 s' → P (k :: ks) s s') :
    ∀ (ks : List Int) (i : Nat) (s s' : WS), kidsD rec ks i s = some s' → P ks s s' := by
  intro ks
  induction ks with
  | nil => intro i s s' h; cases h; exact hnil s
  | cons k ks ih =>
    intro i s s' h
    rw [kidsD_cons] at h
    cases hr : rec k i s with
    | none => rw [hr] at h; cases h
    | some s1 => rw [hr] at h; exact hcons k ks i s s1 s' hr h (ih (i + 1) s1 s' h)
theorem kidsD_ind' {rec : Int → Nat → WS → Option WS} {P : List Int → WS → WS → Prop} (hnil : ∀ s, P [] s s) (hcons : ∀ k ks i s s1 s', rec k i s = some s1 → P ks s1 s' → P (k :: ks) s s') :
    ∀ (ks : List Int) (i : Nat) (s s' : WS), kidsD rec ks i s = some s' → P ks s s' :=
  kidsD_ind (R := fun _ _ => True) hnil fun k ks i s s1 s' h _ hp => hcons k ks i s s1 s' h hp

/-- pages that are met -/
theorem walkD_met (T : List Pg) : ∀ (f a deep : Nat) (lo hi : ByteArray) (st st' : WS), walkD T f a deep lo hi st = some st' → (∀ j : Nat, st.met[j]? = some true → st'.met[j]? = some true) ∧ st'.met[a]? = some true ∧
    (∀ j, st'.met[j]? = some true → st.met[j]? = some true ∨ ∃ p, T[j]? = some p ∧ mayB_ p = true ∧ (0 < j → 2 ≤ p.keys.length)) := by
  intro f
  induction f with
  | zero => intro _ _ _ _ _ _ h; cases h
  | succ f ih =>
    intro a deep lo hi st st' h
    obtain ⟨p, hp, hok, hcase⟩ := walkD_step h
    obtain ⟨hm, hmay, h2, _⟩ := okD_met hok
    have hlt : a < st.met.length := (List.getElem?_eq_some_iff.1 hm).1
    have set1 : ∀ j, st.met[j]? = some true → (st.met.set a true)[j]? = some true := fun j hj => by
      by_cases e : a = j
      · subst e; exact List.getElem?_set_self hlt
      · rw [List.getElem?_set_ne e]; exact hj
    have set2 : (st.met.set a true)[a]? = some true := List.getElem?_set_self hlt
    have set3 : ∀ j, (st.met.set a true)[j]? = some true → st.met[j]? = some true ∨ ∃ p, T[j]? = some p ∧ mayB_ p = true ∧ (0 < j → 2 ≤ p.keys.length) := fun j hj => by
      by_cases e : a = j
      · subst e; exact .inr ⟨p, hp, hmay, h2⟩
      · rw [List.getElem?_set_ne e] at hj; exact .inl hj
    rcases hcase with ⟨hl, hlf⟩ | ⟨hl, hk⟩
    · obtain ⟨e1, _⟩ := leafD_some hlf
      rw [e1]
      exact ⟨set1, set2, set3⟩
    · have key := kidsD_ind' (P := fun _ s s' => (∀ j, s.met[j]? = some true → s'.met[j]? = some true) ∧ (∀ j, s'.met[j]? = some true → s.met[j]? = some true ∨ ∃ p, T[j]? = some p ∧ mayB_ p = true ∧ (0 < j → 2 ≤ p.keys.length)))
        (fun s => ⟨fun j hj => hj, fun j hj => .inl hj⟩) (fun k ks i s s1 s' hr hP => by
          obtain ⟨q1, _, q3⟩ := ih _ _ _ _ _ _ hr
          refine ⟨fun j hj => hP.1 j (q1 j hj), fun j hj => ?_⟩
          rcases hP.2 j hj with q | q
          · exact q3 j q
          · exact .inr q) _ _ _ _ hk
      dsimp only at key
      refine ⟨fun j hj => key.1 j (set1 j hj), key.1 a set2, fun j hj => ?_⟩
      rcases key.2 j hj with q | q
      · exact set3 j q
      · exact .inr q

/-- a page that is not met may be another one -/
theorem walkD_same (T T' : List Pg) (i : Nat) (hT : ∀ j, j ≠ i → T'[j]? = T[j]?) : ∀ (f a deep : Nat) (lo hi : ByteArray) (st st' : WS), walkD T f a deep lo hi st = some st' → st'.met[i]? ≠ some true → walkD T' f a deep lo hi st = some st' := by
  intro f
  induction f with
  | zero => intro _ _ _ _ _ _ h; cases h
  | succ f ih =>
    intro a deep lo hi st st' h hi'
    obtain ⟨m1, m2, _⟩ := walkD_met T _ _ _ _ _ _ _ h
    obtain ⟨p, hp, hok, hcase⟩ := walkD_step h
    have ha : a ≠ i := fun e => hi' (by rw [← e]; exact m2)
    rw [walkD_eq T' f a deep lo hi st (by rw [hT a ha]; exact hp), hok]
    dsimp only
    rcases hcase with ⟨hl, hlf⟩ | ⟨hl, hk⟩
    · rw [hl]; exact hlf
    · rw [hl]
      dsimp only
      have key : ∀ (ks : List Int) (n : Nat) (s s' : WS), kidsD (fun k i s => walkD T f k.toNat (deep + 1) (loK p lo i) (hiK p hi i) s) ks n s = some s' → s'.met[i]? ≠ some true → kidsD (fun k i s => walkD T' f k.toNat (deep + 1) (loK p lo i) (hiK p hi i) s) ks n s = some s' := by
        intro ks
        induction ks with
        | nil => intro n s s' h _; exact h
        | cons k ks ihk =>
          intro n s s' h hne
          rw [kidsD_cons] at h ⊢
          cases hr : walkD T f k.toNat (deep + 1) (loK p lo n) (hiK p hi n) s with
          | none => rw [hr] at h; cases h
          | some s1 =>
            rw [hr] at h
            dsimp only at h
            have mono : ∀ j, s1.met[j]? = some true → s'.met[j]? = some true :=
              kidsD_ind' (rec := fun k i s => walkD T f k.toNat (deep + 1) (loK p lo i) (hiK p hi i) s) (P := fun _ s s' => ∀ j, s.met[j]? = some true → s'.met[j]? = some true) (fun s j hj => hj) (fun k ks i s s1 s' hr hP j hj => hP j ((walkD_met T _ _ _ _ _ _ _ hr).1 j hj)) _ _ _ _ h
            rw [ih _ _ _ _ _ _ hr (fun e => hne (mono i e))]
            exact ihk (n + 1) s1 s' h hne
      exact key _ _ _ _ hk hi'
end Go.Am
namespace Go.Am

theorem rest_at {T : List Pg} {met : List Bool} (h : restD T met = true) {i : Nat} (hi : i < T.length) {p : Pg} (hp : T[i]? = some p) : met[i]?.getD true = true ∨ nothingB p = true := by
  unfold restD at h
  rw [List.all_eq_true] at h
  have := h i (List.mem_range.2 hi)
  rw [hp, Option.getD_some, Bool.or_eq_true] at this
  exact this
theorem rest_false {T : List Pg} {met : List Bool} {i : Nat} (hi : i < T.length) {p : Pg} (hp : T[i]? = some p) (hm : met[i]? = some false) (hn : nothingB p = false) : restD T met = false := by
  unfold restD
  rw [List.all_eq_false]
  exact ⟨i, List.mem_range.2 hi, by rw [hm, hp, Option.getD_some, Option.getD_some, hn]; simp⟩
/-- a sound tree's pages -/
structure SF (T : List Pg) (st : WS) : Prop where
  len : T.length = 48
  walk : walkD T 49 0 1 (mkS []) (mkS []) ws0 = some st
  rest : restD T st.met = true
  count : st.count ≤ 60
  height : heightD T = st.deep
  metlen : st.met.length = 48
theorem SF.of {T : List Pg} (h : 0 < heightD T) : ∃ st, SF T st := by
  obtain ⟨st, h1, h2, h3, h4, h5⟩ := sound_facts h
  exact ⟨st, h1, h2, h3, h4, h5, (walkD_unmet T _ _ _ _ _ _ _ h2).2.1⟩
section
variable {T : List Pg} {st : WS}
theorem SF.used (s : SF T st) {i : Nat} {p : Pg} (hp : T[i]? = some p) (hu : p.used = true) : st.met[i]? = some true ∧ mayB_ p = true ∧ (0 < i → 2 ≤ p.keys.length) := by
  have hi : i < 48 := by have := (List.getElem?_eq_some_iff.1 hp).1; have := s.len; omega
  have hm : st.met[i]? = some true := by
    rcases rest_at s.rest (by rw [s.len]; exact hi) hp with h | h
    · rw [List.getElem?_eq_getElem (by rw [s.metlen]; exact hi)] at h ⊢
      simpa using h
    · unfold nothingB at h; rw [hu] at h; simp at h
  refine ⟨hm, ?_⟩
  rcases (walkD_met T _ _ _ _ _ _ _ s.walk).2.2 i hm with h | ⟨q, hq, h1, h2⟩
  · rw [ws0_met i hi] at h; cases h
  · rw [hp] at hq; cases hq; exact ⟨h1, h2⟩
/-- another page where none was met -/
theorem SF.more (s : SF T st) {i : Nat} (hi : i < 48) {p q : Pg} (hp : T[i]? = some p) (hu : p.used = false) (hq : nothingB q = false) : heightD (T.set i q) = 0 := by
  have hm : st.met[i]? = some false := by
    rw [List.getElem?_eq_getElem (by rw [s.metlen]; exact hi)]
    cases e : st.met[i]'(by rw [s.metlen]; exact hi) with
    | false => rfl
    | true =>
      have hm : st.met[i]? = some true := by rw [List.getElem?_eq_getElem (by rw [s.metlen]; exact hi), e]
      rcases (walkD_met T _ _ _ _ _ _ _ s.walk).2.2 i hm with h | ⟨q, hq, h1, _⟩
      · rw [ws0_met i hi] at h; cases h
      · rw [hp] at hq; cases hq
        have := ((mayB_iff p).1 h1).2.used
        rw [hu] at this; cases this
  refine height_rest (walkD_same T _ i (fun j hj => List.getElem?_set_ne (Ne.symm hj)) _ _ _ _ _ _ _ s.walk (by rw [hm]; simp)) ?_
  exact rest_false (p := q) (by simp [s.len]; exact hi) (List.getElem?_set_self (by rw [s.len]; exact hi)) hm hq
end

end Go.Am
namespace Go.Am

/-! the order of texts -/
section
variable {a b c : ByteArray}
theorem blt_tri (a b : ByteArray) : (blt a b = true ∧ a ≠ b ∧ blt b a = false) ∨ (a = b ∧ blt a b = false ∧ blt b a = false) ∨ (blt b a = true ∧ a ≠ b ∧ blt a b = false) := by
  unfold blt
  rcases less_tri (bs a) (bs b) with ⟨h1, h2, h3⟩ | ⟨h1, h2, h3⟩ | ⟨h1, h2, h3⟩
  · exact .inl ⟨h1, fun e => h2 (by rw [e]), h3⟩
  · exact .inr (.inl ⟨bs_inj h1, h2, h3⟩)
  · exact .inr (.inr ⟨h1, fun e => h2 (by rw [e]), h3⟩)
theorem blt_irr (a : ByteArray) : blt a a = false := by
  rcases blt_tri a a with h | h | h
  · exact (h.2.1 rfl).elim
  · exact h.2.1
  · exact (h.2.1 rfl).elim
theorem blt_asy (h : blt a b = true) : blt b a = false := by
  rcases blt_tri a b with q | q | q
  · exact q.2.2
  · exact q.2.2
  · rw [q.2.2] at h; cases h
theorem le_blt (h1 : blt b a = false) (h2 : blt b c = true) : blt a c = true := by
  rcases blt_tri a b with q | q | q
  · exact blt_trans q.1 h2
  · rw [q.1]; exact h2
  · rw [q.1] at h1; cases h1
theorem blt_le (h1 : blt a b = true) (h2 : blt c b = false) : blt a c = true := by
  rcases blt_tri b c with q | q | q
  · exact blt_trans h1 q.1
  · rw [← q.1]; exact h1
  · rw [q.1] at h2; cases h2
theorem le_le (h1 : blt b a = false) (h2 : blt c b = false) : blt c a = false := by
  cases e : blt c a with
  | false => rfl
  | true => rw [blt_le e h1] at h2; cases h2
theorem blt_ne (h : blt a b = true) : a ≠ b := fun e => by rw [e, blt_irr] at h; cases h
theorem blt_mk (a : ByteArray) : blt a (mkS []) = false := by
  unfold blt
  rw [bs_mkS]
  cases bs a <;> rfl
end

/-! the entries of a tree, in their order -/
def allD (T : List Pg) : Nat → Nat → KV
  | 0, _ => []
  | f + 1, a => match T[a]? with
    | none => []
    | some p => p.keys.zip p.vals ++ p.kids.flatMap fun k => allD T f k.toNat
theorem allD_leaf {T : List Pg} {f a : Nat} {p : Pg} (hp : T[a]? = some p) (hk : p.kids = []) : allD T (f + 1) a = p.keys.zip p.vals := by
  rw [allD, hp]; dsimp only; rw [hk]; simp
theorem allD_inner {T : List Pg} {f a : Nat} {p : Pg} (hp : T[a]? = some p) (hv : p.vals = []) : allD T (f + 1) a = p.kids.flatMap fun k => allD T f k.toNat := by
  rw [allD, hp]; dsimp only; rw [hv]; simp
def Asc (ps : KV) : Prop := ps.Pairwise fun x y => blt x.1 y.1 = true
def Win (lo hi : ByteArray) (ps : KV) : Prop := ∀ x ∈ ps, blt x.1 lo = false ∧ (hi.size = 0 ∨ blt x.1 hi = true)
def KVok (ps : KV) : Prop := ∀ x ∈ ps, (1 ≤ x.1.size ∧ x.1.size ≤ 6) ∧ x.2.size ≤ 10
theorem rising_pw {ks : List ByteArray} (h : Rising ks) : ks.Pairwise fun a b => blt a b = true := by
  rw [List.pairwise_iff_getElem]
  intro i j hi hj hij
  obtain ⟨d, rfl⟩ : ∃ d, j = i + d + 1 := ⟨j - i - 1, by omega⟩
  exact rising_lt h i d hj
theorem zip_asc {ks vs : List ByteArray} (h : Rising ks) (hl : vs.length = ks.length) : Asc (ks.zip vs) := by
  have := rising_pw h
  rw [← List.map_fst_zip (l₁ := ks) (l₂ := vs) (by omega), List.pairwise_map] at this
  exact this
theorem holdB_at {lo hi : ByteArray} {ks : List ByteArray} (h : holdB lo hi ks = true) {k : ByteArray} (hk : k ∈ ks) : blt k lo = false ∧ (hi.size = 0 ∨ blt k hi = true) := by
  unfold holdB at h
  rw [List.all_eq_true] at h
  have := h k hk
  simp only [Bool.and_eq_true, Bool.not_eq_true', Bool.or_eq_true, decide_eq_true_eq] at this
  exact this
theorem zip_mem {ks vs : List ByteArray} {x : ByteArray × ByteArray} (h : x ∈ ks.zip vs) : x.1 ∈ ks ∧ x.2 ∈ vs := ⟨(List.of_mem_zip h).1, (List.of_mem_zip h).2⟩

theorem loK_at {p : Pg} {lo : ByteArray} {i : Nat} (h : i < p.keys.length) : loK p lo (i + 1) = p.keys[i] := by
  unfold loK; rw [decide_eq_true (by omega)]; simp [h]
theorem hiK_at {p : Pg} {hi : ByteArray} {i : Nat} (h : i < p.keys.length) : hiK p hi i = p.keys[i] := by
  unfold hiK; rw [List.getElem?_eq_getElem h]; rfl
theorem hiK_end {p : Pg} {hi : ByteArray} {i : Nat} (h : p.keys.length ≤ i) : hiK p hi i = hi := by
  unfold hiK; rw [List.getElem?_eq_none h]; rfl
/-- what a walk that goes well says of the entries -/
def AllOf (T : List Pg) (f : Nat) : Prop := ∀ (a deep : Nat) (lo hi : ByteArray) (st st' : WS), walkD T f a deep lo hi st = some st' →
    Asc (allD T f a) ∧ Win lo hi (allD T f a) ∧ KVok (allD T f a) ∧ st'.count = st.count + (allD T f a).length
theorem kidsD_all {T : List Pg} {f : Nat} (ih : AllOf T f) {p : Pg} {lo hi : ByteArray} {deep : Nat} (hfit : FitsP p) (hh : holdB lo hi p.keys = true) :
    ∀ (ks : List Int) (i : Nat), i + ks.length = p.keys.length + 1 → ∀ (s s' : WS), kidsD (fun k i s => walkD T f k.toNat (deep + 1) (loK p lo i) (hiK p hi i) s) ks i s = some s' →
          Asc (ks.flatMap fun k => allD T f k.toNat) ∧ Win (loK p lo i) hi (ks.flatMap fun k => allD T f k.toNat) ∧ KVok (ks.flatMap fun k => allD T f k.toNat) ∧ s'.count = s.count + (ks.flatMap fun k => allD T f k.toNat).length := by
  have hkey : ∀ k ∈ p.keys, 1 ≤ k.size ∧ k.size ≤ 6 := hfit.keys
  intro ks
  induction ks with
  | nil => intro i _ s s' h; cases h; exact ⟨List.Pairwise.nil, fun x hx => (by simp at hx), fun x hx => (by simp at hx), rfl⟩
  | cons k ks ihk =>
    intro i hi' s s' h
    rw [kidsD_cons] at h
    cases hr : walkD T f k.toNat (deep + 1) (loK p lo i) (hiK p hi i) s with
    | none => rw [hr] at h; cases h
    | some s1 =>
      rw [hr] at h
      dsimp only at h
      obtain ⟨a1, a2, a3, a4⟩ := ih _ _ _ _ _ _ hr
      obtain ⟨b1, b2, b3, b4⟩ := ihk (i + 1) (by simp at hi'; omega) s1 s' h
      rw [List.flatMap_cons]
      simp only [List.length_cons] at hi'
      have hne : ∀ y, y ∈ ks.flatMap (fun k => allD T f k.toNat) → i < p.keys.length := fun y hy => by
        have : ks ≠ [] := fun e => by rw [e] at hy; simp at hy
        have := List.length_pos_iff.2 this
        omega
      refine ⟨List.pairwise_append.2 ⟨a1, b1, fun x hx y hy => ?_⟩, fun x hx => ?_, fun x hx => ?_, by rw [b4, a4, List.length_append]; omega⟩
      · have hi1 := hne y hy
        have ax := (a2 x hx).2
        have by_ := (b2 y hy).1
        rw [loK_at hi1] at by_
        rw [hiK_at hi1] at ax
        have := (hkey _ (List.getElem_mem hi1)).1
        rcases ax with q | q
        · omega
        · exact blt_le q by_
      · rcases List.mem_append.1 hx with q | q
        · obtain ⟨x1, x2⟩ := a2 x q
          refine ⟨x1, ?_⟩
          rcases Nat.lt_or_ge i p.keys.length with hi1 | hi1
          · rw [hiK_at hi1] at x2
            have hk1 := (hkey _ (List.getElem_mem hi1)).1
            rcases x2 with x2 | x2
            · omega
            · rcases (holdB_at hh (List.getElem_mem hi1)).2 with z | z
              · exact .inl z
              · exact .inr (blt_trans x2 z)
          · rw [hiK_end hi1] at x2; exact x2
        · have hi1 := hne x q
          obtain ⟨x1, x2⟩ := b2 x q
          refine ⟨?_, x2⟩
          rw [loK_at hi1] at x1
          rcases Nat.eq_zero_or_pos i with e | e
          · subst e
            have : loK p lo 0 = lo := rfl
            rw [this]
            exact le_le (holdB_at hh (List.getElem_mem hi1)).1 x1
          · obtain ⟨j, rfl⟩ : ∃ j, i = j + 1 := ⟨i - 1, by omega⟩
            rw [loK_at (show j < p.keys.length by omega)]
            exact le_le (blt_asy (rising_lt hfit.rising j 0 (by omega))) x1
      · rcases List.mem_append.1 hx with q | q
        · exact a3 x q
        · exact b3 x q
theorem walkD_all (T : List Pg) : ∀ f, AllOf T f := by
  intro f
  induction f with
  | zero => intro _ _ _ _ _ _ h; cases h
  | succ f ih =>
    intro a deep lo hi st st' h
    obtain ⟨p, hp, hok, hcase⟩ := walkD_step h
    obtain ⟨hm, hmay, h2, hh⟩ := okD_met hok
    have hfit := ((mayB_iff p).1 hmay).2
    have hkey : ∀ k ∈ p.keys, 1 ≤ k.size ∧ k.size ≤ 6 := hfit.keys
    rcases hcase with ⟨hl, hlf⟩ | ⟨hl, hk⟩
    · obtain ⟨e1, e2, _⟩ := leafD_some hlf
      obtain ⟨v1, v2, v3⟩ := hfit.leaf hl
      rw [allD_leaf hp v2]
      refine ⟨zip_asc hfit.rising v1, fun x hx => holdB_at hh (zip_mem hx).1, fun x hx => ⟨hkey _ (zip_mem hx).1, v3 _ (zip_mem hx).2⟩, ?_⟩
      rw [e2, List.length_zip, v1, Nat.min_self]
    · obtain ⟨k1, k2, k3, k4, k5⟩ := hfit.inner hl
      rw [allD_inner hp k2]
      have := kidsD_all ih hfit hh p.kids 0 (by omega) _ _ hk
      exact this

/-! sums over the pages met -/
def wt (g : Pg → Nat) : List Pg → List Bool → Nat
  | p :: T, b :: met => (match b with | true => g p | false => 0) + wt g T met
  | _, _ => 0
theorem wt_set (g : Pg → Nat) : ∀ {T : List Pg} {met : List Bool} {i : Nat} {p : Pg}, T[i]? = some p → met[i]? = some false → wt g T (met.set i true) = wt g T met + g p
  | [], _, i, p, h, _ => by simp at h
  | _ :: _, [], i, p, _, h => by simp at h
  | q :: T, b :: met, 0, p, h1, h2 => by
    simp at h1 h2; subst h1; subst h2
    simp only [List.set_cons_zero, wt]; omega
  | q :: T, b :: met, i + 1, p, h1, h2 => by
    simp only [List.getElem?_cons_succ] at h1 h2
    simp only [List.set_cons_succ, wt]
    have := wt_set g h1 h2
    omega
theorem wt_none (g : Pg → Nat) : ∀ (T : List Pg) (n : Nat), wt g T (List.replicate n false) = 0
  | [], n => by cases n <;> rfl
  | p :: T, 0 => rfl
  | p :: T, n + 1 => by simp only [List.replicate_succ, wt]; rw [wt_none g T n]
/-- all that are used are met -/
def usedSum (g : Pg → Nat) (T : List Pg) : Nat := (T.map fun (p : Pg) => match p.used with | true => g p | false => 0).sum
theorem wt_used (g : Pg → Nat) : ∀ {T : List Pg} {met : List Bool}, met.length = T.length → (∀ (i : Nat) (p : Pg), T[i]? = some p → met[i]? = some p.used) → wt g T met = usedSum g T
  | [], [], _, _ => rfl
  | [], _ :: _, h, _ => by simp at h
  | _ :: _, [], h, _ => by simp at h
  | p :: T, b :: met, hl, h => by
    have h0 := h 0 p rfl
    simp at h0
    subst h0
    have ih := wt_used g (T := T) (met := met) (by simpa using hl) fun i q hq => by have := h (i + 1) q (by simpa using hq); simpa using this
    unfold wt usedSum
    rw [List.map_cons, List.sum_cons, ih]
    rfl
def gK (p : Pg) : Nat := match p.leaf with | true => p.keys.length | false => 0
def gL (p : Pg) : Nat := match p.leaf with | true => 1 | false => 0
theorem walkD_sum (T : List Pg) : ∀ (f a deep : Nat) (lo hi : ByteArray) (st st' : WS), walkD T f a deep lo hi st = some st' → st'.count + wt gK T st.met = st.count + wt gK T st'.met := by
  intro f
  induction f with
  | zero => intro _ _ _ _ _ _ h; cases h
  | succ f ih =>
    intro a deep lo hi st st' h
    obtain ⟨p, hp, hok, hcase⟩ := walkD_step h
    obtain ⟨hm, hmay, h2, hh⟩ := okD_met hok
    have hw := wt_set gK hp hm
    rcases hcase with ⟨hl, hlf⟩ | ⟨hl, hk⟩
    · obtain ⟨e1, e2, _⟩ := leafD_some hlf
      rw [e1, e2]
      dsimp only at *
      have : gK p = p.keys.length := by unfold gK; rw [hl]
      omega
    · have : gK p = 0 := by unfold gK; rw [hl]
      have key := kidsD_ind' (P := fun _ s s' => s'.count + wt gK T s.met = s.count + wt gK T s'.met) (fun s => rfl) (fun k ks i s s1 s' hr hP => by
        have := ih _ _ _ _ _ _ hr
        omega) _ _ _ _ hk
      dsimp only at key
      omega
theorem walkD_high (T : List Pg) : ∀ (f a deep : Nat) (lo hi : ByteArray) (st st' : WS), walkD T f a deep lo hi st = some st' → 1 ≤ deep → (st.deep = 0 ∨ st.deep = st'.deep) ∧ deep ≤ st'.deep ∧
    (0 < a → wt gL T st.met + 3 ^ (st'.deep - deep) ≤ wt gL T st'.met ∧ st.count + 2 * 3 ^ (st'.deep - deep) ≤ st'.count) ∧
    ((st'.deep = deep ∧ wt gL T st'.met = wt gL T st.met + 1) ∨ (deep < st'.deep ∧ wt gL T st.met + 2 * 3 ^ (st'.deep - (deep + 1)) ≤ wt gL T st'.met ∧ st.count + 4 * 3 ^ (st'.deep - (deep + 1)) ≤ st'.count)) := by
  intro f
  induction f with
  | zero => intro _ _ _ _ _ _ h; cases h
  | succ f ih =>
    intro a deep lo hi st st' h hd
    obtain ⟨p, hp, hok, hcase⟩ := walkD_step h
    obtain ⟨hm, hmay, h2, hh⟩ := okD_met hok
    have hw := wt_set gL hp hm
    rcases hcase with ⟨hl, hlf⟩ | ⟨hl, hk⟩
    · obtain ⟨e1, e2, e3, e4⟩ := leafD_some hlf
      have hg : gL p = 1 := by unfold gL; rw [hl]
      rw [e1, e2, e3]
      dsimp only at *
      rw [Nat.sub_self, Nat.pow_zero]
      exact ⟨e4, Nat.le_refl _, fun h0 => ⟨by omega, by have := h2 h0; omega⟩, .inl ⟨rfl, by omega⟩⟩
    · have hg : gL p = 0 := by unfold gL; rw [hl]
      obtain ⟨k1, k2, k3, k4, k5⟩ := ((mayB_iff p).1 hmay).2.inner hl
      have key : ∀ (ks : List Int), (∀ k ∈ ks, 1 ≤ k) → ∀ (i : Nat) (s s' : WS), kidsD (fun k i s => walkD T f k.toNat (deep + 1) (loK p lo i) (hiK p hi i) s) ks i s = some s' →
          (s.deep = 0 ∨ s.deep = s'.deep) ∧ (ks ≠ [] → deep + 1 ≤ s'.deep) ∧ wt gL T s.met + ks.length * 3 ^ (s'.deep - (deep + 1)) ≤ wt gL T s'.met ∧ s.count + 2 * (ks.length * 3 ^ (s'.deep - (deep + 1))) ≤ s'.count := by
        intro ks
        induction ks with
        | nil => intro _ i s s' h; cases h; exact ⟨.inr rfl, fun h => (h rfl).elim, by simp, by simp⟩
        | cons k ks ihk =>
          intro hks i s s' h
          rw [kidsD_cons] at h
          cases hr : walkD T f k.toNat (deep + 1) (loK p lo i) (hiK p hi i) s with
          | none => rw [hr] at h; cases h
          | some s1 =>
            rw [hr] at h
            dsimp only at h
            obtain ⟨q1, q2, q3, _⟩ := ih _ _ _ _ _ _ hr (by omega)
            obtain ⟨q4, q5⟩ := q3 (by have := hks k (by simp); omega)
            obtain ⟨r1, r2, r3, r4⟩ := ihk (fun k' hk' => hks k' (by simp [hk'])) (i + 1) s1 s' h
            have e : s1.deep = s'.deep := by rcases r1 with r | r; omega; exact r
            rw [e] at q1 q2 q4 q5
            simp only [List.length_cons, Nat.add_mul, Nat.one_mul]
            generalize 3 ^ (s'.deep - (deep + 1)) = X at *
            generalize ks.length * X = Y at *
            exact ⟨q1, fun _ => q2, by omega, by omega⟩
      obtain ⟨c1, c2, c3, c4⟩ := key p.kids (fun k hk => (k4 k hk).1) _ _ _ hk
      have hdeep := c2 (fun e => by rw [e] at k3; simp at k3)
      dsimp only at *
      obtain ⟨X, hX⟩ : ∃ X, 3 ^ (st'.deep - (deep + 1)) = X := ⟨_, rfl⟩
      have hX3 : 3 ^ (st'.deep - deep) = X * 3 := by rw [← hX, ← Nat.pow_succ]; congr 1; omega
      rw [hX] at c3 c4 ⊢
      rw [hX3]
      have m2 : 2 * X ≤ p.kids.length * X := Nat.mul_le_mul_right X (by omega)
      refine ⟨c1, by omega, fun h0 => ?_, .inr ⟨by omega, by omega, by omega⟩⟩
      have m3 : 3 * X ≤ p.kids.length * X := Nat.mul_le_mul_right X (by have := h2 h0; omega)
      exact ⟨by omega, by omega⟩

/-- the entries of a sound tree -/
def entD (T : List Pg) : KV := allD T 49 0
section
variable {T : List Pg} {st : WS}
theorem SF.ents (s : SF T st) : Asc (entD T) ∧ KVok (entD T) ∧ (entD T).length = st.count ∧ (entD T).length ≤ 60 := by
  obtain ⟨h1, _, h3, h4⟩ := walkD_all T _ _ _ _ _ _ _ s.walk
  have h00 : ws0.count = 0 := rfl
  have := s.count
  unfold entD
  exact ⟨h1, h3, by omega, by omega⟩
theorem SF.metU (s : SF T st) {i : Nat} {p : Pg} (hp : T[i]? = some p) : st.met[i]? = some p.used := by
  have hi : i < 48 := by have := (List.getElem?_eq_some_iff.1 hp).1; have := s.len; omega
  cases hu : p.used with
  | true => exact (s.used hp hu).1
  | false =>
    rw [List.getElem?_eq_getElem (by rw [s.metlen]; exact hi)]
    cases e : st.met[i]'(by rw [s.metlen]; exact hi) with
    | false => rfl
    | true =>
      have hm : st.met[i]? = some true := by rw [List.getElem?_eq_getElem (by rw [s.metlen]; exact hi), e]
      rcases (walkD_met T _ _ _ _ _ _ _ s.walk).2.2 i hm with h | ⟨q, hq, h1, _⟩
      · rw [ws0_met i hi] at h; cases h
      · rw [hp] at hq; cases hq
        have := ((mayB_iff p).1 h1).2.used
        rw [hu] at this; cases this
/-- how many entries, leaves a sound tree has -/
theorem SF.sums (s : SF T st) : usedSum gK T = (entD T).length ∧ (heightD T = 1 ↔ usedSum gL T = 1) ∧ 1 ≤ heightD T ∧ heightD T ≤ 4 := by
  have e0 : ∀ g, wt g T ws0.met = 0 := fun g => wt_none g T 48
  have eU : ∀ g, wt g T st.met = usedSum g T := fun g => wt_used g (by rw [s.metlen, s.len]) fun i p hp => s.metU hp
  have h1 := walkD_sum T _ _ _ _ _ _ _ s.walk
  obtain ⟨_, h2, _, h3⟩ := walkD_high T _ _ _ _ _ _ _ s.walk (Nat.le_refl _)
  rw [e0, eU] at h1 h3
  have h00 : ws0.count = 0 := rfl
  have hc := s.ents.2.2.1
  have hc2 := s.count
  rw [s.height]
  refine ⟨by omega, ?_, by omega, ?_⟩
  · rcases h3 with ⟨q1, q2⟩ | ⟨q1, q2, q3⟩
    · constructor <;> intro <;> omega
    · have : 1 ≤ 3 ^ (st.deep - 2) := Nat.pow_pos (by omega)
      simp only [Nat.reduceAdd] at q2 q3
      constructor <;> intro <;> omega
  · rcases h3 with ⟨q1, q2⟩ | ⟨q1, q2, q3⟩
    · omega
    · simp only [Nat.reduceAdd] at q2 q3
      rcases Nat.lt_or_ge st.deep 5 with h | h
      · omega
      · have : 3 ^ 3 ≤ 3 ^ (st.deep - 2) := Nat.pow_le_pow_right (by omega) (by omega)
        omega
end
end Go.Am
namespace Go.Am

/-! trees, by what stands below a page -/
/-- kids with the keys between them -/
def KidsR (R : Nat → List Nat → KV → Prop) : List Int → List ByteArray → List Nat → KV → Prop
  | [], _, _, _ => False
  | k :: ks, ss, P, ps => match ss with
    | [] => ks = [] ∧ R k.toNat P ps
    | s :: ss => ∃ P1 ps1 P2 ps2, R k.toNat P1 ps1 ∧ KidsR R ks ss P2 ps2 ∧ P = P1 ++ P2 ∧ ps = ps1 ++ ps2 ∧ (∀ x ∈ ps1, blt x.1 s = true) ∧ (∀ y ∈ ps2, blt y.1 s = false)
/-- a subtree: its height, its root's number, its pages' numbers, its entries -/
def Sub (T : List Pg) : Nat → Nat → List Nat → KV → Prop
  | 0, _, _, _ => False
  | d + 1, a, P, ps => ∃ p, T[a]? = some p ∧ MayP p ∧
      ((d = 0 ∧ p.leaf = true ∧ P = [a] ∧ ps = p.keys.zip p.vals) ∨
       (p.leaf = false ∧ ∃ P', P = a :: P' ∧ KidsR (fun k P ps => Sub T d k P ps ∧ ∃ q, T[k]? = some q ∧ 2 ≤ q.keys.length) p.kids p.keys P' ps))
/-- one that is no root -/
def SubB (T : List Pg) (d k : Nat) (P : List Nat) (ps : KV) : Prop := Sub T d k P ps ∧ ∃ q, T[k]? = some q ∧ 2 ≤ q.keys.length
theorem KidsR.imp {R R' : Nat → List Nat → KV → Prop} : ∀ {ks : List Int} {ss : List ByteArray} {P : List Nat} {ps : KV}, (∀ k P' ps', R k P' ps' → (∀ i ∈ P', i ∈ P) → R' k P' ps') → KidsR R ks ss P ps → KidsR R' ks ss P ps
  | [], _, _, _, _, h => h.elim
  | k :: ks, [], P, ps, f, h => ⟨h.1, f _ _ _ h.2 fun i hi => hi⟩
  | k :: ks, s :: ss, P, ps, f, ⟨P1, ps1, P2, ps2, h1, h2, e1, e2, h3, h4⟩ => by
    subst e1
    exact ⟨P1, ps1, P2, ps2, f _ _ _ h1 fun i hi => List.mem_append.2 (.inl hi), KidsR.imp (fun k P' ps' h hs => f k P' ps' h fun i hi => List.mem_append.2 (.inr (hs i hi))) h2, rfl, e2, h3, h4⟩
theorem KidsR.len {R : Nat → List Nat → KV → Prop} : ∀ {ks : List Int} {ss : List ByteArray} {P : List Nat} {ps : KV}, KidsR R ks ss P ps → ks.length = ss.length + 1
  | [], _, _, _, h => h.elim
  | k :: ks, [], P, ps, h => by rw [h.1]; rfl
  | k :: ks, s :: ss, P, ps, ⟨P1, ps1, P2, ps2, h1, h2, _⟩ => by simp [KidsR.len h2]
theorem Sub.head {T : List Pg} {d a : Nat} {P : List Nat} {ps : KV} (h : Sub T d a P ps) : a ∈ P := by
  cases d with
  | zero => exact h.elim
  | succ d =>
    obtain ⟨p, _, _, ⟨_, _, e, _⟩ | ⟨_, P', e, _⟩⟩ := h <;> simp [e]
/-- the pages stand as they stood -/
theorem Sub.keep {T T' : List Pg} : ∀ {d a : Nat} {P : List Nat} {ps : KV}, Sub T d a P ps → (∀ i ∈ P, T'[i]? = T[i]?) → Sub T' d a P ps
  | 0, _, _, _, h, _ => h.elim
  | d + 1, a, P, ps, h, hk => by
    have ha := hk a h.head
    obtain ⟨p, hp, hm, h⟩ := h
    refine ⟨p, by rw [ha]; exact hp, hm, ?_⟩
    rcases h with h | ⟨h1, P', e, h2⟩
    · exact .inl h
    · subst e
      refine .inr ⟨h1, P', rfl, h2.imp fun k Q qs ⟨q1, q, q2, q3⟩ hs => ⟨Sub.keep q1 fun i hi => hk i (by simp [hs i hi]), q, ?_, q3⟩⟩
      rw [hk k (by simp [hs k q1.head])]; exact q2
theorem SubB.keep {T T' : List Pg} {d a : Nat} {P : List Nat} {ps : KV} (h : SubB T d a P ps) (hk : ∀ i ∈ P, T'[i]? = T[i]?) : SubB T' d a P ps := by
  obtain ⟨h1, q, h2, h3⟩ := h
  exact ⟨h1.keep hk, q, by rw [hk a h1.head]; exact h2, h3⟩

theorem KidsR.allD {T : List Pg} {f : Nat} {R : Nat → List Nat → KV → Prop} (hR : ∀ k P ps, R k P ps → Am.allD T f k = ps) : ∀ {ks : List Int} {ss : List ByteArray} {P : List Nat} {ps : KV}, KidsR R ks ss P ps → (ks.flatMap fun k => Am.allD T f k.toNat) = ps
  | [], _, _, _, h => h.elim
  | k :: ks, [], P, ps, h => by rw [h.1]; simp [hR _ _ _ h.2]
  | k :: ks, s :: ss, P, ps, ⟨P1, ps1, P2, ps2, h1, h2, _, e2, _⟩ => by rw [List.flatMap_cons, hR _ _ _ h1, KidsR.allD hR h2, e2]
theorem Sub.allD {T : List Pg} : ∀ {d f a : Nat} {P : List Nat} {ps : KV}, Sub T d a P ps → d ≤ f → Am.allD T f a = ps
  | 0, _, _, _, _, h, _ => h.elim
  | d + 1, 0, _, _, _, _, hf => by omega
  | d + 1, f + 1, a, P, ps, h, hf => by
    obtain ⟨p, hp, hm, ⟨_, hl, _, e⟩ | ⟨hl, P', _, hk⟩⟩ := h
    · rw [allD_leaf hp (hm.2.leaf hl).2.1, e]
    · rw [allD_inner hp (hm.2.inner hl).2.1]
      exact KidsR.allD (fun k P ps h => Sub.allD h.1 (by omega)) hk

theorem kids_size {R : Nat → List Nat → KV → Prop} {m : Nat} (hR : ∀ k P ps, R k P ps → m ≤ ps.length) : ∀ {ks : List Int} {ss : List ByteArray} {P : List Nat} {ps : KV}, KidsR R ks ss P ps → ks.length * m ≤ ps.length
  | [], _, _, _, h => h.elim
  | k :: ks, [], P, ps, h => by rw [h.1]; have := hR _ _ _ h.2; simpa using this
  | k :: ks, s :: ss, P, ps, ⟨P1, ps1, P2, ps2, h1, h2, _, e2, h3, h4⟩ => by
    have := hR _ _ _ h1
    have := kids_size hR h2
    subst e2
    rw [List.length_cons, List.length_append, Nat.add_mul]
    omega
theorem SubB.size {T : List Pg} : ∀ {d a : Nat} {P : List Nat} {ps : KV}, SubB T d a P ps → 2 * d ≤ ps.length
  | 0, _, _, _, h => by omega
  | d + 1, a, P, ps, ⟨h, q, hq, h2⟩ => by
    obtain ⟨p, hp, hm, ⟨hd, hl, _, e⟩ | ⟨hl, P', _, hk⟩⟩ := h
    · rw [hp] at hq; cases hq
      have := (hm.2.leaf hl).1
      subst e; subst hd
      rw [List.length_zip]; omega
    · rw [hp] at hq; cases hq
      have hlen := hk.len
      have := kids_size (m := 2 * d) (fun k P ps h => SubB.size h) hk
      have hd : 1 ≤ d := by
        cases d with
        | zero => cases hks : q.kids with
          | nil => rw [hks] at hlen; simp at hlen
          | cons k ks =>
            rw [hks] at hk
            cases hs : q.keys with
            | nil => rw [hs] at h2; simp at h2
            | cons s ss => rw [hs] at hk; obtain ⟨_, _, _, _, h1, _⟩ := hk; exact h1.1.elim
        | succ d => omega
      have : 2 * (2 * d) ≤ q.kids.length * (2 * d) := Nat.mul_le_mul_right _ (by omega)
      omega
theorem SubB.ne {T : List Pg} {d a : Nat} {P : List Nat} {ps : KV} (h : SubB T d a P ps) : ps ≠ [] := by
  intro e
  have := h.size
  subst e
  cases d with
  | zero => exact h.1.elim
  | succ d => simp at this

/-- pages of a list that are met -/
def metAll (met : List Bool) (P : List Nat) : List Bool := P.foldl (fun m i => m.set i true) met
theorem metAll_out {P : List Nat} : ∀ {met : List Bool} {i : Nat}, i ∉ P → (metAll met P)[i]? = met[i]? := by
  unfold metAll
  induction P with
  | nil => intro met i _; rfl
  | cons j P ih =>
    intro met i h
    simp only [List.foldl_cons]
    rw [ih (fun q => h (by simp [q])), List.getElem?_set_ne (fun e => h (by simp [e]))]
theorem metAll_in {P : List Nat} : ∀ {met : List Bool} {i : Nat}, i ∈ P → i < met.length → (metAll met P)[i]? = some true := by
  unfold metAll
  induction P with
  | nil => intro met i h; simp at h
  | cons j P ih =>
    intro met i h hl
    simp only [List.foldl_cons]
    by_cases hi : i ∈ P
    · exact ih hi (by simpa using hl)
    · have : i = j := by simpa [hi] using h
      subst this
      have := metAll_out (met := met.set i true) hi
      unfold metAll at this
      rw [this, List.getElem?_set_self hl]
theorem metAll_append (met : List Bool) (P Q : List Nat) : metAll met (P ++ Q) = metAll (metAll met P) Q := by unfold metAll; rw [List.foldl_append]
theorem metAll_cons (met : List Bool) (a : Nat) (P : List Nat) : metAll met (a :: P) = metAll (met.set a true) P := rfl

theorem kids_hold {R : Nat → List Nat → KV → Prop} (hR : ∀ k P ps, R k P ps → ps ≠ []) {lo hi : ByteArray} : ∀ {ks : List Int} {ss : List ByteArray} {P : List Nat} {ps : KV}, KidsR R ks ss P ps → ps ≠ [] ∧ (Win lo hi ps → ∀ s ∈ ss, blt s lo = false ∧ (hi.size = 0 ∨ blt s hi = true))
  | [], _, _, _, h => h.elim
  | k :: ks, [], P, ps, h => ⟨hR _ _ _ h.2, fun _ s hs => by simp at hs⟩
  | k :: ks, s :: ss, P, ps, ⟨P1, ps1, P2, ps2, h1, h2, _, e2, h3, h4⟩ => by
    have n1 := hR _ _ _ h1
    obtain ⟨n2, ih⟩ := kids_hold hR (lo := lo) (hi := hi) h2
    subst e2
    refine ⟨by simp [n1], fun w s' hs => ?_⟩
    obtain ⟨x, hx⟩ := List.exists_mem_of_ne_nil _ n1
    obtain ⟨y, hy⟩ := List.exists_mem_of_ne_nil _ n2
    have wx := w x (List.mem_append.2 (.inl hx))
    have wy := w y (List.mem_append.2 (.inr hy))
    rcases List.mem_cons.1 hs with e | e
    · subst e
      refine ⟨?_, ?_⟩
      · exact le_le wx.1 (blt_asy (h3 x hx))
      · rcases wy.2 with q | q
        · exact .inl q
        · exact .inr (le_blt (h4 y hy) q)
    · exact ih (fun z hz => w z (List.mem_append.2 (.inr hz))) s' e
theorem holdB_of {lo hi : ByteArray} {ks : List ByteArray} (h : ∀ s ∈ ks, blt s lo = false ∧ (hi.size = 0 ∨ blt s hi = true)) : holdB lo hi ks = true := by
  unfold holdB
  rw [List.all_eq_true]
  intro k hk
  obtain ⟨h1, h2⟩ := h k hk
  rw [h1]
  rcases h2 with q | q
  · rw [decide_eq_true q]; rfl
  · rw [q]; simp

/-- such a tree is walked well -/
theorem Sub.walk (T : List Pg) : ∀ (d f a : Nat) (P : List Nat) (ps : KV) (deep : Nat) (lo hi : ByteArray) (st : WS), Sub T d a P ps → d ≤ f → (0 < a → ∃ q, T[a]? = some q ∧ 2 ≤ q.keys.length) → P.Nodup → (∀ i ∈ P, st.met[i]? = some false) → Win lo hi ps →
    (st.deep = 0 ∨ st.deep + 1 = deep + d) → 1 ≤ deep → walkD T f a deep lo hi st = some ⟨metAll st.met P, deep + d - 1, st.count + ps.length⟩
  | 0, _, _, _, _, _, _, _, _, h, _, _, _, _, _, _, _ => h.elim
  | d + 1, 0, _, _, _, _, _, _, _, _, hf, _, _, _, _, _, _ => by omega
  | d + 1, f + 1, a, P, ps, deep, lo, hi, st, h, hf, ha, hnd, hm, hw, hdp, hd1 => by
    have hma := hm a h.head
    obtain ⟨p, hp, hmay, hcase⟩ := h
    have hbig : (decide (0 < a) && decide (p.keys.length < 2)) = false := by
      rw [Bool.and_eq_false_iff, decide_eq_false_iff_not, decide_eq_false_iff_not]
      rcases Nat.eq_zero_or_pos a with e | e
      · exact .inl (by omega)
      · obtain ⟨q, hq, h2⟩ := ha e
        rw [hp] at hq; cases hq
        exact .inr (by omega)
    have hok : holdB lo hi p.keys = true → okD p a lo hi st = true := fun hh => by
      unfold okD
      rw [hma, (mayB_iff p).2 hmay, hbig, hh]; rfl
    rw [walkD_eq T f a deep lo hi st hp]
    rcases hcase with ⟨e0, hl, e1, e2⟩ | ⟨hl, P', e1, hk⟩
    · subst e0; subst e1; subst e2
      have v1 := (hmay.2.leaf hl).1
      have hh : holdB lo hi p.keys = true := holdB_of fun s hs => by
        obtain ⟨i, hi', e⟩ := List.getElem_of_mem hs
        have : (p.keys.zip p.vals)[i]'(by rw [List.length_zip]; omega) ∈ p.keys.zip p.vals := List.getElem_mem _
        have := hw _ this
        rw [List.getElem_zip, e] at this
        exact this
      rw [hok hh]
      dsimp only
      rw [hl]
      dsimp only
      unfold leafD
      dsimp only
      have hz : (p.keys.zip p.vals).length = p.keys.length := by rw [List.length_zip]; omega
      rw [hz]
      rcases hdp with q | q
      · rw [decide_eq_true q]; rfl
      · have q' : st.deep = deep := by omega
        rw [decide_eq_false (by omega), decide_eq_true q']; rfl
    · subst e1
      have hh : holdB lo hi p.keys = true := holdB_of ((kids_hold (fun k P ps h => SubB.ne h) hk).2 hw)
      rw [hok hh]
      dsimp only
      rw [hl]
      dsimp only
      have hlen := hk.len
      obtain ⟨k1, k2, k3, k4, k5⟩ := hmay.2.inner hl
      rw [List.nodup_cons] at hnd
      have loop : ∀ (ks : List Int) (i : Nat) (ss : List ByteArray) (P : List Nat) (ps : KV) (s : WS), (∀ k ∈ ks, 1 ≤ k) → p.keys.drop i = ss → i + ss.length = p.keys.length → KidsR (fun k P ps => Sub T d k P ps ∧ ∃ q, T[k]? = some q ∧ 2 ≤ q.keys.length) ks ss P ps →
          P.Nodup → (∀ i ∈ P, s.met[i]? = some false) → Win (loK p lo i) hi ps → (s.deep = 0 ∨ s.deep = deep + d) →
          kidsD (fun k i s => walkD T f k.toNat (deep + 1) (loK p lo i) (hiK p hi i) s) ks i s = some ⟨metAll s.met P, deep + d, s.count + ps.length⟩ := by
        intro ks
        induction ks with
        | nil => intro i ss P ps s _ _ _ h; exact h.elim
        | cons k ks ihk =>
          intro i ss P ps s hk1 hss hlen' hR hnd hm hw hdp
          have hk0 := hk1 k (by simp)
          cases ss with
          | nil =>
            obtain ⟨e, hs⟩ := hR
            subst e
            have hend : p.keys.length ≤ i := by simp at hlen'; omega
            rw [kidsD_cons]
            have := Sub.walk T d f k.toNat P ps (deep + 1) (loK p lo i) (hiK p hi i) s hs.1 (by omega) (fun _ => hs.2) hnd hm (by rw [hiK_end hend]; exact hw) (by rcases hdp with q | q; exact .inl q; exact .inr (by omega)) (by omega)
            rw [this]
            dsimp only
            have e : deep + 1 + d - 1 = deep + d := by omega
            rw [e]; rfl
          | cons s0 ss =>
            obtain ⟨P1, ps1, P2, ps2, h1, h2, e1, e2, h3, h4⟩ := hR
            subst e1; subst e2
            simp only [List.length_cons] at hlen'
            have hi1 : i < p.keys.length := by omega
            have hs0 : p.keys[i] = s0 := by
              rw [List.drop_eq_getElem_cons hi1] at hss
              exact (List.cons.inj hss).1
            have hss' : p.keys.drop (i + 1) = ss := by
              rw [List.drop_eq_getElem_cons hi1] at hss
              exact (List.cons.inj hss).2
            rw [kidsD_cons]
            rw [List.nodup_append] at hnd
            obtain ⟨d1, d2, d3⟩ := hnd
            have hw1 : Win (loK p lo i) (hiK p hi i) ps1 := fun x hx => ⟨(hw x (List.mem_append.2 (.inl hx))).1, .inr (by rw [hiK_at hi1, hs0]; exact h3 x hx)⟩
            have := Sub.walk T d f k.toNat P1 ps1 (deep + 1) (loK p lo i) (hiK p hi i) s h1.1 (by omega) (fun _ => h1.2) d1 (fun j hj => hm j (List.mem_append.2 (.inl hj))) hw1 (by rcases hdp with q | q; exact .inl q; exact .inr (by omega)) (by omega)
            rw [this]
            dsimp only
            have e : deep + 1 + d - 1 = deep + d := by omega
            rw [e]
            have := ihk (i + 1) ss P2 ps2 ⟨metAll s.met P1, deep + d, s.count + ps1.length⟩ (fun k' hk' => hk1 k' (by simp [hk'])) hss' (by omega) h2 d2 (fun j hj => by
                dsimp only
                rw [metAll_out (fun q => d3 j q j hj rfl)]
                exact hm j (List.mem_append.2 (.inr hj)))
              (fun y hy => ⟨by rw [loK_at hi1, hs0]; exact h4 y hy, (hw y (List.mem_append.2 (.inr hy))).2⟩) (.inr rfl)
            rw [this]
            dsimp only
            rw [metAll_append, List.length_append, Nat.add_assoc]
      have := loop p.kids 0 p.keys P' ps ⟨st.met.set a true, st.deep, st.count⟩ (fun k hk => (k4 k hk).1) rfl (by omega) hk hnd.2 (fun j hj => by
          dsimp only
          rw [List.getElem?_set_ne (fun e => hnd.1 (by rw [e]; exact hj))]
          exact hm j (by simp [hj])) hw (by dsimp only; rcases hdp with q | q; exact .inl q; exact .inr (by omega))
      rw [this, metAll_cons]
      dsimp only
      congr 2
end Go.Am
namespace Go.Am

/-- a walk that goes well: what stands below -/
theorem walkD_sub (T : List Pg) : ∀ (f a deep : Nat) (lo hi : ByteArray) (st st' : WS), walkD T f a deep lo hi st = some st' → 1 ≤ deep →
    ∃ d P, st'.deep + 1 = deep + d ∧ Sub T d a P (allD T f a) ∧ st'.met = metAll st.met P ∧ P.Nodup ∧ (∀ i ∈ P, st.met[i]? = some false) := by
  intro f
  induction f with
  | zero => intro _ _ _ _ _ _ h; cases h
  | succ f ih =>
    intro a deep lo hi st st' h hd1
    obtain ⟨p, hp, hok, hcase⟩ := walkD_step h
    obtain ⟨hm, hmay, h2, hh⟩ := okD_met hok
    have hM := (mayB_iff p).1 hmay
    have hfit := hM.2
    have hlt := (List.getElem?_eq_some_iff.1 hm).1
    rcases hcase with ⟨hl, hlf⟩ | ⟨hl, hk⟩
    · obtain ⟨e1, e2, e3, _⟩ := leafD_some hlf
      refine ⟨1, [a], by omega, ⟨p, hp, hM, .inl ⟨rfl, hl, rfl, allD_leaf hp (hfit.leaf hl).2.1⟩⟩, by rw [e1]; rfl, by simp, fun i hi => by rw [List.mem_singleton.1 hi]; exact hm⟩
    · obtain ⟨k1, k2, k3, k4, k5⟩ := hfit.inner hl
      have loop : ∀ (ks : List Int) (i : Nat) (ss : List ByteArray) (s s' : WS), (∀ k ∈ ks, 1 ≤ k) → p.keys.drop i = ss → i + ss.length = p.keys.length → ks.length = ss.length + 1 →
          kidsD (fun k i s => walkD T f k.toNat (deep + 1) (loK p lo i) (hiK p hi i) s) ks i s = some s' →
          ∃ d P, s'.deep + 1 = deep + 1 + d ∧ KidsR (SubB T d) ks ss P (ks.flatMap fun k => allD T f k.toNat) ∧ s'.met = metAll s.met P ∧ P.Nodup ∧ (∀ i ∈ P, s.met[i]? = some false) ∧ (s.deep = 0 ∨ s.deep = s'.deep) := by
        intro ks
        induction ks with
        | nil => intro i ss s s' _ _ _ h; simp at h
        | cons k ks ihk =>
          intro i ss s s' hk1 hss hlen hkl h
          have hk0 := hk1 k (by simp)
          rw [kidsD_cons] at h
          cases hr : walkD T f k.toNat (deep + 1) (loK p lo i) (hiK p hi i) s with
          | none => rw [hr] at h; cases h
          | some s1 =>
            rw [hr] at h
            dsimp only at h
            obtain ⟨d1, P1, e1, S1, m1, n1, u1⟩ := ih _ _ _ _ _ _ hr (by omega)
            obtain ⟨q1, _⟩ := walkD_high T _ _ _ _ _ _ _ hr (by omega)
            have B1 : SubB T d1 k.toNat P1 (allD T f k.toNat) := by
              obtain ⟨q, hq, hqo, _⟩ := walkD_step (f := f - 1) (by
                cases f with
                | zero => cases hr
                | succ f => exact hr)
              exact ⟨S1, q, hq, (okD_met hqo).2.2.1 (by omega)⟩
            cases ss with
            | nil =>
              have : ks = [] := by simpa using hkl
              subst this
              cases h
              exact ⟨d1, P1, e1, ⟨rfl, by simpa using B1⟩, m1, n1, u1, q1⟩
            | cons s0 ss =>
              simp only [List.length_cons] at hlen hkl
              have hi1 : i < p.keys.length := by omega
              have hs0 : p.keys[i] = s0 := by
                rw [List.drop_eq_getElem_cons hi1] at hss
                exact (List.cons.inj hss).1
              have hss' : p.keys.drop (i + 1) = ss := by
                rw [List.drop_eq_getElem_cons hi1] at hss
                exact (List.cons.inj hss).2
              obtain ⟨d2, P2, e2, K2, m2, n2, u2, z2⟩ := ihk (i + 1) ss s1 s' (fun k' hk' => hk1 k' (by simp [hk'])) hss' (by omega) (by omega) h
              have hd12 : d1 = d2 := by rcases z2 with z | z <;> omega
              subst hd12
              have w1 := (walkD_all T f _ _ _ _ _ _ hr).2.1
              have w2 := (kidsD_all (walkD_all T f) hfit hh ks (i + 1) (by omega) _ _ h).2.1
              rw [loK_at hi1, hs0] at w2
              rw [hiK_at hi1, hs0] at w1
              have hsz : 1 ≤ s0.size := by rw [← hs0]; exact (hfit.keys _ (List.getElem_mem hi1)).1
              have u2' : ∀ j ∈ P2, j ∉ P1 := fun j hj q => by
                have := u2 j hj
                have hjl := (List.getElem?_eq_some_iff.1 (u1 j q)).1
                rw [m1, metAll_in q hjl] at this
                cases this
              refine ⟨d1, P1 ++ P2, e2, ⟨P1, _, P2, _, B1, K2, rfl, by rw [List.flatMap_cons], fun x hx => ?_, fun y hy => (w2 y hy).1⟩, by rw [m2, m1, metAll_append], ?_, fun j hj => ?_, ?_⟩
              · rcases (w1 x hx).2 with z | z
                · omega
                · exact z
              · rw [List.nodup_append]
                exact ⟨n1, n2, fun j hj j' hj' e => u2' j' hj' (by rw [← e]; exact hj)⟩
              · rcases List.mem_append.1 hj with q | q
                · exact u1 j q
                · have := u2 j q
                  rw [m1, metAll_out (u2' j q)] at this
                  exact this
              · rcases q1 with q | q
                · exact .inl q
                · rcases z2 with z | z
                  · omega
                  · exact .inr (by omega)
      obtain ⟨d, P, e, K, m, n, u, _⟩ := loop p.kids 0 p.keys _ _ (fun k hk => (k4 k hk).1) rfl (by omega) k3 hk
      dsimp only at m u
      have haP : a ∉ P := fun q => by
        have := u a q
        rw [List.getElem?_set_self hlt] at this
        cases this
      refine ⟨d + 1, a :: P, by omega, ⟨p, hp, hM, .inr ⟨hl, P, rfl, by rw [allD_inner hp k2]; exact K⟩⟩, by rw [m, metAll_cons], List.nodup_cons.2 ⟨haP, n⟩, fun j hj => ?_⟩
      rcases List.mem_cons.1 hj with q | q
      · rw [q]; exact hm
      · have := u j q
        rw [List.getElem?_set_ne (fun z => haP (by rw [z]; exact q))] at this
        exact this

theorem Sub.inT {T : List Pg} : ∀ {d a : Nat} {P : List Nat} {ps : KV}, Sub T d a P ps → ∀ i ∈ P, i < T.length
  | 0, _, _, _, h => h.elim
  | d + 1, a, P, ps, h => by
    obtain ⟨p, hp, hm, h⟩ := h
    have ha := (List.getElem?_eq_some_iff.1 hp).1
    rcases h with ⟨_, _, e, _⟩ | ⟨_, P', e, h2⟩
    · subst e; intro i hi; rw [List.mem_singleton.1 hi]; exact ha
    · subst e
      intro i hi
      rcases List.mem_cons.1 hi with q | q
      · rw [q]; exact ha
      · have key : ∀ {ks : List Int} {ss : List ByteArray} {P : List Nat} {ps : KV}, KidsR (SubB T d) ks ss P ps → ∀ i ∈ P, i < T.length := by
          intro ks
          induction ks with
          | nil => intro _ _ _ h; exact h.elim
          | cons k ks ih =>
            intro ss P ps h i hi
            cases ss with
            | nil => exact Sub.inT h.2.1 i hi
            | cons s ss =>
              obtain ⟨P1, ps1, P2, ps2, h1, h2, e1, _⟩ := h
              subst e1
              rcases List.mem_append.1 hi with q | q
              · exact Sub.inT h1.1 i q
              · exact ih h2 i q
        exact key h2 i q
theorem Sub.low {T : List Pg} {d a : Nat} {P : List Nat} {ps : KV} (h : Sub T d a P ps) : 2 * d ≤ ps.length + 2 := by
  cases d with
  | zero => exact h.elim
  | succ d =>
    obtain ⟨p, hp, hm, ⟨e0, _, _, _⟩ | ⟨_, P', _, hk⟩⟩ := h
    · subst e0; omega
    · have := kids_size (m := 2 * d) (fun k P ps h => SubB.size h) hk
      have hl := hk.len
      have : 1 * (2 * d) ≤ p.kids.length * (2 * d) := Nat.mul_le_mul_right _ (by omega)
      omega

/-- a whole tree: its height, the numbers of its pages, its entries -/
structure Whole (T : List Pg) (d : Nat) (P : List Nat) (ps : KV) : Prop where
  len : T.length = 48
  sub : Sub T d 0 P ps
  nodup : P.Nodup
  rest : ∀ (i : Nat) p, T[i]? = some p → i ∉ P → nothingB p = true
  count : ps.length ≤ 60
section
variable {T : List Pg} {d : Nat} {P : List Nat} {ps : KV}
theorem Whole.pos (w : Whole T d P ps) : 1 ≤ d := by
  cases d with
  | zero => exact w.sub.elim
  | succ d => omega
theorem Whole.sound (w : Whole T d P ps) : heightD T = d ∧ entD T = ps := by
  have hd := w.sub.low
  have hc := w.count
  have h1 := w.pos
  have hw := Sub.walk T d 49 0 P ps 1 (mkS []) (mkS []) ws0 w.sub (by omega) (fun h => by omega) w.nodup (fun i hi => ws0_met i (by have := w.sub.inT i hi; rw [w.len] at this; exact this))
    (fun x _ => ⟨blt_mk _, .inl rfl⟩) (.inl rfl) (Nat.le_refl _)
  refine ⟨?_, w.sub.allD (by omega)⟩
  unfold heightD
  rw [decide_eq_true w.len]
  dsimp only
  rw [hw]
  dsimp only
  have hr : restD T (metAll ws0.met P) = true := by
    unfold restD
    rw [List.all_eq_true]
    intro i hi
    have hi := List.mem_range.1 hi
    have hi48 : i < 48 := by rw [w.len] at hi; exact hi
    by_cases hp : i ∈ P
    · rw [metAll_in hp (by show i < (List.replicate 48 false).length; simpa using hi48)]; rfl
    · rw [w.rest i (T[i]?.getD noPg) (by rw [List.getElem?_eq_getElem hi]; rfl) hp]; simp
  have h0 : ws0.count = 0 := rfl
  rw [hr, h0, Nat.zero_add, decide_eq_true hc]
  show 1 + d - 1 = d
  omega
theorem SF.whole {st : WS} (s : SF T st) : ∃ P, Whole T (heightD T) P (entD T) := by
  obtain ⟨d, P, e, S, m, n, u⟩ := walkD_sub T _ _ _ _ _ _ _ s.walk (Nat.le_refl _)
  have hd : d = heightD T := by rw [s.height]; omega
  subst hd
  refine ⟨P, s.len, S, n, fun i p hp hi => ?_, s.ents.2.2.2⟩
  have hlt := (List.getElem?_eq_some_iff.1 hp).1
  have hi48 : i < 48 := by rw [s.len] at hlt; exact hlt
  have hm : st.met[i]? = some false := by rw [m, metAll_out hi, ws0_met i hi48]
  rcases rest_at s.rest hlt hp with h | h
  · rw [hm] at h; simp at h
  · exact h
end
end Go.Am
namespace Go.Am

/-! a key among keys that rise; an entry among entries -/
def slotN (ks : List ByteArray) (key : ByteArray) : Nat := ks.countP fun s => blt s key
def slotB (ks : List ByteArray) (key : ByteArray) : Bool := decide (ks[slotN ks key]? = some key)
def kidN (ks : List ByteArray) (key : ByteArray) : Nat := slotN ks key + (match slotB ks key with | true => 1 | false => 0)
abbrev Pw (ks : List ByteArray) : Prop := ks.Pairwise fun a b => blt a b = true
section
variable {s key : ByteArray} {ks : List ByteArray}
theorem slotN_nil : slotN [] key = 0 := rfl
theorem slotB_nil : slotB [] key = false := by simp [slotB]
theorem slot_lt (h : blt s key = true) : slotN (s :: ks) key = slotN ks key + 1 ∧ slotB (s :: ks) key = slotB ks key := by
  have e : slotN (s :: ks) key = slotN ks key + 1 := by unfold slotN; rw [List.countP_cons_of_pos (by simpa using h)]
  refine ⟨e, ?_⟩
  unfold slotB
  rw [e, List.getElem?_cons_succ]
theorem slotN_zero (h : ∀ t ∈ ks, blt t key = false) : slotN ks key = 0 := by
  unfold slotN
  rw [List.countP_eq_zero]
  intro t ht
  rw [h t ht]; simp
theorem slot_ge (pw : Pw (s :: ks)) (h : blt s key = false) : slotN (s :: ks) key = 0 ∧ slotB (s :: ks) key = decide (s = key) := by
  have e : slotN (s :: ks) key = 0 := slotN_zero fun t ht => by
    rcases List.mem_cons.1 ht with q | q
    · rw [q]; exact h
    · exact le_le h (blt_asy ((List.pairwise_cons.1 pw).1 t q))
  refine ⟨e, ?_⟩
  unfold slotB
  rw [e]; simp
end
end Go.Am
namespace Go.Am

/-! a page over its kids -/
def PageSub (T : List Pg) (d : Nat) (p : Pg) (P : List Nat) (e : KV) : Prop :=
  MayP p ∧ ((d = 0 ∧ p.leaf = true ∧ P = [] ∧ e = p.keys.zip p.vals) ∨ (p.leaf = false ∧ KidsR (SubB T d) p.kids p.keys P e))
theorem PageSub.sub {T : List Pg} {d a : Nat} {p : Pg} {P : List Nat} {e : KV} (h : PageSub T d p P e) (hp : T[a]? = some p) : Sub T (d + 1) a (a :: P) e := by
  obtain ⟨hm, ⟨e0, hl, e1, e2⟩ | ⟨hl, hk⟩⟩ := h
  · subst e1; exact ⟨p, hp, hm, .inl ⟨e0, hl, rfl, e2⟩⟩
  · exact ⟨p, hp, hm, .inr ⟨hl, P, rfl, hk⟩⟩
theorem PageSub.keep {T T' : List Pg} {d : Nat} {p : Pg} {P : List Nat} {e : KV} (h : PageSub T d p P e) (hk : ∀ i ∈ P, T'[i]? = T[i]?) : PageSub T' d p P e := by
  obtain ⟨hm, h | ⟨hl, h⟩⟩ := h
  · exact ⟨hm, .inl h⟩
  · exact ⟨hm, .inr ⟨hl, h.imp fun k Q qs hs hin => hs.keep fun i hi => hk i (hin i hi)⟩⟩
/-- a level: pages with their least keys -/
def LV (T : List Pg) (d : Nat) : Lvl → List Nat → KV → Prop
  | [], P, e => P = [] ∧ e = []
  | (p, s) :: xs, P, e => ∃ P1 e1 P2 e2, P = P1 ++ P2 ∧ e = e1 ++ e2 ∧ PageSub T d p P1 e1 ∧ 2 ≤ p.keys.length ∧ (∃ y r, e1 = y :: r ∧ y.1 = s) ∧ LV T d xs P2 e2
theorem LV.append {T : List Pg} {d : Nat} : ∀ {xs ys : Lvl} {P Q : List Nat} {e f : KV}, LV T d xs P e → LV T d ys Q f → LV T d (xs ++ ys) (P ++ Q) (e ++ f)
  | [], ys, P, Q, e, f, ⟨h1, h2⟩, h => by subst h1; subst h2; exact h
  | (p, s) :: xs, ys, P, Q, e, f, ⟨P1, e1, P2, e2, h1, h2, h3, h4, h5, h6⟩, h => by
    subst h1; subst h2
    exact ⟨P1, e1, P2 ++ Q, e2 ++ f, by rw [List.append_assoc], by rw [List.append_assoc], h3, h4, h5, LV.append h6 h⟩
theorem LV.split {T : List Pg} {d : Nat} : ∀ {xs ys : Lvl} {P : List Nat} {e : KV}, LV T d (xs ++ ys) P e → ∃ P1 e1 P2 e2, P = P1 ++ P2 ∧ e = e1 ++ e2 ∧ LV T d xs P1 e1 ∧ LV T d ys P2 e2
  | [], ys, P, e, h => ⟨[], [], P, e, rfl, rfl, ⟨rfl, rfl⟩, h⟩
  | (p, s) :: xs, ys, P, e, ⟨P1, e1, P2, e2, h1, h2, h3, h4, h5, h6⟩ => by
    obtain ⟨Q1, f1, Q2, f2, g1, g2, g3, g4⟩ := LV.split h6
    exact ⟨P1 ++ Q1, e1 ++ f1, Q2, f2, by rw [h1, g1, List.append_assoc], by rw [h2, g2, List.append_assoc], ⟨P1, e1, Q1, f1, rfl, rfl, h3, h4, h5, g3⟩, g4⟩
theorem LV.keep {T T' : List Pg} {d : Nat} : ∀ {xs : Lvl} {P : List Nat} {e : KV}, LV T d xs P e → (∀ i ∈ P, T'[i]? = T[i]?) → LV T' d xs P e
  | [], P, e, h, _ => h
  | (p, s) :: xs, P, e, ⟨P1, e1, P2, e2, h1, h2, h3, h4, h5, h6⟩, hk => by
    subst h1
    exact ⟨P1, e1, P2, e2, rfl, h2, h3.keep fun i hi => hk i (List.mem_append.2 (.inl hi)), h4, h5, LV.keep h6 fun i hi => hk i (List.mem_append.2 (.inr hi))⟩
def kidsAt (base m : Nat) : List Int := (List.range m).map fun j => ((base + j : Nat) : Int)
theorem kidsAt_succ (base m : Nat) : kidsAt base (m + 1) = (base : Int) :: kidsAt (base + 1) m := by
  unfold kidsAt
  rw [List.range_succ_eq_map, List.map_cons, List.map_map]
  congr 1
  apply List.map_congr_left
  intro j _
  simp only [Function.comp]
  congr 1
  omega
/-- pages that stand one behind the other, as kids -/
theorem LV.kids {T : List Pg} {d next : Nat} : ∀ {xs : Lvl} {base : Nat} {P : List Nat} {e : KV}, xs ≠ [] → LV T d xs P e → (∀ j (h : j < xs.length), T[base + j]? = some (xs[j]).1) → Asc e → P.Nodup → (∀ i ∈ P, i < next) → next ≤ base →
    ∃ P', KidsR (SubB T (d + 1)) (kidsAt base xs.length) (xs.tail.map (·.2)) P' e ∧ P'.Nodup ∧ ∀ i, i ∈ P' ↔ i ∈ P ∨ (base ≤ i ∧ i < base + xs.length)
  | [], _, _, _, h, _, _, _, _, _, _ => (h rfl).elim
  | (p, s) :: xs, base, P, e, _, ⟨P1, e1, P2, e2, h1, h2, h3, h4, h5, h6⟩, hT, ha, hnd, hlt, hnb => by
    subst h1; subst h2
    obtain ⟨a1, a2, a3⟩ := List.pairwise_append.1 ha
    obtain ⟨d1, d2, d3⟩ := List.nodup_append.1 hnd
    have hp : T[base]? = some p := by have := hT 0 (by simp); simpa using this
    have hB : SubB T (d + 1) base (base :: P1) e1 := ⟨h3.sub hp, p, hp, h4⟩
    have hb1 : base ∉ P1 := fun q => by have := hlt base (List.mem_append.2 (.inl q)); omega
    cases xs with
    | nil =>
      obtain ⟨q1, q2⟩ := h6
      subst q1; subst q2
      refine ⟨base :: P1, ?_, List.nodup_cons.2 ⟨hb1, d1⟩, fun i => ?_⟩
      · show KidsR _ (kidsAt base (0 + 1)) [] _ _
        rw [kidsAt_succ]
        exact ⟨rfl, by simpa using hB⟩
      · rw [List.mem_cons, List.append_nil]
        show i = base ∨ i ∈ P1 ↔ i ∈ P1 ∨ (base ≤ i ∧ i < base + 1)
        constructor
        · rintro (q | q)
          · exact .inr (by omega)
          · exact .inl q
        · rintro (q | q)
          · exact .inr q
          · exact .inl (by omega)
    | cons x xs =>
      obtain ⟨P', k1, k2, k3⟩ := LV.kids (next := next) (base := base + 1) (by simp) h6 (fun j hj => by
        have := hT (j + 1) (by simp at hj ⊢; omega)
        rw [← Nat.add_assoc, Nat.add_right_comm] at this
        simpa using this) a2 d2 (fun i hi => hlt i (List.mem_append.2 (.inr hi))) (by omega)
      have hm : ∀ i, i ∈ P' → i ∉ base :: P1 := fun i hi q => by
        rcases (k3 i).1 hi with z | z
        · rcases List.mem_cons.1 q with y | y
          · subst y; have := hlt i (List.mem_append.2 (.inr z)); omega
          · exact d3 i y i z rfl
        · rcases List.mem_cons.1 q with y | y
          · omega
          · have := hlt i (List.mem_append.2 (.inl y)); omega
      refine ⟨(base :: P1) ++ P', ?_, ?_, fun i => ?_⟩
      · show KidsR _ (kidsAt base ((x :: xs).length + 1)) ((x :: xs).map (·.2)) _ _
        rw [kidsAt_succ, List.map_cons]
        obtain ⟨x1, x2⟩ := x
        obtain ⟨Q1, f1, Q2, f2, g1, g2, g3, g4, ⟨y, r, g5, g6⟩, g7⟩ := h6
        refine ⟨base :: P1, e1, P', e2, by simpa using hB, k1, rfl, rfl, fun z hz => ?_, fun z hz => ?_⟩
        · show blt z.1 x2 = true
          rw [← g6]
          exact a3 z hz y (by rw [g2, g5]; simp)
        · show blt z.1 x2 = false
          rw [← g6]
          rw [g2, g5, List.cons_append] at hz a2
          rcases List.mem_cons.1 hz with q | q
          · rw [q]; exact blt_irr _
          · exact blt_asy ((List.pairwise_cons.1 a2).1 z q)
      · exact List.nodup_append.2 ⟨List.nodup_cons.2 ⟨hb1, d1⟩, k2, fun i hi j hj e => hm j hj (by rw [← e]; exact hi)⟩
      · rw [List.mem_append, k3, List.mem_cons, List.mem_append]
        simp only [List.length_cons]
        constructor
        · rintro ((q | q) | (q | q))
          · exact .inr (by omega)
          · exact .inl (.inl q)
          · exact .inl (.inr q)
          · exact .inr (by omega)
        · rintro ((q | q) | q)
          · exact .inl (.inr q)
          · exact .inr (.inl q)
          · rcases Nat.eq_or_lt_of_le q.1 with z | z
            · exact .inl (.inl z.symm)
            · exact .inr (.inr (by omega))

/-! pages placed -/
/-! cuts -/
end Go.Am
namespace Go.Am

/-! a tree whose walk goes well, without the walk's state -/
section
variable {H0 : Hp} {x : Pl} {cs : List PC} {T : List Pg}
end

def errE (e : Int) (T : List Pg) : Int := match decide (0 < heightD T) with | true => 0 | false => e
section
variable {H : Hp} {Q : Post} {x : Pl} {n : Nat} {cs : List PC} {T : List Pg}
end
end Go.Am
namespace Go.Am

theorem kvCells_append {ps qs : KV} : kvCells (ps ++ qs) = kvCells ps ++ kvCells qs := by simp [kvCells]
/-- entries gathered at a place; B: the heap ahead of the place -/
structure SJ (B H : Hp) (t : TypeId) (ps : KV) : Prop where
  pre : B <+: H
  out : ∃ a n, H[B.length]? = some (.row true t [.sl a n 2]) ∧ Own H (B.length + 1) tKV a (n * 2) (kvCells ps) ∧ ps.length = n
section
variable {B H : Hp} {t : TypeId} {ps : KV} {lf lt : Nat} {lo hi : ByteArray} {Q : Post}
theorem SJ.add (g : SJ B H t ps) (k v : ByteArray) (hn : ps.length ≤ 1000) {K : Hp → Prop} (hK : ∀ H', SJ B H' t (ps ++ [(k, v)]) → K H') :
    rd H B.length 0 fun c => dL 2 c fun x n => chk true (ap H tKV 2 32 x n [.str k, .str v] 1 fun x n H => wr H B.length 0 (.sl x n 2) fun H => K H) := by
  obtain ⟨a, n, hrow, hO, hl⟩ := g.out
  have hlt := (List.getElem?_eq_some_iff.1 hrow).1
  rw [rd_of (v := .sl a n 2) (by rw [gt_some hrow]; rfl), dL_sl, chk_true]
  have hb : (H.take (B.length + 1)).length = B.length + 1 := by rw [List.length_take]; omega
  refine ap_z (H0 := H.take (B.length + 1)) (by omega) (List.take_prefix _ _) (by rw [hb]; exact hO) rfl (by unfold Lim; omega) fun a' H' o e f => ?_
  rw [hb] at o
  have hrow' : H'[B.length]? = some (.row true t [.sl a n 2]) := by
    rw [pre_at e.pre (by omega), List.getElem?_take, if_pos (by omega)]; exact hrow
  rw [wr_of hrow' (by simp)]
  have hB : B <+: H' := by
    refine List.IsPrefix.trans ?_ e.pre
    exact List.prefix_take_iff.2 ⟨g.pre, by omega⟩
  refine hK _ ⟨pre_set hB (Nat.le_refl _) _, a', n + 1, ?_, ?_, by simp [hl]⟩
  · rw [List.getElem?_set_self (List.getElem?_eq_some_iff.1 hrow').1]; rfl
  · rw [kvCells_append]
    exact Own.keep o fun l e' => by rw [List.getElem?_set_ne (by have := (f l 0 e').1; omega)]
end

section
variable {H0 B : Hp} {x : Pl} {cs : List PC} {T : List Pg} {t : TypeId} {lp lf lt gf : Nat} {lo hi : ByteArray} {E : Nat → Sm}
end

section
variable {H : Hp} {Q : Post} {x : Pl} {n : Nat} {cs : List PC} {T : List Pg} {lo hi : ByteArray}
end
end Go.Am
namespace Go.Am

theorem kvCells_drop : ∀ (ps : KV) (k : Nat), kvCells (ps.drop k) = (kvCells ps).drop (k * 2)
  | [], k => by simp [kvCells]
  | x :: ps, 0 => by simp
  | x :: ps, k + 1 => by
    rw [List.drop_succ_cons, kvCells_drop ps k]
    have e : (k + 1) * 2 = k * 2 + 1 + 1 := by omega
    rw [e]; rfl
theorem kvCells_take : ∀ (ps : KV) (k : Nat), kvCells (ps.take k) = (kvCells ps).take (k * 2)
  | [], k => by simp [kvCells]
  | x :: ps, 0 => by simp [kvCells]
  | x :: ps, k + 1 => by
    have e : (k + 1) * 2 = k * 2 + 1 + 1 := by omega
    rw [List.take_succ_cons, e]
    show GV.str x.1 :: GV.str x.2 :: kvCells (ps.take k) = _
    rw [kvCells_take ps k]; rfl
theorem Kv.part {H : Hp} {a : Pl} {n : Nat} {ps : KV} (h : Kv H a n ps) (k m : Nat) (hm : k + m ≤ n) : Kv H (shf a (k * 2)) m ((ps.drop k).take m) := by
  refine ⟨?_, by rw [List.length_take, List.length_drop, h.len]; omega⟩
  rw [kvCells_take, kvCells_drop]
  exact cells_part h.cells (k * 2) (m * 2) (by omega)

section
variable {H : Hp} {Q : Post}
end

/-! the tree that awakes -/
def kvA : KV := [(mkS [97], mkS [49]), (mkS [98], mkS []), (mkS [99], mkS [51]), (mkS [100], mkS []), (mkS [101], mkS [53])]
theorem hA : 0 < heightD (buildD kvA) := by decide +kernel
theorem eA : errE 1400 (buildD kvA) = 0 := by decide +kernel
section
variable {H : Hp} {Q : Post}
end
end Go.Am
namespace Go.Am

section
variable {H : Hp} {Q : Post} {key : ByteArray} {ks : List ByteArray}
theorem slotN_take (i : Nat) (hi : i < ks.length) : slotN (ks.take (i + 1)) key = slotN (ks.take i) key + (match blt ks[i] key with | true => 1 | false => 0) := by
  unfold slotN
  rw [List.take_succ_eq_append_getElem hi, List.countP_append]
  congr 1
theorem slotN_le : slotN ks key ≤ ks.length := List.countP_le_length
theorem node_Slot_spec {a : Pl} {n : Nat} (h : Ss H a n ks) (hQ : Q (.tup [.s (.int .i64 (slotN ks key : Int)), .s (.bool (slotB ks key))]) H) : node_Slot [.g (.sl a n 1), .g (.str key)] H Q := by
  have hn := h.len
  have hlim := h.lim
  refine ⟨n + 2, ?_⟩
  rw [node_Slot_eq]
  have loop : ∀ (F i : Nat), n - i < F → i ≤ n → node_Slot.l3 F a n key (slotN (ks.take i) key : Int) a n (nI n) (i : Int) H Q := by
    intro F
    induction F with
    | zero => intro i h; omega
    | succ F ih =>
      intro i hF hi
      rw [node_Slot.l3_eq]
      by_cases hik : i < n
      · have hle : slotN (ks.take i) key ≤ i := Nat.le_trans slotN_le (List.length_take_le _ _)
        rw [bite_t (by simp; omega), chk_true, h.rd i rfl (by omega), blt_eq, wrap_succ (by omega), wrap_succ (by omega)]
        have := ih (i + 1) (by omega) (by omega)
        rw [slotN_take i (by omega)] at this
        refine bite_of (fun e => ?_) (fun e => ?_)
        · rw [e] at this; exact this
        · rw [e] at this; exact this
      · rw [bite_f (by simp; omega), List.take_of_length_le (by omega)]
        have hle := slotN_le (ks := ks) (key := key)
        refine bite_of (fun e => ?_) (fun e => ?_)
        · have hlt : slotN ks key < ks.length := by simp at e; omega
          rw [chk_true, h.rd (slotN ks key) rfl hlt]
          have : slotB ks key = strEq ks[slotN ks key] key := by
            unfold slotB; rw [List.getElem?_eq_getElem hlt, strEq_def]; simp
          rw [this] at hQ
          exact hQ
        · have : slotB ks key = false := by
            unfold slotB
            rw [List.getElem?_eq_none (by simp at e; omega)]; simp
          rw [this] at hQ
          exact hQ
  exact loop _ 0 (by omega) (Nat.zero_le _)
end

section
variable {H : Hp} {Q : Post} {x : Pl} {n : Nat} {cs : List PC} {T : List Pg} {key : ByteArray}

end
end Go.Am
namespace Go.Am

/-! keys by numbers -/
section
variable {H : Hp} {Q : Post}
/-! every entry is found -/
/-! every second one -/
end
end Go.Am
namespace Go.Am

/-! an entry put among entries -/
def insK : KV → ByteArray → ByteArray → KV
  | [], k, v => [(k, v)]
  | x :: ps, k, v => match decide (x.1 = k) with
    | true => (k, v) :: ps
    | false => match blt x.1 k with
      | true => x :: insK ps k v
      | false => (k, v) :: x :: ps
theorem insK_left {l r : KV} {k v : ByteArray} (h : ∀ x ∈ l, blt x.1 k = true) : insK (l ++ r) k v = l ++ insK r k v := by
  induction l with
  | nil => rfl
  | cons x l ih =>
    have hx := h x (by simp)
    rw [List.cons_append]
    show (match decide (x.1 = k) with | true => (k, v) :: (l ++ r) | false => match blt x.1 k with | true => x :: insK (l ++ r) k v | false => (k, v) :: x :: (l ++ r)) = _
    rw [decide_eq_false (blt_ne hx), hx]
    dsimp only
    rw [ih fun y hy => h y (by simp [hy])]; rfl
theorem insK_new {l r : KV} {k v : ByteArray} (h : ∀ x ∈ l, blt x.1 k = true) (hr : ∀ x ∈ r, blt k x.1 = true) : insK (l ++ r) k v = l ++ (k, v) :: r := by
  rw [insK_left h]
  congr 1
  cases r with
  | nil => rfl
  | cons x r =>
    have hx := hr x (by simp)
    show (match decide (x.1 = k) with | true => (k, v) :: r | false => match blt x.1 k with | true => x :: insK r k v | false => (k, v) :: x :: r) = _
    rw [decide_eq_false (Ne.symm (blt_ne hx)), blt_asy hx]
theorem insK_mem {ps : KV} {k v : ByteArray} {x : ByteArray × ByteArray} : x ∈ insK ps k v → x = (k, v) ∨ x ∈ ps := by
  induction ps with
  | nil => intro h; simp [insK] at h; exact .inl h
  | cons y ps ih =>
    unfold insK
    by_cases e : y.1 = k
    · rw [decide_eq_true e]
      intro h
      rcases List.mem_cons.1 h with q | q
      · exact .inl q
      · exact .inr (by simp [q])
    · rw [decide_eq_false e]
      dsimp only
      cases blt y.1 k with
      | true =>
        intro h
        rcases List.mem_cons.1 h with q | q
        · exact .inr (by simp [q])
        · rcases ih q with z | z
          · exact .inl z
          · exact .inr (by simp [z])
      | false =>
        intro h
        rcases List.mem_cons.1 h with q | q
        · exact .inl q
        · exact .inr q
/-! a value of a tree turned -/
section
variable {T : List Pg} {d : Nat} {P : List Nat} {ps : KV} {i : Nat} {p : Pg} {key v : ByteArray}
end
end Go.Am
namespace Go.Am

section
variable {B H H' : Hp} {t : TypeId} {a : Pl} {n : Nat} {ds : List PC} {T : List Pg} {Q : Post}
theorem CT.val (g : CT B H t a n ds T) {i j : Nat} (hi : i < ds.length) (hi' : i < T.length) (hj : j < (T[i]).vals.length) (s : ByteArray) {K : Hp → Prop}
    (hK : ∀ H', CT B H' t a n ds (T.set i { T[i] with vals := (T[i]).vals.set j s }) → K H') : ∃ l, (ds[i]).a2 = some (l, 0) ∧ wr H l j (.str s) K := by
  have ho := g.own i hi hi'
  have hat := g.ot.all i hi hi'
  rcases ho.vals with ⟨_, h, _⟩ | ⟨l, e, hb, hr, hl⟩
  · have := hat.vals.len; omega
  have hlt := (List.getElem?_eq_some_iff.1 hr).1
  have hon : (ds[i]).on l := ⟨0, .inr (.inl e)⟩
  refine ⟨l, e, wr_row hr (by simpa using hj) ?_⟩
  rw [← List.map_set]
  have keep : ∀ {tt : TypeId} {x : Pl} {m : Nat} {es : List GV} (y : Obj), Own H B.length tt x m es → (∀ o, x ≠ some (l, o)) → Own (H.set l y) B.length tt x m es := fun y h hd => h.keep fun m e' => by
    rw [List.getElem?_set_ne]; intro q; subst q; exact hd 0 e'
  have how : (ds[i]).own (H.set l (.row true tS (((T[i]).vals.set j s).map GV.str))) B.length { T[i] with vals := (T[i]).vals.set j s } :=
    ⟨ho.used, ho.leaf, keep _ ho.keys (fun o e' => ho.d12 l o 0 e' e), .inr ⟨l, e, hb, List.getElem?_set_self hlt, by simpa using hl⟩, keep _ ho.kids (fun o e' => ho.d23 l 0 o e e'), ho.d12, ho.d13, ho.d23⟩
  refine hK _ (g.setRow hi hi' hon _ hb _ ⟨hat.used, hat.leaf, ⟨how.keys.cells, hat.keys.len, hat.keys.lim⟩, ⟨how.vals.cells, ?_, hat.vals.lim⟩, ⟨how.kids.cells, hat.kids.len, hat.kids.lim⟩⟩ how)
  simpa using hat.vals.len

/-- a page behind the others -/
theorem CT.add (g : CT B H t a n ds T) {d : PC} {p : Pg} {H2 : Hp} (p2 : H <+: H2) (hd : d.at H2 p) (hdo : d.own H2 H.length p) (hfr : ∀ l, d.on l → H.length ≤ l) (hl : (n + 1) * 80 ≤ Lim) {K : Pl → Nat → Hp → Prop}
    (hK : ∀ a' H', CT B H' t a' (n + 1) (ds ++ [d]) (T ++ [p]) → K a' (n + 1) H') : Am.ap H2 t 5 80 a n [.bool d.u, .bool d.l, .sl d.a1 d.n1 1, .sl d.a2 d.n2 1, .sl d.a3 d.n3 1] 1 K := by
  have ho := g.ot
  have ho2 := ho.mono p2
  have hlen := ho.len
  have hlenT := ho.lenT
  have hp := g.pre
  refine ho2.add (hp.trans p2) hd (fun l hl e => by have := hfr l hl; have := ho.own.lt' e; omega) hl fun a'' H3 o3 x3 f3 => ?_
  have keepA : ∀ i (h : i < ds.length) (l : Nat), (ds[i]).on l → H3[l]? = H[l]? := fun i h l hl => by
    rw [x3.row l (ho2.onlt (List.getElem_mem h) hl) (ho2.off _ (List.getElem_mem h) l hl), pre_at p2 (ho.onlt (List.getElem_mem h) hl)]
  refine hK a'' H3 ⟨x3.pre, o3, fun i h1 h2 => ?_, fun i j h1 h2 hne l hl1 hl2 => ?_⟩
  · rw [List.getElem_append, List.getElem_append]
    by_cases e : i < n
    · rw [dif_pos (by omega), dif_pos (by omega)]
      exact (g.own i (by omega) (by omega)).keep fun l hl => keepA i (by omega) l hl
    · have e' : i = n := by simp [hlen] at h1; omega
      subst e'
      rw [dif_neg (by omega), dif_neg (by omega)]
      simp only [List.getElem_singleton]
      have hdo' : d.own H3 H.length p := hdo.keep fun l hl => x3.row l (hd.lt hl) (fun e => by have := hfr l hl; have := ho.own.lt' e; omega)
      have hb : ∀ {t : TypeId} {x : Pl} {m : Nat} {es : List GV}, Own H3 H.length t x m es → Own H3 B.length t x m es := fun h => h.base hp.length_le
      exact ⟨hdo'.used, hdo'.leaf, hb hdo'.keys, hb hdo'.vals, hb hdo'.kids, hdo'.d12, hdo'.d13, hdo'.d23⟩
  · simp only [List.length_append, List.length_singleton] at h1 h2
    rw [List.getElem_append] at hl1 hl2
    by_cases e1 : i < n
    · rw [dif_pos (by omega)] at hl1
      by_cases e2 : j < n
      · rw [dif_pos (by omega)] at hl2
        exact g.ap i j (by omega) (by omega) hne l hl1 hl2
      · rw [dif_neg (by omega)] at hl2
        simp only [List.getElem_singleton] at hl2
        have := hfr l hl2
        have := ho.onlt (List.getElem_mem (by omega : i < ds.length)) hl1
        omega
    · rw [dif_neg (by omega)] at hl1
      simp only [List.getElem_singleton] at hl1
      by_cases e2 : j < n
      · rw [dif_pos (by omega)] at hl2
        have := hfr l hl1
        have := ho.onlt (List.getElem_mem (by omega : j < ds.length)) hl2
        omega
      · omega
theorem CT.nil (H : Hp) (t : TypeId) : CT H H t none 0 [] [] := ⟨List.prefix_refl _, OT.nil _ _ _, fun i h => (by simp at h), fun i j h => (by simp at h)⟩

/-! the document's copy of a tree -/
end
end Go.Am
namespace Go.Am

section
variable {H : Hp} {Q : Post} {key v : ByteArray} {ks : List ByteArray}
theorem ref9_Slot_spec {a : Pl} {n : Nat} (h : Ss H a n ks) (hQ : Q (.tup [.s (.int .i64 (slotN ks key : Int)), .s (.bool (slotB ks key))]) H) : ref9_Slot [.g (.sl a n 1), .g (.str key)] H Q := by
  have hn := h.len
  have hlim := h.lim
  refine ⟨n + 2, ?_⟩
  rw [ref9_Slot_eq]
  have loop : ∀ (F i : Nat), n - i < F → i ≤ n → ref9_Slot.l3 F a n key (slotN (ks.take i) key : Int) (i : Int) H Q := by
    intro F
    induction F with
    | zero => intro i h; omega
    | succ F ih =>
      intro i hF hi
      rw [ref9_Slot.l3_eq]
      by_cases hik : i < n
      · have hle : slotN (ks.take i) key ≤ i := Nat.le_trans slotN_le (List.length_take_le _ _)
        rw [bite_t (by simp; omega), chk_true, h.rd i rfl (by omega), blt_eq, wrap_succ (by omega), wrap_succ (by omega)]
        have := ih (i + 1) (by omega) (by omega)
        rw [slotN_take i (by omega)] at this
        refine bite_of (fun e => ?_) (fun e => ?_)
        · rw [e] at this; exact this
        · rw [e] at this; exact this
      · rw [bite_f (by simp; omega), List.take_of_length_le (by omega)]
        have hle := slotN_le (ks := ks) (key := key)
        refine bite_of (fun e => ?_) (fun e => ?_)
        · have hlt : slotN ks key < ks.length := by simp at e; omega
          rw [chk_true, h.rd (slotN ks key) rfl hlt]
          have : slotB ks key = strEq ks[slotN ks key] key := by
            unfold slotB; rw [List.getElem?_eq_getElem hlt, strEq_def]; simp
          rw [this] at hQ
          exact hQ
        · have : slotB ks key = false := by
            unfold slotB
            rw [List.getElem?_eq_none (by simp at e; omega)]; simp
          rw [this] at hQ
          exact hQ
  exact loop _ 0 (by omega) (Nat.zero_le _)

end
end Go.Am
namespace Go.Am

/-- a row of bytes of one's own -/
def OwnB (H : Hp) (b : Nat) (a : Pl) (L : List UInt8) : Prop := Own H b tU8 a L.length (u8s L)
theorem OwnB.txt {H : Hp} {b : Nat} {a : Pl} {L : List UInt8} {K : ByteArray → Prop} (h : OwnB H b a L) : (rdN H a L.length fun c => txt c K) = K (mkS L) := by
  rw [rdN_of h.cells, txt_u8s]

def szd (s : ByteArray) : List UInt8 := bof s.size :: bs s
@[simp] theorem szd_length (s : ByteArray) : (szd s).length = s.size + 1 := by simp [szd]
/-- a page's text -/
def entL (p : Pg) (i : Nat) : List UInt8 := szd (p.keys[i]?.getD ⟨#[]⟩) ++ (match p.leaf with | true => szd (p.vals[i]?.getD ⟨#[]⟩) | false => [])
def ents (p : Pg) (k : Nat) : List UInt8 := (List.range k).flatMap (entL p)
def hdr (p : Pg) : List UInt8 := [match p.leaf with | true => 1 | false => 2, bof p.keys.length]
def textL (p : Pg) : List UInt8 := hdr p ++ ents p p.keys.length ++ p.kids.map bof
def text (p : Pg) : ByteArray := mkS (textL p)
section
variable {H : Hp} {Q : Post} {u l : Bool} {a1 : Pl} {n1 : Nat} {a2 : Pl} {n2 : Nat} {a3 : Pl} {n3 : Nat} {p : Pg}

end
end Go.Am
namespace Go.Am

def tkB : List UInt8 → Nat × List UInt8
  | [] => (0, [])
  | b :: r => (b.toNat, r)
def tkT (L : List UInt8) : List UInt8 × List UInt8 := ((tkB L).2.take (tkB L).1, (tkB L).2.drop (tkB L).1)
section
variable {H : Hp} {Q : Post} {l : Nat} {L : List UInt8}
end

/-! the parse -/
structure Pa where
  ks : List ByteArray
  vs : List ByteArray
  R : List UInt8
def takeE (leaf : Bool) : Nat → List UInt8 → List ByteArray → List ByteArray → Pa
  | 0, R, ks, vs => ⟨ks, vs, R⟩
  | n + 1, R, ks, vs => match leaf with
    | true => takeE leaf n (tkT (tkT R).2).2 (ks ++ [mkS (tkT R).1]) (vs ++ [mkS (tkT (tkT R).2).1])
    | false => takeE leaf n (tkT R).2 (ks ++ [mkS (tkT R).1]) vs
def takeK : Nat → List UInt8 → List Int → List Int
  | 0, _, ks => ks
  | n + 1, R, ks => takeK n (tkB R).2 (ks ++ [((tkB R).1 : Int)])
def pLeaf (L : List UInt8) : Bool := (tkB L).1 == 1
def pN (L : List UInt8) : Nat := min (tkB (tkB L).2).1 4
def pE (L : List UInt8) : Pa := takeE (pLeaf L) (pN L) (tkB (tkB L).2).2 [] []
def parse (L : List UInt8) : Pg := ⟨true, pLeaf L, (pE L).ks, (pE L).vs, match pLeaf L with | true => [] | false => takeK (pN L + 1) (pE L).R []⟩

end Go.Am
namespace Go.Am

structure GI (H0 H : Hp) (lt : Nat) (R : List UInt8) (a1 : Pl) (ks : List ByteArray) (a2 : Pl) (vs : List ByteArray) (a3 : Pl) (is : List Int) : Prop where
  pre : H0 <+: H
  row : H[lt]? = some (.row true tTaker [.str (mkS R)])
  o1 : Own H H0.length tS a1 ks.length (ks.map GV.str)
  o2 : Own H H0.length tS a2 vs.length (vs.map GV.str)
  o3 : Own H H0.length tI a3 is.length (is.map (GV.int .i64))
  d1 : a1 ≠ some (lt, 0)
  d2 : a2 ≠ some (lt, 0)
  d3 : a3 ≠ some (lt, 0)
  d12 : Dj a1 a2
  d13 : Dj a1 a3
  d23 : Dj a2 a3
  b : H0.length ≤ lt

section
variable {H0 H : Hp} {lt : Nat} {R : List UInt8} {a1 : Pl} {ks : List ByteArray} {a2 : Pl} {vs : List ByteArray} {a3 : Pl} {is : List Int}
theorem GI.turn (g : GI H0 H lt R a1 ks a2 vs a3 is) (R' : List UInt8) : GI H0 (H.set lt (.row true tTaker [.str (mkS R')])) lt R' a1 ks a2 vs a3 is :=
  ⟨pre_set g.pre g.b _, List.getElem?_set_self (List.getElem?_eq_some_iff.1 g.row).1, g.o1.set g.d1 _, g.o2.set g.d2 _, g.o3.set g.d3 _, g.d1, g.d2, g.d3, g.d12, g.d13, g.d23, g.b⟩
theorem GI.in_ (g : GI H0 H lt R a1 ks a2 vs a3 is) : lt < H.length := (List.getElem?_eq_some_iff.1 g.row).1
theorem GI.key (g : GI H0 H lt R a1 ks a2 vs a3 is) (s : ByteArray) (hk : ks.length ≤ 100) {K : Pl → Nat → Hp → Prop} (hK : ∀ a' H', GI H0 H' lt R a' (ks ++ [s]) a2 vs a3 is → K a' (ks.length + 1) H') : ap H tS 1 16 a1 ks.length [.str s] 1 K := by
  refine ap_own g.pre g.o1 rfl (by unfold Lim; omega) fun a' H' h1 h2 h3 => hK a' H' ?_
  refine ⟨h2.pre, by rw [h2.row lt g.in_ g.d1]; exact g.row, by simpa using h1, g.o2.after g.d12 h2, g.o3.after g.d13 h2, fun e => ?_, g.d2, g.d3, Dj.fresh g.o2 h3, Dj.fresh g.o3 h3, g.d23, g.b⟩
  have := h3 lt 0 e; have := g.in_; omega
theorem GI.val (g : GI H0 H lt R a1 ks a2 vs a3 is) (s : ByteArray) (hk : vs.length ≤ 100) {K : Pl → Nat → Hp → Prop} (hK : ∀ a' H', GI H0 H' lt R a1 ks a' (vs ++ [s]) a3 is → K a' (vs.length + 1) H') : ap H tS 1 16 a2 vs.length [.str s] 1 K := by
  refine ap_own g.pre g.o2 rfl (by unfold Lim; omega) fun a' H' h1 h2 h3 => hK a' H' ?_
  refine ⟨h2.pre, by rw [h2.row lt g.in_ g.d2]; exact g.row, g.o1.after g.d12.symm h2, by simpa using h1, g.o3.after g.d23 h2, g.d1, fun e => ?_, g.d3, (Dj.fresh g.o1 h3).symm, g.d13, Dj.fresh g.o3 h3, g.b⟩
  have := h3 lt 0 e; have := g.in_; omega
theorem GI.kid (g : GI H0 H lt R a1 ks a2 vs a3 is) (s : Int) (hk : is.length ≤ 1000) {K : Pl → Nat → Hp → Prop} (hK : ∀ a' H', GI H0 H' lt R a1 ks a2 vs a' (is ++ [s]) → K a' (is.length + 1) H') : ap H tI 1 8 a3 is.length [.int .i64 s] 1 K := by
  refine ap_own g.pre g.o3 rfl (by unfold Lim; omega) fun a' H' h1 h2 h3 => hK a' H' ?_
  refine ⟨h2.pre, by rw [h2.row lt g.in_ g.d3]; exact g.row, g.o1.after g.d13.symm h2, g.o2.after g.d23.symm h2, by simpa using h1, g.d1, g.d2, fun e => ?_, g.d12, (Dj.fresh g.o1 h3).symm, (Dj.fresh g.o2 h3).symm, g.b⟩
  have := h3 lt 0 e; have := g.in_; omega
theorem GI.pg (g : GI H0 H lt R a1 ks a2 vs a3 is) (u l : Bool) (h1 : ks.length ≤ 1000) (h2 : vs.length ≤ 1000) (h3 : is.length ≤ 1000) : PgOwn H H0.length u l a1 ks.length a2 vs.length a3 is.length ⟨u, l, ks, vs, is⟩ :=
  ⟨rfl, rfl, g.o1, g.o2, g.o3, g.d12, g.d13, g.d23, h1, h2, h3⟩
end

section
variable {H0 : Hp} {Q : Post} {s : ByteArray}

end
end Go.Am
namespace Go.Am

/-! images -/
abbrev IM := List (Int × ByteArray)
def imCells (xs : IM) : List GV := xs.flatMap fun x => [.int .i64 x.1, .str x.2]
theorem imCells_get {ps : IM} {i : Nat} (hi : i < ps.length) : (imCells ps)[i * 2]? = some (.int .i64 ps[i].1) ∧ (imCells ps)[i * 2 + 1]? = some (.str ps[i].2) := by
  unfold imCells
  induction ps generalizing i with
  | nil => simp at hi
  | cons c cs ih =>
    simp only [List.flatMap_cons]
    cases i with
    | zero => simp
    | succ i =>
      have := ih (i := i) (by simpa using hi)
      rw [List.getElem?_append_right (by simp; omega), List.getElem?_append_right (by simp; omega)]
      have e1 : (i + 1) * 2 - [GV.int .i64 c.1, GV.str c.2].length = i * 2 := by simp; omega
      have e2 : (i + 1) * 2 + 1 - [GV.int .i64 c.1, GV.str c.2].length = i * 2 + 1 := by simp; omega
      rw [e1, e2]
      simpa using this
structure Im (H : Hp) (a : Pl) (n : Nat) (ps : IM) : Prop where
  cells : cells? H a (n * 2) = some (imCells ps)
  len : ps.length = n
theorem Im.mono {H H' : Hp} (hp : H <+: H') {a : Pl} {n : Nat} {ps : IM} (h : Im H a n ps) : Im H' a n ps := ⟨cells_mono hp h.cells, h.len⟩
theorem Im.get {H : Hp} {a : Pl} {n : Nat} {ps : IM} (h : Im H a n ps) {i : Nat} (hi : i < ps.length) : ∃ l o, a = some (l, o) ∧ gt H l (o + i * 2) = some (.int .i64 ps[i].1) ∧ gt H l (o + i * 2 + 1) = some (.str ps[i].2) := by
  have hc := h.cells
  have hl := h.len
  cases a with
  | none => simp [cells?] at hc; omega
  | some q =>
    obtain ⟨l, o⟩ := q
    obtain ⟨k1, k2⟩ := imCells_get hi
    refine ⟨l, o, rfl, ?_, ?_⟩
    · rw [cells_get hc (by omega), k1]
    · rw [Nat.add_assoc, cells_get hc (by omega), k2]
/-- a page's text, empty where it may not be -/
def ptext (p : Pg) : ByteArray := match mayB_ p with
  | true => text p
  | false => mkS []
def ptx (T : List Pg) (i : Nat) : ByteArray := ptext (T[i]?.getD noPg)
def imgs (T : List Pg) (k : Nat) : IM := (List.range k).map fun i : Nat => ((i : Int), ptx T i)
@[simp] theorem imgs_length (T : List Pg) (k : Nat) : (imgs T k).length = k := by simp [imgs]
/-- texts laid over texts -/
def lay (L : List ByteArray) (ys : IM) : List ByteArray := ys.foldl (fun L y => L.set y.1.toNat y.2) L
@[simp] theorem lay_length (ys : IM) : ∀ L : List ByteArray, (lay L ys).length = L.length := by
  induction ys with
  | nil => intro L; rfl
  | cons y ys ih => intro L; show (lay (L.set _ _) ys).length = _; rw [ih]; simp
/-! facts -/
theorem nothing_no {p : Pg} (h : nothingB p = true) : p = noPg := by
  obtain ⟨u, l, ks, vs, is⟩ := p
  simp only [nothingB, Bool.and_eq_true, Bool.not_eq_true', List.isEmpty_iff] at h
  obtain ⟨rfl, rfl, rfl, rfl, rfl⟩ := h
  rfl
/-- each page of a sound tree may be, or is none -/
theorem SF.page {T : List Pg} {st : WS} (s : SF T st) {i : Nat} {p : Pg} (hp : T[i]? = some p) : mayB_ p = true ∧ p.used = true ∨ p = noPg := by
  cases hu : p.used with
  | true => exact .inl ⟨(s.used hp hu).2.1, rfl⟩
  | false =>
    refine .inr ?_
    obtain ⟨hi, _⟩ := List.getElem?_eq_some_iff.1 hp
    rcases rest_at s.rest hi hp with q | q
    · exfalso
      have hl := s.len
      have hm : st.met[i]? = some true := by
        rw [List.getElem?_eq_getElem (by rw [s.metlen]; omega)] at q ⊢
        simpa using q
      rcases (walkD_met T _ _ _ _ _ _ _ s.walk).2.2 i hm with h | ⟨r, hr, h1, h2⟩
      · rw [ws0_met i (by omega)] at h; cases h
      · rw [hp] at hr; cases hr
        rw [((mayB_iff _).1 h1).2.used] at hu; cases hu
    · exact nothing_no q
end Go.Am
namespace Go.Am

section
variable {H : Hp} {Q : Post} {x : Pl} {n : Nat} {cs : List PC} {T : List Pg}
/-! pagers -/
end
end Go.Am
namespace Go.Am

theorem PgOwn.pc {H : Hp} {b : Nat} {u l : Bool} {a1 : Pl} {n1 : Nat} {a2 : Pl} {n2 : Nat} {a3 : Pl} {n3 : Nat} {p : Pg} (h : PgOwn H b u l a1 n1 a2 n2 a3 n3 p) : (⟨u, l, a1, n1, a2, n2, a3, n3⟩ : PC).own H b p :=
  ⟨h.used, h.leaf, h.keys, h.vals, h.kids, fun l o o' e1 e2 => h.d12 l (h.keys.zero e1) (h.vals.zero e2), fun l o o' e1 e2 => h.d13 l (h.keys.zero e1) (h.kids.zero e2), fun l o o' e1 e2 => h.d23 l (h.vals.zero e1) (h.kids.zero e2)⟩
theorem Own.ge {H : Hp} {b : Nat} {t : TypeId} {a : Pl} {n : Nat} {cs : List GV} (h : Own H b t a n cs) {l o : Nat} (e : a = some (l, o)) : b ≤ l := by
  rcases h with ⟨q, _⟩ | ⟨m, q, hb, _⟩
  · rw [q] at e; cases e
  · rw [q] at e; cases e; exact hb
theorem PgOwn.fresh {H : Hp} {b : Nat} {u l : Bool} {a1 : Pl} {n1 : Nat} {a2 : Pl} {n2 : Nat} {a3 : Pl} {n3 : Nat} {p : Pg} (h : PgOwn H b u l a1 n1 a2 n2 a3 n3 p) : ∀ m, (⟨u, l, a1, n1, a2, n2, a3, n3⟩ : PC).on m → b ≤ m := by
  rintro m ⟨o, e | e | e⟩
  · exact h.keys.ge e
  · exact h.vals.ge e
  · exact h.kids.ge e

section
variable {H : Hp} {Q : Post} {x : Pl} {n : Nat} {L : List ByteArray} {z0 z1 z2 z3 : Int}
end
end Go.Am
namespace Go.Am

section
variable {T : List Pg}
def txs (T : List Pg) : List ByteArray := (List.range 48).map (ptx T)
@[simp] theorem txs_length : (txs T).length = 48 := by simp [txs]
end

section
variable {H : Hp} {Q : Post}
end
end Go.Am
namespace Go.Am

section
variable {H : Hp} {Q : Post}
end
end Go.Am
namespace Go.Am

/-! writing over -/
abbrev SRow (H : Hp) (l : Nat) (xs : List ByteArray) : Prop := H[l]? = some (.row true tS (xs.map GV.str))
abbrev IRow (H : Hp) (l : Nat) (xs : List Int) : Prop := H[l]? = some (.row true tI (xs.map (GV.int .i64)))
structure Wo (b hi d : Nat) (H H' : Hp) : Prop where
  len : H'.length = H.length
  low : ∀ l, ¬ (b ≤ l ∧ l < hi) → H'[l]? = H[l]?
  tx : ∀ l xs M, SRow H l xs → (∀ x ∈ xs, x.size ≤ M) → ∃ ys, SRow H' l ys ∧ ys.length = xs.length ∧ ∀ x ∈ ys, x.size ≤ M + d
  nu : ∀ l xs, IRow H l xs → ∃ ys, IRow H' l ys ∧ ys.length = xs.length
  pg : ∀ (l : Nat) (cs : List GV), H[l]? = some (Obj.row true tPg cs) → H'[l]? = some (Obj.row true tPg cs)
theorem Wo.refl (b hi d : Nat) (H : Hp) : Wo b hi d H H := ⟨rfl, fun _ _ => rfl, fun l xs M h hm => ⟨xs, h, rfl, fun x hx => by have := hm x hx; omega⟩, fun l xs h => ⟨xs, h, rfl⟩, fun _ _ h => h⟩
theorem Wo.trans {b hi d d' : Nat} {H H1 H2 : Hp} (h : Wo b hi d H H1) (h' : Wo b hi d' H1 H2) : Wo b hi (d + d') H H2 :=
  ⟨h'.len.trans h.len, fun l hl => (h'.low l hl).trans (h.low l hl), fun l xs M hr hm => by
    obtain ⟨ys, a1, a2, a3⟩ := h.tx l xs M hr hm
    obtain ⟨zs, b1, b2, b3⟩ := h'.tx l ys _ a1 a3
    exact ⟨zs, b1, by omega, fun x hx => by have := b3 x hx; omega⟩, fun l xs hr => by
    obtain ⟨ys, a1, a2⟩ := h.nu l xs hr
    obtain ⟨zs, b1, b2⟩ := h'.nu l ys a1
    exact ⟨zs, b1, by omega⟩, fun l cs hr => h'.pg l cs (h.pg l cs hr)⟩
theorem row_t {H : Hp} {l : Nat} {t t' : TypeId} {cs cs' : List GV} (h : H[l]? = some (.row true t cs)) (h' : H[l]? = some (.row true t' cs')) : t = t' ∧ cs = cs' := by
  rw [h] at h'; cases h'; exact ⟨rfl, rfl⟩
theorem str_inj {xs ys : List ByteArray} (h : xs.map GV.str = ys.map GV.str) : xs = ys := by
  have := congrArg (List.map fun | GV.str s => s | _ => mkS []) h
  simpa [List.map_map, Function.comp_def] using this
theorem int_inj {xs ys : List Int} (h : xs.map (GV.int .i64) = ys.map (GV.int .i64)) : xs = ys := by
  have := congrArg (List.map fun | GV.int _ s => s | _ => 0) h
  simpa [List.map_map, Function.comp_def] using this
theorem Wo.str {b hi : Nat} {H : Hp} {l j : Nat} {xs : List ByteArray} {s : ByteArray} (hb : b ≤ l ∧ l < hi) (h : SRow H l xs) (hs : ∀ M, (∀ x ∈ xs, x.size ≤ M) → s.size ≤ M + 1) : Wo b hi 1 H (H.set l (.row true tS ((xs.set j s).map GV.str))) := by
  have hl := (List.getElem?_eq_some_iff.1 h).1
  refine ⟨by simp, fun m hm => by rw [List.getElem?_set_ne]; omega, fun m ys M hr hm => ?_, fun m ys hr => ?_, fun m cs hr => ?_⟩
  · by_cases e : l = m
    · subst e
      obtain ⟨_, q⟩ := row_t h hr
      have q := str_inj q
      subst q
      refine ⟨_, List.getElem?_set_self hl, by simp, fun x hx => ?_⟩
      rcases List.mem_or_eq_of_mem_set hx with w | w
      · have := hm x w; omega
      · rw [w]; exact hs M hm
    · exact ⟨ys, by unfold SRow; rw [List.getElem?_set_ne e]; exact hr, rfl, fun x hx => by have := hm x hx; omega⟩
  · by_cases e : l = m
    · subst e
      have := (row_t h hr).1
      exact absurd this (by decide)
    · exact ⟨ys, by unfold IRow; rw [List.getElem?_set_ne e]; exact hr, rfl⟩
  · by_cases e : l = m
    · subst e
      have := (row_t h hr).1
      exact absurd this (by decide)
    · rw [List.getElem?_set_ne e]; exact hr
theorem Wo.int {b hi : Nat} {H : Hp} {l j : Nat} {xs : List Int} {s : Int} (hb : b ≤ l ∧ l < hi) (h : IRow H l xs) : Wo b hi 0 H (H.set l (.row true tI ((xs.set j s).map (GV.int .i64)))) := by
  have hl := (List.getElem?_eq_some_iff.1 h).1
  refine ⟨by simp, fun m hm => by rw [List.getElem?_set_ne]; omega, fun m ys M hr hm => ?_, fun m ys hr => ?_, fun m cs hr => ?_⟩
  · by_cases e : l = m
    · subst e
      have := (row_t h hr).1
      exact absurd this (by decide)
    · exact ⟨ys, by unfold SRow; rw [List.getElem?_set_ne e]; exact hr, rfl, hm⟩
  · by_cases e : l = m
    · subst e
      obtain ⟨_, q⟩ := row_t h hr
      have q := int_inj q
      subst q
      exact ⟨_, List.getElem?_set_self hl, by simp⟩
    · exact ⟨ys, by unfold IRow; rw [List.getElem?_set_ne e]; exact hr, rfl⟩
  · by_cases e : l = m
    · subst e
      have := (row_t h hr).1
      exact absurd this (by decide)
    · rw [List.getElem?_set_ne e]; exact hr

/-- a slice that may be written over -/
def TxR (H : Hp) (b M : Nat) (a : Pl) (n : Nat) : Prop := n = 0 ∨ ∃ l o xs, a = some (l, o) ∧ b ≤ l ∧ SRow H l xs ∧ o + n ≤ xs.length ∧ ∀ x ∈ xs, x.size ≤ M
def NuR (H : Hp) (b : Nat) (a : Pl) (n : Nat) : Prop := n = 0 ∨ ∃ l o xs, a = some (l, o) ∧ b ≤ l ∧ IRow H l xs ∧ o + n ≤ xs.length
structure WoP (H : Hp) (b M : Nat) (c : PC) : Prop where
  t1 : TxR H b M c.a1 c.n1
  t2 : TxR H b M c.a2 c.n2
  t3 : NuR H b c.a3 c.n3
  s1 : c.n1 ≤ 1000
  s2 : c.n2 ≤ 1000
  s3 : c.n3 ≤ 1000
/-- a slice that may be written over -/
def TxS (H : Hp) (b hi M : Nat) (a : Pl) (n : Nat) : Prop := n = 0 ∨ ∃ l o xs, a = some (l, o) ∧ (b ≤ l ∧ l < hi) ∧ SRow H l xs ∧ o + n ≤ xs.length ∧ ∀ x ∈ xs, x.size ≤ M
def NuS (H : Hp) (b hi : Nat) (a : Pl) (n : Nat) : Prop := n = 0 ∨ ∃ l o xs, a = some (l, o) ∧ (b ≤ l ∧ l < hi) ∧ IRow H l xs ∧ o + n ≤ xs.length
theorem TxS.on {H H' : Hp} {b hi d M : Nat} {a : Pl} {n : Nat} (h : TxS H b hi M a n) (w : Wo b hi d H H') : TxS H' b hi (M + d) a n := by
  rcases h with h | ⟨l, o, xs, e, hb, hr, hl, hm⟩
  · exact .inl h
  · obtain ⟨ys, q1, q2, q3⟩ := w.tx l xs M hr hm
    exact .inr ⟨l, o, ys, e, hb, q1, by omega, q3⟩
theorem NuS.on {H H' : Hp} {b hi d : Nat} {a : Pl} {n : Nat} (h : NuS H b hi a n) (w : Wo b hi d H H') : NuS H' b hi a n := by
  rcases h with h | ⟨l, o, xs, e, hb, hr, hl⟩
  · exact .inl h
  · obtain ⟨ys, q1, q2⟩ := w.nu l xs hr
    exact .inr ⟨l, o, ys, e, hb, q1, by omega⟩
section
variable {H : Hp} {Q : Post} {b hi M : Nat} {a : Pl} {n : Nat}
/-- a page that may be written over -/
structure WoS (H : Hp) (b hi M : Nat) (c : PC) : Prop where
  t1 : TxS H b hi M c.a1 c.n1
  t2 : TxS H b hi M c.a2 c.n2
  t3 : NuS H b hi c.a3 c.n3
  s1 : c.n1 ≤ 1000
  s2 : c.n2 ≤ 1000
  s3 : c.n3 ≤ 1000
theorem WoS.on {c : PC} {H' : Hp} {d : Nat} (h : WoS H b hi M c) (w : Wo b hi d H H') : WoS H' b hi (M + d) c := ⟨h.t1.on w, h.t2.on w, h.t3.on w, h.s1, h.s2, h.s3⟩
end
end Go.Am
namespace Go.Am

section
variable {H : Hp} {Q : Post} {a : Pl} {n : Nat}
theorem clone_str {xs : List ByteArray} (h : Ss H a n xs) (hQ : ∀ a' H', H <+: H' → Own H' H.length tS a' n (xs.map GV.str) → (∀ l o, a' = some (l, o) → l < H'.length) → Q (.g (.sl a' n 1)) H') : slices_Clone__string_string [.g (.sl a n 1)] H Q := by
  have hn := h.len
  have hl := h.lim
  refine ⟨1, ?_⟩
  rw [slices_Clone__string_string_eq]
  refine bite_of (fun e => ?_) (fun e => ?_)
  · cases a with
    | some p => cases e
    | none =>
      have hc := h.cells
      simp [cells?] at hc
      obtain ⟨h1, h2⟩ := hc
      subst h2; subst h1
      exact hQ none H (List.prefix_refl _) (.inl ⟨rfl, rfl, rfl⟩) (fun _ _ e => (by cases e))
  · rw [chk_true, Nat.mul_one, rdN_of h.cells]
    refine ap0_of (by unfold Lim; omega) (by simp [hn]) ?_
    exact hQ _ _ (pre_pu _ _) (.inr ⟨_, rfl, Nat.le_refl _, by simp, by simp [hn]⟩) (fun _ _ e => (by cases e; simp))
theorem clone_int {xs : List Int} (h : Is H a n xs) (hQ : ∀ a' H', H <+: H' → Own H' H.length tI a' n (xs.map (GV.int .i64)) → (∀ l o, a' = some (l, o) → l < H'.length) → Q (.g (.sl a' n 1)) H') : slices_Clone__int_int [.g (.sl a n 1)] H Q := by
  have hn := h.len
  have hl := h.lim
  refine ⟨1, ?_⟩
  rw [slices_Clone__int_int_eq]
  refine bite_of (fun e => ?_) (fun e => ?_)
  · cases a with
    | some p => cases e
    | none =>
      have hc := h.cells
      simp [cells?] at hc
      obtain ⟨h1, h2⟩ := hc
      subst h2; subst h1
      exact hQ none H (List.prefix_refl _) (.inl ⟨rfl, rfl, rfl⟩) (fun _ _ e => (by cases e))
  · rw [chk_true, Nat.mul_one, rdN_of h.cells]
    refine ap0_of (by unfold Lim; omega) (by simp [hn]) ?_
    exact hQ _ _ (pre_pu _ _) (.inr ⟨_, rfl, Nat.le_refl _, by simp, by simp [hn]⟩) (fun _ _ e => (by cases e; simp))
theorem clip_str {b : Nat} {cs : List GV} (h : Own H b tS a n cs) (hQ : Q (.g (.sl a n 1)) H) : slices_Clip__string_string [.g (.sl a n 1)] H Q := by
  refine ⟨1, ?_⟩
  rw [slices_Clip__string_string_eq, chk_true]
  refine chk_of (by simp) (chk_of (by simp) ?_)
  rcases h with ⟨rfl, rfl, rfl⟩ | ⟨l, rfl, h1, h2, h3⟩
  · exact chk_of (by simp [ends]) hQ
  · refine chk_of ?_ ?_
    · simp [ends, h2, h3]
    · simpa using hQ
theorem clip_int {b : Nat} {cs : List GV} (h : Own H b tI a n cs) (hQ : Q (.g (.sl a n 1)) H) : slices_Clip__int_int [.g (.sl a n 1)] H Q := by
  refine ⟨1, ?_⟩
  rw [slices_Clip__int_int_eq, chk_true]
  refine chk_of (by simp) (chk_of (by simp) ?_)
  rcases h with ⟨rfl, rfl, rfl⟩ | ⟨l, rfl, h1, h2, h3⟩
  · exact chk_of (by simp [ends]) hQ
  · refine chk_of ?_ ?_
    · simp [ends, h2, h3]
    · simpa using hQ
end
def joinP (a : Pg) (k : ByteArray) (b : Pg) : Pg := ⟨a.used, a.leaf, (match a.leaf with | true => a.keys | false => a.keys ++ [k]) ++ b.keys, a.vals ++ b.vals, a.kids ++ b.kids⟩
def CanJoin (a : Pg) (k : ByteArray) (b : Pg) : Prop := MayP a ∧ MayP b ∧ a.leaf = b.leaf ∧ MayP (joinP a k b)

section
variable {H : Hp} {Q : Post} {u l : Bool} {a1 : Pl} {n1 : Nat} {a2 : Pl} {n2 : Nat} {a3 : Pl} {n3 : Nat} {p : Pg} {u' l' : Bool} {b1 : Pl} {m1 : Nat} {b2 : Pl} {m2 : Nat} {b3 : Pl} {m3 : Nat} {q : Pg} {key : ByteArray}
theorem page_Copy_spec (h : PgAt H u l a1 n1 a2 n2 a3 n3 p) (hs : n1 ≤ 1000 ∧ n2 ≤ 1000 ∧ n3 ≤ 1000)
    (hQ : ∀ a1 a2 a3 H', H <+: H' → PgOwn H' H.length u l a1 n1 a2 n2 a3 n3 p → Q (.agg [.bool u, .bool l, .sl a1 n1 1, .sl a2 n2 1, .sl a3 n3 1]) H') :
    page_Copy [.agg [.bool u, .bool l, .sl a1 n1 1, .sl a2 n2 1, .sl a3 n3 1]] H Q := by
  refine ⟨1, ?_⟩
  rw [page_Copy_eq]
  refine clone_str h.keys fun b1 H1 p1 o1 _ => ?_
  simp only [rG_g, dL_sl]
  refine clone_str (h.vals.mono p1) fun b2 H2 p2 o2 _ => ?_
  simp only [rG_g, dL_sl]
  refine clone_int (h.kids.mono (p1.trans p2)) fun b3 H3 p3 o3 _ => ?_
  simp only [rG_g, dL_sl]
  refine hQ _ _ _ _ (p1.trans (p2.trans p3)) ⟨h.used, h.leaf, o1.mono (p2.trans p3), (o2.base p1.length_le).mono p3, o3.base (p1.trans p2).length_le, fun m e1 e2 => ?_, fun m e1 e2 => ?_, fun m e1 e2 => ?_, hs⟩
  · have := o1.lt' e1; have := o2.ge e2; omega
  · have := o1.lt' e1; have := o3.ge e2; have := p2.length_le; omega
  · have := o2.lt' e1; have := o3.ge e2; omega
set_option maxRecDepth 4000 in
theorem node_Both_spec (h : PgAt H u l a1 n1 a2 n2 a3 n3 p) (h' : PgAt H u' l' b1 m1 b2 m2 b3 m3 q) (hs : n1 ≤ 100 ∧ n2 ≤ 100 ∧ n3 ≤ 100) (hs' : m1 ≤ 100 ∧ m2 ≤ 100 ∧ m3 ≤ 100)
    (hQ : ∀ u l a1 n1 a2 n2 a3 n3 H', H <+: H' → PgOwn H' H.length u l a1 n1 a2 n2 a3 n3 (joinP p key q) → Q (.agg [.bool u, .bool l, .sl a1 n1 1, .sl a2 n2 1, .sl a3 n3 1]) H') :
    node_Both [.agg [.bool u, .bool l, .sl a1 n1 1, .sl a2 n2 1, .sl a3 n3 1], .g (.str key), .agg [.bool u', .bool l', .sl b1 m1 1, .sl b2 m2 1, .sl b3 m3 1]] H Q := by
  refine ⟨2, ?_⟩
  rw [node_Both_eq]
  refine page_Copy_spec h (by omega) fun x1 x2 x3 H1 p1 o1 => ?_
  simp only [rA_agg, uC_cons, dB_bool, dL_sl, uN_nil]
  have key4 : ∀ (x1 : Pl) (k1 : Nat) (H1 : Hp) (r : Pg), k1 ≤ 101 → H <+: H1 → PgOwn H1 H.length u l x1 k1 x2 n2 x3 n3 r → (⟨r.used, r.leaf, r.keys ++ q.keys, r.vals ++ q.vals, r.kids ++ q.kids⟩ : Pg) = joinP p key q →
      node_Both.l4 1 u' l' b1 m1 b2 m2 b3 m3 false false none 0 none 0 none 0 u l x1 k1 x2 n2 x3 n3 H1 Q := by
    intro x1 k1 H1 r hk1 p1 o1 hks
    rw [node_Both.l4_eq, chk_true, Nat.mul_one, rdN_of (h'.mono p1).keys.cells, chk_true]
    refine o1.addKeys p1 q.keys rfl h'.keys.len (by omega) fun y1 H2 p2 o2 => ?_
    rw [chk_true, Nat.mul_one, rdN_of (h'.mono p2).vals.cells, chk_true]
    refine o2.addVals p2 q.vals rfl h'.vals.len (by omega) fun y2 H3 p3 o3 => ?_
    rw [chk_true, Nat.mul_one, rdN_of (h'.mono p3).kids.cells, chk_true]
    refine o3.addKids p3 q.kids rfl h'.kids.len (by omega) fun y3 H4 p4 o4 => ?_
    refine hQ _ _ _ _ _ _ _ _ _ p4 ?_
    rw [← hks]
    exact o4
  have hl := h.leaf
  cases l with
  | true =>
    rw [bite_f (by decide)]
    have e4 : (⟨p.used, p.leaf, p.keys ++ q.keys, p.vals ++ q.vals, p.kids ++ q.kids⟩ : Pg) = joinP p key q := by unfold joinP; rw [hl]
    have hk : n1 ≤ 101 := by omega
    have t0 := key4 x1
    have t00 := t0 n1
    have t01 := t00 H1
    have t1 := t01 p
    have t2 := t1 hk
    have := t2 p1
    have := this o1
    have := this e4
    exact this
  | false =>
    rw [bite_t (by decide), chk_true]
    refine o1.addKeys p1 [key] (m := 1) rfl rfl (by omega) fun y1 H2 p2 o2 => ?_
    exact key4 y1 (n1 + 1) H2 _ (by omega) p2 o2 (by unfold joinP; rw [hl])

theorem may_small (h : PgAt H u l a1 n1 a2 n2 a3 n3 p) (hm : MayP p) : n1 ≤ 100 ∧ n2 ≤ 100 ∧ n3 ≤ 100 := by
  have e1 := h.keys.len
  have e2 := h.vals.len
  have e3 := h.kids.len
  obtain ⟨h4, hf⟩ := hm
  cases hl : p.leaf with
  | true =>
    obtain ⟨f1, f2, f3⟩ := hf.leaf hl
    rw [f2, List.length_nil] at e3
    omega
  | false =>
    obtain ⟨f1, f2, f3, f4, f5⟩ := hf.inner hl
    rw [f2, List.length_nil] at e2
    omega

theorem PgOwn.base {b b' : Nat} (h : PgOwn H b u l a1 n1 a2 n2 a3 n3 p) (hb : b' ≤ b) : PgOwn H b' u l a1 n1 a2 n2 a3 n3 p :=
  ⟨h.used, h.leaf, h.keys.base hb, h.vals.base hb, h.kids.base hb, h.d12, h.d13, h.d23, h.small⟩

theorem node_Join_spec (h : PgAt H u l a1 n1 a2 n2 a3 n3 p) (h' : PgAt H u' l' b1 m1 b2 m2 b3 m3 q) (hQ1 : ¬ CanJoin p key q → ∀ H', H <+: H' → Q (.tup [.a [.bool false, .bool false, .sl none 0 1, .sl none 0 1, .sl none 0 1], .s (.int .i64 900)]) H')
    (hQ2 : CanJoin p key q → ∀ u l a1 n1 a2 n2 a3 n3 H', H <+: H' → PgOwn H' H.length u l a1 n1 a2 n2 a3 n3 (joinP p key q) → Q (.tup [.a [.bool u, .bool l, .sl a1 n1 1, .sl a2 n2 1, .sl a3 n3 1], .s (.int .i64 0)]) H') :
    node_Join [.agg [.bool u, .bool l, .sl a1 n1 1, .sl a2 n2 1, .sl a3 n3 1], .g (.str key), .agg [.bool u', .bool l', .sl b1 m1 1, .sl b2 m2 1, .sl b3 m3 1]] H Q := by
  refine ⟨1, ?_⟩
  rw [node_Join_eq]
  refine page_May_spec h fun b H1 p1 hb => ?_
  simp only [rG_g, dB_bool]
  refine bite_of (fun e => hQ1 (fun c => by have := hb.2 c.1; subst this; cases e) _ p1) (fun e => ?_)
  have hm1 : MayP p := hb.1 (by cases b <;> simp_all)
  refine page_May_spec (h'.mono p1) fun b' H2 p2 hb' => ?_
  simp only [rG_g, dB_bool]
  refine bite_of (fun e => hQ1 (fun c => by have := hb'.2 c.2.1; subst this; cases e) _ (p1.trans p2)) (fun e' => ?_)
  have hm2 : MayP q := hb'.1 (by cases b' <;> simp_all)
  refine bite_of (fun e => hQ1 (fun c => by have := c.2.2.1; rw [h.leaf, h'.leaf] at this; subst this; simp at e) _ (p1.trans p2)) (fun e2 => ?_)
  have hll : p.leaf = q.leaf := by rw [h.leaf, h'.leaf]; simpa using e2
  have p12 := p1.trans p2
  refine node_Both_spec (h.mono p12) (h'.mono p12) (may_small h hm1) (may_small h' hm2) fun ul ll c1 k1 c2 k2 c3 k3 H3 p3 o3 => ?_
  simp only [rA_agg, uC_cons, dB_bool, dL_sl, uN_nil]
  refine page_May_spec o3.at fun b3 H4 p4 hb3 => ?_
  simp only [rG_g, dB_bool]
  refine bite_of (fun e => hQ1 (fun c => by have := hb3.2 c.2.2.2; subst this; cases e) _ (p12.trans (p3.trans p4))) (fun e3 => ?_)
  have hm3 : MayP (joinP p key q) := hb3.1 (by cases b3 <;> simp_all)
  have o4 := o3.mono p4
  refine clip_str o4.keys ?_
  simp only [rG_g, dL_sl]
  refine clip_str o4.vals ?_
  simp only [rG_g, dL_sl]
  refine clip_int o4.kids ?_
  simp only [rG_g, dL_sl]
  exact hQ2 ⟨hm1, hm2, hll, hm3⟩ _ _ _ _ _ _ _ _ _ (p12.trans (p3.trans p4)) (o4.base p12.length_le)
end
end Go.Am
namespace Go.Am

theorem TxR.of_own {H : Hp} {b : Nat} {a : Pl} {n : Nat} {xs : List ByteArray} {M : Nat} (h : Own H b tS a n (xs.map GV.str)) (hs : ∀ s ∈ xs, s.size ≤ M) : TxR H b M a n := by
  rcases h with ⟨_, q, _⟩ | ⟨l, e, hb, hr, hl⟩
  · exact .inl q
  · exact .inr ⟨l, 0, _, e, hb, hr, by simp at hl; omega, hs⟩
theorem NuR.of_own {H : Hp} {b : Nat} {a : Pl} {n : Nat} {xs : List Int} (h : Own H b tI a n (xs.map (GV.int .i64))) : NuR H b a n := by
  rcases h with ⟨_, q, _⟩ | ⟨l, e, hb, hr, hl⟩
  · exact .inl q
  · exact .inr ⟨l, 0, _, e, hb, hr, by simp at hl; omega⟩
theorem TxR.part {H : Hp} {b : Nat} {a : Pl} {n M : Nat} (h : TxR H b M a n) (k m : Nat) (hm : k + m ≤ n) : TxR H b M (shf a k) m := by
  rcases h with q | ⟨l, o, xs, e, hb, hr, hl, hs⟩
  · exact .inl (by omega)
  · exact .inr ⟨l, o + k, xs, by rw [e]; rfl, hb, hr, by omega, hs⟩
theorem NuR.part {H : Hp} {b : Nat} {a : Pl} {n : Nat} (h : NuR H b a n) (k m : Nat) (hm : k + m ≤ n) : NuR H b (shf a k) m := by
  rcases h with q | ⟨l, o, xs, e, hb, hr, hl⟩
  · exact .inl (by omega)
  · exact .inr ⟨l, o + k, xs, by rw [e]; rfl, hb, hr, by omega⟩
theorem TxR.base {H : Hp} {b b' : Nat} {a : Pl} {n M : Nat} (h : TxR H b M a n) (hb' : b' ≤ b) : TxR H b' M a n := by
  rcases h with q | ⟨l, o, xs, e, hb, hr, hl, hs⟩
  · exact .inl q
  · exact .inr ⟨l, o, xs, e, by omega, hr, hl, hs⟩
theorem NuR.base {H : Hp} {b b' : Nat} {a : Pl} {n : Nat} (h : NuR H b a n) (hb' : b' ≤ b) : NuR H b' a n := by
  rcases h with q | ⟨l, o, xs, e, hb, hr, hl⟩
  · exact .inl q
  · exact .inr ⟨l, o, xs, e, by omega, hr, hl⟩
theorem WoP.base {H : Hp} {b b' M : Nat} {c : PC} (h : WoP H b M c) (hb : b' ≤ b) : WoP H b' M c := ⟨h.t1.base hb, h.t2.base hb, h.t3.base hb, h.s1, h.s2, h.s3⟩
/-- small pages -/
def small (p : Pg) : Prop := (∀ s ∈ p.keys, s.size ≤ 1000) ∧ (∀ s ∈ p.vals, s.size ≤ 1000) ∧ p.keys.length ≤ 1000 ∧ p.vals.length ≤ 1000 ∧ p.kids.length ≤ 1000
theorem PC.own.wo {H : Hp} {b : Nat} {c : PC} {p : Pg} (h : c.own H b p) (hat : c.at H p) (hs : small p) : WoP H b 1000 c := by
  obtain ⟨s1, s2, s3, s4, s5⟩ := hs
  have e1 := hat.keys.len
  have e2 := hat.vals.len
  have e3 := hat.kids.len
  exact ⟨.of_own h.keys s1, .of_own h.vals s2, .of_own h.kids, by omega, by omega, by omega⟩

/-! cut -/
def cutL (p : Pg) (k : Nat) : Pg := match p.leaf with
  | true => ⟨p.used, true, p.keys.take k, p.vals.take k, p.kids⟩
  | false => ⟨p.used, false, p.keys.take k, p.vals, p.kids.take (k + 1)⟩
def cutR (p : Pg) (k : Nat) : Pg := match p.leaf with
  | true => ⟨p.used, true, p.keys.drop k, p.vals.drop k, p.kids⟩
  | false => ⟨p.used, false, p.keys.drop (k + 1), p.vals, p.kids.drop (k + 1)⟩
theorem on_shf {a : Pl} {k l o : Nat} (h : shf a k = some (l, o)) : ∃ o', a = some (l, o') := by
  cases a with
  | none => cases h
  | some q => obtain ⟨m, o'⟩ := q; simp [shf] at h; exact ⟨o', by rw [h.1]⟩
theorem Ss.nth {H : Hp} {a : Pl} {n : Nat} {xs : List ByteArray} (h : Ss H a n xs) {k : Nat} (hk : k < xs.length) : ∃ l o, a = some (l, o) ∧ gt H l (o + k) = some (.str xs[k]) := by
  have hc := h.cells
  have hl := h.len
  cases a with
  | none => simp [cells?] at hc; omega
  | some q =>
    obtain ⟨l, o⟩ := q
    exact ⟨l, o, rfl, by rw [cells_get hc (by omega)]; simp [hk]⟩
theorem Is.part' {H : Hp} {a : Pl} {n : Nat} {xs : List Int} (h : Is H a n xs) (k m : Nat) (hm : k + m ≤ n) : Is H (shf a k) m ((xs.drop k).take m) := by
  have hl := h.len
  have hlim := h.lim
  exact ⟨by have := cells_part h.cells k m hm; simpa [List.map_drop, List.map_take] using this, by simp; omega, by omega⟩

section
variable {H : Hp} {Q : Post} {u l : Bool} {a1 : Pl} {n1 : Nat} {a2 : Pl} {n2 : Nat} {a3 : Pl} {n3 : Nat} {p : Pg}
set_option maxRecDepth 10000 in
theorem node_Cut_at (h : PgAt H u l a1 n1 a2 n2 a3 n3 p) (hs : small p) {k : Nat} (hk : k < p.keys.length) (hL : p.leaf = true → p.vals.length = p.keys.length) (hI : p.leaf = false → p.kids.length = p.keys.length + 1)
    (hQ : ∀ (c d : PC) H', H <+: H' → c.at H' (cutL p k) → d.at H' (cutR p k) → WoP H' H.length 1000 c → WoP H' H.length 1000 d → (∀ m, c.on m → H.length ≤ m ∧ ¬ d.on m) → (∀ m, d.on m → H.length ≤ m) →
      Q (.tup [.a [.bool c.u, .bool c.l, .sl c.a1 c.n1 1, .sl c.a2 c.n2 1, .sl c.a3 c.n3 1], .s (.str p.keys[k]), .a [.bool d.u, .bool d.l, .sl d.a1 d.n1 1, .sl d.a2 d.n2 1, .sl d.a3 d.n3 1]]) H') :
    node_Cut [.agg [.bool u, .bool l, .sl a1 n1 1, .sl a2 n2 1, .sl a3 n3 1], .g (.int .i64 (k : Int))] H Q := by
  have e1 := h.keys.len
  have e2 := h.vals.len
  have e3 := h.kids.len
  have hu := h.used
  have hl := h.leaf
  have hs' := hs
  obtain ⟨s1, s2, s3, s4, s5⟩ := hs'
  have etN : tN (k : Int) = k := rfl
  refine ⟨1, ?_⟩
  rw [node_Cut_eq]
  obtain ⟨m, o, rfl, hg⟩ := h.keys.nth hk
  rw [chk_true]
  refine chk_of (by simp; omega) ?_
  rw [pS_some, etN, Nat.mul_one, rd_of hg, dS_str]
  refine page_Copy_spec h (by omega) fun x1 x2 x3 H1 p1 o1 => ?_
  simp only [rA_agg, uC_cons, dB_bool, dL_sl, uN_nil]
  rw [rd_of (gt_pre p1 hg), dS_str]
  refine ⟨rfl, ?_⟩
  refine page_Copy_spec (h.mono p1) (by omega) fun y1 y2 y3 H2 p2 o2 => ?_
  simp only [rA_agg, uC_cons, dB_bool, dL_sl, uN_nil]
  rw [rd_of (gt_pre (p1.trans p2) hg), dS_str]
  refine ⟨rfl, ?_⟩
  rw [chk_true]
  refine chk_of (by simp) (chk_of (by simp; omega) ?_)
  have A := (o1.mono p2).at
  have B := o2.at
  have wA : WoP H2 H.length 1000 ⟨u, l, x1, n1, x2, n2, x3, n3⟩ := (o1.mono p2).pc.wo A hs
  have wB : WoP H2 H.length 1000 ⟨u, l, y1, n1, y2, n2, y3, n3⟩ := (o2.pc.wo B hs).base p1.length_le
  have onA : ∀ m, (⟨u, l, x1, n1, x2, n2, x3, n3⟩ : PC).on m → H.length ≤ m ∧ m < H1.length := fun m hm => ⟨o1.fresh m hm, PC.at.lt (c := ⟨u, l, x1, n1, x2, n2, x3, n3⟩) o1.at hm⟩
  have onB : ∀ m, (⟨u, l, y1, n1, y2, n2, y3, n3⟩ : PC).on m → H1.length ≤ m := o2.fresh
  have hp1 := p1.length_le
  cases l with
  | true =>
    have hv := hL hl
    rw [bite_true, chk_true]
    refine chk_of (by simp) (chk_of (by simp; omega) ?_)
    rw [chk_true]
    refine chk_of (by simp) (chk_of (by simp; omega) ?_)
    rw [chk_true]
    refine chk_of (by simp) (chk_of (by simp; omega) ?_)
    have eA : cutL p k = ⟨p.used, true, p.keys.take k, p.vals.take k, p.kids⟩ := by unfold cutL; rw [hl]
    have eB : cutR p k = ⟨p.used, true, p.keys.drop k, p.vals.drop k, p.kids⟩ := by unfold cutR; rw [hl]
    rw [Nat.sub_zero]
    refine hQ ⟨u, true, shf x1 0, k, shf x2 0, k, x3, n3⟩ ⟨u, true, shf y1 k, n1 - k, shf y2 k, n2 - k, y3, n3⟩ H2 (p1.trans p2) ?_ ?_ ?_ ?_ ?_ ?_
    · rw [eA]
      have q1 := A.keys.part 0 k (by omega)
      have q2 := A.vals.part 0 k (by omega)
      rw [List.drop_zero] at q1 q2
      exact ⟨hu, rfl, q1, q2, A.kids⟩
    · rw [eB]
      have q1 := B.keys.part k (n1 - k) (by omega)
      have q2 := B.vals.part k (n2 - k) (by omega)
      rw [List.take_of_length_le (by simp; omega)] at q1 q2
      exact ⟨hu, rfl, q1, q2, B.kids⟩
    · exact ⟨wA.t1.part 0 k (by show 0 + k ≤ n1; omega), wA.t2.part 0 k (by show 0 + k ≤ n2; omega), wA.t3, by show k ≤ 1000; omega, by show k ≤ 1000; omega, wA.s3⟩
    · exact ⟨wB.t1.part k _ (by show k + (n1 - k) ≤ n1; omega), wB.t2.part k _ (by show k + (n2 - k) ≤ n2; omega), wB.t3, by show n1 - k ≤ 1000; omega, by show n2 - k ≤ 1000; omega, wB.s3⟩
    · intro m' hm'
      obtain ⟨o', q⟩ := hm'
      have hA : (⟨u, true, x1, n1, x2, n2, x3, n3⟩ : PC).on m' := by
        rcases q with q | q | q
        · obtain ⟨o'', q⟩ := on_shf q; exact ⟨o'', .inl q⟩
        · obtain ⟨o'', q⟩ := on_shf q; exact ⟨o'', .inr (.inl q)⟩
        · exact ⟨o', .inr (.inr q)⟩
      have := onA m' hA
      refine ⟨this.1, fun hd => ?_⟩
      obtain ⟨o', q⟩ := hd
      have hB : (⟨u, true, y1, n1, y2, n2, y3, n3⟩ : PC).on m' := by
        rcases q with q | q | q
        · obtain ⟨o'', q⟩ := on_shf q; exact ⟨o'', .inl q⟩
        · obtain ⟨o'', q⟩ := on_shf q; exact ⟨o'', .inr (.inl q)⟩
        · exact ⟨o', .inr (.inr q)⟩
      have := onB m' hB
      omega
    · intro m' hm'
      obtain ⟨o', q⟩ := hm'
      have hB : (⟨u, true, y1, n1, y2, n2, y3, n3⟩ : PC).on m' := by
        rcases q with q | q | q
        · obtain ⟨o'', q⟩ := on_shf q; exact ⟨o'', .inl q⟩
        · obtain ⟨o'', q⟩ := on_shf q; exact ⟨o'', .inr (.inl q)⟩
        · exact ⟨o', .inr (.inr q)⟩
      have := onB m' hB
      omega
  | false =>
    have hv := hI hl
    rw [bite_false, wrap_succ (by omega)]
    have etN1 : tN ((k + 1 : Nat) : Int) = k + 1 := rfl
    rw [chk_true]
    refine chk_of (by simp; omega) (chk_of (by simp; omega) ?_)
    rw [chk_true]
    refine chk_of (by simp; omega) (chk_of (by simp; omega) ?_)
    rw [chk_true]
    refine chk_of (by simp; omega) (chk_of (by simp; omega) ?_)
    have eA : cutL p k = ⟨p.used, false, p.keys.take k, p.vals, p.kids.take (k + 1)⟩ := by unfold cutL; rw [hl]
    have eB : cutR p k = ⟨p.used, false, p.keys.drop (k + 1), p.vals, p.kids.drop (k + 1)⟩ := by unfold cutR; rw [hl]
    rw [etN1, Nat.mul_one, Nat.sub_zero, Nat.sub_zero]
    refine hQ ⟨u, false, shf x1 0, k, x2, n2, shf x3 0, k + 1⟩ ⟨u, false, shf y1 (k + 1), n1 - (k + 1), y2, n2, shf y3 (k + 1), n3 - (k + 1)⟩ H2 (p1.trans p2) ?_ ?_ ?_ ?_ ?_ ?_
    · rw [eA]
      have q1 := A.keys.part 0 k (by omega)
      have q2 := A.kids.part' 0 (k + 1) (by omega)
      rw [List.drop_zero] at q1 q2
      exact ⟨hu, rfl, q1, A.vals, q2⟩
    · rw [eB]
      have q1 := B.keys.part (k + 1) (n1 - (k + 1)) (by omega)
      have q2 := B.kids.part' (k + 1) (n3 - (k + 1)) (by omega)
      rw [List.take_of_length_le (by simp; omega)] at q1 q2
      exact ⟨hu, rfl, q1, B.vals, q2⟩
    · exact ⟨wA.t1.part 0 k (by show 0 + k ≤ n1; omega), wA.t2, wA.t3.part 0 (k + 1) (by show 0 + (k + 1) ≤ n3; omega), by show k ≤ 1000; omega, wA.s2, by show k + 1 ≤ 1000; omega⟩
    · exact ⟨wB.t1.part (k + 1) _ (by show k + 1 + (n1 - (k + 1)) ≤ n1; omega), wB.t2, wB.t3.part (k + 1) _ (by show k + 1 + (n3 - (k + 1)) ≤ n3; omega), by show n1 - (k + 1) ≤ 1000; omega, wB.s2, by show n3 - (k + 1) ≤ 1000; omega⟩
    · intro m' hm'
      obtain ⟨o', q⟩ := hm'
      have hA : (⟨u, false, x1, n1, x2, n2, x3, n3⟩ : PC).on m' := by
        rcases q with q | q | q
        · obtain ⟨o'', q⟩ := on_shf q; exact ⟨o'', .inl q⟩
        · exact ⟨o', .inr (.inl q)⟩
        · obtain ⟨o'', q⟩ := on_shf q; exact ⟨o'', .inr (.inr q)⟩
      have := onA m' hA
      refine ⟨this.1, fun hd => ?_⟩
      obtain ⟨o', q⟩ := hd
      have hB : (⟨u, false, y1, n1, y2, n2, y3, n3⟩ : PC).on m' := by
        rcases q with q | q | q
        · obtain ⟨o'', q⟩ := on_shf q; exact ⟨o'', .inl q⟩
        · exact ⟨o', .inr (.inl q)⟩
        · obtain ⟨o'', q⟩ := on_shf q; exact ⟨o'', .inr (.inr q)⟩
      have := onB m' hB
      omega
    · intro m' hm'
      obtain ⟨o', q⟩ := hm'
      have hB : (⟨u, false, y1, n1, y2, n2, y3, n3⟩ : PC).on m' := by
        rcases q with q | q | q
        · obtain ⟨o'', q⟩ := on_shf q; exact ⟨o'', .inl q⟩
        · exact ⟨o', .inr (.inl q)⟩
        · obtain ⟨o'', q⟩ := on_shf q; exact ⟨o'', .inr (.inr q)⟩
      have := onB m' hB
      omega

/-! delete -/
end
end Go.Am
namespace Go.Am

/-! kids, taken apart -/
section
variable {R R' : Nat → List Nat → KV → Prop}
/-- kids ahead of a place, each with the key behind it -/
def PreR (R : Nat → List Nat → KV → Prop) : List Int → List ByteArray → List Nat → KV → Prop
  | [], [], P, ps => P = [] ∧ ps = []
  | k :: ks, s :: ss, P, ps => ∃ P1 ps1 P2 ps2, R k.toNat P1 ps1 ∧ PreR R ks ss P2 ps2 ∧ P = P1 ++ P2 ∧ ps = ps1 ++ ps2 ∧ (∀ x ∈ ps1, blt x.1 s = true) ∧ (∀ y ∈ ps2, blt y.1 s = false)
  | [], _ :: _, _, _ => False
  | _ :: _, [], _, _ => False
/-- kids behind a place, each with the key ahead of it -/
def SufR (R : Nat → List Nat → KV → Prop) (kc : List Int) (sc : List ByteArray) (P : List Nat) (ps : KV) : Prop := match sc with
  | [] => kc = [] ∧ P = [] ∧ ps = []
  | s :: sc => KidsR R kc sc P ps ∧ ∀ y ∈ ps, blt y.1 s = false
theorem KidsR.split {rest : List Int} {ss : List ByteArray} : ∀ {ka : List Int} {sa : List ByteArray} {P : List Nat} {ps : KV}, ka.length = sa.length → rest ≠ [] → KidsR R (ka ++ rest) (sa ++ ss) P ps →
    ∃ PA psA P2 ps2, PreR R ka sa PA psA ∧ KidsR R rest ss P2 ps2 ∧ P = PA ++ P2 ∧ ps = psA ++ ps2 ∧ ∀ s ∈ sa, ∀ y ∈ ps2, blt y.1 s = false
  | [], [], P, ps, _, _, h => ⟨[], [], P, ps, ⟨rfl, rfl⟩, h, rfl, rfl, fun s hs => by cases hs⟩
  | k :: ka, s :: sa, P, ps, hl, hr, h => by
    obtain ⟨P1, ps1, P2, ps2, h1, h2, e1, e2, h3, h4⟩ := h
    obtain ⟨PA, psA, P3, ps3, q1, q2, q3, q4, q5⟩ := KidsR.split (ka := ka) (sa := sa) (by simpa using hl) hr h2
    subst e1; subst e2; subst q3; subst q4
    refine ⟨P1 ++ PA, ps1 ++ psA, P3, ps3, ⟨P1, ps1, PA, psA, h1, q1, rfl, rfl, h3, fun y hy => h4 y (by simp [hy])⟩, q2, by simp, by simp, fun t ht y hy => ?_⟩
    rcases List.mem_cons.1 ht with e | e
    · rw [e]; exact h4 y (by simp [hy])
    · exact q5 t e y hy
theorem PreR.imp : ∀ {ka : List Int} {sa : List ByteArray} {P : List Nat} {ps : KV}, (∀ k P' ps', R k P' ps' → (∀ i ∈ P', i ∈ P) → R' k P' ps') → PreR R ka sa P ps → PreR R' ka sa P ps
  | [], [], _, _, _, h => h
  | k :: ka, s :: sa, P, ps, f, ⟨P1, ps1, P2, ps2, h1, h2, e1, e2, h3, h4⟩ => by
    subst e1
    exact ⟨P1, ps1, P2, ps2, f _ _ _ h1 fun i hi => List.mem_append.2 (.inl hi), PreR.imp (fun k P' ps' h hs => f k P' ps' h fun i hi => List.mem_append.2 (.inr (hs i hi))) h2, rfl, e2, h3, h4⟩
theorem PreR.lt : ∀ {ka : List Int} {sa : List ByteArray} {P : List Nat} {ps : KV}, PreR R ka sa P ps → ∀ x ∈ ps, ∃ s ∈ sa, blt x.1 s = true
  | [], [], _, _, h, x, hx => by rw [h.2] at hx; cases hx
  | k :: ka, s :: sa, P, ps, ⟨P1, ps1, P2, ps2, h1, h2, e1, e2, h3, h4⟩, x, hx => by
    subst e2
    rcases List.mem_append.1 hx with e | e
    · exact ⟨s, by simp, h3 x e⟩
    · obtain ⟨t, ht, q⟩ := PreR.lt h2 x e
      exact ⟨t, by simp [ht], q⟩
theorem SufR.imp {kc : List Int} {sc : List ByteArray} {P : List Nat} {ps : KV} (f : ∀ k P' ps', R k P' ps' → (∀ i ∈ P', i ∈ P) → R' k P' ps') (h : SufR R kc sc P ps) : SufR R' kc sc P ps := by
  cases sc with
  | nil => exact h
  | cons s sc => exact ⟨KidsR.imp f h.1, h.2⟩
theorem SufR.ge {kc : List Int} {sc : List ByteArray} {P : List Nat} {ps : KV} (h : SufR R kc sc P ps) : ∀ y ∈ ps, ∃ s ∈ sc, blt y.1 s = false := by
  cases sc with
  | nil => intro y hy; rw [h.2.2] at hy; cases hy
  | cons s sc => intro y hy; exact ⟨s, by simp, h.2 y hy⟩
theorem KidsR.head {k : Int} {kc : List Int} {sc : List ByteArray} {P : List Nat} {ps : KV} (h : KidsR R (k :: kc) sc P ps) :
    ∃ P1 ps1 PC psC, R k.toNat P1 ps1 ∧ SufR R kc sc PC psC ∧ P = P1 ++ PC ∧ ps = ps1 ++ psC ∧ ∀ s, sc.head? = some s → ∀ x ∈ ps1, blt x.1 s = true := by
  cases sc with
  | nil => exact ⟨P, ps, [], [], h.2, ⟨h.1, rfl, rfl⟩, by simp, by simp, fun s e => by cases e⟩
  | cons s sc =>
    obtain ⟨P1, ps1, P2, ps2, h1, h2, e1, e2, h3, h4⟩ := h
    exact ⟨P1, ps1, P2, ps2, h1, ⟨h2, h4⟩, e1, e2, fun t e => by cases e; exact h3⟩
theorem KidsR.cut {kb : List Int} {sb : List ByteArray} {s : ByteArray} (hkb : kb ≠ []) : ∀ {ka : List Int} {sa : List ByteArray} {P : List Nat} {ps : KV}, ka.length = sa.length + 1 → KidsR R (ka ++ kb) (sa ++ s :: sb) P ps → (∀ t ∈ sa, blt t s = true) →
    ∃ P1 ps1 P2 ps2, KidsR R ka sa P1 ps1 ∧ KidsR R kb sb P2 ps2 ∧ P = P1 ++ P2 ∧ ps = ps1 ++ ps2 ∧ (∀ x ∈ ps1, blt x.1 s = true) ∧ (∀ y ∈ ps2, blt y.1 s = false)
  | [], _, _, _, hl, _, _ => by simp at hl
  | [k], [], P, ps, _, h, _ => by
    obtain ⟨P1, ps1, P2, ps2, h1, h2, e1, e2, h3, h4⟩ := h
    exact ⟨P1, ps1, P2, ps2, ⟨rfl, h1⟩, h2, e1, e2, h3, h4⟩
  | k :: k' :: ka, [], _, _, hl, _, _ => by simp at hl
  | k :: ka, t :: sa, P, ps, hl, h, h5 => by
    obtain ⟨Q1, qs1, Q2, qs2, q1, q2, e1, e2, q3, q4⟩ := h
    obtain ⟨P1, ps1, P2, ps2, r1, r2, f1, f2, r3, r4⟩ := KidsR.cut hkb (ka := ka) (sa := sa) (by simpa using hl) q2 (fun u hu => h5 u (by simp [hu]))
    subst e1; subst e2; subst f1; subst f2
    refine ⟨Q1 ++ P1, qs1 ++ ps1, P2, ps2, ⟨Q1, qs1, P1, ps1, q1, r1, rfl, rfl, q3, fun y hy => q4 y (by simp [hy])⟩, r2, by simp, by simp, fun x hx => ?_, r4⟩
    rcases List.mem_append.1 hx with e | e
    · exact blt_le (q3 x e) (blt_asy (h5 t (by simp)))
    · exact r3 x e
end

/-! an entry taken out -/
def delK : KV → ByteArray → KV
  | [], _ => []
  | x :: ps, k => match decide (x.1 = k) with
    | true => ps
    | false => x :: delK ps k
theorem kidN_split {key : ByteArray} : ∀ {ss : List ByteArray}, Pw ss → (∀ s ∈ ss.take (kidN ss key), blt key s = false) ∧ (∀ s ∈ ss.drop (kidN ss key), blt key s = true) ∧ kidN ss key ≤ ss.length
  | [], _ => by simp [kidN, slotN_nil, slotB_nil]
  | s :: ss, pw => by
    have pw' := (List.pairwise_cons.1 pw).2
    have hall := (List.pairwise_cons.1 pw).1
    obtain ⟨i1, i2, i3⟩ := kidN_split (key := key) pw'
    cases h : blt s key with
    | true =>
      have e : kidN (s :: ss) key = kidN ss key + 1 := by
        unfold kidN; rw [(slot_lt h).1, (slot_lt h).2]; omega
      rw [e]
      refine ⟨fun t ht => ?_, by simpa using i2, by simpa using i3⟩
      rw [List.take_succ_cons] at ht
      rcases List.mem_cons.1 ht with q | q
      · rw [q]; exact blt_asy h
      · exact i1 t q
    | false =>
      obtain ⟨e1, e2⟩ := slot_ge pw h
      by_cases q : s = key
      · have e : kidN (s :: ss) key = 1 := by unfold kidN; rw [e1, e2, decide_eq_true q]; rfl
        rw [e]
        refine ⟨fun t ht => ?_, fun t ht => ?_, by simp⟩
        · simp at ht; rw [ht, q]; exact blt_irr _
        · simp at ht; rw [← q]; exact hall t ht
      · have e : kidN (s :: ss) key = 0 := by unfold kidN; rw [e1, e2, decide_eq_false q]; rfl
        rw [e]
        have hk : blt key s = true := by
          rcases blt_tri s key with ⟨z, _⟩ | ⟨z, _⟩ | ⟨z, _⟩
          · rw [h] at z; cases z
          · exact (q z).elim
          · exact z
        refine ⟨fun t ht => by simp at ht, fun t ht => ?_, by simp⟩
        simp at ht
        rcases ht with z | z
        · rw [z]; exact hk
        · exact blt_le hk (blt_asy (hall t z))
end Go.Am
namespace Go.Am

section
variable {T T' : List Pg} {d a x y : Nat} {p px py : Pg} {s : ByteArray} {P PX PY : List Nat} {ps psX psY : KV}
theorem Sub.may (h : Sub T d a P ps) (hp : T[a]? = some p) : MayP p := by
  cases d with
  | zero => exact h.elim
  | succ d => obtain ⟨q, hq, hm, _⟩ := h; rw [hp] at hq; cases hq; exact hm
theorem Sub.leafD (h : Sub T d a P ps) (hp : T[a]? = some p) (hl : p.leaf = true) : d = 1 ∧ P = [a] ∧ ps = p.keys.zip p.vals := by
  cases d with
  | zero => exact h.elim
  | succ d =>
    obtain ⟨q, hq, hm, ⟨e, h1, h2, h3⟩ | ⟨h1, _⟩⟩ := h
    · rw [hp] at hq; cases hq; exact ⟨by omega, h2, h3⟩
    · rw [hp] at hq; cases hq; rw [hl] at h1; cases h1
theorem Sub.get (h : Sub T d a P ps) : ∃ p, T[a]? = some p := by
  cases d with
  | zero => exact h.elim
  | succ d => obtain ⟨q, hq, _⟩ := h; exact ⟨q, hq⟩
/-! cut -/
end
end Go.Am
namespace Go.Am

section
variable {T T1 T2 : List Pg} {D d a short : Nat} {p : Pg} {key : ByteArray} {P : List Nat} {ps : KV}
/-- the kid that a key leads to -/
structure Kid (T : List Pg) (d a : Nat) (p : Pg) (i : Nat) (key : ByteArray) (P : List Nat) (ps : KV) (PA : List Nat) (psA : KV) (Pi : List Nat) (psi : KV) (PC : List Nat) (psC : KV) : Prop where
  hi : i < p.kids.length
  eP : P = a :: (PA ++ (Pi ++ PC))
  eps : ps = psA ++ (psi ++ psC)
  pre : PreR (SubB T d) (p.kids.take i) (p.keys.take i) PA psA
  kid : SubB T d (p.kids[i]'hi).toNat Pi psi
  suf : SufR (SubB T d) (p.kids.drop (i + 1)) (p.keys.drop i) PC psC
  c1 : ∀ s ∈ p.keys.take i, ∀ e ∈ psi ++ psC, blt e.1 s = false
  c2 : ∀ s, (p.keys.drop i).head? = some s → ∀ e ∈ psi, blt e.1 s = true
  mem : (∃ e ∈ ps, e.1 = key) → (∃ e ∈ psi, e.1 = key) ∧ delK ps key = psA ++ (delK psi key ++ psC)
section
variable {i : Nat} {PA Pi PC Pi' : List Nat} {psA psi psC qs : KV}
end

section
variable {kids : List Int} {keys : List ByteArray} {j x y : Nat} {s : ByteArray} {PA PX PY PC PZ PX' PY' : List Nat} {psA psX psY psC psX' psY' : KV} {px py : Pg}
end
end
end Go.Am
namespace Go.Am

section
variable {T T1 T2 : List Pg} {D d a short j x y : Nat} {p px py : Pg} {key : ByteArray} {P Q : List Nat} {ps qs : KV}
end
end Go.Am
namespace Go.Am

/-- a tree that an eraser works on: its rows are all its own; pages of X stand as they were copied -/
structure CM (B H : Hp) (le tp : Nat) (ds : List PC) (T : List Pg) (X : Nat → Prop) : Prop where
  pre : B <+: H
  ot : OT H B.length tPg (some (tp, 0)) 48 ds T
  wo : ∀ i (h : i < ds.length), WoP H B.length 1000 ds[i]
  base : ∀ i (h : i < ds.length) l, (ds[i]).on l → B.length ≤ l
  own : ∀ i (h : i < ds.length) (h' : i < T.length), X i → (ds[i]).own H B.length T[i]
  ap : ∀ i j (hi : i < ds.length) (hj : j < ds.length), i ≠ j → ∀ l, (ds[i]).on l → ¬ (ds[j]).on l
  er : H[le]? = some (.row true tEraser [.sl (some (tp, 0)) 48 5])
  erB : B.length ≤ le
  offE : ∀ i (h : i < ds.length), ¬ (ds[i]).on le
section
variable {B H H' : Hp} {le tp : Nat} {ds : List PC} {T : List Pg} {X X' : Nat → Prop} {i : Nat} {c : PC} {p : Pg}
theorem CM.ne (g : CM B H le tp ds T X) : le ≠ tp := fun e => by
  have h1 := g.er
  have h2 := g.ot.at_row.2
  rw [e, h2] at h1
  simp at h1
  exact absurd h1.1 (by decide)
theorem CM.mono (g : CM B H le tp ds T X) (hp : H <+: H') : CM B H' le tp ds T X := by
  have lt : ∀ i (h : i < ds.length) l, (ds[i]).on l → l < H.length := fun i h l hl => g.ot.onlt (List.getElem_mem h) hl
  refine ⟨g.pre.trans hp, g.ot.mono hp, fun i h => ?_, g.base, fun i h h' hx => (g.own i h h' hx).keep fun l hl => pre_at hp (lt i h l hl), g.ap, by rw [pre_at hp (List.getElem?_eq_some_iff.1 g.er).1]; exact g.er, g.erB, g.offE⟩
  have w := g.wo i h
  have k1 : ∀ {a n M}, TxR H B.length M a n → TxR H' B.length M a n := fun h => by
    rcases h with h | ⟨l, o, xs, e, h1, h2, h3, h4⟩
    · exact .inl h
    · exact .inr ⟨l, o, xs, e, h1, by unfold SRow; rw [pre_at hp (List.getElem?_eq_some_iff.1 h2).1]; exact h2, h3, h4⟩
  have k2 : ∀ {a n}, NuR H B.length a n → NuR H' B.length a n := fun h => by
    rcases h with h | ⟨l, o, xs, e, h1, h2, h3⟩
    · exact .inl h
    · exact .inr ⟨l, o, xs, e, h1, by unfold IRow; rw [pre_at hp (List.getElem?_eq_some_iff.1 h2).1]; exact h2, h3⟩
  exact ⟨k1 w.t1, k1 w.t2, k2 w.t3, w.s1, w.s2, w.s3⟩
theorem WoP.keepOn {b M : Nat} (w : WoP H b M c) (hk : ∀ l, c.on l → H'[l]? = H[l]?) : WoP H' b M c := by
  refine ⟨?_, ?_, ?_, w.s1, w.s2, w.s3⟩
  · rcases w.t1 with h | ⟨l, o, xs, e, h1, h2, h3, h4⟩
    · exact .inl h
    · exact .inr ⟨l, o, xs, e, h1, by unfold SRow; rw [hk l ⟨o, .inl e⟩]; exact h2, h3, h4⟩
  · rcases w.t2 with h | ⟨l, o, xs, e, h1, h2, h3, h4⟩
    · exact .inl h
    · exact .inr ⟨l, o, xs, e, h1, by unfold SRow; rw [hk l ⟨o, .inr (.inl e)⟩]; exact h2, h3, h4⟩
  · rcases w.t3 with h | ⟨l, o, xs, e, h1, h2, h3⟩
    · exact .inl h
    · exact .inr ⟨l, o, xs, e, h1, by unfold IRow; rw [hk l ⟨o, .inr (.inr e)⟩]; exact h2, h3⟩
/-- a page turned -/
theorem CM.turn (g : CM B H le tp ds T X) (hi : i < ds.length) (hlen : H.length ≤ H'.length) (hkeep : ∀ l, l < H.length → ¬ (ds[i]).on l → l ≠ tp → H'[l]? = H[l]?)
    (hrow : H'[tp]? = some (.row true tPg (pcells (ds.set i c)))) (hc : c.at H' p) (hw : WoP H' B.length 1000 c)
    (hon : ∀ l, c.on l → l ≠ tp ∧ l ≠ le ∧ B.length ≤ l ∧ ∀ j (hj : j < ds.length), j ≠ i → ¬ (ds[j]).on l) (hX : ∀ j, X' j → (j = i ∧ c.own H' B.length p) ∨ (j ≠ i ∧ X j)) :
    CM B H' le tp (ds.set i c) (T.set i p) X' := by
  have q1 := g.ot.len
  have q2 := g.ot.lenT
  obtain ⟨hb, hr⟩ := g.ot.at_row
  have htp := (List.getElem?_eq_some_iff.1 hr).1
  have lt : ∀ j (h : j < ds.length) l, (ds[j]).on l → l < H.length := fun j h l hl => g.ot.onlt (List.getElem_mem h) hl
  have other : ∀ j (h : j < ds.length), j ≠ i → ∀ l, (ds[j]).on l → H'[l]? = H[l]? := fun j h hne l hl => hkeep l (lt j h l hl) (g.ap j i h hi hne l hl) (fun e => g.ot.off _ (List.getElem_mem h) l hl (by rw [e]))
  have hpre : B <+: H' := by
    rw [List.prefix_iff_eq_take]
    apply List.ext_getElem?
    intro l
    rw [List.getElem?_take]
    split
    · rename_i hl
      have := g.pre.length_le
      rw [hkeep l (by omega) (fun h => by have := g.base i hi l h; omega) (by omega), pre_at g.pre hl]
    · rename_i hl
      exact List.getElem?_eq_none (by omega)
  refine ⟨hpre, ⟨.inr ⟨tp, rfl, hb, hrow, by rw [pcells_length]; simp [q1]⟩, by simp [q1], by simp [q2], fun j h1 h2 => ?_, fun d hd l hl e => ?_⟩, fun j h => ?_, fun j h l hl => ?_, fun j h h' hx => ?_, fun j k hj hk hne l h1 h2 => ?_, ?_, g.erB, fun j h hl => ?_⟩
  · rw [List.getElem_set, List.getElem_set]
    by_cases e : i = j
    · rw [if_pos e, if_pos e]; exact hc
    · rw [if_neg e, if_neg e]
      simp at h1 h2
      exact (g.ot.all j h1 h2).keep (other j h1 (Ne.symm e))
  · cases e
    rcases List.mem_or_eq_of_mem_set hd with q | q
    · exact g.ot.off d q tp hl rfl
    · subst q; exact (hon tp hl).1 rfl
  · rw [List.getElem_set]
    by_cases e : i = j
    · rw [if_pos e]; exact hw
    · rw [if_neg e]; simp at h; exact (g.wo j h).keepOn (other j h (Ne.symm e))
  · rw [List.getElem_set] at hl
    by_cases e : i = j
    · rw [if_pos e] at hl; exact (hon l hl).2.2.1
    · rw [if_neg e] at hl; simp at h; exact g.base j h l hl
  · rw [List.getElem_set, List.getElem_set]
    rcases hX j hx with ⟨e, ho⟩ | ⟨e, hx'⟩
    · rw [if_pos e.symm, if_pos e.symm]; exact ho
    · rw [if_neg (Ne.symm e), if_neg (Ne.symm e)]
      simp at h h'
      exact (g.own j h h' hx').keep (other j h e)
  · rw [List.getElem_set] at h1 h2
    simp at hj hk
    by_cases e1 : i = j
    · rw [if_pos e1] at h1
      by_cases e2 : i = k
      · omega
      · rw [if_neg e2] at h2
        exact (hon l h1).2.2.2 k hk (Ne.symm e2) h2
    · rw [if_neg e1] at h1
      by_cases e2 : i = k
      · rw [if_pos e2] at h2
        exact (hon l h2).2.2.2 j hj (Ne.symm e1) h1
      · rw [if_neg e2] at h2
        exact g.ap j k hj hk hne l h1 h2
  · rw [hkeep le (List.getElem?_eq_some_iff.1 g.er).1 (g.offE i hi) g.ne]; exact g.er
  · rw [List.getElem_set] at hl
    by_cases e : i = j
    · rw [if_pos e] at hl; exact (hon le hl).2.1 rfl
    · rw [if_neg e] at hl; simp at h; exact g.offE j h hl
/-- a page laid in anew -/
theorem CM.lay (g : CM B H le tp ds T X) (hi : i < ds.length) (hc : c.at H p) (hw : WoP H B.length 1000 c) (hon : ∀ l, c.on l → l ≠ tp ∧ l ≠ le ∧ B.length ≤ l ∧ ∀ j (hj : j < ds.length), j ≠ i → ¬ (ds[j]).on l) {K : Hp → Prop}
    (hK : ∀ H', CM B H' le tp (ds.set i c) (T.set i p) (fun j => j ≠ i ∧ X j) → H'.length = H.length → (∀ l, l ≠ tp → H'[l]? = H[l]?) → K H') :
    wr H tp (0 + i * 5) (.bool c.u) fun H1 => wr H1 tp (0 + i * 5 + 1) (.bool c.l) fun H2 => wr H2 tp (0 + i * 5 + 1 + 1) (.sl c.a1 c.n1 1) fun H3 => wr H3 tp (0 + i * 5 + 1 + 1 + 1) (.sl c.a2 c.n2 1) fun H4 => wr H4 tp (0 + i * 5 + 1 + 1 + 1 + 1) (.sl c.a3 c.n3 1) K := by
  obtain ⟨hb, hr⟩ := g.ot.at_row
  have htp := (List.getElem?_eq_some_iff.1 hr).1
  rw [Nat.zero_add]
  have kp : ∀ l, l ≠ tp → (H.set tp (.row true tPg (pcells (ds.set i c))))[l]? = H[l]? := fun l hl => by rw [List.getElem?_set_ne (Ne.symm hl)]
  refine wr5 hr hi (hK _ (g.turn hi (by simp) (fun l _ _ hl => kp l hl) (List.getElem?_set_self htp) (hc.keep fun l hl => kp l (hon l hl).1) (hw.keepOn fun l hl => kp l (hon l hl).1) hon fun j hj => .inr hj) (by simp) kp)
end
end Go.Am
namespace Go.Am

section
variable {B H H' : Hp} {le tp : Nat} {ds : List PC} {T : List Pg} {X : Nat → Prop} {i : Nat} {p : Pg} {Q : Post}
end
end Go.Am
namespace Go.Am

section
variable {B H H' : Hp} {le tp : Nat} {ds : List PC} {T : List Pg} {X : Nat → Prop} {a j x y : Nat} {p px py : Pg} {Q : Post}
theorem CM.cells (g : CM B H le tp ds T X) {i : Nat} (hi : i < ds.length) : gt H tp (0 + i * 5) = some (.bool ds[i].u) ∧ gt H tp (0 + i * 5 + 1) = some (.bool ds[i].l) ∧ gt H tp (0 + i * 5 + 2) = some (.sl ds[i].a1 ds[i].n1 1) ∧ gt H tp (0 + i * 5 + 3) = some (.sl ds[i].a2 ds[i].n2 1) ∧ gt H tp (0 + i * 5 + 4) = some (.sl ds[i].a3 ds[i].n3 1) := by
  rw [Nat.zero_add]
  exact ⟨g.ot.gt hi (j := 0) (by omega), g.ot.gt hi (j := 1) (by omega), g.ot.gt hi (j := 2) (by omega), g.ot.gt hi (j := 3) (by omega), g.ot.gt hi (j := 4) (by omega)⟩
end
end Go.Am
namespace Go.Am

section
variable {B : Hp} {le tp : Nat} {key : ByteArray}
end
end Go.Am
namespace Go.Am

section
variable {H : Hp} {Q : Post} {a : Pl} {n : Nat} {T : List Pg} {cs : List Am.PC}
end

/-! the root -/
section
variable {B H : Hp} {le tp : Nat} {ds : List Am.PC} {T T' : List Pg} {X : Nat → Prop} {d : Nat} {P P' : List Nat} {ps qs : KV} {Q : Post}
end
end Go.Am
namespace Go.Am

section
variable {ps : KV} {k k' : ByteArray}
end

/-! a tree that may be written over, or none -/
def WT (H : Hp) (b hi : Nat) (a : Pl) (m : Nat) : Prop := m = 0 ∨ ∃ tp cs, a = some (tp, 0) ∧ (b ≤ tp ∧ tp < hi) ∧ H[tp]? = some (Obj.row true tPg (pcells cs)) ∧ cs.length = m ∧ m ≤ 1000 ∧ ∀ c ∈ cs, WoS H b hi 1000 c
theorem TxS.keep {H H' : Hp} {b hi M : Nat} {a : Pl} {n : Nat} (h : TxS H b hi M a n) (hk : ∀ l, b ≤ l → l < hi → H'[l]? = H[l]?) : TxS H' b hi M a n := by
  rcases h with h | ⟨l, o, xs, e, hb, hr, hl, hm⟩
  · exact .inl h
  · exact .inr ⟨l, o, xs, e, hb, by unfold SRow; rw [hk l hb.1 hb.2]; exact hr, hl, hm⟩
theorem NuS.keep {H H' : Hp} {b hi : Nat} {a : Pl} {n : Nat} (h : NuS H b hi a n) (hk : ∀ l, b ≤ l → l < hi → H'[l]? = H[l]?) : NuS H' b hi a n := by
  rcases h with h | ⟨l, o, xs, e, hb, hr, hl⟩
  · exact .inl h
  · exact .inr ⟨l, o, xs, e, hb, by unfold IRow; rw [hk l hb.1 hb.2]; exact hr, hl⟩
theorem WT.keep {H H' : Hp} {b hi : Nat} {a : Pl} {m : Nat} (h : WT H b hi a m) (hk : ∀ l, b ≤ l → l < hi → H'[l]? = H[l]?) : WT H' b hi a m := by
  rcases h with h | ⟨tp, cs, e, hb, hr, hl, hm, hc⟩
  · exact .inl h
  · exact .inr ⟨tp, cs, e, hb, by rw [hk tp hb.1 hb.2]; exact hr, hl, hm, fun c q => ⟨(hc c q).t1.keep hk, (hc c q).t2.keep hk, (hc c q).t3.keep hk, (hc c q).s1, (hc c q).s2, (hc c q).s3⟩⟩
theorem TxR.s {H : Hp} {b M : Nat} {a : Pl} {n : Nat} (h : TxR H b M a n) : TxS H b H.length M a n := by
  rcases h with h | ⟨l, o, xs, e, hb, hr, hl, hm⟩
  · exact .inl h
  · exact .inr ⟨l, o, xs, e, ⟨hb, (List.getElem?_eq_some_iff.1 hr).1⟩, hr, hl, hm⟩
theorem NuR.s {H : Hp} {b : Nat} {a : Pl} {n : Nat} (h : NuR H b a n) : NuS H b H.length a n := by
  rcases h with h | ⟨l, o, xs, e, hb, hr, hl⟩
  · exact .inl h
  · exact .inr ⟨l, o, xs, e, ⟨hb, (List.getElem?_eq_some_iff.1 hr).1⟩, hr, hl⟩
theorem WoP.s {H : Hp} {b M : Nat} {c : Am.PC} (h : WoP H b M c) : WoS H b H.length M c := ⟨h.t1.s, h.t2.s, h.t3.s, h.s1, h.s2, h.s3⟩
theorem CM.wt {B H : Hp} {le tp : Nat} {ds : List Am.PC} {T : List Pg} {X : Nat → Prop} (g : CM B H le tp ds T X) {b : Nat} (hb' : b ≤ B.length) : WT H b H.length (some (tp, 0)) 48 := by
  obtain ⟨hb, hr⟩ := g.ot.at_row
  refine .inr ⟨tp, ds, rfl, ⟨by omega, (List.getElem?_eq_some_iff.1 hr).1⟩, hr, g.ot.len, by omega, fun c hc => ?_⟩
  obtain ⟨i, hi, rfl⟩ := List.getElem_of_mem hc
  exact ((g.wo i hi).base hb').s
/-! erase -/
section
variable {H : Hp} {Q : Post} {x : Pl} {n : Nat} {T : List Pg} {cs : List Am.PC} {key : ByteArray}
end
end Go.Am
namespace Go.Am

/-! numbers -/
theorem wrapU (z : Int) : wrapI .u64 z = z % 18446744073709551616 := by
  show (if (false && decide (z % (18446744073709551616 : Int) ≥ 9223372036854775808)) = true then z % (18446744073709551616 : Int) - 18446744073709551616 else z % (18446744073709551616 : Int)) = _
  rw [Bool.false_and]
  rfl
theorem wrapU_nat {m : Nat} (h : m ≤ 1000000) : wrapI .u64 (m : Int) = m := by rw [wrapU]; omega
theorem pick (z : Int) {m : Nat} (h1 : 1 ≤ m) (h2 : m ≤ 1000) : ∃ i : Nat, i < m ∧ wrapI .i64 (Int.tmod (wrapI .u64 z) (wrapI .u64 (m : Int))) = (i : Int) := by
  have e1 : wrapI .u64 (m : Int) = m := wrapU_nat (by omega)
  have h0 : 0 ≤ wrapI .u64 z := by rw [wrapU]; omega
  rw [e1, Int.tmod_eq_emod_of_nonneg h0]
  have l1 := Int.emod_nonneg (wrapI .u64 z) (show (m : Int) ≠ 0 by omega)
  have l2 := Int.emod_lt_of_pos (wrapI .u64 z) (show 0 < (m : Int) by omega)
  refine ⟨(wrapI .u64 z % (m : Int)).toNat, by omega, ?_⟩
  rw [wrap64 (by omega) (by omega)]; omega
theorem other (z : Int) {m i : Nat} (h1 : 2 ≤ m) (h2 : m ≤ 1000) (hi : i < m) : ∃ j : Nat, j < m ∧ j ≠ i ∧ Int.tmod (wrapI .i64 (wrapI .i64 ((i : Int) + 1) + wrapI .i64 (Int.tmod (wrapI .u64 z) (wrapI .u64 (wrapI .i64 ((m : Int) - 1)))))) (m : Int) = (j : Int) := by
  have e0 : wrapI .i64 ((m : Int) - 1) = ((m - 1 : Nat) : Int) := by rw [wrap64 (by omega) (by omega)]; omega
  obtain ⟨b, hb, eb⟩ := pick z (m := m - 1) (by omega) (by omega)
  rw [e0, eb, wrap64 (n := (i : Int) + 1) (by omega) (by omega), wrap64 (by omega) (by omega)]
  have e1 : (i : Int) + 1 + (b : Int) = ((i + 1 + b : Nat) : Int) := by omega
  refine ⟨(i + 1 + b) % m, Nat.mod_lt _ (by omega), fun e => ?_, ?_⟩
  · by_cases h : i + 1 + b < m
    · rw [Nat.mod_eq_of_lt h] at e; omega
    · rw [Nat.mod_eq_sub_mod (by omega), Nat.mod_eq_of_lt (by omega)] at e; omega
  · rw [e1]; rfl

section
variable {H : Hp} {Q : Post} {key : ByteArray}
end
end Go.Am
namespace Go.Am

/-! how many pages a tree has -/
theorem KidsR.pages {R : Nat → List Nat → KV → Prop} (hR : ∀ k P ps, R k P ps → 4 * P.length + 2 ≤ 3 * ps.length) : ∀ {ks : List Int} {ss : List ByteArray} {P : List Nat} {ps : KV}, KidsR R ks ss P ps → 4 * P.length + 2 * ks.length ≤ 3 * ps.length
  | [], _, _, _, h => h.elim
  | k :: ks, [], P, ps, h => by
    have := hR _ _ _ h.2
    rw [h.1]; simpa using this
  | k :: ks, s :: ss, P, ps, ⟨P1, ps1, P2, ps2, h1, h2, e1, e2, _, _⟩ => by
    have a := hR _ _ _ h1
    have b := KidsR.pages hR h2
    subst e1; subst e2
    simp only [List.length_append, List.length_cons]
    omega
theorem SubB.pages {T : List Pg} : ∀ {d k : Nat} {P : List Nat} {ps : KV}, SubB T d k P ps → 4 * P.length + 2 ≤ 3 * ps.length
  | 0, _, _, _, h => h.1.elim
  | d + 1, k, P, ps, h => by
    obtain ⟨⟨p, hp, hm, hc⟩, q, hq, h2⟩ := h
    rw [hp] at hq
    obtain rfl := Option.some.inj hq
    rcases hc with ⟨_, hl, eP, es⟩ | ⟨hl, P', eP, hk⟩
    · have := (hm.2.leaf hl).1
      subst eP; subst es
      simp [List.length_zip]
      omega
    · have a := KidsR.pages (fun _ _ _ h => SubB.pages h) hk
      have b := (hm.2.inner hl).2.2.1
      subst eP
      simp only [List.length_cons]
      omega

/-! entries -/
section
variable {l r ps : KV} {k v : ByteArray}
theorem insK_right (h : ∀ x ∈ r, blt k x.1 = true) : insK (l ++ r) k v = insK l k v ++ r := by
  induction l with
  | nil =>
    show insK r k v = (k, v) :: r
    have := insK_new (l := []) (r := r) (k := k) (v := v) (fun x hx => by cases hx) h
    simpa using this
  | cons x l ih =>
    show (match decide (x.1 = k) with | true => (k, v) :: (l ++ r) | false => match blt x.1 k with | true => x :: insK (l ++ r) k v | false => (k, v) :: x :: (l ++ r)) = (match decide (x.1 = k) with | true => (k, v) :: l | false => match blt x.1 k with | true => x :: insK l k v | false => (k, v) :: x :: l) ++ r
    rw [ih]
    cases decide (x.1 = k) <;> cases blt x.1 k <;> rfl
end

/-! a page with one key more -/
/-- a subtree whose root may have a key too many -/
def SubF (T : List Pg) (d a : Nat) (P : List Nat) (ps : KV) : Prop := ∃ p, T[a]? = some p ∧ FitsP p ∧
  ((d = 1 ∧ p.leaf = true ∧ P = [a] ∧ ps = p.keys.zip p.vals) ∨ (p.leaf = false ∧ ∃ d' P', d = d' + 2 ∧ P = a :: P' ∧ KidsR (SubB T (d' + 1)) p.kids p.keys P' ps))
section
variable {T T' T1 : List Pg} {d a f : Nat} {p : Pg} {key v s : ByteArray} {P : List Nat} {ps : KV}
theorem SubF.sub (h : SubF T d a P ps) (hp : T[a]? = some p) (h4 : p.keys.length ≤ 4) : Sub T d a P ps := by
  obtain ⟨q, hq, hf, hc⟩ := h
  rw [hp] at hq
  obtain rfl := Option.some.inj hq
  rcases hc with ⟨e, h1, h2, h3⟩ | ⟨h1, d', P', e, h2, h3⟩
  · subst e; exact ⟨p, hp, ⟨h4, hf⟩, .inl ⟨rfl, h1, h2, h3⟩⟩
  · subst e; exact ⟨p, hp, ⟨h4, hf⟩, .inr ⟨h1, P', h2, h3⟩⟩
section
variable {D i : Nat} {PA Pi PC Pi' PX PY : List Nat} {psA psi psC psX psY : KV}
/-- what a key put in leaves beside its kid -/
theorem Kid.insK (h : Kid T d a p (kidN p.keys key) key P ps PA psA Pi psi PC psC) (hm : MayP p) : Am.insK ps key v = psA ++ (Am.insK psi key v ++ psC) := by
  obtain ⟨k1, k2, k3⟩ := kidN_split (key := key) (rising_pw hm.2.rising)
  rw [h.eps, insK_left fun x hx => ?_, insK_right fun x hx => ?_]
  · obtain ⟨s, hs, z⟩ := h.suf.ge x hx
    exact blt_le (k2 s hs) z
  · obtain ⟨s, hs, z⟩ := h.pre.lt x hx
    exact blt_le z (k1 s hs)
theorem Kid.low (h : Kid T d a p (kidN p.keys key) key P ps PA psA Pi psi PC psC) (hm : MayP p) {e} (he : e ∈ Am.insK psi key v) : ∀ s ∈ p.keys.take (kidN p.keys key), blt e.1 s = false := by
  obtain ⟨k1, k2, k3⟩ := kidN_split (key := key) (rising_pw hm.2.rising)
  intro s hs
  rcases insK_mem he with z | z
  · rw [z]; exact k1 s hs
  · exact h.c1 s hs e (List.mem_append.2 (.inl z))
theorem Kid.high (h : Kid T d a p (kidN p.keys key) key P ps PA psA Pi psi PC psC) (hm : MayP p) {e} (he : e ∈ Am.insK psi key v) : ∀ s ∈ p.keys.drop (kidN p.keys key), blt e.1 s = true := by
  obtain ⟨k1, k2, k3⟩ := kidN_split (key := key) (rising_pw hm.2.rising)
  have pw := (rising_pw hm.2.rising).sublist (List.drop_sublist (kidN p.keys key) p.keys)
  intro s hs
  rcases insK_mem he with z | z
  · rw [z]; exact k2 s hs
  · cases hd : p.keys.drop (kidN p.keys key) with
    | nil => rw [hd] at hs; cases hs
    | cons u us =>
      have q := h.c2 u (by rw [hd]; rfl) e z
      rw [hd] at hs pw
      rcases List.mem_cons.1 hs with y | y
      · rw [y]; exact q
      · exact blt_trans q ((List.pairwise_cons.1 pw).1 s y)
end

/-! a page split in two -/
def cutAt (p : Pg) : Nat := match p.leaf with | true => 3 | false => 2
end
end Go.Am
namespace Go.Am

section
variable {H : Hp} {Q : Post} {u l : Bool} {a1 : Pl} {n1 : Nat} {a2 : Pl} {n2 : Nat} {a3 : Pl} {n3 : Nat} {p : Pg}
theorem fits_small (hf : FitsP p) (h : p.keys.length ≤ 5) : small p := by
  refine ⟨fun s hs => by have := (hf.keys s hs).2; omega, fun s hs => ?_, by omega, ?_, ?_⟩
  · cases hl : p.leaf with
    | true => have := (hf.leaf hl).2.2 s hs; omega
    | false => rw [(hf.inner hl).2.1] at hs; cases hs
  · cases hl : p.leaf with
    | true => have := (hf.leaf hl).1; omega
    | false => rw [(hf.inner hl).2.1]; simp
  · cases hl : p.leaf with
    | true => rw [(hf.leaf hl).2.1]; simp
    | false => have := (hf.inner hl).2.2.1; omega
set_option maxRecDepth 10000 in
theorem node_Split_spec (h : PgAt H u l a1 n1 a2 n2 a3 n3 p) (hf : FitsP p)
    (hQ1 : p.keys.length ≠ 5 → Q (.tup [.a [.bool false, .bool false, .sl none 0 1, .sl none 0 1, .sl none 0 1], .s (.str (mkS [])), .a [.bool false, .bool false, .sl none 0 1, .sl none 0 1, .sl none 0 1], .s (.int .i64 900)]) H)
    (hQ2 : p.keys.length = 5 → ∀ (hk : cutAt p < p.keys.length) (c d : PC) H', H <+: H' → c.at H' (cutL p (cutAt p)) → d.at H' (cutR p (cutAt p)) → WoP H' H.length 1000 c → WoP H' H.length 1000 d → (∀ m, c.on m → H.length ≤ m ∧ ¬ d.on m) → (∀ m, d.on m → H.length ≤ m) →
      Q (.tup [.a [.bool c.u, .bool c.l, .sl c.a1 c.n1 1, .sl c.a2 c.n2 1, .sl c.a3 c.n3 1], .s (.str p.keys[cutAt p]), .a [.bool d.u, .bool d.l, .sl d.a1 d.n1 1, .sl d.a2 d.n2 1, .sl d.a3 d.n3 1], .s (.int .i64 0)]) H') :
    node_Split [.agg [.bool u, .bool l, .sl a1 n1 1, .sl a2 n2 1, .sl a3 n3 1]] H Q := by
  have e1 := h.keys.len
  have hl := h.leaf
  refine ⟨2, ?_⟩
  rw [node_Split_eq]
  by_cases h5 : p.keys.length = 5
  rotate_left
  · rw [bite_t (by simp; omega)]
    exact hQ1 h5
  rw [bite_f (by simp; omega)]
  refine page_Fits_spec h fun bb H1 p1 hb => ?_
  simp only [rG_g, dB_bool]
  rw [hb.2 hf, bite_f (by decide)]
  have hs := fits_small hf (by omega)
  have hk : cutAt p < p.keys.length := by unfold cutAt; cases p.leaf <;> simp <;> omega
  have key : node_Split.l6 1 u l a1 n1 a2 n2 a3 n3 false false none 0 none 0 none 0 false false none 0 none 0 none 0 (cutAt p : Int) H1 Q := by
    rw [node_Split.l6_eq]
    refine node_Cut_at (h.mono p1) hs hk (fun e => (hf.leaf e).1) (fun e => (hf.inner e).2.2.1) fun c d H2 p2 hc hd wc wd oc od => ?_
    simp only [rT_tup, uR_cons, rC_a, uC_cons, dB_bool, dL_sl, uN_nil, rS_s, dS_str, uE_nil]
    have hl1 := p1.length_le
    exact hQ2 h5 hk c d H2 (p1.trans p2) hc hd (wc.base hl1) (wd.base hl1) (fun m hm => ⟨Nat.le_trans hl1 (oc m hm).1, (oc m hm).2⟩) (fun m hm => Nat.le_trans hl1 (od m hm))
  cases e : l with
  | true =>
    subst e
    rw [bite_t rfl]
    have : (cutAt p : Int) = 3 := by unfold cutAt; rw [hl]; rfl
    rw [this] at key
    exact key
  | false =>
    subst e
    rw [bite_f rfl]
    have : (cutAt p : Int) = 2 := by unfold cutAt; rw [hl]; rfl
    rw [this] at key
    exact key
end
end Go.Am
namespace Go.Am
def pg5 : Pg := ⟨true, true, [mkS [97], mkS [98], mkS [99], mkS [100], mkS [101]], [mkS [49], mkS [50], mkS [51], mkS [52], mkS [53]], []⟩
def pg5L : Pg := ⟨true, true, [mkS [97], mkS [98], mkS [99]], [mkS [49], mkS [50], mkS [51]], []⟩
def pg5R : Pg := ⟨true, true, [mkS [100], mkS [101]], [mkS [52], mkS [53]], []⟩
def pgE : Pg := ⟨true, true, [], [], []⟩
theorem fit5 : FitsP pg5 := (fitsB_iff _).1 (by decide +kernel)
theorem fit5L : FitsP pg5L := (fitsB_iff _).1 (by decide +kernel)
theorem fit5R : FitsP pg5R := (fitsB_iff _).1 (by decide +kernel)
theorem fitE : FitsP pgE := (fitsB_iff _).1 (by decide +kernel)
theorem slot1 : slotN [mkS [97], mkS [99]] (mkS [98]) = 1 := by decide +kernel
theorem slot2 : slotN [mkS [97], mkS [99]] (mkS [99]) = 1 := by decide +kernel
theorem slotB1 : slotB [mkS [97], mkS [99]] (mkS [98]) = false := by unfold slotB; rw [slot1]; decide +kernel
theorem slotB2 : slotB [mkS [97], mkS [99]] (mkS [99]) = true := by unfold slotB; rw [slot2]; decide +kernel
theorem canJ : CanJoin pgE (mkS []) pg5R := ⟨⟨by decide, fitE⟩, ⟨by decide, fit5R⟩, rfl, ⟨by decide, fit5R⟩⟩
theorem canJn : ¬ CanJoin pg5L (mkS []) pg5R := fun h => absurd h.2.2.2.1 (by decide)
set_option maxRecDepth 100000 in
theorem law9_awake_spec {H : Hp} {Q : Post} (hQ : ∀ H', H <+: H' → Q (.g (.bool true)) H') : law9_awake [] H Q := by
  refine ⟨1, ?_⟩
  rw [law9_awake_eq]
  simp only [ln_def, pu_def]
  refine node_Slot_spec (ks := [mkS [97], mkS [99]]) ⟨by simp [cells?], rfl, by omega⟩ ?_
  simp only [rT_tup, uR_cons, rS_s, dI_int, dB_bool, uE_nil]
  have p1 := pre_pu H (.row false 1000003 [(.str (mkS [97])), (.str (mkS [99]))])
  generalize H ++ [.row false 1000003 [(.str (mkS [97])), (.str (mkS [99]))]] = H1 at p1 ⊢
  refine node_Slot_spec (ks := [mkS [97], mkS [99]]) ⟨by simp [cells?], rfl, by omega⟩ ?_
  simp only [rT_tup, uR_cons, rS_s, dI_int, dB_bool, uE_nil]
  rw [slot1, slot2, slotB1, slotB2]
  have p2 := p1.trans (pre_pu H1 (.row false 1000003 [(.str (mkS [97])), (.str (mkS [99]))]))
  generalize H1 ++ [.row false 1000003 [(.str (mkS [97])), (.str (mkS [99]))]] = H2 at p2 ⊢
  have p3 := p2.trans ((pre_pu H2 (.row true 9 [(.str (mkS [97])), (.str (mkS [98])), (.str (mkS [99])), (.str (mkS [100])), (.str (mkS [101]))])).trans (pre_pu _ (.row true 9 [(.str (mkS [49])), (.str (mkS [50])), (.str (mkS [51])), (.str (mkS [52])), (.str (mkS [53]))])))
  have h5 : PgAt ((H2 ++ [.row true 9 [(.str (mkS [97])), (.str (mkS [98])), (.str (mkS [99])), (.str (mkS [100])), (.str (mkS [101]))]]) ++ [.row true 9 [(.str (mkS [49])), (.str (mkS [50])), (.str (mkS [51])), (.str (mkS [52])), (.str (mkS [53]))]])
      true true (some (H2.length, 0)) 5 (some ((H2 ++ [Obj.row true 9 [(.str (mkS [97])), (.str (mkS [98])), (.str (mkS [99])), (.str (mkS [100])), (.str (mkS [101]))]]).length, 0)) 5 none 0 pg5 :=
    ⟨rfl, rfl, ⟨by simp [cells?, pg5], rfl, by omega⟩, ⟨by simp [cells?, pg5], rfl, by omega⟩, .nil _⟩
  generalize (H2 ++ [.row true 9 [(.str (mkS [97])), (.str (mkS [98])), (.str (mkS [99])), (.str (mkS [100])), (.str (mkS [101]))]]) ++ [.row true 9 [(.str (mkS [49])), (.str (mkS [50])), (.str (mkS [51])), (.str (mkS [52])), (.str (mkS [53]))]] = H3 at p3 h5 ⊢
  generalize (H2 ++ [Obj.row true 9 [(.str (mkS [97])), (.str (mkS [98])), (.str (mkS [99])), (.str (mkS [100])), (.str (mkS [101]))]]).length = q5 at h5 ⊢
  refine node_Split_spec h5 fit5 (fun h => absurd (show pg5.keys.length = 5 from rfl) h) fun _ hk c d H4 p4 A B _ _ _ _ => ?_
  simp only [rT_tup, uR_cons, rC_a, uC_cons, dB_bool, dL_sl, uN_nil, rS_s, dS_str, dI_int, uE_nil]
  have A : PgAt H4 c.u c.l c.a1 c.n1 c.a2 c.n2 c.a3 c.n3 pg5L := A
  have B : PgAt H4 d.u d.l d.a1 d.n1 d.a2 d.n2 d.a3 d.n3 pg5R := B
  refine node_Join_spec (p := pgE) (H := H4) ⟨rfl, rfl, .nil _, .nil _, .nil _⟩ B (fun h => absurd canJ h) fun _ ul ll c1 k1 c2 k2 c3 k3 H5 p5 oc => ?_
  simp only [rT_tup, uR_cons, rC_a, uC_cons, dB_bool, dL_sl, uN_nil, rS_s, dS_str, dI_int, uE_nil]
  refine node_Split_spec (p := pg5L) (A.mono p5) fit5L (fun _ => ?_) (fun h => absurd (show (3 : Nat) = 5 from h) (by decide))
  simp only [rT_tup, uR_cons, rC_a, uC_cons, dB_bool, dL_sl, uN_nil, rS_s, dS_str, dI_int, uE_nil]
  refine node_Join_spec (A.mono p5) (B.mono p5) (fun _ H7 p7 => ?_) fun h => absurd h canJn
  simp only [rT_tup, uR_cons, rC_a, uC_cons, dB_bool, dL_sl, uN_nil, rS_s, dS_str, dI_int, uE_nil]
  have n1e : c.n1 = 3 := A.keys.len
  have m1e : d.n1 = 2 := B.keys.len
  rw [bite_t (by decide), bite_t (by decide), bite_t (by decide), bite_t rfl, bite_t (by rw [n1e]; decide), bite_t (by rw [strEq_def, show pg5.keys[cutAt pg5] = mkS [100] from rfl]; decide +kernel), bite_t (by rw [m1e]; decide)]
  refine law0_Num_spec ?_
  simp only [rG_g, dI_int]
  rw [bite_t (by decide)]
  refine law0_SamePage_spec (oc.at.mono p7) (B.mono (p5.trans p7)) fun b hb => ?_
  simp only [rG_g, dB_bool]
  rw [bite_t (hb.2 rfl)]
  refine law0_Num_spec ?_
  simp only [rG_g, dI_int]
  rw [bite_t (by decide)]
  refine law0_Num_spec ?_
  simp only [rG_g, dI_int]
  rw [bite_t (by decide)]
  refine law0_Num_spec ?_
  simp only [rG_g, dI_int]
  exact hQ _ (p3.trans (p4.trans (p5.trans p7)))
end Go.Am
namespace Go.Am
def chr (j : Nat) : ByteArray := mkS [UInt8.ofNat j]
def keyL (f : Nat → Bool) (i : Nat) : List ByteArray := ((List.range i).filter f).map chr
theorem keyL_succ (f : Nat → Bool) (i : Nat) : keyL f (i + 1) = keyL f i ++ (match f i with | true => [chr i] | false => []) := by
  unfold keyL
  rw [List.range_succ, List.filter_append, List.map_append]
  cases h : f i <;> simp [h]
theorem keyL_len (f : Nat → Bool) (i : Nat) : (keyL f i).length ≤ i := by
  unfold keyL
  rw [List.length_map]
  exact Nat.le_trans (List.length_filter_le _ _) (by simp)
theorem blt_chr {a b : Nat} (ha : a < 256) (hb : b < 256) : blt (chr a) (chr b) = decide (a < b) := by
  unfold blt chr bs mkS
  show Op.bytesLess [UInt8.ofNat a] [UInt8.ofNat b] = _
  have h : (UInt8.ofNat a < UInt8.ofNat b) ↔ a < b := by
    rw [UInt8.lt_iff_toNat_lt, UInt8.toNat_ofNat', UInt8.toNat_ofNat', Nat.mod_eq_of_lt ha, Nat.mod_eq_of_lt hb]
  simp [Op.bytesLess, h]
theorem chr_inj {a b : Nat} (ha : a < 256) (hb : b < 256) (h : chr a = chr b) : a = b := by
  have e : bs (chr a) = bs (chr b) := by rw [h]
  have e : [UInt8.ofNat a] = [UInt8.ofNat b] := e
  have e := congrArg UInt8.toNat (List.cons.inj e).1
  rw [UInt8.toNat_ofNat', UInt8.toNat_ofNat'] at e
  omega
theorem keyL_pw (f : Nat → Bool) {i : Nat} (hi : i ≤ 256) : Pw (keyL f i) := by
  unfold Pw keyL
  rw [List.pairwise_map]
  refine List.Pairwise.imp_of_mem (R := fun a b => a < b) (fun {a b} ha hb h => ?_) (List.Pairwise.filter f List.pairwise_lt_range)
  have h1 := List.mem_range.1 (List.mem_filter.1 ha).1
  have h2 := List.mem_range.1 (List.mem_filter.1 hb).1
  rw [blt_chr (by omega) (by omega)]; simpa using h
theorem keyL_mem (f : Nat → Bool) {k : Nat} (hk : k < 256) : chr k ∈ keyL f 256 ↔ f k = true := by
  unfold keyL
  simp only [List.mem_map, List.mem_filter, List.mem_range]
  constructor
  · rintro ⟨j, ⟨hj, e⟩, h⟩
    rw [chr_inj hj hk h] at e; exact e
  · exact fun h => ⟨k, ⟨hk, h⟩, rfl⟩
theorem keyL_none (f : Nat → Bool) (i : Nat) : mkS [] ∉ keyL f i := by
  unfold keyL
  simp only [List.mem_map, not_exists, not_and]
  intro j _ h
  have e : bs (chr j) = bs (mkS []) := by rw [h]
  cases e
theorem slotB_mem {key : ByteArray} : ∀ {ks : List ByteArray}, Pw ks → (slotB ks key = true ↔ key ∈ ks)
  | [], _ => by rw [slotB_nil]; simp
  | s :: ks, pw => by
    cases h : blt s key with
    | true =>
      rw [(slot_lt h).2, slotB_mem (List.pairwise_cons.1 pw).2]
      have : key ≠ s := fun e => by rw [e, blt_irr] at h; cases h
      simp [this]
    | false =>
      rw [(slot_ge pw h).2, decide_eq_true_iff, List.mem_cons]
      refine ⟨fun e => .inl e.symm, ?_⟩
      rintro (q | q)
      · exact q.symm
      · have := (List.pairwise_cons.1 pw).1 _ q
        rw [h] at this; cases this
theorem slotN_succ (f : Nat → Bool) {i k : Nat} (hi : i < 256) (hk : k < 256) : slotN (keyL f (i + 1)) (chr k) = slotN (keyL f i) (chr k) + (match f i with | true => (match decide (i < k) with | true => 1 | false => 0) | false => 0) := by
  rw [keyL_succ]
  unfold slotN
  rw [List.countP_append]
  cases f i with
  | false => simp
  | true =>
    simp only [List.countP_singleton, blt_chr hi hk]
    cases decide (i < k) <;> rfl
theorem bits255 (x : Int) : 0 ≤ bitsI .and .i64 x 255 ∧ bitsI .and .i64 x 255 < 256 := by
  unfold bitsI
  simp only []
  have h : ((BitVec.ofInt 64 x) &&& (BitVec.ofInt 64 255)).toNat < 256 := by
    rw [BitVec.toNat_and]
    have : (BitVec.ofInt 64 255).toNat = 255 := by decide
    rw [this]
    exact Nat.lt_succ_of_le Nat.and_le_right
  have e : IntKind.i64.bits = 64 := rfl
  show 0 ≤ IntKind.i64.wrap (((BitVec.ofInt 64 x) &&& (BitVec.ofInt 64 255)).toNat : Int) ∧ IntKind.i64.wrap (((BitVec.ofInt 64 x) &&& (BitVec.ofInt 64 255)).toNat : Int) < 256
  generalize ((BitVec.ofInt 64 x) &&& (BitVec.ofInt 64 255)).toNat = n at h ⊢
  have w : wrapI .i64 (n : Int) = n := wrap64 (by omega) (by omega)
  unfold wrapI at w
  rw [w]; omega
end Go.Am
namespace Go.Am
theorem chk_of' {b : Bool} {x : Prop} (h : b = true) : chk b x = x := by subst h; exact chk_true x
def nth (bl : List Bool) (j : Nat) : Bool := bl.getD j false
/-- what has been seen, in a row of its own -/
structure SeenAt (H : Hp) (l : Nat) (bl : List Bool) : Prop where
  row : H[l]? = some (.row true 24 (bl.map GV.bool))
  len : bl.length = 256
theorem SeenAt.mono {H H' : Hp} {l : Nat} {bl : List Bool} (h : SeenAt H l bl) (hp : H <+: H') : SeenAt H' l bl := ⟨pre_at hp (List.getElem?_eq_some_iff.1 h.row).1 ▸ h.row, h.len⟩
theorem SeenAt.rd {H : Hp} {l : Nat} {bl : List Bool} (h : SeenAt H l bl) {j : Nat} (hj : j < 256) (K : Bool → Prop) : (Am.rd H l (0 + tN (j : Int) * 1) fun v => dB v K) = K (nth bl j) := by
  have e : gt H l (0 + tN (j : Int) * 1) = some (.bool (nth bl j)) := by
    rw [gt_some h.row]
    have := h.len
    simp [tN, nth, List.getD, List.getElem?_eq_getElem (show j < bl.length by omega)]
  rw [rd_of e, dB_bool]
theorem byte_cell {i : Nat} (hi : i < 256) : [GV.int .u8 (wrapI .u8 (i : Int))] = u8s [UInt8.ofNat i] := by
  rw [wrap8_of (by omega) (by omega)]
  simp [u8s, UInt8.toNat_ofNat']
  omega
section
variable {Q : Post}
theorem NodeSlots_fin {H : Hp} {l : Nat} {bl : List Bool} (hs : SeenAt H l bl) {a : Pl} {n : Nat} (hk : Ss H a n (keyL (nth bl) 256)) {k : Nat} (hk' : k < 256) (hQ : ∀ H', Q (.g (.bool true)) H') (f : Nat) :
    law9_NodeSlots.l12 (f + 1) l 0 a n (slotN (keyL (nth bl) 256) (chr k) : Int) (k : Int) ((256 : Nat) : Int) H Q := by
  rw [law9_NodeSlots.l12_eq, bite_f (by simp)]
  rw [byte_cell hk', pu_def]
  have pp := pre_pu H (.row true 5 (u8s [UInt8.ofNat k]))
  have hs' := hs.mono pp
  have hk2 := hk.mono pp
  rw [rdN_of (cs := u8s [UInt8.ofNat k]) (by simp [cells?, u8s, ln_def]), txt_u8s]
  have hp := keyL_pw (nth bl) (Nat.le_refl 256)
  have e1 : slotB (keyL (nth bl) 256) (chr k) = nth bl k := by
    rw [Bool.eq_iff_iff, slotB_mem hp, keyL_mem _ hk']
  have e2 : slotB (keyL (nth bl) 256) (mkS []) = false := by
    cases h : slotB (keyL (nth bl) 256) (mkS []) with
    | false => rfl
    | true => exact absurd ((slotB_mem hp).1 h) (keyL_none _ _)
  refine node_Slot_spec hk2 ?_
  simp only [rT_tup, uR_cons, rS_s, dI_int, dB_bool, uE_nil]
  refine ref9_Slot_spec hk2 ?_
  simp only [rT_tup, uR_cons, rS_s, dI_int, dB_bool, uE_nil]
  refine node_Slot_spec hk2 ?_
  simp only [rT_tup, uR_cons, rS_s, dI_int, dB_bool, uE_nil]
  refine law0_Num_spec ?_
  simp only [rG_g, dI_int]
  rw [bite_t (by decide), bite_t (by unfold chr; simp), chk_of' (by simp; omega), hs'.rd hk']
  rw [show (mkS [UInt8.ofNat k]) = chr k from rfl, e1, e2, bite_t (by simp [eqB]), bite_t (by simp), bite_t (by simp [eqB])]
  exact hQ _
set_option maxRecDepth 10000 in
theorem NodeSlots_l12 {H0 : Hp} {l : Nat} {bl : List Bool} (hs : SeenAt H0 l bl) {k : Nat} (hk' : k < 256) (hQ : ∀ H', Q (.g (.bool true)) H') :
    ∀ (f i : Nat), 256 - i < f → i ≤ 256 → ∀ (H : Hp) (a : Pl) (n : Nat), H0 <+: H → Own H H0.length tS a n ((keyL (nth bl) i).map GV.str) →
    law9_NodeSlots.l12 f l 0 a n (slotN (keyL (nth bl) i) (chr k) : Int) (k : Int) (i : Int) H Q := by
  intro f
  induction f with
  | zero => intro i h; omega
  | succ f ih =>
    intro i hf hi H a n p0 ho
    have hn := ho.len
    rw [List.length_map] at hn
    have hle := keyL_len (nth bl) i
    rcases Nat.lt_or_ge i 256 with hi' | hge
    rotate_left
    · have e : i = 256 := Nat.le_antisymm hi hge
      rw [e] at ho hn hle ⊢
      exact NodeSlots_fin (hs.mono p0) ⟨ho.cells, hn.symm, by omega⟩ hk' hQ f
    rw [law9_NodeSlots.l12_eq, bite_t (by simp; omega), chk_of' (by simp; omega), (hs.mono p0).rd hi']
    have hsl : slotN (keyL (nth bl) i) (chr k) ≤ 256 := Nat.le_trans slotN_le (by omega)
    have nx := ih (i + 1) (by omega) (by omega)
    rw [keyL_succ, ← keyL_succ, slotN_succ _ hi' hk', keyL_succ] at nx
    cases e : nth bl i with
    | false =>
      rw [e] at nx
      rw [bite_f rfl, wrap_succ (by omega)]
      have := nx H a n p0 (by simpa using ho)
      simpa using this
    | true =>
      rw [e] at nx
      rw [bite_t rfl, byte_cell hi', pu_def]
      have pp := pre_pu H (.row true 5 (u8s [UInt8.ofNat i]))
      rw [rdN_of (cs := u8s [UInt8.ofNat i]) (by simp [cells?, u8s, ln_def]), txt_u8s, chk_true]
      refine ap_own (p0.trans pp) (ho.mono pp) (ds := [.str (chr i)]) rfl (by unfold Lim; omega) fun a' H' o' x' _ => ?_
      rw [wrap_succ (by omega), wrap_succ (by omega)]
      have o2 : Own H' H0.length tS a' (n + 1) ((keyL (nth bl) i ++ [chr i]).map GV.str) := by rw [List.map_append]; exact o'
      have := nx H' a' (n + 1) x'.pre o2
      refine bite_of (fun q => ?_) (fun q => ?_)
      · have : i < k := by simpa using q
        rw [decide_eq_true this] at *
        assumption
      · have : ¬ i < k := by simpa using q
        rw [decide_eq_false this] at *
        assumption
theorem NodeSlots_l5 {H0 : Hp} {l : Nat} {xs : List Int} {a : Pl} {n : Nat} (hx : Is H0 a n xs) (hl : H0.length ≤ l) {k : Nat} {at_ : Int} (hk : bitsI .and .i64 at_ 255 = (k : Int)) (hk' : k < 256) (hQ : ∀ H', Q (.g (.bool true)) H') :
    ∀ (f i : Nat), 300 - i < f → i ≤ 30 → ∀ (H : Hp) (bl : List Bool), H0 <+: H → SeenAt H l bl → law9_NodeSlots.l5 f a n at_ l 0 (i : Int) H Q := by
  intro f
  induction f with
  | zero => intro i h; omega
  | succ f ih =>
    intro i hf hi H bl p0 hs
    have hn := hx.len
    have fin : law9_NodeSlots.l12 f l 0 none 0 0 (bitsI .and .i64 at_ 255) 0 H Q := by
      rw [hk]
      exact NodeSlots_l12 hs hk' hQ f 0 (by omega) (by omega) H none 0 (List.prefix_refl _) (.inl ⟨rfl, rfl, rfl⟩)
    rw [law9_NodeSlots.l5_eq]
    refine bite_of (fun e1 => ?_) (fun _ => fin)
    refine bite_of (fun e2 => ?_) (fun _ => fin)
    have h1 : i < n := by simpa using e1
    have h2 : i < 30 := by have : (i : Int) < 30 := by simpa using e2
                           omega
    rw [chk_true, (hx.mono p0).rd i rfl (by omega)]
    obtain ⟨b1, b2⟩ := bits255 xs[i]
    rw [chk_of' (by simp; omega), wrap_succ (by omega)]
    have e := hs.len
    rw [wr_of hs.row (by rw [List.length_map, e]; simp [tN]; omega)]
    refine ih (i + 1) (by omega) (by omega) _ (bl.set (0 + tN (bitsI .and .i64 xs[i] 255) * 1) true) (pre_set p0 hl _) ⟨?_, by rw [List.length_set]; exact e⟩
    have hlt := (List.getElem?_eq_some_iff.1 hs.row).1
    rw [List.getElem?_set_self hlt, List.map_set]
set_option maxRecDepth 100000 in
theorem law9_NodeSlots_spec {H : Hp} {xs : List Int} {a : Pl} {n : Nat} (hx : Is H a n xs) {at_ : Int} (hQ : ∀ H', Q (.g (.bool true)) H') :
    law9_NodeSlots [.g (.sl a n 1), .g (.int .i64 at_)] H Q := by
  refine ⟨401, ?_⟩
  rw [law9_NodeSlots_eq]
  refine law9_awake_spec fun H1 p1 => ?_
  simp only [rG_g, dB_bool]
  rw [bite_f (by decide)]
  obtain ⟨b1, b2⟩ := bits255 at_
  obtain ⟨k, hk⟩ := Int.eq_ofNat_of_zero_le b1
  refine NodeSlots_l5 (hx.mono p1) (Nat.le_refl _) hk (by omega) hQ 400 0 (by omega) (by omega) _ (List.replicate 256 false) (pre_pu _ _) ⟨?_, by simp⟩
  rw [pu_def, List.getElem?_concat_length]
  rfl
end
end Go.Am
