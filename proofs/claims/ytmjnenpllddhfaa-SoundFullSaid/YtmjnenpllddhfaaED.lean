import Derived.Test.YtmjnenpllddhfaaEC
set_option linter.unusedVariables false
set_option linter.unusedSimpArgs false
namespace Go.Am

section
variable {H : Hp} {M F : List Pl} {P P' : List PC} {c : PC}
theorem Sp.sub (h : Sp H M F P) (hs : ∀ c ∈ P', c ∈ P) : Sp H M F P' := ⟨h.mm, h.mf, fun i c hc => h.mp i c (hs c hc), h.lm, h.lf, fun c hc => h.lp c (hs c hc)⟩
theorem Sp.addP (h : Sp H M F P) (hc : ∀ i l, c.on l → M.getD i none ≠ some (l, 0)) (hl : ∀ l, c.on l → l < H.length) : Sp H M F (P ++ [c]) :=
  ⟨h.mm, h.mf, fun i d hd l hon => by
    rcases List.mem_append.1 hd with q | q
    · exact h.mp i d q l hon
    · rw [List.mem_singleton.1 q] at hon; exact hc i l hon, h.lm, h.lf, fun d hd l hon => by
    rcases List.mem_append.1 hd with q | q
    · exact h.lp d q l hon
    · rw [List.mem_singleton.1 q] at hon; exact hl l hon⟩
theorem Own.ltAny {H : Hp} {b : Nat} {t : TypeId} {a : Pl} {n : Nat} {cs : List GV} (h : Own H b t a n cs) {l o : Nat} (e : a = some (l, o)) : l < H.length := by
  rcases h with ⟨q, _⟩ | ⟨m, q, _, hr, _⟩
  · rw [q] at e; cases e
  · rw [q] at e; cases e; exact (List.getElem?_eq_some_iff.1 hr).1
theorem Own.zero {H : Hp} {b : Nat} {t : TypeId} {a : Pl} {n : Nat} {cs : List GV} (h : Own H b t a n cs) {l o : Nat} (e : a = some (l, o)) : a = some (l, 0) := by
  rcases h with ⟨q, _⟩ | ⟨m, q, _, hr, _⟩
  · rw [q] at e; cases e
  · rw [q] at e; cases e; exact q
end

/-- a level of pages being built -/
structure BJ (B H : Hp) (tp : Nat) (tcs : List PC) (T : List Pg) (x : Pl) (n : Nat) (xcs : List PC) (xT : List Pg) (y : Pl) (yls : List ByteArray) (sa : Pl) (k : Nat) (ss : List Int)
    (up : Pl) (m : Nat) (ucs : List PC) (uT : List Pg) (ul : Pl) (m2 : Nat) (uls : List ByteArray) (kk : Pl) (ks : List ByteArray) (ii : Pl) (is : List Int) : Prop where
  pre : B <+: H
  TP : OT H B.length 34 (some (tp, 0)) 48 tcs T
  X : OT H B.length 34 x n xcs xT
  Y : Own H B.length 9 y n (yls.map GV.str)
  S : Own H B.length 3 sa k (ss.map (GV.int .i64))
  UP : OT H B.length 34 up m ucs uT
  UL : Own H B.length 9 ul m2 (uls.map GV.str)
  K : Own H B.length 9 kk ks.length (ks.map GV.str)
  I : Own H B.length 3 ii is.length (is.map (GV.int .i64))
  sp : Sp H [some (tp, 0), up, ul, kk, ii] [x, y, sa] (tcs ++ xcs ++ ucs)
section
variable {B H : Hp} {tp : Nat} {tcs : List PC} {T : List Pg} {x : Pl} {n : Nat} {xcs : List PC} {xT : List Pg} {y : Pl} {yls : List ByteArray} {sa : Pl} {k : Nat} {ss : List Int}
    {up : Pl} {m : Nat} {ucs : List PC} {uT : List Pg} {ul : Pl} {m2 : Nat} {uls : List ByteArray} {kk : Pl} {ks : List ByteArray} {ii : Pl} {is : List Int}
theorem BJ.kid (g : BJ B H tp tcs T x n xcs xT y yls sa k ss up m ucs uT ul m2 uls kk ks ii is) (s : Int) (hn : is.length ≤ 1000) {K : Pl → Nat → Hp → Prop}
    (hK : ∀ i' H', BJ B H' tp tcs T x n xcs xT y yls sa k ss up m ucs uT ul m2 uls kk ks i' (is ++ [s]) → K i' (is.length + 1) H') : ap H 3 1 8 ii is.length [.int .i64 s] 1 K :=
  ap_own g.pre g.I rfl (by unfold Lim; omega) fun i' H' o e f => hK i' H'
    ⟨e.pre, g.TP.ex e (g.sp.mm 4 0 (by decide)) (fun c hc l hl => g.sp.mp 4 c (by simp [hc]) l hl), g.X.ex e (g.sp.mf 4 x (by simp)) (fun c hc l hl => g.sp.mp 4 c (by simp [hc]) l hl), g.Y.after (g.sp.mf 4 y (by simp)) e, g.S.after (g.sp.mf 4 sa (by simp)) e,
     g.UP.ex e (g.sp.mm 4 1 (by decide)) (fun c hc l hl => g.sp.mp 4 c (by simp [hc]) l hl), g.UL.after (g.sp.mm 4 2 (by decide)) e, g.K.after (g.sp.mm 4 3 (by decide)) e, by rw [List.map_append, List.length_append]; exact o,
     g.sp.step e.len 4 (fun l o' q => ⟨f l o' q, o.ltAny q⟩)⟩
theorem BJ.key (g : BJ B H tp tcs T x n xcs xT y yls sa k ss up m ucs uT ul m2 uls kk ks ii is) (s : ByteArray) (hn : ks.length ≤ 1000) {K : Pl → Nat → Hp → Prop}
    (hK : ∀ k' H', BJ B H' tp tcs T x n xcs xT y yls sa k ss up m ucs uT ul m2 uls k' (ks ++ [s]) ii is → K k' (ks.length + 1) H') : ap H 9 1 16 kk ks.length [.str s] 1 K :=
  ap_own g.pre g.K rfl (by unfold Lim; omega) fun i' H' o e f => hK i' H'
    ⟨e.pre, g.TP.ex e (g.sp.mm 3 0 (by decide)) (fun c hc l hl => g.sp.mp 3 c (by simp [hc]) l hl), g.X.ex e (g.sp.mf 3 x (by simp)) (fun c hc l hl => g.sp.mp 3 c (by simp [hc]) l hl), g.Y.after (g.sp.mf 3 y (by simp)) e, g.S.after (g.sp.mf 3 sa (by simp)) e,
     g.UP.ex e (g.sp.mm 3 1 (by decide)) (fun c hc l hl => g.sp.mp 3 c (by simp [hc]) l hl), g.UL.after (g.sp.mm 3 2 (by decide)) e, by rw [List.map_append, List.length_append]; exact o, g.I.after (g.sp.mm 3 4 (by decide)) e,
     g.sp.step e.len 3 (fun l o' q => ⟨f l o' q, o.ltAny q⟩)⟩
theorem BJ.least (g : BJ B H tp tcs T x n xcs xT y yls sa k ss up m ucs uT ul m2 uls kk ks ii is) (s : ByteArray) (hn : m2 ≤ 1000) {K : Pl → Nat → Hp → Prop}
    (hK : ∀ k' H', BJ B H' tp tcs T x n xcs xT y yls sa k ss up m ucs uT k' (m2 + 1) (uls ++ [s]) kk ks ii is → K k' (m2 + 1) H') : ap H 9 1 16 ul m2 [.str s] 1 K :=
  ap_own g.pre g.UL rfl (by unfold Lim; omega) fun i' H' o e f => hK i' H'
    ⟨e.pre, g.TP.ex e (g.sp.mm 2 0 (by decide)) (fun c hc l hl => g.sp.mp 2 c (by simp [hc]) l hl), g.X.ex e (g.sp.mf 2 x (by simp)) (fun c hc l hl => g.sp.mp 2 c (by simp [hc]) l hl), g.Y.after (g.sp.mf 2 y (by simp)) e, g.S.after (g.sp.mf 2 sa (by simp)) e,
     g.UP.ex e (g.sp.mm 2 1 (by decide)) (fun c hc l hl => g.sp.mp 2 c (by simp [hc]) l hl), by rw [List.map_append]; exact o, g.K.after (g.sp.mm 2 3 (by decide)) e, g.I.after (g.sp.mm 2 4 (by decide)) e,
     g.sp.step e.len 2 (fun l o' q => ⟨f l o' q, o.ltAny q⟩)⟩
/-- a page done -/
theorem BJ.page (g : BJ B H tp tcs T x n xcs xT y yls sa k ss up m ucs uT ul m2 uls kk ks ii is) (hks : ks.length ≤ 1000) (his : is.length ≤ 1000) (hm : m ≤ 1000) {K : Pl → Nat → Hp → Prop}
    (hK : ∀ u' H' c, BJ B H' tp tcs T x n xcs xT y yls sa k ss u' (m + 1) (ucs ++ [c]) (uT ++ [⟨true, false, ks, [], is⟩]) ul m2 uls none [] none [] → K u' (m + 1) H') :
    ap H 34 5 80 up m [.bool true, .bool false, .sl kk ks.length 1, .sl none 0 1, .sl ii is.length 1] 1 K := by
  have hon : ∀ l, (⟨true, false, kk, ks.length, none, 0, ii, is.length⟩ : PC).on l → kk = some (l, 0) ∨ ii = some (l, 0) := by
    rintro l ⟨o, q | q | q⟩
    · exact .inl (g.K.zero q)
    · cases q
    · exact .inr (g.I.zero q)
  have hat : (⟨true, false, kk, ks.length, none, 0, ii, is.length⟩ : PC).at H ⟨true, false, ks, [], is⟩ :=
    ⟨rfl, rfl, ⟨g.K.cells, rfl, by show ks.length * 16 ≤ _; omega⟩, .nil _, ⟨g.I.cells, rfl, by show is.length * 8 ≤ _; omega⟩⟩
  refine g.UP.add (c := ⟨true, false, kk, ks.length, none, 0, ii, is.length⟩) g.pre hat (fun l hl e => by rcases hon l hl with q | q; exact g.sp.mm 1 3 (by decide) l e q; exact g.sp.mm 1 4 (by decide) l e q) (by unfold Lim; omega) fun u' H1 o1 e1 f1 => hK u' H1 ⟨true, false, kk, ks.length, none, 0, ii, is.length⟩ ?_
  have sp1 : Sp H [some (tp, 0), up, ul, none, none] [x, y, sa] (tcs ++ xcs ++ ucs) := (g.sp.step (Nat.le_refl _) 3 (a := none) (fun _ _ q => by cases q)).step (Nat.le_refl _) 4 (a := none) (fun _ _ q => by cases q)
  have sp2 := sp1.addP (c := ⟨true, false, kk, ks.length, none, 0, ii, is.length⟩) (fun i l hl e => by
    rcases hon l hl with q | q
    · match i, e with
      | 0, e => exact g.sp.mm 0 3 (by decide) l e q
      | 1, e => exact g.sp.mm 1 3 (by decide) l e q
      | 2, e => exact g.sp.mm 2 3 (by decide) l e q
      | 3, e => cases e
      | 4, e => cases e
      | i + 5, e => simp at e
    · match i, e with
      | 0, e => exact g.sp.mm 0 4 (by decide) l e q
      | 1, e => exact g.sp.mm 1 4 (by decide) l e q
      | 2, e => exact g.sp.mm 2 4 (by decide) l e q
      | 3, e => cases e
      | 4, e => cases e
      | i + 5, e => simp at e) (fun l hl => hat.lt hl)
  have sp3 := (sp2.sub (P' := tcs ++ xcs ++ (ucs ++ [⟨true, false, kk, ks.length, none, 0, ii, is.length⟩])) (fun c hc => by rw [List.append_assoc] at *; simpa using hc)).step e1.len 1 (a := u') (fun l o q => ⟨(f1 l o q).1, o1.own.ltAny q⟩)
  exact ⟨e1.pre, g.TP.ex e1 (g.sp.mm 1 0 (by decide)) (fun c hc l hl => g.sp.mp 1 c (by simp [hc]) l hl), g.X.ex e1 (g.sp.mf 1 x (by simp)) (fun c hc l hl => g.sp.mp 1 c (by simp [hc]) l hl), g.Y.after (g.sp.mf 1 y (by simp)) e1, g.S.after (g.sp.mf 1 sa (by simp)) e1,
    o1, g.UL.after (g.sp.mm 1 2 (by decide)) e1, .inl ⟨rfl, rfl, rfl⟩, .inl ⟨rfl, rfl, rfl⟩, sp3⟩
/-- a page put into the tree -/
theorem BJ.place (g : BJ B H tp tcs T x n xcs xT y yls sa k ss up m ucs uT ul m2 uls kk ks ii is) {i j : Nat} (hi : i < 48) {c : PC} {p : Pg} (hc : xcs[j]? = some c) (hp : xT[j]? = some p) {K : Hp → Prop}
    (hK : ∀ H' tcs', BJ B H' tp tcs' (T.set i p) x n xcs xT y yls sa k ss up m ucs uT ul m2 uls kk ks ii is → K H') :
    wr H tp (i * 5) (.bool c.u) fun H1 => wr H1 tp (i * 5 + 1) (.bool c.l) fun H2 => wr H2 tp (i * 5 + 1 + 1) (.sl c.a1 c.n1 1) fun H3 => wr H3 tp (i * 5 + 1 + 1 + 1) (.sl c.a2 c.n2 1) fun H4 => wr H4 tp (i * 5 + 1 + 1 + 1 + 1) (.sl c.a3 c.n3 1) K := by
  obtain ⟨hj, rfl⟩ := List.getElem?_eq_some_iff.1 hc
  obtain ⟨hj', rfl⟩ := List.getElem?_eq_some_iff.1 hp
  have hat := g.X.all j hj hj'
  have hmem : xcs[j] ∈ xcs := List.getElem_mem hj
  have hl := g.TP.len
  rcases g.TP.own with ⟨e, _⟩ | ⟨l, e, hb, hr, hlen⟩
  · cases e
  cases e
  have hoff : ∀ l, (xcs[j]).on l → l ≠ tp := fun l hl e => g.sp.mp 0 _ (by simp [hmem]) l hl (by rw [e]; rfl)
  refine wr5 hr (by omega) ?_
  have e : Ex B (some (tp, 0)) H (H.set tp (.row true 34 (pcells (tcs.set i xcs[j])))) := ⟨pre_set g.pre hb _, by simp, fun l _ hne => by rw [List.getElem?_set_ne]; intro q; subst q; exact hne rfl⟩
  refine hK _ (tcs.set i xcs[j]) ⟨e.pre, g.TP.place hi hat hoff, g.X.ex e (g.sp.mf 0 x (by simp)) (fun c hc l hl => g.sp.mp 0 c (by simp [hc]) l hl), g.Y.after (g.sp.mf 0 y (by simp)) e, g.S.after (g.sp.mf 0 sa (by simp)) e,
    g.UP.ex e (g.sp.mm 0 1 (by decide)) (fun c hc l hl => g.sp.mp 0 c (by simp [hc]) l hl), g.UL.after (g.sp.mm 0 2 (by decide)) e, g.K.after (g.sp.mm 0 3 (by decide)) e, g.I.after (g.sp.mm 0 4 (by decide)) e, (g.sp.grow e.len).sub fun c hc => ?_⟩
  simp only [List.mem_append] at hc ⊢
  rcases hc with (hc | hc) | hc
  · rcases List.mem_or_eq_of_mem_set hc with q | q
    · exact .inl (.inl q)
    · subst q; exact .inl (.inr hmem)
  · exact .inl (.inr hc)
  · exact .inr hc
end
end Go.Am
