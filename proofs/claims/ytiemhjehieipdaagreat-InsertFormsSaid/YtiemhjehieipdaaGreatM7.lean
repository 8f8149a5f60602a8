import Derived.Test.YtiemhjehieipdaaGreatM6
set_option linter.unusedVariables false
set_option linter.unusedSimpArgs false
namespace Go.Am

section
variable {B H : Hp} {le tp : Nat} {ds : List Am.PC} {T : List Pg} {X off : Nat → Prop} {fa : Pl} {ws : List Int} {Q : Post}
theorem GT.wt (g : GT B H tp ds T X off) {b : Nat} (hb' : b ≤ B.length) : WT H b H.length (some (tp, 0)) 48 := by
  obtain ⟨hb, hr⟩ := g.ot.at_row
  refine .inr ⟨tp, ds, rfl, ⟨by omega, (List.getElem?_eq_some_iff.1 hr).1⟩, hr, g.ot.len, by omega, fun c hc => ?_⟩
  obtain ⟨i, hi, rfl⟩ := List.getElem_of_mem hc
  exact ((g.wo i hi).base hb').s
theorem CT.gt (g : CT B H tPg (some (tp, 0)) 48 ds T) (hs : ∀ p ∈ T, small p) : GT B H tp ds T (fun _ => True) (fun _ => False) := by
  have q1 := g.ot.len
  have q2 := g.ot.lenT
  refine ⟨g.pre, g.ot, fun i h => (g.own i h (by omega)).wo (g.ot.all i h (by omega)) (hs _ (List.getElem_mem _)), fun i h l hl => ?_, fun i h h' _ => g.own i h h', g.ap, fun l h => h.elim⟩
  have ho := g.own i h (by omega)
  obtain ⟨o, e | e | e⟩ := hl
  · exact ho.keys.ge e
  · exact ho.vals.ge e
  · exact ho.kids.ge e

/-- what is behind a key put in -/
structure InsQ (T A : List Pg) (key v : ByteArray) : Prop where
  pos : 0 < heightD A
  ent : entD A = insK (entD T) key v
  len : A.length = 48
  was : (findK (entD T) key).isSome = true → ∃ i p, T[i]? = some p ∧ p.leaf = true ∧ slotB p.keys key = true ∧ A = T.set i (setP p key v)

set_option maxRecDepth 100000 in
/-- the key put in, the root split if it must be -/
theorem insert_end {key v : ByteArray} {P : List Nat} {d : Nat} (f : Nat) (m : WM B H le tp ds T (fun _ => True) fa ws) (w : Whole T d P (entD T)) (hp : ws.Perm (freeN T 48)) (hc : (insK (entD T) key v).length ≤ 60) (h1 : 1 ≤ key.size) (h2 : key.size ≤ 6) (h3 : v.size ≤ 10) {x8 : Pl} {n9 : Nat} {a2 : Pl} {n3 : Nat}
    (hQ : ∀ H' ds' T' X' off', GT B H' tp ds' T' X' off' → InsQ T T' key v → Q (.tup [.a [.sl (some (tp, 0)) 48 5], .s (.int .i64 0)]) H') :
    insert_Insert.l8 (f + 1) key v a2 n3 le 0 le 0 x8 n9 48 48 H Q := by
  obtain ⟨fr, cnt⟩ := w.frees hp
  have q1 := m.g.ot.len
  have q2 := m.g.ot.lenT
  obtain ⟨p0, hp0⟩ := w.sub.get
  rw [insert_Insert.l8_eq, bite_f (by decide)]
  refine ⟨d, put_spec h1 h2 h3 d (a := 0) m w.sub w.nodup (fun _ _ => trivial) fr hp0 (.inl (by have := w.count; omega)) fun H1 ds1 T1 P1 ws1 X1 r rp m1 pr hX1 hrp => ?_⟩
  have fi := pr.fin
  have q3 := m1.g.ot.len
  have q4 := m1.g.ot.lenT
  have rest1 : ∀ (i : Nat) p, T1[i]? = some p → i ∉ P1 → nothingB p = true := fun i p hp hi => by
    rw [fi.out i hi] at hp
    exact w.rest i p hp fun h => hi (fi.sub i h)
  have cnt1 := fi.count
  simp only [rG_g, dP_ptr]
  cases r with
  | none =>
    have hrp' : rp = none := hrp
    subst hrp'
    rw [isN0, bite_f (by decide), Nat.add_zero, rd_of m1.gtE, dL_sl]
    have w1 : Whole T1 d P1 (insK (entD T) key v) := ⟨by omega, fi.res, fi.nd, rest1, hc⟩
    refine hQ H1 ds1 T1 X1 _ m1.g ⟨w1.pos', w1.sound.2, by omega, fun hf => ?_⟩
    obtain ⟨_, _, _, i, p, _, r1, r2, r3, r4⟩ := pr.was hf
    exact ⟨i, p, r1, r2, r3, r4⟩
  | some sx =>
    obtain ⟨s, x⟩ := sx
    obtain ⟨lq, e, hq⟩ := hrp
    subst e
    obtain ⟨PX, psX, PY, psY, s1, s2, s3, s4, s5, s6, s7, s8, s9, s10⟩ := fi.res
    have hnf : ¬ (findK (entD T) key).isSome = true := fun h => by have := (pr.was h).1; cases this
    rw [isN1, bite_t (by decide), Nat.add_zero, rd_of m1.gtE, dL_sl, chk_true]
    refine chk_of (by decide) ?_
    obtain ⟨b0, b1, b2, b3, b4⟩ := m1.g.cells (i := 0) (by omega)
    have et0 : tN 0 = 0 := rfl
    rw [pS_some, et0, rdPage_of b0 b1 b2 b3 b4]
    have hpg := SubB.pages s1
    have hpg2 := SubB.pages s2
    have hPl : P1.length = PX.length + PY.length := by rw [s3]; simp
    have hql : psX.length + psY.length ≤ 60 := by rw [← s4] at hc; simpa using hc
    have hne : ws1 ≠ [] := fun e => by rw [e] at cnt1; simp at cnt1; omega
    refine take_raw m1 hne (fun y hy => ⟨by have := (fi.fr.rng y hy).1; omega, (fi.fr.rng y hy).2⟩) (c := ds1[0]'(by omega)) fun y init H2 hperm m2 l2 k2 => ?_
    obtain ⟨f1, f2, f3, f4, f5, f6, f7⟩ := fi.fr.pop hperm
    simp only [rG_g, dI_int]
    have hr2 := m2.g.ot.at_row.2
    have htp := (List.getElem?_eq_some_iff.1 hr2).1
    have hyl : y.toNat < ds1.length := by omega
    have y0 : y.toNat ≠ 0 := by omega
    have hle := m2.le_lt
    have hlet : le ≠ tp := (m2.g.off le (.inl rfl)).2.1
    have hlq2 : H2[lq]? = H1[lq]? := k2 lq fun h => by
      rcases h with rfl | ⟨o, e⟩
      · rcases m1.fre with ⟨_, e, _⟩ | ⟨lf, rest, e, hf⟩
        · exact hne e
        · exact half_ne hq hf.wr (by decide) rfl
      · rcases m1.fre with ⟨e', _, _⟩ | ⟨lf, rest, e', hf⟩
        · rw [e'] at e; cases e
        · rw [e'] at e; cases e
          exact half_ne hq hf.row (by decide) rfl
    have hq2 : H2[lq]? = some (.row true tHalf [.str s, .int .i64 x]) := by rw [hlq2]; exact hq
    have hlqt : lq ≠ tp := fun e => by rw [e, hr2] at hq2; simp at hq2; exact absurd hq2.1 (by decide)
    have hlq := (List.getElem?_eq_some_iff.1 hq2).1
    -- reading beside the rows that come
    have g0 : ∀ Z : List Obj, gt (H2.set tp (.row true tPg (pcells (ds1.set y.toNat (ds1[0]'(by omega))))) ++ Z) le 0 = some (.sl (some (tp, 0)) 48 5) := fun Z => by
      rw [← m2.gtE]; unfold gt
      rw [List.getElem?_append_left (by simpa using hle), List.getElem?_set_ne (Ne.symm hlet)]
    have gq0 : ∀ Z : List Obj, gt (H2.set tp (.row true tPg (pcells (ds1.set y.toNat (ds1[0]'(by omega))))) ++ Z) lq 0 = some (.str s) := fun Z => by
      have : gt H2 lq 0 = some (.str s) := by rw [gt_some hq2]; rfl
      rw [← this]; unfold gt
      rw [List.getElem?_append_left (by simpa using hlq), List.getElem?_set_ne (Ne.symm hlqt)]
    have gq1 : ∀ Z : List Obj, gt (H2.set tp (.row true tPg (pcells (ds1.set y.toNat (ds1[0]'(by omega))))) ++ Z) lq 1 = some (.int .i64 x) := fun Z => by
      have : gt H2 lq 1 = some (.int .i64 x) := by rw [gt_some hq2]; rfl
      rw [← this]; unfold gt
      rw [List.getElem?_append_left (by simpa using hlq), List.getElem?_set_ne (Ne.symm hlqt)]
    have z0 := g0 []
    have zq0 := gq0 []
    have zq1 := gq1 []
    rw [List.append_nil] at z0 zq0 zq1
    rw [rd_of z0, dL_sl, pS_some, Nat.add_zero, rd_of zq0, dS_str, pS_some, Nat.zero_add, rd_of zq1, dI_int]
    -- the last steps, for either order of the new rows
    have fin : ∀ (Z : List Obj) (lk ln' : Nat), Z.length = 2 → (H2 ++ Z)[lk]? = some (.row true tS [.str s]) → (H2 ++ Z)[ln']? = some (.row true tI [.int .i64 y, .int .i64 x]) → H2.length ≤ lk → H2.length ≤ ln' → lk ≠ ln' →
        wr (H2.set tp (.row true tPg (pcells (ds1.set y.toNat (ds1[0]'(by omega))))) ++ Z) tp (0 * 5) (.bool true) fun H66 => wr H66 tp (0 * 5 + 1) (.bool false) fun H67 => wr H67 tp (0 * 5 + 1 + 1) (.sl (some (lk, 0)) 1 1) fun H68 => wr H68 tp (0 * 5 + 1 + 1 + 1) (.sl none 0 1) fun H69 => wr H69 tp (0 * 5 + 1 + 1 + 1 + 1) (.sl (some (ln', 0)) 2 1) fun H70 =>
          rd H70 le 0 fun v71 => dL 5 v71 fun x72 n73 => Q (.tup [(.a [(.sl x72 n73 5)]), (.s (.int .i64 0))]) H70 := fun Z lk ln' hZ hk hn hlk hln hne' => by
      have ra : (H2.set tp (.row true tPg (pcells (ds1.set y.toNat (ds1[0]'(by omega))))) ++ Z)[tp]? = some (.row true tPg (pcells (ds1.set y.toNat (ds1[0]'(by omega))))) := by
        rw [List.getElem?_append_left (by simpa using htp)]; exact List.getElem?_set_self htp
      refine wr5 (i := 0) (c := ⟨true, false, some (lk, 0), 1, none, 0, some (ln', 0), 2⟩) ra (by simp; omega) ?_
      have eset : (H2.set tp (.row true tPg (pcells (ds1.set y.toNat (ds1[0]'(by omega))))) ++ Z) = (H2 ++ Z).set tp (.row true tPg (pcells (ds1.set y.toNat (ds1[0]'(by omega))))) := (List.set_append_left _ _ htp).symm
      rw [eset, List.set_set]
      have mZ := m2.mono (List.prefix_append H2 Z)
      have hBl := m2.g.pre.length_le
      have htpZ : tp < (H2 ++ Z).length := by rw [List.length_append]; omega
      have kp : ∀ (cs : List GV) l, l ≠ tp → ((H2 ++ Z).set tp (.row true tPg cs))[l]? = (H2 ++ Z)[l]? := fun cs l hl => by rw [List.getElem?_set_ne (Ne.symm hl)]
      have g1 : gt ((H2 ++ Z).set tp (.row true tPg (pcells ((ds1.set y.toNat (ds1[0]'(by omega))).set 0 ⟨true, false, some (lk, 0), 1, none, 0, some (ln', 0), 2⟩)))) le 0 = some (.sl (some (tp, 0)) 48 5) := by
        rw [← mZ.gtE]; unfold gt; rw [kp _ le hlet]
      rw [rd_of g1, dL_sl]
      -- the root, then the page that the root was
      have onr : ∀ l, (⟨true, false, some (lk, 0), 1, none, 0, some (ln', 0), 2⟩ : Am.PC).on l → l = lk ∨ l = ln' := fun l hl => by
        obtain ⟨o, e | e | e⟩ := hl
        · cases e; exact .inl rfl
        · cases e
        · cases e; exact .inr rfl
      have at0 : ∀ cs, (⟨true, false, some (lk, 0), 1, none, 0, some (ln', 0), 2⟩ : Am.PC).at ((H2 ++ Z).set tp (.row true tPg cs)) ⟨true, false, [s], [], [y, x]⟩ := fun cs => by
        have k1 : ((H2 ++ Z).set tp (.row true tPg cs))[lk]? = some (.row true tS [.str s]) := by rw [kp _ lk (by omega)]; exact hk
        have k2 : ((H2 ++ Z).set tp (.row true tPg cs))[ln']? = some (.row true tI [.int .i64 y, .int .i64 x]) := by rw [kp _ ln' (by omega)]; exact hn
        exact ⟨rfl, rfl, ⟨by simp [cells?, k1], rfl, by show 1 * 16 ≤ _; omega⟩, ⟨rfl, rfl, by show 0 * 16 ≤ _; omega⟩, ⟨by simp [cells?, k2], rfl, by show 2 * 8 ≤ _; omega⟩⟩
      have wo0 : ∀ cs, WoP ((H2 ++ Z).set tp (.row true tPg cs)) B.length 1000 ⟨true, false, some (lk, 0), 1, none, 0, some (ln', 0), 2⟩ := fun cs => by
        have k1 : ((H2 ++ Z).set tp (.row true tPg cs))[lk]? = some (.row true tS [.str s]) := by rw [kp _ lk (by omega)]; exact hk
        have k2 : ((H2 ++ Z).set tp (.row true tPg cs))[ln']? = some (.row true tI [.int .i64 y, .int .i64 x]) := by rw [kp _ ln' (by omega)]; exact hn
        refine ⟨.inr ⟨lk, 0, [s], rfl, by omega, k1, by simp, fun z hz => ?_⟩, .inl rfl, .inr ⟨ln', 0, [y, x], rfl, by omega, k2, by simp⟩, by show 1 ≤ 1000; omega, by show 0 ≤ 1000; omega, by show 2 ≤ 1000; omega⟩
        rw [List.mem_singleton.1 hz]; omega
      have t1 := mZ.g.turn (i := 0) (H' := (H2 ++ Z).set tp (.row true tPg (pcells (ds1.set 0 ⟨true, false, some (lk, 0), 1, none, 0, some (ln', 0), 2⟩)))) (c := ⟨true, false, some (lk, 0), 1, none, 0, some (ln', 0), 2⟩) (p := ⟨true, false, [s], [], [y, x]⟩) (X' := fun _ => False) (by omega) (by simp) (fun l _ _ hl _ => kp _ l hl) (List.getElem?_set_self htpZ) (at0 _) (wo0 _)
        (fun l hl => by
          have hl' : H2.length ≤ l := by rcases onr l hl with e | e <;> omega
          exact ⟨by omega, fun q => by have := m2.off_lt q; omega, by omega, fun j hj _ hon => by have := m2.g.onlt j hj hon; omega⟩) (fun j hj => hj.elim)
      have t2 := t1.turn (i := y.toNat) (H' := (H2 ++ Z).set tp (.row true tPg (pcells ((ds1.set 0 ⟨true, false, some (lk, 0), 1, none, 0, some (ln', 0), 2⟩).set y.toNat (ds1[0]'(by omega)))))) (c := ds1[0]'(by omega)) (p := T1[0]'(by omega)) (X' := fun _ => False) (by simp; omega) (by simp) (fun l _ _ hl _ => by rw [kp _ l hl, kp _ l hl]) (List.getElem?_set_self htpZ)
        ((mZ.g.ot.all 0 (by omega) (by omega)).keep fun l hl => kp _ l fun e => mZ.g.ot.off _ (List.getElem_mem (by omega)) l hl (by rw [e])) ((mZ.g.wo 0 (by omega)).keepOn fun l hl => kp _ l fun e => mZ.g.ot.off _ (List.getElem_mem (by omega)) l hl (by rw [e]))
        (fun l hl => by
          refine ⟨fun e => mZ.g.ot.off _ (List.getElem_mem (by omega)) l hl (by rw [e]), fun q => (mZ.g.off l q).2.2 0 (by omega) hl, mZ.g.base 0 (by omega) l hl, fun j hj hne2 hon => ?_⟩
          rw [List.getElem_set] at hon
          by_cases e : 0 = j
          · rw [if_pos e] at hon
            have := m2.g.onlt 0 (by omega) hl
            rcases onr l hon with z | z <;> omega
          · rw [if_neg e] at hon
            exact mZ.g.ap 0 j (by omega) (by simpa using hj) e l hl hon) (fun j hj => hj.elim)
      rw [List.set_comm _ _ (Ne.symm y0)] at t2
      have e0 : T1[0]? = some (T1[0]'(by omega)) := List.getElem?_eq_getElem (by omega)
      obtain ⟨P2, w2⟩ := root_up (y := y) s1 s2 s4 s5 s6 s7 ⟨s8, s9⟩ f2 (by rw [← s3]; exact fi.nd) (by rw [← s3]; exact f3) e0 (by omega) (fun i p hp hi => rest1 i p hp (by rw [s3]; exact hi)) hc
      exact hQ _ _ _ _ _ t2 ⟨w2.pos', w2.sound.2, by simp; omega, fun h => (hnf h).elim⟩
    have eln : ln (H2.set tp (.row true tPg (pcells (ds1.set y.toNat (ds1[0]'(by omega)))))) = H2.length := by simp [ln]
    have elp : ∀ o, ln (pu (H2.set tp (.row true tPg (pcells (ds1.set y.toNat (ds1[0]'(by omega)))))) o) = H2.length + 1 := fun o => by simp [ln, pu]
    refine ⟨?_, ?_⟩
    · simp only [pu_def]
      have A := gq1 [.row true 9 [.str s]]
      have A0 := g0 [.row true 9 [.str s]]
      rw [rd_of A, dI_int]
      refine ⟨rfl, ?_⟩
      rw [rd_of A0, dL_sl]
      refine ⟨rfl, ?_⟩
      rw [List.append_assoc]
      have B0 := gq0 ([Obj.row true 9 [.str s]] ++ [.row true 3 [.int .i64 y, .int .i64 x]])
      have B1 := g0 ([Obj.row true 9 [.str s]] ++ [.row true 3 [.int .i64 y, .int .i64 x]])
      rw [rd_of B0, dS_str]
      refine ⟨rfl, ?_⟩
      rw [rd_of B1, dL_sl]
      refine ⟨rfl, ?_⟩
      rw [chk_true]
      refine chk_of (by decide) ?_
      rw [pS_some]
      have F := fin ([Obj.row true 9 [.str s]] ++ [.row true 3 [.int .i64 y, .int .i64 x]]) H2.length (H2.length + 1) rfl (by simp) (by rw [← List.append_assoc, List.getElem?_append_right (by simp)]; simp) (Nat.le_refl _) (by omega) (by omega)
      simp only [ln_def, List.length_append, List.length_set, List.length_cons, List.length_nil, Nat.zero_add, Nat.add_zero] at F ⊢
      exact F
    · simp only [pu_def]
      have A := gq0 [.row true 3 [.int .i64 y, .int .i64 x]]
      have A0 := g0 [.row true 3 [.int .i64 y, .int .i64 x]]
      rw [rd_of A, dS_str]
      refine ⟨rfl, ?_⟩
      rw [rd_of A0, dL_sl]
      refine ⟨rfl, ?_⟩
      rw [List.append_assoc]
      have B0 := gq1 ([Obj.row true 3 [.int .i64 y, .int .i64 x]] ++ [.row true 9 [.str s]])
      have B1 := g0 ([Obj.row true 3 [.int .i64 y, .int .i64 x]] ++ [.row true 9 [.str s]])
      rw [rd_of B0, dI_int]
      refine ⟨rfl, ?_⟩
      rw [rd_of B1, dL_sl]
      refine ⟨rfl, ?_⟩
      rw [chk_true]
      refine chk_of (by decide) ?_
      rw [pS_some]
      have F := fin ([Obj.row true 3 [.int .i64 y, .int .i64 x]] ++ [.row true 9 [.str s]]) (H2.length + 1) H2.length rfl (by rw [← List.append_assoc, List.getElem?_append_right (by simp)]; simp) (by simp) (by omega) (Nat.le_refl _) (by omega)
      simp only [ln_def, List.length_append, List.length_set, List.length_cons, List.length_nil, Nat.zero_add, Nat.add_zero] at F ⊢
      exact F
end
end Go.Am
namespace Go.Am

section
variable {B H : Hp} {le tp : Nat} {ds : List Am.PC} {T : List Pg} {Q : Post} {key v : ByteArray} {P : List Nat} {d : Nat}
set_option maxRecDepth 100000 in
theorem insert_loop (w : Whole T d P (entD T)) (hc : (insK (entD T) key v).length ≤ 60) (h1 : 1 ≤ key.size) (h2 : key.size ≤ 6) (h3 : v.size ≤ 10) {a2 : Pl} {n3 : Nat}
    (hQ : ∀ H' ds' T' X' off', GT B H' tp ds' T' X' off' → InsQ T T' key v → Q (.tup [.a [.sl (some (tp, 0)) 48 5], .s (.int .i64 0)]) H') :
    ∀ (f k : Nat) (fa : Pl) (ws : List Int) (H : Hp), 48 - k < f → k ≤ 48 → GT B H tp ds T (fun _ => True) (offW le fa) → FA H B.length le (.sl (some (tp, 0)) 48 5) fa ws → ws.Perm (freeN T k) → insert_Insert.l8 f key v a2 n3 le 0 le 0 (some (tp, 0)) 48 48 (k : Int) H Q := by
  intro f
  induction f with
  | zero => intro k _ _ _ h; omega
  | succ f ih =>
    intro k fa ws H hf hk g hfa hp
    have q1 := g.ot.len
    have q2 := g.ot.lenT
    by_cases hk48 : k = 48
    · subst hk48
      refine insert_end f ⟨g, ?_⟩ w hp hc h1 h2 h3 hQ
      rcases hfa with h | ⟨lf, e, hb, h⟩
      · exact .inl h
      · exact .inr ⟨lf, [], e, h⟩
    · obtain ⟨c0, c1, c2, c3, c4⟩ := g.cells (i := k) (by omega)
      have etN : tN (k : Int) = k := rfl
      rw [insert_Insert.l8_eq, bite_t (by simp; omega), chk_true]
      refine chk_of (by simp; omega) ?_
      rw [pS_some, etN, rdPage_of c0 c1 c2 c3 c4, wrap_succ (by omega)]
      have hat := g.ot.all k (by omega) (by omega)
      have hu : usedAt T k = ds[k].u := by
        unfold usedAt
        rw [List.getElem?_eq_getElem (by omega)]
        exact hat.used
      refine bite_of (fun e => ?_) (fun e => ?_)
      · have e : usedAt T k = false := by rw [hu]; cases h : ds[k].u <;> simp_all
        have hlw : ws.length < 1000 := by
          have := hp.length_eq
          have h2 : (freeN T k).length ≤ k := by
            unfold freeN
            rw [List.length_map]
            have := List.length_filter_le (fun i => !usedAt T i) (List.range k)
            rwa [List.length_range] at this
          omega
        rw [Nat.zero_add]
        refine heap_Push_spec hfa g.pre.length_le hlw fun lf ws' H' hperm hfa' hlf hlf' hkeep => ?_
        have htp := (List.getElem?_eq_some_iff.1 g.ot.at_row.2).1
        refine ih (k + 1) (some (lf, 0)) ws' H' (by omega) (by omega) ((g.keep (fun l hl hno => hkeep l hl (fun q => hno (.inl q)) (fun o q => hno (.inr ⟨o, q⟩))) (by omega)).reoff fun l hl => ?_) hfa' ?_
        · rcases hl with rfl | ⟨o, e⟩
          · exact g.off _ (.inl rfl)
          · have e : lf = l := by cases e; rfl
            subst e
            exact ⟨by have := g.pre.length_le; omega, by omega, fun i hi hon => by have := g.onlt i hi hon; omega⟩
        · rw [freeN_succ, e]
          exact hperm.trans (hp.append_right _)
      · have e : usedAt T k = true := by rw [hu]; cases h : ds[k].u <;> simp_all
        exact ih (k + 1) fa ws H (by omega) (by omega) g hfa (by rw [freeN_succ, e, List.append_nil]; exact hp)

variable {x : Pl} {n : Nat} {cs : List Am.PC}
set_option maxRecDepth 100000 in
theorem insert_Insert_spec (hT : Tr H x n cs T) (hn : n * 80 ≤ 140737488351232) (hQ1 : ∀ H', insE T key v ≠ 0 → H <+: H' → Q (.tup [.a [.sl none 0 5], .s (.int .i64 (insE T key v))]) H')
    (hQ2 : insE T key v = 0 → 0 < heightD T → ∀ a ds A H', H <+: H' → Tr H' a 48 ds A → InsQ T A key v → WT H' H.length H'.length a 48 → Q (.tup [.a [.sl a 48 5], .s (.int .i64 0)]) H') :
    insert_Insert [.agg [.sl x n 5], .g (.str key), .g (.str v)] H Q := by
  have pA := pre_pu H (.row true 24 [(.sl x n 5)])
  have g0 : gt (pu H (.row true 24 [(.sl x n 5)])) (ln H) 0 = some (.sl x n 5) := by simp [gt, pu, ln]
  refine ⟨60, ?_⟩
  rw [insert_Insert_eq, rd_of g0, dL_sl]
  have hTA := hT.mono pA
  refine sound_Sound_spec hTA fun H1 p1 => ?_
  simp only [rG_g, dB_bool]
  have bad : ∀ H', H <+: H' → formE T key v = false → Q (.tup [.a [.sl none 0 5], .s (.int .i64 1200)]) H' := fun H' p e => by
    have e2 : insE T key v = 1200 := by unfold insE; rw [e]
    rw [e2] at hQ1
    exact hQ1 H' (by decide) p
  have pH1 : H <+: H1 := pA.trans p1
  by_cases e0 : 0 < heightD T
  rotate_left
  · rw [decide_eq_false e0, bite_t (by decide)]
    exact bad _ pH1 (by unfold formE; rw [decide_eq_false e0]; rfl)
  rw [decide_eq_true e0, bite_f (by decide)]
  refine page_Key_spec ?_
  simp only [rG_g, dB_bool]
  by_cases k12 : 1 ≤ key.size ∧ key.size ≤ 6
  rotate_left
  · have e : (decide (1 ≤ key.size) && decide (key.size ≤ 6)) = false := by
      rw [Bool.and_eq_false_iff]
      by_cases q : 1 ≤ key.size
      · exact .inr (decide_eq_false fun z => k12 ⟨q, z⟩)
      · exact .inl (decide_eq_false q)
    rw [e, bite_t (by decide)]
    exact bad _ pH1 (by unfold formE; rw [← Bool.and_assoc (decide (1 ≤ key.size)), e]; simp)
  obtain ⟨k1, k2⟩ := k12
  rw [decide_eq_true k1, decide_eq_true k2, bite_f (by decide)]
  refine page_Value_spec ?_
  simp only [rG_g, dB_bool]
  by_cases k3 : v.size ≤ 10
  rotate_left
  · rw [decide_eq_false k3, bite_t (by decide)]
    exact bad _ pH1 (by unfold formE; rw [decide_eq_false k3]; simp)
  rw [decide_eq_true k3, bite_f (by decide)]
  have hform : formE T key v = true := by unfold formE; simp; omega
  have hins : insE T key v = match (findK (entD T) key).isNone && decide (60 ≤ (entD T).length) with | true => 1201 | false => 0 := by unfold insE; rw [hform]; rfl
  obtain ⟨P, w⟩ := whole_of e0
  have hn48 : n = 48 := by have := hT.lenT; have := w.len; omega
  subst hn48
  have hs := small_sound e0
  have hc60 := w.count
  have g1 : gt H1 (ln H) 0 = some (.sl x 48 5) := gt_pre p1 g0
  rw [rd_of g1, dL_sl]
  refine find_Find_spec (hTA.mono p1) fun H2 p2 => ?_
  simp only [rT_tup, uR_cons, rS_s, dS_str, dB_bool, dI_int, uE_nil]
  have g2 : gt H2 (ln H) 0 = some (.sl x 48 5) := gt_pre p2 g1
  have pH2 : H <+: H2 := pH1.trans p2
  rw [findE_of e0]
  -- the work
  have work : insE T key v = 0 → (insK (entD T) key v).length ≤ 60 → ∀ H3, H2 <+: H3 → (rd H3 (ln H) 0 fun v37 => dL 5 v37 fun x38 n39 => cl sound_Copy [(.agg [(.sl x38 n39 5)])] H3 fun r40 H41 => rA r40 fun c42 => uC c42 fun v43 c44 => dL 5 v43 fun x45 n46 => uN c44 (rd (pu H41 (.row true 100 [(.sl x45 n46 5), (.sl none 0 1)])) (ln H41) 0 fun v47 => dL 5 v47 fun x48 n49 =>
      insert_Insert.l8 59 key v none 0 (ln H41) 0 (ln H41) 0 x48 n49 (nI n49) 0 (pu H41 (.row true 100 [(.sl x45 n46 5), (.sl none 0 1)])) Q)) := fun hz hc H3 p3 => by
    have g3 : gt H3 (ln H) 0 = some (.sl x 48 5) := gt_pre p3 g2
    rw [rd_of g3, dL_sl]
    refine sound_Copy_spec (hTA.mono (p1.trans (p2.trans p3))) (by omega) hs fun a' ds H4 g => ?_
    simp only [rA_agg, uC_cons, dL_sl, uN_nil]
    have q1 := g.ot.len
    obtain ⟨tp, ea, hb, hr, _⟩ := own_row g.ot.own (by omega)
    subst ea
    have p4 := g.pre
    have pr := pre_pu H4 (.row true 100 [(.sl (some (tp, 0)) 48 5), (.sl none 0 1)])
    have g4 : gt (pu H4 (.row true 100 [(.sl (some (tp, 0)) 48 5), (.sl none 0 1)])) (ln H4) 0 = some (.sl (some (tp, 0)) 48 5) := by simp [gt, pu, ln]
    rw [rd_of g4, dL_sl]
    have gg := (g.gt hs).mono pr
    have htp := (List.getElem?_eq_some_iff.1 hr).1
    have G : GT H3 (pu H4 (.row true 100 [(.sl (some (tp, 0)) 48 5), (.sl none 0 1)])) tp ds T (fun _ => True) (offW (ln H4) none) := gg.reoff fun l hl => by
      rcases hl with rfl | ⟨o, e⟩
      · refine ⟨g.pre.length_le, by unfold ln; omega, fun i hi hon => ?_⟩
        have := (g.gt hs).onlt i hi hon
        unfold ln at this; omega
      · cases e
    refine insert_loop w hc k1 k2 k3 (fun H' ds' T' X' off' gt' q => ?_) 59 0 none [] _ (by omega) (by omega) G (.inl ⟨rfl, rfl, by simp [pu, ln]⟩) (List.Perm.refl _)
    have hpre : H <+: H' := (pH2.trans p3).trans gt'.pre
    exact hQ2 hz e0 _ _ _ _ hpre gt'.ot.tr q (gt'.wt (pH2.trans p3).length_le)
  cases hf : (findK (entD T) key).isSome with
  | false =>
    have hfn : (findK (entD T) key).isNone = true := by cases h : findK (entD T) key with | none => rfl | some _ => rw [h] at hf; cases hf
    rw [bite_t (by decide)]
    refine entries_spec (hTA.mono (p1.trans p2)) g2 (by omega) hs ?_
    simp only [rG_g, dI_int]
    rw [leafSum_used e0]
    by_cases h60 : 60 ≤ (entD T).length
    · rw [bite_t (by simp; omega)]
      have e2 : insE T key v = 1201 := by rw [hins, hfn, decide_eq_true h60]; rfl
      rw [e2] at hQ1
      exact hQ1 _ (by decide) pH2
    · rw [bite_f (by simp; omega)]
      exact work (by rw [hins, hfn, decide_eq_false h60]; rfl) (by have := insK_le (k := key) (v := v) w.sub.asc.1; omega) H2 (List.prefix_refl _)
  | true =>
    have hfn : (findK (entD T) key).isNone = false := by cases h : findK (entD T) key with | none => rw [h] at hf; cases hf | some _ => rfl
    rw [bite_f (by decide)]
    exact work (by rw [hins, hfn]; rfl) (by rw [insK_len w.sub.asc.1, hfn]; omega) H2 (List.prefix_refl _)
end
end Go.Am
namespace Go.Am
/-! 25: cryostat/cryostatlaw12.awake -/
def law12_awake.cx : Cx := ⟨tys, [], [], [], [(28, ref9_New), (23, insert_Insert), (26, ref9_All), (17, law0_Num), (27, law0_SamePairs)], noDyn, [.tmp 0]⟩
def law12_awake : Sm := fun xs H Q => ∃ k, callK (law12_awake.cx) Go.Proofs.Tryz.f25 k xs H Q
theorem law12_awake_eq (k : Nat)  (H : Hp) (Q : Post) : callK (law12_awake.cx) Go.Proofs.Tryz.f25 (k + 1) [] H Q = (
 cl ref9_New [] H fun r0 H1 =>
 rA r0 fun c2 =>
 uC c2 fun v3 c4 =>
 dL 5 v3 fun x5 n6 =>
 uN c4 (cl insert_Insert [(.agg [(.sl x5 n6 5)]), (.g (.str (mkS [98]))), (.g (.str (mkS [49])))] H1 fun r7 H8 =>
 rT r7 fun c9 =>
 uR c9 fun q10 c11 =>
 rC q10 fun c12 =>
 uC c12 fun v13 c14 =>
 dL 5 v13 fun x15 n16 =>
 uN c14 (uR c11 fun q17 c18 =>
 rS q17 fun v19 =>
 dI .i64 v19 fun i20 =>
 uE c18 (cl insert_Insert [(.agg [(.sl x15 n16 5)]), (.g (.str (mkS [97]))), (.g (.str (mkS [50])))] H8 fun r21 H22 =>
 rT r21 fun c23 =>
 uR c23 fun q24 c25 =>
 rC q24 fun c26 =>
 uC c26 fun v27 c28 =>
 dL 5 v27 fun x29 n30 =>
 uN c28 (uR c25 fun q31 c32 =>
 rS q31 fun v33 =>
 dI .i64 v33 fun i34 =>
 uE c32 (cl insert_Insert [(.agg [(.sl x29 n30 5)]), (.g (.str (mkS [98]))), (.g (.str (mkS [51])))] H22 fun r35 H36 =>
 rT r35 fun c37 =>
 uR c37 fun q38 c39 =>
 rC q38 fun c40 =>
 uC c40 fun v41 c42 =>
 dL 5 v41 fun x43 n44 =>
 uN c42 (uR c39 fun q45 c46 =>
 rS q45 fun v47 =>
 dI .i64 v47 fun i48 =>
 uE c46 (cl insert_Insert [(.agg [(.sl x29 n30 5)]), (.g (.str (mkS []))), (.g (.str (mkS [])))] H36 fun r49 H50 =>
 rT r49 fun c51 =>
 uR c51 fun q52 c53 =>
 rC q52 fun c54 =>
 uC c54 fun v55 c56 =>
 dL 5 v55 fun x57 n58 =>
 uN c56 (uR c53 fun q59 c60 =>
 rS q59 fun v61 =>
 dI .i64 v61 fun i62 =>
 uE c60 (cl insert_Insert [(.agg [(.sl none 0 5)]), (.g (.str (mkS [97]))), (.g (.str (mkS [])))] H50 fun r63 H64 =>
 rT r63 fun c65 =>
 uR c65 fun q66 c67 =>
 rC q66 fun c68 =>
 uC c68 fun v69 c70 =>
 dL 5 v69 fun x71 n72 =>
 uN c70 (uR c67 fun q73 c74 =>
 rS q73 fun v75 =>
 dI .i64 v75 fun i76 =>
 uE c74 (cl ref9_All [(.agg [(.sl x43 n44 5)])] H64 fun r77 H78 =>
 rT r77 fun c79 =>
 uR c79 fun q80 c81 =>
 rS q80 fun v82 =>
 dL 2 v82 fun x83 n84 =>
 uR c81 fun q85 c86 =>
 rS q85 fun v87 =>
 dI .i64 v87 fun i88 =>
 uE c86 (cl law0_Num [(.g (.int .i64 i20))] H78 fun r89 H90 =>
 rG r89 fun v91 =>
 dI .i64 v91 fun i92 =>
 bite (eqI i92 0)
 (cl law0_Num [(.g (.int .i64 i34))] H90 fun r93 H94 =>
  rG r93 fun v95 =>
  dI .i64 v95 fun i96 =>
  bite (eqI i96 0)
  (cl law0_Num [(.g (.int .i64 i48))] H94 fun r97 H98 =>
   rG r97 fun v99 =>
   dI .i64 v99 fun i100 =>
   bite (eqI i100 0)
   (cl law0_Num [(.g (.int .i64 i62))] H98 fun r101 H102 =>
    rG r101 fun v103 =>
    dI .i64 v103 fun i104 =>
    bite (eqI i104 1200)
    (cl law0_Num [(.g (.int .i64 i76))] H102 fun r105 H106 =>
     rG r105 fun v107 =>
     dI .i64 v107 fun i108 =>
     bite (eqI i108 1200)
     (bite (eqI i88 0)
      (cl law0_SamePairs [(.g (.sl x83 n84 2)), (.g (.sl (some ((ln H106), 0)) 2 2))] (pu H106 (.row false 1000003 [(.str (mkS [97])), (.str (mkS [50])), (.str (mkS [98])), (.str (mkS [51]))])) fun r109 H110 =>
       rG r109 fun v111 =>
       dB v111 fun b112 =>
       Q (.g (.bool b112)) H110)
      (Q (.g (.bool false)) H106))
     (Q (.g (.bool false)) H106))
    (Q (.g (.bool false)) H102))
   (Q (.g (.bool false)) H98))
  (Q (.g (.bool false)) H94))
 (Q (.g (.bool false)) H90)))))))))))))) := by kernel_rfl
theorem law12_awake_ok : Sound Go.Proofs.Tryz.prog 25 (law12_awake) := prog_ok.sound (cx := law12_awake.cx) rfl (EnvOK.cons ((ref9_New_ok).c ⟨_, Go.Proofs.Tryz.func28, by kernel_rfl, by kernel_rfl⟩) (EnvOK.cons ((insert_Insert_ok).c ⟨_, Go.Proofs.Tryz.func23, by kernel_rfl, by kernel_rfl⟩) (EnvOK.cons ((ref9_All_ok).c ⟨_, Go.Proofs.Tryz.func26, by kernel_rfl, by kernel_rfl⟩) (EnvOK.cons ((law0_Num_ok).c ⟨_, Go.Proofs.Tryz.func17, by kernel_rfl, by kernel_rfl⟩) (EnvOK.cons ((law0_SamePairs_ok).c ⟨_, Go.Proofs.Tryz.func27, by kernel_rfl, by kernel_rfl⟩) (EnvOK.nil _)))))) (noDyn_ok _) Go.Proofs.Tryz.func25 rfl

/-! 6: cryostat/cryostatlaw12.InsertForms -/
def law12_InsertForms.cx : Cx := ⟨tys, [37, 46], [(11, [0, 8, 10, 12, 13, 14, 15, 16])], [], [(25, law12_awake), (28, ref9_New), (23, insert_Insert), (29, law12_letters), (30, ref9_Build), (17, law0_Num), (31, ref9_Sound)], noDyn, [.tmp 4]⟩
def law12_InsertForms : Sm := fun xs H Q => ∃ k, callK (law12_InsertForms.cx) Go.Proofs.Tryz.f6 k xs H Q
def law12_InsertForms.l11 (k : Nat) (ix0 : Int) (ix1 : Int) (ix2 : Int) (ix3 : Int) (xx4 : Pl) (nx5 : Nat) (ix6 : Int) (ax7 : Pl) (nx8 : Nat) (ix9 : Int) (H : Hp) (Q : Post) : Prop := loopK (law12_InsertForms.cx) Go.Proofs.Tryz.f6 11 k ((.g (.int .i64 ix0)) :: B 7 ((.g (.int .i64 ix1)) :: .bad :: (.g (.int .i64 ix2)) :: .bad :: (.g (.int .i64 ix3)) :: (.bx [(.sl xx4 nx5 5)]) :: (.g (.int .i64 ix6)) :: (.g (.sl ax7 nx8 2)) :: (.g (.int .i64 ix9)) :: B 104 ([]))) H Q
theorem law12_InsertForms_eq (k : Nat) (z0 : Int) (z1 : Int) (H : Hp) (Q : Post) : callK (law12_InsertForms.cx) Go.Proofs.Tryz.f6 (k + 1) [.g (.int .i64 z0), .g (.int .i64 z1)] H Q = (
 cl law12_awake [] H fun r0 H1 =>
 rG r0 fun v2 =>
 dB v2 fun b3 =>
 bite (!b3)
 (Q (.g (.bool false)) H1)
 (cl ref9_New [] H1 fun r4 H5 =>
  rA r4 fun c6 =>
  uC c6 fun v7 c8 =>
  dL 5 v7 fun x9 n10 =>
  uN c8 (cl insert_Insert [(.agg [(.sl x9 n10 5)]), (.g (.str (mkS []))), (.g (.str (mkS [])))] H5 fun r11 H12 =>
  rT r11 fun c13 =>
  uR c13 fun q14 c15 =>
  rC q14 fun c16 =>
  uC c16 fun v17 c18 =>
  dL 5 v17 fun x19 n20 =>
  uN c18 (uR c15 fun q21 c22 =>
  rS q21 fun v23 =>
  dI .i64 v23 fun i24 =>
  uE c22 (chk (((eqI (wrapI .i64 (6 + (wrapI .i64 (1 + (bitsI .and .i64 z1 63))))) (wrapI .i64 (6 + (wrapI .i64 (1 + (bitsI .and .i64 z1 63)))))) && (leI 0 (wrapI .i64 (6 + (wrapI .i64 (1 + (bitsI .and .i64 z1 63))))))) && (leI ((wrapI .i64 (6 + (wrapI .i64 (1 + (bitsI .and .i64 z1 63))))) * 1) (nI 140737488355328))) (rdN (pu H12 (.row true 5 (repN (tN (wrapI .i64 (6 + (wrapI .i64 (1 + (bitsI .and .i64 z1 63)))))) [(.int .u8 0)]))) (some ((ln H12), 0)) (tN (wrapI .i64 (6 + (wrapI .i64 (1 + (bitsI .and .i64 z1 63)))))) fun c25 =>
  txt c25 fun s26 =>
  cl insert_Insert [(.agg [(.sl x9 n10 5)]), (.g (.str s26)), (.g (.str (mkS [])))] (pu H12 (.row true 5 (repN (tN (wrapI .i64 (6 + (wrapI .i64 (1 + (bitsI .and .i64 z1 63)))))) [(.int .u8 0)]))) fun r27 H28 =>
  rT r27 fun c29 =>
  uR c29 fun q30 c31 =>
  rC q30 fun c32 =>
  uC c32 fun v33 c34 =>
  dL 5 v33 fun x35 n36 =>
  uN c34 (uR c31 fun q37 c38 =>
  rS q37 fun v39 =>
  dI .i64 v39 fun i40 =>
  uE c38 (chk (((eqI (wrapI .i64 (10 + (wrapI .i64 (1 + (bitsI .and .i64 z1 63))))) (wrapI .i64 (10 + (wrapI .i64 (1 + (bitsI .and .i64 z1 63)))))) && (leI 0 (wrapI .i64 (10 + (wrapI .i64 (1 + (bitsI .and .i64 z1 63))))))) && (leI ((wrapI .i64 (10 + (wrapI .i64 (1 + (bitsI .and .i64 z1 63))))) * 1) (nI 140737488355328))) (rdN (pu H28 (.row true 5 (repN (tN (wrapI .i64 (10 + (wrapI .i64 (1 + (bitsI .and .i64 z1 63)))))) [(.int .u8 0)]))) (some ((ln H28), 0)) (tN (wrapI .i64 (10 + (wrapI .i64 (1 + (bitsI .and .i64 z1 63)))))) fun c41 =>
  txt c41 fun s42 =>
  cl insert_Insert [(.agg [(.sl x9 n10 5)]), (.g (.str (mkS [97]))), (.g (.str s42))] (pu H28 (.row true 5 (repN (tN (wrapI .i64 (10 + (wrapI .i64 (1 + (bitsI .and .i64 z1 63)))))) [(.int .u8 0)]))) fun r43 H44 =>
  rT r43 fun c45 =>
  uR c45 fun q46 c47 =>
  rC q46 fun c48 =>
  uC c48 fun v49 c50 =>
  dL 5 v49 fun x51 n52 =>
  uN c50 (uR c47 fun q53 c54 =>
  rS q53 fun v55 =>
  dI .i64 v55 fun i56 =>
  uE c54 (txt [(.int .u8 0), (.int .u8 0), (.int .u8 0), (.int .u8 0), (.int .u8 0), (.int .u8 0)] fun s57 =>
  txt [(.int .u8 0), (.int .u8 0), (.int .u8 0), (.int .u8 0), (.int .u8 0), (.int .u8 0), (.int .u8 0), (.int .u8 0), (.int .u8 0), (.int .u8 0)] fun s58 =>
  cl insert_Insert [(.agg [(.sl x9 n10 5)]), (.g (.str s57)), (.g (.str s58))] H44 fun r59 H60 =>
  rT r59 fun c61 =>
  uR c61 fun q62 c63 =>
  rC q62 fun c64 =>
  uC c64 fun v65 c66 =>
  dL 5 v65 fun x67 n68 =>
  uN c66 (uR c63 fun q69 c70 =>
  rS q69 fun v71 =>
  dI .i64 v71 fun i72 =>
  uE c70 (law12_InsertForms.l11 k z0 i24 i40 i56 x67 n68 i72 none 0 0 H60 Q))))))))))))) := by kernel_rfl
theorem law12_InsertForms.l11_eq (k : Nat) (ix0 : Int) (ix1 : Int) (ix2 : Int) (ix3 : Int) (xx4 : Pl) (nx5 : Nat) (ix6 : Int) (ax7 : Pl) (nx8 : Nat) (ix9 : Int) (H : Hp) (Q : Post) : law12_InsertForms.l11 (k + 1) ix0 ix1 ix2 ix3 xx4 nx5 ix6 ax7 nx8 ix9 H Q = (
 bite (ltI ix9 60)
 (cl law12_letters [(.g (.int .i64 ix9))] H fun r0 H1 =>
  rG r0 fun v2 =>
  dS v2 fun s3 =>
  chk true (ap H1 60 2 32 ax7 nx8 [(.str s3), (.str (mkS []))] 1 fun x4 n5 H6 =>
  law12_InsertForms.l11 k ix0 ix1 ix2 ix3 xx4 nx5 ix6 x4 n5 (wrapI .i64 (ix9 + 1)) H6 Q))
 (cl ref9_Build [(.g (.sl ax7 nx8 2))] H fun r7 H8 =>
  rA r7 fun c9 =>
  uC c9 fun v10 c11 =>
  dL 5 v10 fun x12 n13 =>
  uN c11 (cl insert_Insert [(.agg [(.sl x12 n13 5)]), (.g (.str (mkS [122, 122]))), (.g (.str (mkS [])))] H8 fun r14 H15 =>
  rT r14 fun c16 =>
  uR c16 fun q17 c18 =>
  rC q17 fun c19 =>
  uC c19 fun v20 c21 =>
  dL 5 v20 fun x22 n23 =>
  uN c21 (uR c18 fun q24 c25 =>
  rS q24 fun v26 =>
  dI .i64 v26 fun i27 =>
  uE c25 (cl law12_letters [(.g (.int .i64 (bitsI .and .i64 ix0 31)))] H15 fun r28 H29 =>
  rG r28 fun v30 =>
  dS v30 fun s31 =>
  cl insert_Insert [(.agg [(.sl x12 n13 5)]), (.g (.str s31)), (.g (.str (mkS [110, 101, 119])))] H29 fun r32 H33 =>
  rT r32 fun c34 =>
  uR c34 fun q35 c36 =>
  rC q35 fun c37 =>
  uC c37 fun v38 c39 =>
  dL 5 v38 fun x40 n41 =>
  uN c39 (uR c36 fun q42 c43 =>
  rS q42 fun v44 =>
  dI .i64 v44 fun i45 =>
  uE c43 (cl law0_Num [(.g (.int .i64 ix1))] H33 fun r46 H47 =>
  rG r46 fun v48 =>
  dI .i64 v48 fun i49 =>
  bite (eqI i49 1200)
  (cl law0_Num [(.g (.int .i64 ix2))] H47 fun r50 H51 =>
   rG r50 fun v52 =>
   dI .i64 v52 fun i53 =>
   bite (eqI i53 1200)
   (cl law0_Num [(.g (.int .i64 ix3))] H51 fun r54 H55 =>
    rG r54 fun v56 =>
    dI .i64 v56 fun i57 =>
    bite (eqI i57 1200)
    (cl law0_Num [(.g (.int .i64 ix6))] H55 fun r58 H59 =>
     rG r58 fun v60 =>
     dI .i64 v60 fun i61 =>
     bite (eqI i61 0)
     (cl ref9_Sound [(.agg [(.sl xx4 nx5 5)])] H59 fun r62 H63 =>
      rG r62 fun v64 =>
      dB v64 fun b65 =>
      bite b65
      (cl law0_Num [(.g (.int .i64 i27))] H63 fun r66 H67 =>
       rG r66 fun v68 =>
       dI .i64 v68 fun i69 =>
       bite (eqI i69 1201)
       (cl law0_Num [(.g (.int .i64 i45))] H67 fun r70 H71 =>
        rG r70 fun v72 =>
        dI .i64 v72 fun i73 =>
        bite (eqI i73 0)
        (cl ref9_Sound [(.agg [(.sl x40 n41 5)])] H71 fun r74 H75 =>
         rG r74 fun v76 =>
         dB v76 fun b77 =>
         Q (.g (.bool b77)) H75)
        (Q (.g (.bool false)) H71))
       (Q (.g (.bool false)) H67))
      (Q (.g (.bool false)) H63))
     (Q (.g (.bool false)) H59))
    (Q (.g (.bool false)) H55))
   (Q (.g (.bool false)) H51))
  (Q (.g (.bool false)) H47)))))))) := by kernel_rfl
theorem law12_InsertForms_ok : Sound Go.Proofs.Tryz.prog 6 (law12_InsertForms) := prog_ok.sound (cx := law12_InsertForms.cx) rfl (EnvOK.cons ((law12_awake_ok).c ⟨_, Go.Proofs.Tryz.func25, by kernel_rfl, by kernel_rfl⟩) (EnvOK.cons ((ref9_New_ok).c ⟨_, Go.Proofs.Tryz.func28, by kernel_rfl, by kernel_rfl⟩) (EnvOK.cons ((insert_Insert_ok).c ⟨_, Go.Proofs.Tryz.func23, by kernel_rfl, by kernel_rfl⟩) (EnvOK.cons ((law12_letters_ok).c ⟨_, Go.Proofs.Tryz.func29, by kernel_rfl, by kernel_rfl⟩) (EnvOK.cons ((ref9_Build_ok).c ⟨_, Go.Proofs.Tryz.func30, by kernel_rfl, by kernel_rfl⟩) (EnvOK.cons ((law0_Num_ok).c ⟨_, Go.Proofs.Tryz.func17, by kernel_rfl, by kernel_rfl⟩) (EnvOK.cons ((ref9_Sound_ok).c ⟨_, Go.Proofs.Tryz.func31, by kernel_rfl, by kernel_rfl⟩) (EnvOK.nil _)))))))) (noDyn_ok _) Go.Proofs.Tryz.func6 rfl

end Go.Am
namespace Go.Am

/-! one leaf alone has a key -/
section
variable {T : List Pg} {i j : Nat} {p q : Pg} {k : ByteArray}
end

/-! the laws -/
theorem newH : 0 < heightD newT := by decide +kernel
theorem newE : entD newT = [] := by decide +kernel
theorem insE_ok {T : List Pg} {key v : ByteArray} (h : 0 < heightD T) (h1 : 1 ≤ key.size) (h2 : key.size ≤ 6) (h3 : v.size ≤ 10) (hl : (entD T).length < 60 ∨ (findK (entD T) key).isSome = true) : insE T key v = 0 := by
  have hform : formE T key v = true := by unfold formE; simp; omega
  unfold insE
  rw [hform]
  show (match (findK (entD T) key).isNone && decide (60 ≤ (entD T).length) with | true => 1201 | false => 0) = (0 : Int)
  rcases hl with hl | hl
  · rw [decide_eq_false (by omega), Bool.and_false]
  · cases hf : findK (entD T) key with
    | none => rw [hf] at hl; cases hl
    | some _ => rfl
theorem insE_form {T : List Pg} {key v : ByteArray} (h : ¬ 0 < heightD T ∨ key.size < 1 ∨ 6 < key.size ∨ 10 < v.size) : insE T key v = 1200 := by
  have hform : formE T key v = false := by
    cases hf : formE T key v with
    | false => rfl
    | true => have := formE_true hf; omega
  unfold insE
  rw [hform]
theorem allE_of {T : List Pg} (h : 0 < heightD T) : allE T = entD T := by unfold allE; rw [decide_eq_true h]
section
variable {H : Hp} {Q : Post} {key v : ByteArray}
theorem kv2_at (H : Hp) : Kv (H ++ [.row false 1000003 [(.str (mkS [97])), (.str (mkS [50])), (.str (mkS [98])), (.str (mkS [51]))]]) (some (H.length, 0)) 2 [(mkS [97], mkS [50]), (mkS [98], mkS [51])] :=
  ⟨by simp [cells?, kvCells], rfl⟩
set_option maxRecDepth 100000 in
theorem law12_awake_spec (hQ : ∀ H', H <+: H' → Q (.g (.bool true)) H') : law12_awake [] H Q := by
  refine ⟨1, ?_⟩
  rw [law12_awake_eq]
  refine ref9_New_spec fun H1 p1 o1 => ?_
  simp only [rA_agg, uC_cons, dL_sl, uN_nil]
  have z1 : insE newT (mkS [98]) (mkS [49]) = 0 := insE_ok newH (by decide) (by decide) (by decide) (.inl (by rw [newE]; decide))
  refine insert_Insert_spec o1.tr (by omega) (fun _ h => (h z1).elim) fun _ _ a1 d1 A1 H2 p2 t1 q1 _ => ?_
  simp only [rT_tup, uR_cons, rC_a, uC_cons, dL_sl, uN_nil, rS_s, dI_int, uE_nil]
  have e1 : entD A1 = [(mkS [98], mkS [49])] := by rw [q1.ent, newE]; rfl
  have z2 : insE A1 (mkS [97]) (mkS [50]) = 0 := insE_ok q1.pos (by decide) (by decide) (by decide) (.inl (by rw [e1]; decide))
  refine insert_Insert_spec t1 (by omega) (fun _ h => (h z2).elim) fun _ _ a2 d2 A2 H3 p3 t2 q2 _ => ?_
  simp only [rT_tup, uR_cons, rC_a, uC_cons, dL_sl, uN_nil, rS_s, dI_int, uE_nil]
  have e2 : entD A2 = [(mkS [97], mkS [50]), (mkS [98], mkS [49])] := by rw [q2.ent, e1]; decide +kernel
  have z3 : insE A2 (mkS [98]) (mkS [51]) = 0 := insE_ok q2.pos (by decide) (by decide) (by decide) (.inl (by rw [e2]; decide))
  refine insert_Insert_spec t2 (by omega) (fun _ h => (h z3).elim) fun _ _ a3 d3 A3 H4 p4 t3 q3 _ => ?_
  simp only [rT_tup, uR_cons, rC_a, uC_cons, dL_sl, uN_nil, rS_s, dI_int, uE_nil]
  have e3 : entD A3 = [(mkS [97], mkS [50]), (mkS [98], mkS [51])] := by rw [q3.ent, e2]; decide +kernel
  have z4 : insE A2 (mkS []) (mkS []) = 1200 := insE_form (.inr (.inl (by decide)))
  refine insert_Insert_spec (t2.mono p4) (by omega) (fun H5 _ p5 => ?_) (fun h => by rw [z4] at h; cases h)
  rw [z4]
  simp only [rT_tup, uR_cons, rC_a, uC_cons, dL_sl, uN_nil, rS_s, dI_int, uE_nil]
  have z5 : insE [] (mkS [97]) (mkS []) = 1200 := insE_form (.inl (by decide +kernel))
  refine insert_Insert_spec (tr_nil H5) (by omega) (fun H6 _ p6 => ?_) (fun h => by rw [z5] at h; cases h)
  rw [z5]
  simp only [rT_tup, uR_cons, rC_a, uC_cons, dL_sl, uN_nil, rS_s, dI_int, uE_nil]
  refine ref9_All_spec (t3.mono (p5.trans p6)) fun c k H7 p7 o7 l7 => ?_
  simp only [rT_tup, uR_cons, rS_s, dL_sl, dI_int, uE_nil]
  rw [err_ok q3.pos]
  refine law0_Num_spec ?_
  simp only [rG_g, dI_int]
  rw [bite_t (by decide)]
  refine law0_Num_spec ?_
  simp only [rG_g, dI_int]
  rw [bite_t (by decide)]
  refine law0_Num_spec ?_
  simp only [rG_g, dI_int]
  rw [bite_t (by decide)]
  refine law0_Num_spec ?_
  simp only [rG_g, dI_int]
  rw [bite_t (by decide)]
  refine law0_Num_spec ?_
  simp only [rG_g, dI_int]
  rw [bite_t (by decide), bite_t (by decide)]
  simp only [pu_def, ln_def]
  rw [allE_of q3.pos, e3] at o7 l7
  have hk : k = 2 := l7.symm
  subst hk
  have pz := pre_pu H7 (.row false 1000003 [(.str (mkS [97])), (.str (mkS [50])), (.str (mkS [98])), (.str (mkS [51]))])
  refine law0_SamePairs_spec ((o7.kv rfl).mono pz) (kv2_at H7) (by omega) fun b hb => ?_
  simp only [rG_g, dB_bool]
  rw [hb.2 rfl]
  exact hQ _ (p1.trans (p2.trans (p3.trans (p4.trans (p5.trans (p6.trans (p7.trans pz)))))))

end
end Go.Am
namespace Go.Am
theorem bitsand (x : Int) (m : Nat) (hm : m < 2147483648) : ∃ k : Nat, k ≤ m ∧ bitsI .and .i64 x (m : Int) = (k : Int) := by
  have h : ((BitVec.ofInt 64 x) &&& (BitVec.ofInt 64 (m : Int))).toNat ≤ m := by
    rw [BitVec.toNat_and]
    have : (BitVec.ofInt 64 (m : Int)).toNat = m := by
      rw [BitVec.ofInt_natCast, BitVec.toNat_ofNat, Nat.mod_eq_of_lt (by omega)]
    rw [this]
    exact Nat.and_le_right
  refine ⟨_, h, ?_⟩
  show IntKind.i64.wrap (((BitVec.ofInt 64 x) &&& (BitVec.ofInt 64 (m : Int))).toNat : Int) = _
  generalize ((BitVec.ofInt 64 x) &&& (BitVec.ofInt 64 (m : Int))).toNat = n at h ⊢
  have w : wrapI .i64 (n : Int) = n := wrap64 (by omega) (by omega)
  exact w
theorem rep0 (n : Nat) : repN n [GV.int .u8 0] = u8s (List.replicate n 0) := by
  induction n with
  | zero => rfl
  | succ n ih =>
    have : repN (n + 1) [GV.int .u8 0] = [GV.int .u8 0] ++ repN n [GV.int .u8 0] := by simp [repN, List.replicate_succ]
    rw [this, ih]; rfl
theorem mkS_size (l : List UInt8) : (mkS l).size = l.length := rfl
theorem kvL_asc {k : Nat} (hk : k ≤ 60) : Asc (kvL k) := by
  unfold Asc kvL
  rw [List.pairwise_map]
  refine (List.pairwise_lt_range (n := k)).imp_of_mem fun {a b} ha hb h => ?_
  have := List.mem_range.1 ha
  have := List.mem_range.1 hb
  show blt (lettersD a) (lettersD b) = true
  rw [letters_blt (by omega) (by omega), decide_eq_true h]
theorem kvL_ok (n : Nat) : KVok (kvL n) := fun x hx => by
  obtain ⟨i, _, rfl⟩ := List.mem_map.1 hx
  exact ⟨⟨by show 1 ≤ (lettersD i).size; rw [letters_size]; omega, by show (lettersD i).size ≤ 6; rw [letters_size]; omega⟩, by show (mkS []).size ≤ 10; decide⟩
theorem kvL_mem {k j : Nat} (hj : j < k) : (lettersD j, mkS []) ∈ kvL k := List.mem_map.2 ⟨j, List.mem_range.2 hj, rfl⟩
theorem insE_full {T : List Pg} {key v : ByteArray} (h : 0 < heightD T) (h1 : 1 ≤ key.size) (h2 : key.size ≤ 6) (h3 : v.size ≤ 10) (hl : 60 ≤ (entD T).length) (hf : findK (entD T) key = none) : insE T key v = 1201 := by
  have hform : formE T key v = true := by unfold formE; simp; omega
  unfold insE
  rw [hform, hf]
  show (match (none : Option ByteArray).isNone && decide (60 ≤ (entD T).length) with | true => 1201 | false => 0) = (1201 : Int)
  rw [decide_eq_true hl]; rfl
theorem zz_blt : ∀ i : Fin 60, blt (lettersD i.1) (mkS [122, 122]) = true := by decide +kernel
section
variable {H : Hp} {Q : Post}
theorem law12_letters_spec {k : Nat} (hk : k ≤ 100000) (hQ : ∀ H', H <+: H' → Q (.g (.str (lettersD k))) H') : law12_letters [.g (.int .i64 (k : Int))] H Q := by
  refine ⟨1, ?_⟩
  obtain ⟨e1, e2⟩ := letters_word hk
  rw [law12_letters_eq, e1, e2]
  simp only [pu_def, ln_def]
  rw [rdN_of (cs := u8s [bof ((97 + k / 16 % 16 : Nat) : Int), bof ((97 + k % 16 : Nat) : Int)]) (by simp [cells?, u8s]), txt_u8s]
  exact hQ _ (pre_pu _ _)
theorem forms_fin {x4 : Pl} {n5 : Nat} {c4 : List Am.PC} {A : List Pg} {a : Pl} {k : Nat} (hA : Tr H x4 n5 c4 A) (hAp : 0 < heightD A) (hn5 : n5 * 80 ≤ 140737488351232) (hk : Kv H a 60 (kvL 60)) (which : Int) (hQ : ∀ H', Q (.g (.bool true)) H') :
    law12_InsertForms.l11 (k + 1) which 1200 1200 1200 x4 n5 0 a 60 ((60 : Nat) : Int) H Q := by
  rw [law12_InsertForms.l11_eq, bite_f (by decide)]
  refine ref9_Build_spec hk (by omega) fun H1 tp cs p1 oT => ?_
  simp only [rA_agg, uC_cons, dL_sl, uN_nil]
  obtain ⟨b1, b2⟩ := build_sound (kvL_asc (Nat.le_refl 60)) (kvL_ok 60) (Nat.le_of_eq (kvL_length 60))
  have z1 : insE (buildD (kvL 60)) (mkS [122, 122]) (mkS []) = 1201 := insE_full b1 (by decide) (by decide) (by decide) (by rw [b2]; exact Nat.le_of_eq (kvL_length 60).symm) (by
    rw [b2]
    refine findK_none fun x hx e => ?_
    obtain ⟨i, hi, rfl⟩ := List.mem_map.1 hx
    have h := zz_blt ⟨i, List.mem_range.1 hi⟩
    rw [show lettersD i = mkS [122, 122] from e, blt_irr] at h; cases h)
  refine insert_Insert_spec oT.tr (by omega) (fun H2 _ p2 => ?_) (fun h => by rw [z1] at h; cases h)
  rw [z1]
  simp only [rT_tup, uR_cons, rC_a, uC_cons, dL_sl, uN_nil, rS_s, dI_int, uE_nil]
  obtain ⟨j, hj, ej⟩ := bitsand which 31 (by omega)
  rw [show bitsI .and .i64 which 31 = (j : Int) from ej]
  refine law12_letters_spec (k := j) (by omega) fun H3 p3 => ?_
  simp only [rG_g, dS_str]
  have z2 : insE (buildD (kvL 60)) (lettersD j) (mkS [110, 101, 119]) = 0 := insE_ok b1 (by rw [letters_size]; omega) (by rw [letters_size]; omega) (by decide) (.inr (by
    rw [b2, findK_mem (kvL_asc (Nat.le_refl 60)) (kvL_mem (show j < 60 by omega))]; rfl))
  refine insert_Insert_spec (oT.tr.mono (p2.trans p3)) (by omega) (fun _ h => (h z2).elim) fun _ _ a2 d2 A2 H4 p4 t2 q2 _ => ?_
  simp only [rT_tup, uR_cons, rC_a, uC_cons, dL_sl, uN_nil, rS_s, dI_int, uE_nil]
  refine law0_Num_spec ?_
  simp only [rG_g, dI_int]
  rw [bite_t (by decide)]
  refine law0_Num_spec ?_
  simp only [rG_g, dI_int]
  rw [bite_t (by decide)]
  refine law0_Num_spec ?_
  simp only [rG_g, dI_int]
  rw [bite_t (by decide)]
  refine law0_Num_spec ?_
  simp only [rG_g, dI_int]
  rw [bite_t (by decide)]
  refine ref9_Sound_spec (hA.mono (p1.trans (p2.trans (p3.trans p4)))) fun H5 p5 => ?_
  simp only [rG_g, dB_bool]
  rw [bite_t (decide_eq_true hAp)]
  refine law0_Num_spec ?_
  simp only [rG_g, dI_int]
  rw [bite_t (by decide)]
  refine law0_Num_spec ?_
  simp only [rG_g, dI_int]
  rw [bite_t (by decide)]
  refine ref9_Sound_spec (t2.mono p5) fun H6 p6 => ?_
  simp only [rG_g, dB_bool]
  rw [decide_eq_true q2.pos]
  exact hQ _
theorem forms_loop {H0 : Hp} {x4 : Pl} {n5 : Nat} {c4 : List Am.PC} {A : List Pg} (hA : Tr H0 x4 n5 c4 A) (hAp : 0 < heightD A) (hn5 : n5 * 80 ≤ 140737488351232) (which : Int) (hQ : ∀ H', Q (.g (.bool true)) H') :
    ∀ (f i : Nat), 60 - i < f → i ≤ 60 → ∀ (H : Hp) (a : Pl), H0 <+: H → Own H H0.length tKV a (i * 2) (kvCells (kvL i)) → law12_InsertForms.l11 f which 1200 1200 1200 x4 n5 0 a i (i : Int) H Q := by
  intro f
  induction f with
  | zero => intro i h; omega
  | succ f ih =>
    intro i hf hi H a p0 ho
    rcases Nat.lt_or_ge i 60 with hi' | hge
    rotate_left
    · have e : i = 60 := Nat.le_antisymm hi hge
      subst e
      exact forms_fin (hA.mono p0) hAp hn5 (ho.kv (kvL_length 60)) which hQ
    rw [law12_InsertForms.l11_eq, bite_t (by simp; omega)]
    refine law12_letters_spec (k := i) (by omega) fun H1 p1 => ?_
    simp only [rG_g, dS_str]
    rw [chk_true]
    refine ap_kv (p0.trans p1) (ho.mono p1) (lettersD i) (mkS []) (by omega) fun a' H' o' p' => ?_
    rw [wrap_succ (by omega)]
    rw [← kvL_succ] at o'
    exact ih (i + 1) (by omega) (by omega) H' a' p' o'
set_option maxRecDepth 100000 in
theorem law12_InsertForms_spec {which x : Int} (hQ : ∀ H', Q (.g (.bool true)) H') : law12_InsertForms [.g (.int .i64 which), .g (.int .i64 x)] H Q := by
  refine ⟨101, ?_⟩
  rw [law12_InsertForms_eq]
  refine law12_awake_spec fun H1 p1 => ?_
  simp only [rG_g, dB_bool]
  rw [bite_f (by decide)]
  refine ref9_New_spec fun H2 p2 o2 => ?_
  simp only [rA_agg, uC_cons, dL_sl, uN_nil]
  have T2 := o2.tr
  have z1 : insE newT (mkS []) (mkS []) = 1200 := insE_form (.inr (.inl (by decide)))
  refine insert_Insert_spec T2 (by omega) (fun H3 _ p3 => ?_) (fun h => by rw [z1] at h; cases h)
  rw [z1]
  simp only [rT_tup, uR_cons, rC_a, uC_cons, dL_sl, uN_nil, rS_s, dI_int, uE_nil]
  obtain ⟨d, hd, ed⟩ := bitsand x 63 (by omega)
  rw [show bitsI .and .i64 x 63 = (d : Int) from ed, wrap64 (n := 1 + (d : Int)) (by omega) (by omega), wrap64 (n := 6 + (1 + (d : Int))) (by omega) (by omega), wrap64 (n := 10 + (1 + (d : Int))) (by omega) (by omega)]
  have e6 : tN (6 + (1 + (d : Int))) = d + 7 := by simp [tN]; omega
  have e10 : tN (10 + (1 + (d : Int))) = d + 11 := by simp [tN]; omega
  rw [e6, e10, rep0, rep0]
  refine chk_of (by simp; omega) ?_
  simp only [pu_def, ln_def]
  have q3 := pre_pu H3 (.row true 5 (u8s (List.replicate (d + 7) 0)))
  rw [rdN_of (cs := u8s (List.replicate (d + 7) 0)) (by simp [cells?, u8s]), txt_u8s]
  generalize H3 ++ [.row true 5 (u8s (List.replicate (d + 7) 0))] = G3 at q3 ⊢
  have T3 := T2.mono (p3.trans q3)
  have z2 : insE newT (mkS (List.replicate (d + 7) 0)) (mkS []) = 1200 := insE_form (.inr (.inr (.inl (by rw [mkS_size, List.length_replicate]; omega))))
  refine insert_Insert_spec T3 (by omega) (fun H4 _ p4 => ?_) (fun h => by rw [z2] at h; cases h)
  rw [z2]
  simp only [rT_tup, uR_cons, rC_a, uC_cons, dL_sl, uN_nil, rS_s, dI_int, uE_nil]
  refine chk_of (by simp; omega) ?_
  have q4 := pre_pu H4 (.row true 5 (u8s (List.replicate (d + 11) 0)))
  rw [rdN_of (cs := u8s (List.replicate (d + 11) 0)) (by simp [cells?, u8s]), txt_u8s]
  generalize H4 ++ [.row true 5 (u8s (List.replicate (d + 11) 0))] = G4 at q4 ⊢
  have T4 := T3.mono (p4.trans q4)
  have z3 : insE newT (mkS [97]) (mkS (List.replicate (d + 11) 0)) = 1200 := insE_form (.inr (.inr (.inr (by rw [mkS_size, List.length_replicate]; omega))))
  refine insert_Insert_spec T4 (by omega) (fun H5 _ p5 => ?_) (fun h => by rw [z3] at h; cases h)
  rw [z3]
  simp only [rT_tup, uR_cons, rC_a, uC_cons, dL_sl, uN_nil, rS_s, dI_int, uE_nil]
  rw [show [GV.int .u8 0, GV.int .u8 0, GV.int .u8 0, GV.int .u8 0, GV.int .u8 0, GV.int .u8 0, GV.int .u8 0, GV.int .u8 0, GV.int .u8 0, GV.int .u8 0] = u8s [0, 0, 0, 0, 0, 0, 0, 0, 0, 0] from rfl,
    show [GV.int .u8 0, GV.int .u8 0, GV.int .u8 0, GV.int .u8 0, GV.int .u8 0, GV.int .u8 0] = u8s [0, 0, 0, 0, 0, 0] from rfl, txt_u8s, txt_u8s]
  have z4 : insE newT (mkS [0, 0, 0, 0, 0, 0]) (mkS [0, 0, 0, 0, 0, 0, 0, 0, 0, 0]) = 0 := insE_ok newH (by decide) (by decide) (by decide) (.inl (by rw [newE]; decide))
  refine insert_Insert_spec (T4.mono p5) (by omega) (fun _ h => (h z4).elim) fun _ _ a d A H6 p6 tA qA _ => ?_
  simp only [rT_tup, uR_cons, rC_a, uC_cons, dL_sl, uN_nil, rS_s, dI_int, uE_nil]
  exact forms_loop tA qA.pos (by omega) which hQ 100 0 (by omega) (by omega) H6 none (List.prefix_refl _) (.inl ⟨rfl, rfl, rfl⟩)
end
end Go.Am
