import Derived.Test.YtiemhjehieipdaaGreatM6
set_option linter.unusedVariables false
set_option linter.unusedSimpArgs false
namespace Go.Am

/-- pages that are free -/
structure Frees (P : List Nat) (ws : List Int) : Prop where
  rng : ∀ x ∈ ws, 1 ≤ x ∧ x < 48
  nd : ws.Nodup
  out : ∀ x ∈ ws, x.toNat ∉ P
theorem Frees.pop {P : List Nat} {ws init : List Int} {x : Int} (h : Frees P ws) (hp : (init ++ [x]).Perm ws) : Frees P init ∧ (1 ≤ x ∧ x < 48) ∧ x.toNat ∉ P ∧ (∀ y ∈ init, y.toNat ≠ x.toNat) ∧ x ∈ ws ∧ (∀ y ∈ init, y ∈ ws) ∧ init.length + 1 = ws.length := by
  have hx : x ∈ ws := hp.mem_iff.1 (by simp)
  have hi : ∀ y ∈ init, y ∈ ws := fun y hy => hp.mem_iff.1 (by simp [hy])
  have hnd := hp.nodup_iff.2 h.nd
  obtain ⟨n1, n2, n3⟩ := List.nodup_append.1 hnd
  refine ⟨⟨fun y hy => h.rng y (hi y hy), n1, fun y hy => h.out y (hi y hy)⟩, h.rng x hx, h.out x hx, fun y hy e => ?_, hx, hi, by rw [← hp.length_eq]; simp⟩
  have a := h.rng y (hi y hy)
  have b := h.rng x hx
  exact n3 y hy x (by simp) (by omega)
/-- what a pointer to a half tells -/
def Rp (H : Hp) (r : Option (ByteArray × Int)) (rp : Pl) : Prop := match r with
  | none => rp = none
  | some (s, x) => ∃ lq, rp = some (lq, 0) ∧ H[lq]? = some (.row true tHalf [.str s, .int .i64 x])
/-- a subtree in two halves, or whole -/
def Res2 (T' : List Pg) (d a : Nat) (P' : List Nat) (qs : KV) (r : Option (ByteArray × Int)) : Prop := match r with
  | none => Sub T' d a P' qs
  | some (s, x) => ∃ PX psX PY psY, SubB T' d a PX psX ∧ SubB T' d x.toNat PY psY ∧ P' = PX ++ PY ∧ psX ++ psY = qs ∧ (∀ e ∈ psX, blt e.1 s = true) ∧ (∀ e ∈ psY, blt e.1 s = false) ∧ (1 ≤ s.size ∧ s.size ≤ 6) ∧ 1 ≤ x ∧ x < 48 ∧ x.toNat ∉ PX
structure Fin2 (T T' : List Pg) (d a : Nat) (P P' : List Nat) (ws ws' : List Int) (qs : KV) (r : Option (ByteArray × Int)) : Prop where
  len : T'.length = T.length
  nd : P'.Nodup
  sub : ∀ j ∈ P, j ∈ P'
  new : ∀ j ∈ P', j ∈ P ∨ ∃ x ∈ ws, x.toNat = j
  out : ∀ j, j ∉ P' → T'[j]? = T[j]?
  wsub : ∀ x ∈ ws', x ∈ ws
  fr : Frees P' ws'
  count : ws'.length + P'.length = ws.length + P.length
  res : Res2 T' d a P' qs r
  half : ∀ s x, r = some (s, x) → x ∈ ws
section
variable {B H : Hp} {le tp d a : Nat} {ds : List PC} {T T' T1 : List Pg} {X : Nat → Prop} {fa : Pl} {ws : List Int} {p p1 : Pg} {P P1 : List Nat} {ps qs : KV} {Q : Post} {key v : ByteArray}
theorem fin_spec (m : WM B H le tp ds T X fa ws) (hS : SubF T d a P qs) (hp : T[a]? = some p) (h5 : p.keys.length ≤ 5) (hnd : P.Nodup) (hfr : Frees P ws) (hcnt : p.keys.length = 5 → ws ≠ [])
    (hQ : ∀ H' ds' T' P' ws' X' r rp, WM B H' le tp ds' T' X' fa ws' → Fin2 T T' d a P P' ws ws' qs r → (r = none → T' = T) → (∀ j, j ∉ P' → X j → X' j) → Rp H' r rp → Q (.g (.ptr rp)) H') :
    insert_writer_settle [.g (.ptr (some (le, 0))), .g (.int .i64 (a : Int))] H Q := by
  have hS' := hS
  obtain ⟨p', hp', hf, hc⟩ := hS
  rw [hp] at hp'
  obtain rfl := Option.some.inj hp'
  have haP : a ∈ P := by rcases hc with ⟨_, _, e, _⟩ | ⟨_, _, _, _, e, _⟩ <;> simp [e]
  have hlt := (List.getElem?_eq_some_iff.1 hp).1
  have q2 := m.g.ot.lenT
  refine settle_spec m hp hf hfr.rng (fun x hx e => hfr.out x hx (by rw [e]; exact haP)) hcnt (fun h => ?_) (fun h hk x init H' ds' lq hperm m' hq _ => ?_)
  · exact hQ H ds T P ws X none none m ⟨rfl, hnd, fun j h => h, fun j h => .inl h, fun j _ => rfl, fun x h => h, hfr, rfl, hS'.sub hp (by omega), fun s x e => by cases e⟩ (fun _ => rfl) (fun j _ h => h) rfl
  · obtain ⟨f1, f2, f3, f4, f5, f6, f7⟩ := hfr.pop hperm
    have hxa : x.toNat ≠ a := fun e => f3 (by rw [e]; exact haP)
    have hxl : x.toNat < T.length := by omega
    have ta : ((T.set a (cutL p (cutAt p))).set x.toNat (cutR p (cutAt p)))[a]? = some (cutL p (cutAt p)) := by rw [List.getElem?_set_ne hxa, List.getElem?_set_self hlt]
    have tx : ((T.set a (cutL p (cutAt p))).set x.toNat (cutR p (cutAt p)))[x.toNat]? = some (cutR p (cutAt p)) := by rw [List.getElem?_set_self (by simpa using hxl)]
    have to : ∀ j, j ≠ a → j ≠ x.toNat → ((T.set a (cutL p (cutAt p))).set x.toNat (cutR p (cutAt p)))[j]? = T[j]? := fun j h1 h2 => by rw [List.getElem?_set_ne (Ne.symm h2), List.getElem?_set_ne (Ne.symm h1)]
    obtain ⟨PX, psX, PY, psY, s1, s2, s3, s4, s5, s6, s7, s8⟩ := split_sub hS' hp h hnd f3 (fun j hj hja => to j hja fun e => f3 (by rw [← e]; exact hj)) ta tx hk
    refine hQ H' ds' _ (PX ++ PY) init _ (some (p.keys[cutAt p], x)) (some (lq, 0)) m' ⟨by simp, s4, fun j hj => (s5 j).2 (.inl hj), fun j hj => ?_, fun j hj => ?_, f6, ⟨f1.rng, f1.nd, fun y hy hy' => ?_⟩, by omega, ?_, fun s x' e => by cases e; exact f5⟩ (fun e => by cases e) (fun j hj hx => ⟨fun e => hj ((s5 j).2 (.inr e)), fun e => hj ((s5 j).2 (.inl (by rw [e]; exact haP))), hx⟩) ⟨lq, rfl, hq⟩
    · rcases (s5 j).1 hj with q | q
      · exact .inl q
      · exact .inr ⟨x, f5, q.symm⟩
    · exact to j (fun e => hj ((s5 j).2 (.inl (by rw [e]; exact haP)))) fun e => hj ((s5 j).2 (.inr e))
    · rcases (s5 _).1 hy' with q | q
      · exact f1.out y hy q
      · exact f4 y hy q
    · refine ⟨PX, psX, PY, psY, s1, s2, rfl, s3, s7, s8, hf.keys _ (List.getElem_mem hk), f2.1, f2.2, fun q => ?_⟩
      exact (List.nodup_append.1 s4).2.2 _ q _ s2.1.head rfl

/-- a key put in below a page -/
structure PutR (T T' : List Pg) (d a : Nat) (key v : ByteArray) (P P' : List Nat) (ws ws' : List Int) (ps : KV) (r : Option (ByteArray × Int)) : Prop where
  fin : Fin2 T T' d a P P' ws ws' (insK ps key v) r
  keys : r = none → ∃ p q, T[a]? = some p ∧ T'[a]? = some q ∧ p.keys.length ≤ q.keys.length
  was : (findK ps key).isSome = true → r = none ∧ P' = P ∧ ws' = ws ∧ ∃ i p, i ∈ P ∧ T[i]? = some p ∧ p.leaf = true ∧ slotB p.keys key = true ∧ T' = T.set i (setP p key v)
theorem find_leaf (hS : Sub T d a P ps) (hp : T[a]? = some p) (hl : p.leaf = true) : (findK ps key).isSome = slotB p.keys key := by
  have hm := hS.may hp
  obtain ⟨e1, e2, e3⟩ := hS.leafD hp hl
  obtain ⟨f1, f2, f3⟩ := hm.2.leaf hl
  rw [e3, findK_zip (rising_pw hm.2.rising) f1]
  cases hb : slotB p.keys key with
  | false => rfl
  | true =>
    obtain ⟨hs, _⟩ := slot_at hb
    show (p.vals[slotN p.keys key]?).isSome = true
    rw [List.getElem?_eq_getElem (by omega)]; rfl
set_option maxRecDepth 10000 in
theorem leaf_put (m : WM B H le tp ds T X fa ws) (hS : Sub T d a P ps) (hp : T[a]? = some p) (hl : p.leaf = true) (hX : X a) (hfr : Frees P ws) (hcnt : 3 * ps.length + 3 ≤ 4 * (ws.length + P.length)) (h1 : 1 ≤ key.size) (h2 : key.size ≤ 6) (h3 : v.size ≤ 10)
    (hQ : ∀ H' ds' T' P' ws' X' r rp, WM B H' le tp ds' T' X' fa ws' → PutR T T' d a key v P P' ws ws' ps r → (∀ j, j ∉ P' → X j → X' j) → Rp H' r rp → Q (.g (.ptr rp)) H') :
    insert_writer_leaf [.g (.ptr (some (le, 0))), .g (.int .i64 (a : Int)), .g (.str key), .g (.str v)] H Q := by
  have q1 := m.g.ot.len
  have q2 := m.g.ot.lenT
  have hlt := (List.getElem?_eq_some_iff.1 hp).1
  have eT : T[a]'hlt = p := (List.getElem?_eq_some_iff.1 hp).2
  have hm := hS.may hp
  have h4 := hm.1
  obtain ⟨e1, e2, e3⟩ := hS.leafD hp hl
  obtain ⟨f1, f2, f3⟩ := hm.2.leaf hl
  have hat := m.g.ot.all a (by omega) hlt
  rw [eT] at hat
  obtain ⟨a0, a1, a2, a3, a4⟩ := m.g.cells (i := a) (by omega)
  have ei : tN (a : Int) = a := rfl
  have hsl : slotN p.keys key ≤ p.keys.length := slotN_le
  refine ⟨1, ?_⟩
  rw [insert_writer_leaf_eq, pS_some, Nat.add_zero, rd_of m.gtE, dL_sl, chk_true]
  refine chk_of (by simp; omega) ?_
  rw [pS_some, ei, rd_of a2, dL_sl]
  refine node_Slot_spec hat.keys ?_
  simp only [rT_tup, uR_cons, rS_s, dI_int, dB_bool, uE_nil]
  cases hb : slotB p.keys key with
  | true =>
    rw [bite_t rfl]
    obtain ⟨hs, hk⟩ := slot_at hb
    have hasc := hS.asc.1
    obtain ⟨L, v0, R, es, hS2⟩ := Sub.setVal (v := v) hp hl hb h3 hS (by rw [e2]; simp) (by rw [e2]; simp)
    have hL : ∀ x ∈ L, blt x.1 key = true := fun x hx => by
      rw [es] at hasc
      exact (List.pairwise_append.1 hasc).2.2 x hx _ List.mem_cons_self
    have eins : insK ps key v = L ++ (key, v) :: R := by rw [es]; exact insK_mid hL
    refine m.setVal hp hX (s := slotN p.keys key) (v := v) (by omega) (small_may hm) (by omega) fun H' ds' m' => ?_
    refine hQ H' ds' _ P ws X none none m' ⟨⟨by simp, by rw [e2]; simp, fun j h => h, fun j h => .inl h, fun j hj => ?_, fun x h => h, hfr, rfl, by rw [eins]; exact hS2, fun s x e => by cases e⟩, fun _ => ⟨p, _, hp, List.getElem?_set_self hlt, Nat.le_refl _⟩, fun _ => ⟨rfl, rfl, rfl, a, p, by rw [e2]; simp, hp, hl, hb, rfl⟩⟩ (fun j _ h => h) rfl
    rw [List.getElem?_set_ne]; intro e; subst e; exact hj (by rw [e2]; simp)
  | false =>
    rw [bite_f rfl]
    obtain ⟨g1, g2, hF⟩ := ins_leaf (v := v) hS hp hl hb h1 h2 h3
    refine m.insLeaf hp hX hsl f1 (small_may hm) (by omega) (by omega) (by omega) fun H1 ds1 m1 => ?_
    have hp1 : (T.set a (insP p (slotN p.keys key) key v))[a]? = some (insP p (slotN p.keys key) key v) := List.getElem?_set_self hlt
    have hk1 : (insP p (slotN p.keys key) key v).keys.length = p.keys.length + 1 := by
      show (p.keys.take _ ++ key :: p.keys.drop _).length = _
      simp; omega
    have hps : ps.length = p.keys.length := by rw [e3, List.length_zip]; omega
    refine fin_spec m1 hF hp1 (by omega) (by rw [e2]; simp) hfr (fun h => ?_) fun H' ds' T' P' ws' X' r rp m' fin hnone hX' hrp => ?_
    · rw [e2] at hcnt
      intro e
      rw [e] at hcnt
      simp at hcnt; omega
    simp only [rG_g, dP_ptr]
    refine hQ H' ds' T' P' ws' X' r rp m' ⟨⟨by rw [fin.len]; simp, fin.nd, fin.sub, fin.new, fun j hj => ?_, fin.wsub, fin.fr, fin.count, fin.res, fin.half⟩, fun hr => ⟨p, _, hp, by rw [hnone hr]; exact hp1, by omega⟩, fun hf => ?_⟩ hX' hrp
    · rw [fin.out j hj, List.getElem?_set_ne]
      intro e; subst e; exact hj (fin.sub _ (by rw [e2]; simp))
    · rw [find_leaf hS hp hl, hb] at hf; cases hf
end
end Go.Am
namespace Go.Am

section
variable {T : List Pg} {d a : Nat} {p : Pg} {P : List Nat} {ps : KV} {key : ByteArray}
theorem PreR.pages {R : Nat → List Nat → KV → Prop} (hR : ∀ k P ps, R k P ps → 4 * P.length + 2 ≤ 3 * ps.length) : ∀ {ks : List Int} {ss : List ByteArray} {P : List Nat} {ps : KV}, PreR R ks ss P ps → 4 * P.length + 2 * ks.length ≤ 3 * ps.length
  | [], [], P, ps, h => by rw [h.1]; simp
  | k :: ks, s :: ss, P, ps, ⟨P1, ps1, P2, ps2, h1, h2, e1, e2, _, _⟩ => by
    have x := hR _ _ _ h1
    have y := PreR.pages hR h2
    subst e1; subst e2
    simp only [List.length_append, List.length_cons]
    omega
theorem SufR.pages {R : Nat → List Nat → KV → Prop} (hR : ∀ k P ps, R k P ps → 4 * P.length + 2 ≤ 3 * ps.length) {kc : List Int} {sc : List ByteArray} (h : SufR R kc sc P ps) : 4 * P.length + 2 * kc.length ≤ 3 * ps.length := by
  cases sc with
  | nil => rw [h.1, h.2.1]; simp
  | cons s sc => exact KidsR.pages hR h.1
theorem SubF.pages (h : SubF T d a P ps) (hp : T[a]? = some p) (h5 : p.keys.length = 5) : 4 * P.length + 8 ≤ 3 * ps.length := by
  obtain ⟨q, hq, hf, hc⟩ := h
  rw [hp] at hq
  obtain rfl := Option.some.inj hq
  rcases hc with ⟨e, h1, h2, h3⟩ | ⟨h1, d', P', e, h2, h3⟩
  · have := (hf.leaf h1).1
    subst h2; subst h3
    simp [List.length_zip]; omega
  · have x := KidsR.pages (fun _ _ _ h => SubB.pages h) h3
    have y := (hf.inner h1).2.2.1
    subst h2
    simp only [List.length_cons]; omega
theorem isN0 : isNone (none : Pl) = true := rfl
theorem isN1 (q : Nat × Nat) : isNone (some q : Pl) = false := rfl
theorem findK_ex : (findK ps key).isSome = true ↔ ∃ e ∈ ps, e.1 = key := by
  rw [findK_is, List.any_eq_true]
  simp
end
section
variable {B : Hp} {le tp : Nat} {fa : Pl} {key v : ByteArray}
set_option maxRecDepth 100000 in
theorem put_spec (h1 : 1 ≤ key.size) (h2 : key.size ≤ 6) (h3 : v.size ≤ 10) : ∀ (d : Nat) {H : Hp} {ds : List PC} {T : List Pg} {X : Nat → Prop} {ws : List Int} {a : Nat} {P : List Nat} {ps : KV} {p : Pg} {Q : Post}, WM B H le tp ds T X fa ws → Sub T d a P ps → P.Nodup → (∀ i ∈ P, X i) → Frees P ws → T[a]? = some p →
    (3 * ps.length + 5 ≤ 4 * (ws.length + P.length) ∨ (2 ≤ p.keys.length ∧ 3 * ps.length + 3 ≤ 4 * (ws.length + P.length))) →
    (hQ : ∀ H' ds' T' P' ws' X' r rp, WM B H' le tp ds' T' X' fa ws' → PutR T T' d a key v P P' ws ws' ps r → (∀ j, j ∉ P' → X j → X' j) → Rp H' r rp → Q (.g (.ptr rp)) H') →
    insert_writer_put.at d [.g (.ptr (some (le, 0))), .g (.int .i64 (a : Int)), .g (.str key), .g (.str v)] H Q
  | 0, H, ds, T, X, ws, a, P, ps, p, Q, m, hS, _, _, _, _, _, _ => hS.elim
  | n + 1, H, ds, T, X, ws, a, P, ps, p, Q, m, hS, hnd, hX, hfr, hp, hcnt, hQ => by
    have q1 := m.g.ot.len
    have q2 := m.g.ot.lenT
    have hm := hS.may hp
    have hlt := (List.getElem?_eq_some_iff.1 hp).1
    have eTa : T[a]'hlt = p := (List.getElem?_eq_some_iff.1 hp).2
    have at_a := m.g.ot.all a (by omega) hlt
    rw [eTa] at at_a
    obtain ⟨a0, a1, a2, a3, a4⟩ := m.g.cells (i := a) (by omega)
    have ea : tN (a : Int) = a := rfl
    have hsm := small_may hm
    have hlf := at_a.leaf
    refine ⟨1, ?_⟩
    rw [insert_writer_put_eq, pS_some, Nat.add_zero, rd_of m.gtE, dL_sl, chk_true]
    refine chk_of (by simp; omega) ?_
    rw [pS_some, ea, rd_of a1, dB_bool]
    cases hl : p.leaf with
    | true =>
      rw [bite_t (by rw [← hlf, hl])]
      refine leaf_put m hS hp hl (hX a hS.head) hfr (by omega) h1 h2 h3 fun H' ds' T' P' ws' X' r rp m' pr hx hr => ?_
      simp only [rG_g, dP_ptr]
      exact hQ H' ds' T' P' ws' X' r rp m' pr hx hr
    | false =>
      rw [bite_f (by rw [← hlf, hl])]
      obtain ⟨d, PA, psA, Pi, psi, PC, psC, ed, kd⟩ := kid_split (key := key) hS hp hl
      obtain rfl : n = d + 1 := by omega
      obtain ⟨f1, f2, f3, f4, f5⟩ := hm.2.inner hl
      have hnd' := hnd
      rw [kd.eP] at hnd'
      have n0 := List.nodup_cons.1 hnd'
      have n1 := List.nodup_append.1 n0.2
      have n2 := List.nodup_append.1 n1.2.1
      have hi := kd.hi
      have hm4 := hm.1
      have kr := f4 _ (List.getElem_mem hi)
      have ek : p.kids[kidN p.keys key] = (((p.kids[kidN p.keys key]).toNat : Nat) : Int) := by omega
      have inP : ∀ i ∈ Pi, i ∈ P := fun i h => by rw [kd.eP]; simp [h]
      have aPi : a ∉ Pi := fun h => n0.1 (by simp [h])
      have kle := (kidN_split (key := key) (rising_pw hm.2.rising)).2.2
      -- pages
      have c1 := PreR.pages (fun _ _ _ h => SubB.pages h) kd.pre
      have c2 := SufR.pages (fun _ _ _ h => SubB.pages h) kd.suf
      have c3 : P.length = 1 + (PA.length + (Pi.length + PC.length)) := by rw [kd.eP]; simp; omega
      have c4 : ps.length = psA.length + (psi.length + psC.length) := by rw [kd.eps]; simp
      have c5 : (p.kids.take (kidN p.keys key)).length = kidN p.keys key := by simp; omega
      have c6 : (p.kids.drop (kidN p.keys key + 1)).length = p.kids.length - (kidN p.keys key + 1) := by simp
      rw [c5] at c1
      rw [c6] at c2
      obtain ⟨kq, hkq, hkq2⟩ := kd.kid.2
      refine find_Kid_spec (o := 0 + a * 5) a2 at_a.keys ?_
      simp only [rG_g, dI_int]
      rw [rd_of a4, dL_sl, chk_true, at_a.kids.rd _ rfl hi, ek]
      refine put_spec h1 h2 h3 (d + 1) m kd.kid.1 n2.1 (fun i h => hX i (inP i h)) ⟨hfr.rng, hfr.nd, fun x hx hxi => hfr.out x hx (inP _ hxi)⟩ hkq (.inr ⟨hkq2, by omega⟩) ?_
      intro H1 ds1 T1 Pi' ws1 X1 r rp m1 pr hX1 hrp
      have r1 := m1.g.ot.len
      have r2 := m1.g.ot.lenT
      have fi := pr.fin
      have frOut : ∀ x ∈ ws, x.toNat ∉ P := hfr.out
      have memPi : ∀ j ∈ Pi', j ∈ P → j ∈ Pi := fun j hj hjP => by
        rcases fi.new j hj with q | ⟨x, hx, e⟩
        · exact q
        · exact (frOut x hx (by rw [e]; exact hjP)).elim
      have aPi' : a ∉ Pi' := fun h => aPi (memPi a h hS.head)
      have hp1 : T1[a]? = some p := by rw [fi.out a aPi']; exact hp
      have eTa1 : T1[a]'(by omega) = p := (List.getElem?_eq_some_iff.1 hp1).2
      have disjA : ∀ j ∈ PA ++ PC, j ∉ Pi' := fun j hj h => by
        have hjP : j ∈ P := by rw [kd.eP]; simp only [List.mem_append] at hj; rcases hj with z | z <;> simp [z]
        have := memPi j h hjP
        rcases List.mem_append.1 hj with z | z
        · exact n1.2.2 j z j (by simp [this]) rfl
        · exact n2.2.2 j this j z rfl
      have hA : ∀ j ∈ PA ++ PC, T1[j]? = T[j]? := fun j hj => fi.out j (disjA j hj)
      have hx1a : X1 a := hX1 a aPi' (hX a hS.head)
      have hfind : (findK ps key).isSome = true → (findK psi key).isSome = true := fun h => findK_ex.2 (kd.mem (findK_ex.1 h)).1
      simp only [rG_g, dP_ptr]
      have key1 : ∀ {P1 : List Nat}, (∀ j, j ∈ P1 ↔ j ∈ Pi') → (a :: (PA ++ (P1 ++ PC))).length = 1 + (PA.length + (Pi'.length + PC.length)) → P1.Nodup →
          (a :: (PA ++ (P1 ++ PC))).Nodup ∧ (∀ j ∈ P, j ∈ a :: (PA ++ (P1 ++ PC))) ∧ (∀ j ∈ a :: (PA ++ (P1 ++ PC)), j ∈ P ∨ ∃ x ∈ ws, x.toNat = j) ∧ (∀ x ∈ ws1, x.toNat ∉ a :: (PA ++ (P1 ++ PC))) := fun {P1} hm1 hl1 hn1 => by
        refine ⟨List.nodup_cons.2 ⟨fun h => ?_, List.nodup_append.2 ⟨n1.1, List.nodup_append.2 ⟨hn1, n2.2.1, fun u hu w hw e => ?_⟩, fun u hu w hw e => ?_⟩⟩, fun j hj => ?_, fun j hj => ?_, fun x hx h => ?_⟩
        · simp only [List.mem_append] at h
          rcases h with z | z | z
          · exact n0.1 (by simp [z])
          · exact aPi' ((hm1 a).1 z)
          · exact n0.1 (by simp [z])
        · subst e; exact disjA u (by simp [hw]) ((hm1 u).1 hu)
        · subst e
          rcases List.mem_append.1 hw with z | z
          · exact disjA u (by simp [hu]) ((hm1 u).1 z)
          · exact n1.2.2 u hu u (by simp [z]) rfl
        · rw [kd.eP] at hj
          simp only [List.mem_cons, List.mem_append] at hj ⊢
          rcases hj with z | z | z | z
          · exact .inl z
          · exact .inr (.inl z)
          · exact .inr (.inr (.inl ((hm1 j).2 (fi.sub j z))))
          · exact .inr (.inr (.inr z))
        · simp only [List.mem_cons, List.mem_append] at hj
          rw [kd.eP]
          rcases hj with z | z | z | z
          · exact .inl (by simp [z])
          · exact .inl (by simp [z])
          · rcases fi.new j ((hm1 j).1 z) with q | q
            · exact .inl (by simp [q])
            · exact .inr q
          · exact .inl (by simp [z])
        · have hxw := fi.wsub x hx
          have nP := frOut x hxw
          rw [kd.eP] at nP
          simp only [List.mem_cons, List.mem_append] at h nP
          rcases h with z | z | z | z
          · exact nP (.inl z)
          · exact nP (.inr (.inl z))
          · exact fi.fr.out x hx ((hm1 _).1 z)
          · exact nP (.inr (.inr (.inr z)))
      have cnt1 := fi.count
      cases r with
      | none =>
        have hrp' : rp = none := hrp
        subst hrp'
        rw [isN0, bite_t rfl]
        obtain ⟨p0, p1', hp0, hp1', hkk⟩ := pr.keys rfl
        rw [hkq] at hp0
        obtain rfl := Option.some.inj hp0
        have hsub : SubB T1 (d + 1) (p.kids[kidN p.keys key]).toNat Pi' (insK psi key v) := ⟨fi.res, p1', hp1', by omega⟩
        have hfin := kd.put1 hp hm hl rfl hA hp1 hsub
        obtain ⟨k1, k2, k3, k4⟩ := key1 (P1 := Pi') (fun j => Iff.rfl) (by simp; omega) fi.nd
        refine hQ H1 ds1 T1 _ ws1 X1 none none m1 ⟨⟨fi.len, k1, k2, k3, fun j hj => fi.out j fun h => hj (by simp [h]), fi.wsub, ⟨fi.fr.rng, fi.fr.nd, k4⟩, by simp only [List.length_cons, List.length_append]; omega, hfin, fun s x e => by cases e⟩, fun _ => ⟨p, p, hp, hp1, Nat.le_refl _⟩, fun hf => ?_⟩ (fun j hj hx => hX1 j (fun h => hj (by simp [h])) hx) rfl
        obtain ⟨w1, w2, w3, i, pi, w4, w5⟩ := pr.was (hfind hf)
        exact ⟨rfl, by rw [w2, kd.eP], w3, i, pi, inP i w4, w5⟩
      | some sx =>
        obtain ⟨s, x⟩ := sx
        obtain ⟨lq, e, hq⟩ := hrp
        subst e
        rw [isN1, bite_f rfl]
        obtain ⟨PX, psX, PY, psY, s1, s2, s3, s4, s5, s6, s7, s8, s9, s10⟩ := fi.res
        have ex : (x.toNat : Int) = x := by omega
        have hxw := fi.half s x rfl
        have hxP : x.toNat ∉ P := frOut x hxw
        have hmm : ∀ j, j ∈ PX ++ PY ↔ j ∈ Pi' := fun j => by rw [s3]
        refine m1.insInner hp1 hx1a kle f3 hsm (by omega) hq (by omega) fun H2 ds2 m2 => ?_
        have hlt1 := (List.getElem?_eq_some_iff.1 hp1).1
        have hp2 : (T1.set a (insI p (kidN p.keys key) s x))[a]? = some (insI p (kidN p.keys key) s x) := List.getElem?_set_self hlt1
        have out2 : ∀ j, j ≠ a → (T1.set a (insI p (kidN p.keys key) s x))[j]? = T1[j]? := fun j hj => List.getElem?_set_ne (Ne.symm hj)
        have nX : ∀ j ∈ PX ++ PY, j ≠ a := fun j hj e => aPi' ((hmm a).1 (by rw [← e]; exact hj))
        have nA : ∀ j ∈ PA ++ PC, j ≠ a := fun j hj e => by
          subst e
          rcases List.mem_append.1 hj with z | z
          · exact n0.1 (by simp [z])
          · exact n0.1 (by simp [z])
        have hSF := kd.put2 (T1 := T1.set a (insI p (kidN p.keys key) s x)) (f := x.toNat) (v := v) hp hm hl rfl hxP (by omega) (by omega) s7 (fun j hj => by rw [out2 j (nA j hj)]; exact hA j hj)
          (s1.keep fun j hj => out2 j (nX j (by simp [hj]))) (s2.keep fun j hj => out2 j (nX j (by simp [hj]))) s4 s5 s6 (by rw [ex]; exact hp2)
        have hk5 : (insI p (kidN p.keys key) s x).keys.length = p.keys.length + 1 := by
          show (p.keys.take _ ++ s :: p.keys.drop _).length = _
          simp; omega
        have eas : PX ++ (PY ++ PC) = (PX ++ PY) ++ PC := by simp
        rw [eas] at hSF
        have hl3 : (PX ++ PY).length = Pi'.length := by rw [s3]
        obtain ⟨k1, k2, k3, k4⟩ := key1 (P1 := PX ++ PY) hmm (by simp only [List.length_cons, List.length_append] at hl3 ⊢; omega) (by rw [← s3]; exact fi.nd)
        have hfr1 : Frees (a :: (PA ++ ((PX ++ PY) ++ PC))) ws1 := ⟨fi.fr.rng, fi.fr.nd, k4⟩
        have hlen1 : (a :: (PA ++ ((PX ++ PY) ++ PC))).length = 1 + (PA.length + (Pi'.length + PC.length)) := by simp only [List.length_cons, List.length_append] at hl3 ⊢; omega
        have hins := insK_le (k := key) (v := v) hS.asc.1
        refine fin_spec m2 hSF hp2 (by omega) k1 hfr1 (fun h5 e => ?_) fun H3 ds3 T3 P3 ws3 X3 r3 rp3 m3 fin3 hn3 hX3 hrp3 => ?_
        · have := hSF.pages hp2 h5
          rw [hlen1] at this
          rw [e] at cnt1
          simp only [List.length_nil] at cnt1
          omega
        simp only [rG_g, dP_ptr]
        have cnt3 := fin3.count
        rw [hlen1] at cnt3
        have inP3 : ∀ j ∈ a :: (PA ++ ((PX ++ PY) ++ PC)), j ∈ P3 := fin3.sub
        have inP4 : ∀ j ∈ Pi', j ∈ P3 := fun j h => inP3 j (List.mem_cons_of_mem _ (List.mem_append.2 (.inr (List.mem_append.2 (.inl ((hmm j).2 h))))))
        refine hQ H3 ds3 T3 P3 ws3 X3 r3 rp3 m3 ⟨⟨by rw [fin3.len]; simp [fi.len], fin3.nd, fun j hj => inP3 j (k2 j hj), fun j hj => ?_, fun j hj => ?_, fun y hy => fi.wsub y (fin3.wsub y hy), fin3.fr, by omega, fin3.res, fun s' x' e => fi.wsub x' (fin3.half s' x' e)⟩, fun hr => ⟨p, _, hp, by rw [hn3 hr]; exact hp2, by omega⟩, fun hf => ?_⟩ (fun j hj hx => hX3 j hj (hX1 j (fun h => hj (inP4 j h)) hx)) hrp3
        · rcases fin3.new j hj with q | ⟨y, hy, e⟩
          · exact k3 j q
          · exact .inr ⟨y, fi.wsub y hy, e⟩
        · rw [fin3.out j hj, out2 j (fun e => hj (inP3 j (by simp [e])))]
          exact fi.out j fun h => hj (inP4 j h)
        · have := (pr.was (hfind hf)).1
          cases this
end
end Go.Am
namespace Go.Am

/-! a tree's pages, used and free -/
theorem KidsR.pagesMay {R : Nat → List Nat → KV → Prop} {G : Nat → Prop} (hR : ∀ k P ps, R k P ps → ∀ i ∈ P, G i) : ∀ {ks : List Int} {ss : List ByteArray} {P : List Nat} {ps : KV}, KidsR R ks ss P ps → ∀ i ∈ P, G i
  | [], _, _, _, h, _, _ => h.elim
  | k :: ks, [], P, ps, h, i, hi => hR _ _ _ h.2 i hi
  | k :: ks, s :: ss, P, ps, ⟨P1, ps1, P2, ps2, h1, h2, e1, e2, _, _⟩, i, hi => by
    subst e1
    rcases List.mem_append.1 hi with q | q
    · exact hR _ _ _ h1 i q
    · exact KidsR.pagesMay hR h2 i q
theorem Sub.pagesMay {T : List Pg} : ∀ {d a : Nat} {P : List Nat} {ps : KV}, Sub T d a P ps → ∀ i ∈ P, ∃ p, T[i]? = some p ∧ MayP p
  | 0, _, _, _, h, _, _ => h.elim
  | d + 1, a, P, ps, h, i, hi => by
    obtain ⟨p, hp, hm, ⟨_, _, e, _⟩ | ⟨_, P', e, hk⟩⟩ := h
    · subst e; rw [List.mem_singleton.1 hi]; exact ⟨p, hp, hm⟩
    · subst e
      rcases List.mem_cons.1 hi with q | q
      · rw [q]; exact ⟨p, hp, hm⟩
      · exact KidsR.pagesMay (G := fun i => ∃ p, T[i]? = some p ∧ MayP p) (fun k P ps h i hi => Sub.pagesMay h.1 i hi) hk i q
def usedAt (T : List Pg) (i : Nat) : Bool := match T[i]? with | some p => p.used | none => false
section
variable {T T' : List Pg} {d : Nat} {P : List Nat} {ps : KV}
theorem Whole.used (w : Whole T d P ps) {i : Nat} (hi : i < 48) : i ∈ P ↔ usedAt T i = true := by
  have hl := w.len
  have hp : T[i]? = some (T[i]'(by omega)) := List.getElem?_eq_getElem (by omega)
  constructor
  · intro h
    obtain ⟨p, hp', hm⟩ := w.sub.pagesMay i h
    unfold usedAt; rw [hp']; exact hm.2.used
  · intro h
    refine Decidable.byContradiction fun q => ?_
    have := w.rest i _ hp q
    unfold usedAt at h
    rw [hp] at h
    have h' : (T[i]'(by omega)).used = true := h
    unfold nothingB at this
    rw [h'] at this; cases this
/-- pages that are free, as numbers, below k -/
def freeN (T : List Pg) (k : Nat) : List Int := List.map (fun i : Nat => (i : Int)) ((List.range k).filter fun i => !usedAt T i)
theorem freeN_succ (T : List Pg) (k : Nat) : freeN T (k + 1) = freeN T k ++ (match usedAt T k with | true => [] | false => [(k : Int)]) := by
  unfold freeN
  rw [List.range_succ, List.filter_append, List.map_append]
  congr 1
  cases h : usedAt T k <;> simp [h]
theorem freeN_mem {k : Nat} {x : Int} : x ∈ freeN T k ↔ ∃ i : Nat, x = i ∧ i < k ∧ usedAt T i = false := by
  unfold freeN
  simp only [List.mem_map, List.mem_filter, List.mem_range, Bool.not_eq_true']
  constructor
  · rintro ⟨i, ⟨h1, h2⟩, e⟩; exact ⟨i, e.symm, h1, h2⟩
  · rintro ⟨i, e, h1, h2⟩; exact ⟨i, ⟨h1, h2⟩, e.symm⟩
theorem freeN_nodup (T : List Pg) (k : Nat) : (freeN T k).Nodup := by
  unfold freeN
  rw [List.Nodup, List.pairwise_map]
  exact ((List.nodup_range (n := k)).sublist List.filter_sublist).imp fun h e => h (by omega)
theorem filter_add (q : Nat → Bool) : ∀ l : List Nat, (l.filter q).length + (l.filter fun i => !q i).length = l.length
  | [] => rfl
  | x :: l => by
    have := filter_add q l
    cases h : q x <;> simp [h] <;> omega
theorem Whole.frees (w : Whole T d P ps) {ws : List Int} (hp : ws.Perm (freeN T 48)) : Frees P ws ∧ ws.length + P.length = 48 := by
  have h0 : 0 ∈ P := w.sub.head
  refine ⟨⟨fun x hx => ?_, hp.nodup_iff.2 (freeN_nodup T 48), fun x hx hxP => ?_⟩, ?_⟩
  · obtain ⟨i, e, hi, hu⟩ := freeN_mem.1 (hp.mem_iff.1 hx)
    have : i ≠ 0 := fun q => by
      subst q
      rw [(w.used (by omega)).1 h0] at hu; cases hu
    omega
  · obtain ⟨i, e, hi, hu⟩ := freeN_mem.1 (hp.mem_iff.1 hx)
    subst e
    have : (i : Int).toNat = i := rfl
    rw [this, w.used hi, hu] at hxP
    cases hxP
  · have hperm : P.Perm ((List.range 48).filter fun i => usedAt T i) := by
      refine (List.perm_ext_iff_of_nodup w.nodup ((List.nodup_range (n := 48)).sublist List.filter_sublist)).2 fun i => ?_
      rw [List.mem_filter, List.mem_range]
      constructor
      · intro h
        have := w.sub.inT i h
        rw [w.len] at this
        exact ⟨this, (w.used this).1 h⟩
      · rintro ⟨h1, h2⟩; exact (w.used h1).2 h2
    rw [hperm.length_eq, hp.length_eq]
    unfold freeN
    rw [List.length_map]
    have := filter_add (fun i => usedAt T i) (List.range 48)
    rw [List.length_range] at this
    omega

/-- how many keys leaves have -/
def leafSum (T : List Pg) : Nat := (T.map gK).sum
theorem leafSum_used (h : 0 < heightD T) : leafSum T = (entD T).length := by
  obtain ⟨st, s⟩ := SF.of h
  have e1 := s.sums.1
  rw [← e1]
  have hp := sound_pages h
  have : ∀ l : List Pg, (∀ p ∈ l, p ∈ T) → (l.map gK).sum = usedSum gK l := by
    intro l
    induction l with
    | nil => intro _; rfl
    | cons p l ih =>
      intro hl
      have i1 := ih fun q hq => hl q (List.mem_cons_of_mem _ hq)
      unfold usedSum at i1 ⊢
      rw [List.map_cons, List.sum_cons, List.map_cons, List.sum_cons, i1]
      congr 1
      rcases hp p (hl p (by simp)) with q | q
      · rw [((mayB_iff p).1 q).2.used]
      · rw [q]; rfl
  exact this T fun p hp => hp

/-- a root that was split -/
theorem sub_move' {k t : Nat} {p : Pg} (h : Sub T d k P ps) (hp : T[k]? = some p) (h0 : T'[t]? = some p) (hk : P.Nodup) (hT : ∀ i ∈ P, i ≠ k → T'[i]? = T[i]?) : Sub T' d t (t :: P.tail) ps := by
  have hm := h.may hp
  cases hl : p.leaf with
  | true =>
    obtain ⟨e, eP, es⟩ := h.leafD hp hl
    subst e; subst eP
    exact ⟨p, h0, hm, .inl ⟨rfl, hl, rfl, es⟩⟩
  | false =>
    obtain ⟨d', P', e, eP, kk⟩ := h.innD hp hl
    subst e; subst eP
    have hn := List.nodup_cons.1 hk
    exact ⟨p, h0, hm, .inr ⟨hl, P', rfl, kk.imp fun j Q qs hb hin => hb.keep fun i hi => hT i (by simp [hin i hi]) fun e => hn.1 (by rw [← e]; exact hin i hi)⟩⟩
theorem Sub.eHead {a : Nat} (h : Sub T d a P ps) : P = a :: P.tail := by
  cases d with
  | zero => exact h.elim
  | succ d => obtain ⟨p, _, _, ⟨_, _, e, _⟩ | ⟨_, P', e, _⟩⟩ := h <;> simp [e]
theorem root_up {PX PY : List Nat} {psX psY qs : KV} {s : ByteArray} {x y : Int} {r : Pg} (hX : SubB T d 0 PX psX) (hY : SubB T d x.toNat PY psY) (hq : psX ++ psY = qs) (lt : ∀ e ∈ psX, blt e.1 s = true) (ge : ∀ e ∈ psY, blt e.1 s = false) (hs : 1 ≤ s.size ∧ s.size ≤ 6)
    (hx : 1 ≤ x ∧ x < 48) (hy : 1 ≤ y ∧ y < 48) (hnd : (PX ++ PY).Nodup) (hyP : y.toNat ∉ PX ++ PY) (hr : T[0]? = some r) (hlen : T.length = 48) (hrest : ∀ i p, T[i]? = some p → i ∉ PX ++ PY → nothingB p = true) (hc : qs.length ≤ 60) :
    ∃ P, Whole ((T.set 0 ⟨true, false, [s], [], [y, x]⟩).set y.toNat r) (d + 1) P qs := by
  have eX := hX.1.eHead
  have n1 := List.nodup_append.1 hnd
  have n0 := n1.1
  rw [eX] at n0
  have n0' := List.nodup_cons.1 n0
  have h0X : 0 ∈ PX := hX.1.head
  have xY : x.toNat ∈ PY := hY.1.head
  have y0 : y.toNat ≠ 0 := by omega
  have x0 : x.toNat ≠ 0 := by omega
  have xy : y.toNat ≠ x.toNat := fun e => hyP (by rw [e]; simp [xY])
  have t0 : ((T.set 0 (⟨true, false, [s], [], [y, x]⟩ : Pg)).set y.toNat r)[0]? = some ⟨true, false, [s], [], [y, x]⟩ := by rw [List.getElem?_set_ne y0, List.getElem?_set_self (by omega)]
  have ty : ((T.set 0 (⟨true, false, [s], [], [y, x]⟩ : Pg)).set y.toNat r)[y.toNat]? = some r := by rw [List.getElem?_set_self (by simp; omega)]
  have to : ∀ i, i ≠ 0 → i ≠ y.toNat → ((T.set 0 (⟨true, false, [s], [], [y, x]⟩ : Pg)).set y.toNat r)[i]? = T[i]? := fun i h1 h2 => by rw [List.getElem?_set_ne (Ne.symm h2), List.getElem?_set_ne (Ne.symm h1)]
  have inY0 : ∀ i ∈ PY, i ≠ 0 := fun i hi e => n1.2.2 0 h0X i hi e.symm
  have iny : ∀ i ∈ PX ++ PY, i ≠ y.toNat := fun i hi e => hyP (by rw [← e]; exact hi)
  have sX := sub_move' (T' := (T.set 0 (⟨true, false, [s], [], [y, x]⟩ : Pg)).set y.toNat r) hX.1 hr ty n1.1 fun i hi hi0 => to i hi0 (iny i (by simp [hi]))
  have sY := hY.keep (T' := (T.set 0 (⟨true, false, [s], [], [y, x]⟩ : Pg)).set y.toNat r) fun i hi => to i (inY0 i hi) (iny i (by simp [hi]))
  obtain ⟨q, hq1, hq2⟩ := hX.2
  rw [hr] at hq1
  obtain rfl := Option.some.inj hq1
  have tlX : ∀ i ∈ PX.tail, i ∈ PX := fun i hi => List.mem_of_mem_tail hi
  refine ⟨0 :: ((y.toNat :: PX.tail) ++ PY), by simp [hlen], ⟨_, t0, ⟨by simp, ⟨rfl, ?_, fun k hk => ?_, fun e => (by cases e), fun _ => ⟨by simp, rfl, rfl, fun k hk => ?_, ?_⟩⟩⟩, .inr ⟨rfl, _, rfl, ?_⟩⟩, ?_, fun i p hp hi => ?_, hc⟩
  · exact pw_rising (by simp [Pw])
  · have hk' : k ∈ [s] := hk
    rw [List.mem_singleton.1 hk']; exact hs
  · simp only [List.mem_cons, List.not_mem_nil, or_false] at hk
    rcases hk with e | e
    · rw [e]; exact hy
    · rw [e]; exact hx
  · have : y ≠ x := fun e => xy (by rw [e])
    simp [this]
  · show KidsR _ [y, x] [s] _ _
    refine ⟨y.toNat :: PX.tail, psX, PY, psY, ⟨sX, _, ty, hq2⟩, ⟨rfl, sY⟩, rfl, hq.symm, lt, ge⟩
  · refine List.nodup_cons.2 ⟨fun h => ?_, List.nodup_append.2 ⟨List.nodup_cons.2 ⟨fun h => iny _ (by simp [tlX _ h]) rfl, n0'.2⟩, n1.2.1, fun u hu w hw e => ?_⟩⟩
    · simp only [List.mem_append, List.mem_cons] at h
      rcases h with (z | z) | z
      · exact y0 z.symm
      · exact n0'.1 z
      · exact inY0 0 z rfl
    · subst e
      rcases List.mem_cons.1 hu with z | z
      · exact iny u (by simp [hw]) z
      · exact n1.2.2 u (tlX u z) u hw rfl
  · simp only [List.mem_cons, List.mem_append, not_or] at hi
    rw [to i hi.1 hi.2.1.1] at hp
    refine hrest i p hp fun h => ?_
    rcases List.mem_append.1 h with z | z
    · rw [eX] at z
      rcases List.mem_cons.1 z with z | z
      · exact hi.1 z
      · exact hi.2.1.2 z
    · exact hi.2.2 z
end
section
variable {H : Hp} {Q : Post} {x : Pl} {n : Nat} {T : List Pg} {cs : List Am.PC}
theorem gK_le {p : Pg} (h : p.keys.length ≤ 1000) : gK p ≤ 1000 := by unfold gK; cases p.leaf <;> simp <;> omega
theorem entries_spec {l0 : Nat} (hT : Tr H x n cs T) (hg : gt H l0 0 = some (.sl x n 5)) (hn : n ≤ 48) (hs : ∀ p ∈ T, small p) (hQ : Q (.g (.int .i64 (leafSum T : Int))) H) : insert_entries [.g (.ptr (some (l0, 0)))] H Q := by
  have hlT := hT.lenT
  have sumle : ∀ k, k ≤ n → ((T.take k).map gK).sum ≤ 1000 * k := by
    intro k
    induction k with
    | zero => intro _; simp
    | succ k ih =>
      intro hk
      have hk' : k < T.length := by omega
      rw [List.take_succ_eq_append_getElem hk', List.map_append, List.sum_append]
      have := gK_le (hs _ (List.getElem_mem hk')).2.2.1
      simp only [List.map_cons, List.map_nil, List.sum_cons, List.sum_nil]
      have := ih (by omega)
      omega
  have loop : ∀ (f k : Nat), n - k < f → k ≤ n → insert_entries.l3 f ((((T.take k).map gK).sum : Nat) : Int) x n (nI n) (k : Int) H Q := by
    intro f
    induction f with
    | zero => intro k h; omega
    | succ f ih =>
      intro k hf hk
      rw [insert_entries.l3_eq]
      by_cases hkn : k < n
      · obtain ⟨l, o, c, p, rfl, hc, hpp, hpc, g0, g1, g2, g3, g4⟩ := hT.get hkn
        have etN : tN (k : Int) = k := rfl
        rw [bite_t (by simp; omega), chk_true]
        refine chk_of (by simp; omega) ?_
        rw [pS_some, etN, rdPage_of g0 g1 g2 g3 g4, wrap_succ (by omega)]
        have e1 := hpc.keys.len
        have hk' : k < T.length := by omega
        have eT : T[k] = p := (List.getElem?_eq_some_iff.1 hpp).2
        have es : ((T.take (k + 1)).map gK).sum = ((T.take k).map gK).sum + gK p := by
          rw [List.take_succ_eq_append_getElem hk', eT]; simp
        have b1 := sumle k (by omega)
        have b2 := gK_le (hs p (by rw [← eT]; exact List.getElem_mem hk')).2.2.1
        have b3 := (hs p (by rw [← eT]; exact List.getElem_mem hk')).2.2.1
        have next := ih (k + 1) (by omega) (by omega)
        rw [es] at next
        have hl := hpc.leaf
        unfold gK at next b2
        cases hpl : p.leaf with
        | true =>
          rw [hpl] at next
          rw [bite_t (by rw [← hl, hpl]), nI_def, e1, wrap64 (by omega) (by omega)]
          have e2 : (((T.take k).map gK).sum : Int) + (p.keys.length : Int) = ((((T.take k).map gK).sum + p.keys.length : Nat) : Int) := by omega
          rw [e2]
          exact next
        | false =>
          rw [hpl] at next
          rw [bite_f (by rw [← hl, hpl])]
          exact next
      · obtain rfl : k = n := by omega
        rw [bite_f (by simp), List.take_of_length_le (by omega)]
        exact hQ
  refine ⟨n + 2, ?_⟩
  rw [insert_entries_eq, pS_some, Nat.add_zero, rd_of hg, dL_sl]
  exact loop (n + 1) 0 (by omega) (Nat.zero_le _)
end
end Go.Am
namespace Go.Am

section
variable {B H : Hp} {le tp : Nat} {ds : List Am.PC} {T : List Pg} {X off : Nat → Prop} {fa : Pl} {ws : List Int} {Q : Post}
theorem GT.wt (g : GT B H tp ds T X off) {b : Nat} (hb' : b ≤ B.length) : WT H b H.length (some (tp, 0)) 48 := by
  obtain ⟨hb, hr⟩ := g.ot.at_row
  refine .inr ⟨tp, ds, rfl, ⟨by omega, (List.getElem?_eq_some_iff.1 hr).1⟩, hr, g.ot.len, by omega, fun c hc => ?_⟩
  obtain ⟨i, hi, rfl⟩ := List.getElem_of_mem hc
  exact ((g.wo i hi).base hb').s
theorem CT.gt (g : CT B H tPg (some (tp, 0)) 48 ds T) (hs : ∀ p ∈ T, small p) : GT B H tp ds T (fun _ => True) (fun _ => False) := by
  have q1 := g.ot.len
  have q2 := g.ot.lenT
  refine ⟨g.pre, g.ot, fun i h => (g.own i h (by omega)).wo (g.ot.all i h (by omega)) (hs _ (List.getElem_mem _)), fun i h l hl => ?_, fun i h h' _ => g.own i h h', g.ap, fun l h => h.elim⟩
  have ho := g.own i h (by omega)
  obtain ⟨o, e | e | e⟩ := hl
  · exact ho.keys.ge e
  · exact ho.vals.ge e
  · exact ho.kids.ge e

/-- what is behind a key put in -/
structure InsQ (T A : List Pg) (key v : ByteArray) : Prop where
  pos : 0 < heightD A
  ent : entD A = insK (entD T) key v
  len : A.length = 48
  was : (findK (entD T) key).isSome = true → ∃ i p, T[i]? = some p ∧ p.leaf = true ∧ slotB p.keys key = true ∧ A = T.set i (setP p key v)

set_option maxRecDepth 100000 in
/-- the key put in, the root split if it must be -/
theorem insert_end {key v : ByteArray} {P : List Nat} {d : Nat} (f : Nat) (m : WM B H le tp ds T (fun _ => True) fa ws) (w : Whole T d P (entD T)) (hp : ws.Perm (freeN T 48)) (hc : (insK (entD T) key v).length ≤ 60) (h1 : 1 ≤ key.size) (h2 : key.size ≤ 6) (h3 : v.size ≤ 10) {x8 : Pl} {n9 : Nat} {a2 : Pl} {n3 : Nat}
    (hQ : ∀ H' ds' T' X' off', GT B H' tp ds' T' X' off' → InsQ T T' key v → Q (.tup [.a [.sl (some (tp, 0)) 48 5], .s (.int .i64 0)]) H') :
    insert_Insert.l8 (f + 1) key v a2 n3 le 0 le 0 x8 n9 48 48 H Q := by
  obtain ⟨fr, cnt⟩ := w.frees hp
  have q1 := m.g.ot.len
  have q2 := m.g.ot.lenT
  obtain ⟨p0, hp0⟩ := w.sub.get
  rw [insert_Insert.l8_eq, bite_f (by decide)]
  refine ⟨d, put_spec h1 h2 h3 d (a := 0) m w.sub w.nodup (fun _ _ => trivial) fr hp0 (.inl (by have := w.count; omega)) fun H1 ds1 T1 P1 ws1 X1 r rp m1 pr hX1 hrp => ?_⟩
  have fi := pr.fin
  have q3 := m1.g.ot.len
  have q4 := m1.g.ot.lenT
  have rest1 : ∀ (i : Nat) p, T1[i]? = some p → i ∉ P1 → nothingB p = true := fun i p hp hi => by
    rw [fi.out i hi] at hp
    exact w.rest i p hp fun h => hi (fi.sub i h)
  have cnt1 := fi.count
  simp only [rG_g, dP_ptr]
  cases r with
  | none =>
    have hrp' : rp = none := hrp
    subst hrp'
    rw [isN0, bite_f (by decide), Nat.add_zero, rd_of m1.gtE, dL_sl]
    have w1 : Whole T1 d P1 (insK (entD T) key v) := ⟨by omega, fi.res, fi.nd, rest1, hc⟩
    refine hQ H1 ds1 T1 X1 _ m1.g ⟨w1.pos', w1.sound.2, by omega, fun hf => ?_⟩
    obtain ⟨_, _, _, i, p, _, r1, r2, r3, r4⟩ := pr.was hf
    exact ⟨i, p, r1, r2, r3, r4⟩
  | some sx =>
    obtain ⟨s, x⟩ := sx
    obtain ⟨lq, e, hq⟩ := hrp
    subst e
    obtain ⟨PX, psX, PY, psY, s1, s2, s3, s4, s5, s6, s7, s8, s9, s10⟩ := fi.res
    have hnf : ¬ (findK (entD T) key).isSome = true := fun h => by have := (pr.was h).1; cases this
    rw [isN1, bite_t (by decide), Nat.add_zero, rd_of m1.gtE, dL_sl, chk_true]
    refine chk_of (by decide) ?_
    obtain ⟨b0, b1, b2, b3, b4⟩ := m1.g.cells (i := 0) (by omega)
    have et0 : tN 0 = 0 := rfl
    rw [pS_some, et0, rdPage_of b0 b1 b2 b3 b4]
    have hpg := SubB.pages s1
    have hpg2 := SubB.pages s2
    have hPl : P1.length = PX.length + PY.length := by rw [s3]; simp
    have hql : psX.length + psY.length ≤ 60 := by rw [← s4] at hc; simpa using hc
    have hne : ws1 ≠ [] := fun e => by rw [e] at cnt1; simp at cnt1; omega
    refine take_raw m1 hne (fun y hy => ⟨by have := (fi.fr.rng y hy).1; omega, (fi.fr.rng y hy).2⟩) (c := ds1[0]'(by omega)) fun y init H2 hperm m2 l2 k2 => ?_
    obtain ⟨f1, f2, f3, f4, f5, f6, f7⟩ := fi.fr.pop hperm
    simp only [rG_g, dI_int]
    have hr2 := m2.g.ot.at_row.2
    have htp := (List.getElem?_eq_some_iff.1 hr2).1
    have hyl : y.toNat < ds1.length := by omega
    have y0 : y.toNat ≠ 0 := by omega
    have hle := m2.le_lt
    have hlet : le ≠ tp := (m2.g.off le (.inl rfl)).2.1
    have hlq2 : H2[lq]? = H1[lq]? := k2 lq fun h => by
      rcases h with rfl | ⟨o, e⟩
      · rcases m1.fre with ⟨_, e, _⟩ | ⟨lf, rest, e, hf⟩
        · exact hne e
        · exact half_ne hq hf.wr (by decide) rfl
      · rcases m1.fre with ⟨e', _, _⟩ | ⟨lf, rest, e', hf⟩
        · rw [e'] at e; cases e
        · rw [e'] at e; cases e
          exact half_ne hq hf.row (by decide) rfl
    have hq2 : H2[lq]? = some (.row true tHalf [.str s, .int .i64 x]) := by rw [hlq2]; exact hq
    have hlqt : lq ≠ tp := fun e => by rw [e, hr2] at hq2; simp at hq2; exact absurd hq2.1 (by decide)
    have hlq := (List.getElem?_eq_some_iff.1 hq2).1
    -- reading beside the rows that come
    have g0 : ∀ Z : List Obj, gt (H2.set tp (.row true tPg (pcells (ds1.set y.toNat (ds1[0]'(by omega))))) ++ Z) le 0 = some (.sl (some (tp, 0)) 48 5) := fun Z => by
      rw [← m2.gtE]; unfold gt
      rw [List.getElem?_append_left (by simpa using hle), List.getElem?_set_ne (Ne.symm hlet)]
    have gq0 : ∀ Z : List Obj, gt (H2.set tp (.row true tPg (pcells (ds1.set y.toNat (ds1[0]'(by omega))))) ++ Z) lq 0 = some (.str s) := fun Z => by
      have : gt H2 lq 0 = some (.str s) := by rw [gt_some hq2]; rfl
      rw [← this]; unfold gt
      rw [List.getElem?_append_left (by simpa using hlq), List.getElem?_set_ne (Ne.symm hlqt)]
    have gq1 : ∀ Z : List Obj, gt (H2.set tp (.row true tPg (pcells (ds1.set y.toNat (ds1[0]'(by omega))))) ++ Z) lq 1 = some (.int .i64 x) := fun Z => by
      have : gt H2 lq 1 = some (.int .i64 x) := by rw [gt_some hq2]; rfl
      rw [← this]; unfold gt
      rw [List.getElem?_append_left (by simpa using hlq), List.getElem?_set_ne (Ne.symm hlqt)]
    have z0 := g0 []
    have zq0 := gq0 []
    have zq1 := gq1 []
    rw [List.append_nil] at z0 zq0 zq1
    rw [rd_of z0, dL_sl, pS_some, Nat.add_zero, rd_of zq0, dS_str, pS_some, Nat.zero_add, rd_of zq1, dI_int]
    -- the last steps, for either order of the new rows
    have fin : ∀ (Z : List Obj) (lk ln' : Nat), Z.length = 2 → (H2 ++ Z)[lk]? = some (.row true tS [.str s]) → (H2 ++ Z)[ln']? = some (.row true tI [.int .i64 y, .int .i64 x]) → H2.length ≤ lk → H2.length ≤ ln' → lk ≠ ln' →
        wr (H2.set tp (.row true tPg (pcells (ds1.set y.toNat (ds1[0]'(by omega))))) ++ Z) tp (0 * 5) (.bool true) fun H66 => wr H66 tp (0 * 5 + 1) (.bool false) fun H67 => wr H67 tp (0 * 5 + 1 + 1) (.sl (some (lk, 0)) 1 1) fun H68 => wr H68 tp (0 * 5 + 1 + 1 + 1) (.sl none 0 1) fun H69 => wr H69 tp (0 * 5 + 1 + 1 + 1 + 1) (.sl (some (ln', 0)) 2 1) fun H70 =>
          rd H70 le 0 fun v71 => dL 5 v71 fun x72 n73 => Q (.tup [(.a [(.sl x72 n73 5)]), (.s (.int .i64 0))]) H70 := fun Z lk ln' hZ hk hn hlk hln hne' => by
      have ra : (H2.set tp (.row true tPg (pcells (ds1.set y.toNat (ds1[0]'(by omega))))) ++ Z)[tp]? = some (.row true tPg (pcells (ds1.set y.toNat (ds1[0]'(by omega))))) := by
        rw [List.getElem?_append_left (by simpa using htp)]; exact List.getElem?_set_self htp
      refine wr5 (i := 0) (c := ⟨true, false, some (lk, 0), 1, none, 0, some (ln', 0), 2⟩) ra (by simp; omega) ?_
      have eset : (H2.set tp (.row true tPg (pcells (ds1.set y.toNat (ds1[0]'(by omega))))) ++ Z) = (H2 ++ Z).set tp (.row true tPg (pcells (ds1.set y.toNat (ds1[0]'(by omega))))) := (List.set_append_left _ _ htp).symm
      rw [eset, List.set_set]
      have mZ := m2.mono (List.prefix_append H2 Z)
      have hBl := m2.g.pre.length_le
      have htpZ : tp < (H2 ++ Z).length := by rw [List.length_append]; omega
      have kp : ∀ (cs : List GV) l, l ≠ tp → ((H2 ++ Z).set tp (.row true tPg cs))[l]? = (H2 ++ Z)[l]? := fun cs l hl => by rw [List.getElem?_set_ne (Ne.symm hl)]
      have g1 : gt ((H2 ++ Z).set tp (.row true tPg (pcells ((ds1.set y.toNat (ds1[0]'(by omega))).set 0 ⟨true, false, some (lk, 0), 1, none, 0, some (ln', 0), 2⟩)))) le 0 = some (.sl (some (tp, 0)) 48 5) := by
        rw [← mZ.gtE]; unfold gt; rw [kp _ le hlet]
      rw [rd_of g1, dL_sl]
      -- the root, then the page that the root was
      have onr : ∀ l, (⟨true, false, some (lk, 0), 1, none, 0, some (ln', 0), 2⟩ : Am.PC).on l → l = lk ∨ l = ln' := fun l hl => by
        obtain ⟨o, e | e | e⟩ := hl
        · cases e; exact .inl rfl
        · cases e
        · cases e; exact .inr rfl
      have at0 : ∀ cs, (⟨true, false, some (lk, 0), 1, none, 0, some (ln', 0), 2⟩ : Am.PC).at ((H2 ++ Z).set tp (.row true tPg cs)) ⟨true, false, [s], [], [y, x]⟩ := fun cs => by
        have k1 : ((H2 ++ Z).set tp (.row true tPg cs))[lk]? = some (.row true tS [.str s]) := by rw [kp _ lk (by omega)]; exact hk
        have k2 : ((H2 ++ Z).set tp (.row true tPg cs))[ln']? = some (.row true tI [.int .i64 y, .int .i64 x]) := by rw [kp _ ln' (by omega)]; exact hn
        exact ⟨rfl, rfl, ⟨by simp [cells?, k1], rfl, by show 1 * 16 ≤ _; omega⟩, ⟨rfl, rfl, by show 0 * 16 ≤ _; omega⟩, ⟨by simp [cells?, k2], rfl, by show 2 * 8 ≤ _; omega⟩⟩
      have wo0 : ∀ cs, WoP ((H2 ++ Z).set tp (.row true tPg cs)) B.length 1000 ⟨true, false, some (lk, 0), 1, none, 0, some (ln', 0), 2⟩ := fun cs => by
        have k1 : ((H2 ++ Z).set tp (.row true tPg cs))[lk]? = some (.row true tS [.str s]) := by rw [kp _ lk (by omega)]; exact hk
        have k2 : ((H2 ++ Z).set tp (.row true tPg cs))[ln']? = some (.row true tI [.int .i64 y, .int .i64 x]) := by rw [kp _ ln' (by omega)]; exact hn
        refine ⟨.inr ⟨lk, 0, [s], rfl, by omega, k1, by simp, fun z hz => ?_⟩, .inl rfl, .inr ⟨ln', 0, [y, x], rfl, by omega, k2, by simp⟩, by show 1 ≤ 1000; omega, by show 0 ≤ 1000; omega, by show 2 ≤ 1000; omega⟩
        rw [List.mem_singleton.1 hz]; omega
      have t1 := mZ.g.turn (i := 0) (H' := (H2 ++ Z).set tp (.row true tPg (pcells (ds1.set 0 ⟨true, false, some (lk, 0), 1, none, 0, some (ln', 0), 2⟩)))) (c := ⟨true, false, some (lk, 0), 1, none, 0, some (ln', 0), 2⟩) (p := ⟨true, false, [s], [], [y, x]⟩) (X' := fun _ => False) (by omega) (by simp) (fun l _ _ hl _ => kp _ l hl) (List.getElem?_set_self htpZ) (at0 _) (wo0 _)
        (fun l hl => by
          have hl' : H2.length ≤ l := by rcases onr l hl with e | e <;> omega
          exact ⟨by omega, fun q => by have := m2.off_lt q; omega, by omega, fun j hj _ hon => by have := m2.g.onlt j hj hon; omega⟩) (fun j hj => hj.elim)
      have t2 := t1.turn (i := y.toNat) (H' := (H2 ++ Z).set tp (.row true tPg (pcells ((ds1.set 0 ⟨true, false, some (lk, 0), 1, none, 0, some (ln', 0), 2⟩).set y.toNat (ds1[0]'(by omega)))))) (c := ds1[0]'(by omega)) (p := T1[0]'(by omega)) (X' := fun _ => False) (by simp; omega) (by simp) (fun l _ _ hl _ => by rw [kp _ l hl, kp _ l hl]) (List.getElem?_set_self htpZ)
        ((mZ.g.ot.all 0 (by omega) (by omega)).keep fun l hl => kp _ l fun e => mZ.g.ot.off _ (List.getElem_mem (by omega)) l hl (by rw [e])) ((mZ.g.wo 0 (by omega)).keepOn fun l hl => kp _ l fun e => mZ.g.ot.off _ (List.getElem_mem (by omega)) l hl (by rw [e]))
        (fun l hl => by
          refine ⟨fun e => mZ.g.ot.off _ (List.getElem_mem (by omega)) l hl (by rw [e]), fun q => (mZ.g.off l q).2.2 0 (by omega) hl, mZ.g.base 0 (by omega) l hl, fun j hj hne2 hon => ?_⟩
          rw [List.getElem_set] at hon
          by_cases e : 0 = j
          · rw [if_pos e] at hon
            have := m2.g.onlt 0 (by omega) hl
            rcases onr l hon with z | z <;> omega
          · rw [if_neg e] at hon
            exact mZ.g.ap 0 j (by omega) (by simpa using hj) e l hl hon) (fun j hj => hj.elim)
      rw [List.set_comm _ _ (Ne.symm y0)] at t2
      have e0 : T1[0]? = some (T1[0]'(by omega)) := List.getElem?_eq_getElem (by omega)
      obtain ⟨P2, w2⟩ := root_up (y := y) s1 s2 s4 s5 s6 s7 ⟨s8, s9⟩ f2 (by rw [← s3]; exact fi.nd) (by rw [← s3]; exact f3) e0 (by omega) (fun i p hp hi => rest1 i p hp (by rw [s3]; exact hi)) hc
      exact hQ _ _ _ _ _ t2 ⟨w2.pos', w2.sound.2, by simp; omega, fun h => (hnf h).elim⟩
    have eln : ln (H2.set tp (.row true tPg (pcells (ds1.set y.toNat (ds1[0]'(by omega)))))) = H2.length := by simp [ln]
    have elp : ∀ o, ln (pu (H2.set tp (.row true tPg (pcells (ds1.set y.toNat (ds1[0]'(by omega)))))) o) = H2.length + 1 := fun o => by simp [ln, pu]
    refine ⟨?_, ?_⟩
    · simp only [pu_def]
      have A := gq1 [.row true 9 [.str s]]
      have A0 := g0 [.row true 9 [.str s]]
      rw [rd_of A, dI_int]
      refine ⟨rfl, ?_⟩
      rw [rd_of A0, dL_sl]
      refine ⟨rfl, ?_⟩
      rw [List.append_assoc]
      have B0 := gq0 ([Obj.row true 9 [.str s]] ++ [.row true 3 [.int .i64 y, .int .i64 x]])
      have B1 := g0 ([Obj.row true 9 [.str s]] ++ [.row true 3 [.int .i64 y, .int .i64 x]])
      rw [rd_of B0, dS_str]
      refine ⟨rfl, ?_⟩
      rw [rd_of B1, dL_sl]
      refine ⟨rfl, ?_⟩
      rw [chk_true]
      refine chk_of (by decide) ?_
      rw [pS_some]
      have F := fin ([Obj.row true 9 [.str s]] ++ [.row true 3 [.int .i64 y, .int .i64 x]]) H2.length (H2.length + 1) rfl (by simp) (by rw [← List.append_assoc, List.getElem?_append_right (by simp)]; simp) (Nat.le_refl _) (by omega) (by omega)
      simp only [ln_def, List.length_append, List.length_set, List.length_cons, List.length_nil, Nat.zero_add, Nat.add_zero] at F ⊢
      exact F
    · simp only [pu_def]
      have A := gq0 [.row true 3 [.int .i64 y, .int .i64 x]]
      have A0 := g0 [.row true 3 [.int .i64 y, .int .i64 x]]
      rw [rd_of A, dS_str]
      refine ⟨rfl, ?_⟩
      rw [rd_of A0, dL_sl]
      refine ⟨rfl, ?_⟩
      rw [List.append_assoc]
      have B0 := gq1 ([Obj.row true 3 [.int .i64 y, .int .i64 x]] ++ [.row true 9 [.str s]])
      have B1 := g0 ([Obj.row true 3 [.int .i64 y, .int .i64 x]] ++ [.row true 9 [.str s]])
      rw [rd_of B0, dI_int]
      refine ⟨rfl, ?_⟩
      rw [rd_of B1, dL_sl]
      refine ⟨rfl, ?_⟩
      rw [chk_true]
      refine chk_of (by decide) ?_
      rw [pS_some]
      have F := fin ([Obj.row true 3 [.int .i64 y, .int .i64 x]] ++ [.row true 9 [.str s]]) (H2.length + 1) H2.length rfl (by rw [← List.append_assoc, List.getElem?_append_right (by simp)]; simp) (by simp) (by omega) (Nat.le_refl _) (by omega)
      simp only [ln_def, List.length_append, List.length_set, List.length_cons, List.length_nil, Nat.zero_add, Nat.add_zero] at F ⊢
      exact F
end
end Go.Am
namespace Go.Am

section
variable {B H : Hp} {le tp : Nat} {ds : List Am.PC} {T : List Pg} {Q : Post} {key v : ByteArray} {P : List Nat} {d : Nat}
set_option maxRecDepth 100000 in
theorem insert_loop (w : Whole T d P (entD T)) (hc : (insK (entD T) key v).length ≤ 60) (h1 : 1 ≤ key.size) (h2 : key.size ≤ 6) (h3 : v.size ≤ 10) {a2 : Pl} {n3 : Nat}
    (hQ : ∀ H' ds' T' X' off', GT B H' tp ds' T' X' off' → InsQ T T' key v → Q (.tup [.a [.sl (some (tp, 0)) 48 5], .s (.int .i64 0)]) H') :
    ∀ (f k : Nat) (fa : Pl) (ws : List Int) (H : Hp), 48 - k < f → k ≤ 48 → GT B H tp ds T (fun _ => True) (offW le fa) → FA H B.length le (.sl (some (tp, 0)) 48 5) fa ws → ws.Perm (freeN T k) → insert_Insert.l8 f key v a2 n3 le 0 le 0 (some (tp, 0)) 48 48 (k : Int) H Q := by
  intro f
  induction f with
  | zero => intro k _ _ _ h; omega
  | succ f ih =>
    intro k fa ws H hf hk g hfa hp
    have q1 := g.ot.len
    have q2 := g.ot.lenT
    by_cases hk48 : k = 48
    · subst hk48
      refine insert_end f ⟨g, ?_⟩ w hp hc h1 h2 h3 hQ
      rcases hfa with h | ⟨lf, e, hb, h⟩
      · exact .inl h
      · exact .inr ⟨lf, [], e, h⟩
    · obtain ⟨c0, c1, c2, c3, c4⟩ := g.cells (i := k) (by omega)
      have etN : tN (k : Int) = k := rfl
      rw [insert_Insert.l8_eq, bite_t (by simp; omega), chk_true]
      refine chk_of (by simp; omega) ?_
      rw [pS_some, etN, rdPage_of c0 c1 c2 c3 c4, wrap_succ (by omega)]
      have hat := g.ot.all k (by omega) (by omega)
      have hu : usedAt T k = ds[k].u := by
        unfold usedAt
        rw [List.getElem?_eq_getElem (by omega)]
        exact hat.used
      refine bite_of (fun e => ?_) (fun e => ?_)
      · have e : usedAt T k = false := by rw [hu]; cases h : ds[k].u <;> simp_all
        have hlw : ws.length < 1000 := by
          have := hp.length_eq
          have h2 : (freeN T k).length ≤ k := by
            unfold freeN
            rw [List.length_map]
            have := List.length_filter_le (fun i => !usedAt T i) (List.range k)
            rwa [List.length_range] at this
          omega
        rw [Nat.zero_add]
        refine heap_Push_spec hfa g.pre.length_le hlw fun lf ws' H' hperm hfa' hlf hlf' hkeep => ?_
        have htp := (List.getElem?_eq_some_iff.1 g.ot.at_row.2).1
        refine ih (k + 1) (some (lf, 0)) ws' H' (by omega) (by omega) ((g.keep (fun l hl hno => hkeep l hl (fun q => hno (.inl q)) (fun o q => hno (.inr ⟨o, q⟩))) (by omega)).reoff fun l hl => ?_) hfa' ?_
        · rcases hl with rfl | ⟨o, e⟩
          · exact g.off _ (.inl rfl)
          · have e : lf = l := by cases e; rfl
            subst e
            exact ⟨by have := g.pre.length_le; omega, by omega, fun i hi hon => by have := g.onlt i hi hon; omega⟩
        · rw [freeN_succ, e]
          exact hperm.trans (hp.append_right _)
      · have e : usedAt T k = true := by rw [hu]; cases h : ds[k].u <;> simp_all
        exact ih (k + 1) fa ws H (by omega) (by omega) g hfa (by rw [freeN_succ, e, List.append_nil]; exact hp)

variable {x : Pl} {n : Nat} {cs : List Am.PC}
set_option maxRecDepth 100000 in
theorem insert_Insert_spec (hT : Tr H x n cs T) (hn : n * 80 ≤ 140737488351232) (hQ1 : ∀ H', insE T key v ≠ 0 → H <+: H' → Q (.tup [.a [.sl none 0 5], .s (.int .i64 (insE T key v))]) H')
    (hQ2 : insE T key v = 0 → 0 < heightD T → ∀ a ds A H', H <+: H' → Tr H' a 48 ds A → InsQ T A key v → WT H' H.length H'.length a 48 → Q (.tup [.a [.sl a 48 5], .s (.int .i64 0)]) H') :
    insert_Insert [.agg [.sl x n 5], .g (.str key), .g (.str v)] H Q := by
  have pA := pre_pu H (.row true 24 [(.sl x n 5)])
  have g0 : gt (pu H (.row true 24 [(.sl x n 5)])) (ln H) 0 = some (.sl x n 5) := by simp [gt, pu, ln]
  refine ⟨60, ?_⟩
  rw [insert_Insert_eq, rd_of g0, dL_sl]
  have hTA := hT.mono pA
  refine sound_Sound_spec hTA fun H1 p1 => ?_
  simp only [rG_g, dB_bool]
  have bad : ∀ H', H <+: H' → formE T key v = false → Q (.tup [.a [.sl none 0 5], .s (.int .i64 1200)]) H' := fun H' p e => by
    have e2 : insE T key v = 1200 := by unfold insE; rw [e]
    rw [e2] at hQ1
    exact hQ1 H' (by decide) p
  have pH1 : H <+: H1 := pA.trans p1
  by_cases e0 : 0 < heightD T
  rotate_left
  · rw [decide_eq_false e0, bite_t (by decide)]
    exact bad _ pH1 (by unfold formE; rw [decide_eq_false e0]; rfl)
  rw [decide_eq_true e0, bite_f (by decide)]
  refine page_Key_spec ?_
  simp only [rG_g, dB_bool]
  by_cases k12 : 1 ≤ key.size ∧ key.size ≤ 6
  rotate_left
  · have e : (decide (1 ≤ key.size) && decide (key.size ≤ 6)) = false := by
      rw [Bool.and_eq_false_iff]
      by_cases q : 1 ≤ key.size
      · exact .inr (decide_eq_false fun z => k12 ⟨q, z⟩)
      · exact .inl (decide_eq_false q)
    rw [e, bite_t (by decide)]
    exact bad _ pH1 (by unfold formE; rw [← Bool.and_assoc (decide (1 ≤ key.size)), e]; simp)
  obtain ⟨k1, k2⟩ := k12
  rw [decide_eq_true k1, decide_eq_true k2, bite_f (by decide)]
  refine page_Value_spec ?_
  simp only [rG_g, dB_bool]
  by_cases k3 : v.size ≤ 10
  rotate_left
  · rw [decide_eq_false k3, bite_t (by decide)]
    exact bad _ pH1 (by unfold formE; rw [decide_eq_false k3]; simp)
  rw [decide_eq_true k3, bite_f (by decide)]
  have hform : formE T key v = true := by unfold formE; simp; omega
  have hins : insE T key v = match (findK (entD T) key).isNone && decide (60 ≤ (entD T).length) with | true => 1201 | false => 0 := by unfold insE; rw [hform]; rfl
  obtain ⟨P, w⟩ := whole_of e0
  have hn48 : n = 48 := by have := hT.lenT; have := w.len; omega
  subst hn48
  have hs := small_sound e0
  have hc60 := w.count
  have g1 : gt H1 (ln H) 0 = some (.sl x 48 5) := gt_pre p1 g0
  rw [rd_of g1, dL_sl]
  refine find_Find_spec (hTA.mono p1) fun H2 p2 => ?_
  simp only [rT_tup, uR_cons, rS_s, dS_str, dB_bool, dI_int, uE_nil]
  have g2 : gt H2 (ln H) 0 = some (.sl x 48 5) := gt_pre p2 g1
  have pH2 : H <+: H2 := pH1.trans p2
  rw [findE_of e0]
  -- the work
  have work : insE T key v = 0 → (insK (entD T) key v).length ≤ 60 → ∀ H3, H2 <+: H3 → (rd H3 (ln H) 0 fun v37 => dL 5 v37 fun x38 n39 => cl sound_Copy [(.agg [(.sl x38 n39 5)])] H3 fun r40 H41 => rA r40 fun c42 => uC c42 fun v43 c44 => dL 5 v43 fun x45 n46 => uN c44 (rd (pu H41 (.row true 100 [(.sl x45 n46 5), (.sl none 0 1)])) (ln H41) 0 fun v47 => dL 5 v47 fun x48 n49 =>
      insert_Insert.l8 59 key v none 0 (ln H41) 0 (ln H41) 0 x48 n49 (nI n49) 0 (pu H41 (.row true 100 [(.sl x45 n46 5), (.sl none 0 1)])) Q)) := fun hz hc H3 p3 => by
    have g3 : gt H3 (ln H) 0 = some (.sl x 48 5) := gt_pre p3 g2
    rw [rd_of g3, dL_sl]
    refine sound_Copy_spec (hTA.mono (p1.trans (p2.trans p3))) (by omega) hs fun a' ds H4 g => ?_
    simp only [rA_agg, uC_cons, dL_sl, uN_nil]
    have q1 := g.ot.len
    obtain ⟨tp, ea, hb, hr, _⟩ := own_row g.ot.own (by omega)
    subst ea
    have p4 := g.pre
    have pr := pre_pu H4 (.row true 100 [(.sl (some (tp, 0)) 48 5), (.sl none 0 1)])
    have g4 : gt (pu H4 (.row true 100 [(.sl (some (tp, 0)) 48 5), (.sl none 0 1)])) (ln H4) 0 = some (.sl (some (tp, 0)) 48 5) := by simp [gt, pu, ln]
    rw [rd_of g4, dL_sl]
    have gg := (g.gt hs).mono pr
    have htp := (List.getElem?_eq_some_iff.1 hr).1
    have G : GT H3 (pu H4 (.row true 100 [(.sl (some (tp, 0)) 48 5), (.sl none 0 1)])) tp ds T (fun _ => True) (offW (ln H4) none) := gg.reoff fun l hl => by
      rcases hl with rfl | ⟨o, e⟩
      · refine ⟨g.pre.length_le, by unfold ln; omega, fun i hi hon => ?_⟩
        have := (g.gt hs).onlt i hi hon
        unfold ln at this; omega
      · cases e
    refine insert_loop w hc k1 k2 k3 (fun H' ds' T' X' off' gt' q => ?_) 59 0 none [] _ (by omega) (by omega) G (.inl ⟨rfl, rfl, by simp [pu, ln]⟩) (List.Perm.refl _)
    have hpre : H <+: H' := (pH2.trans p3).trans gt'.pre
    exact hQ2 hz e0 _ _ _ _ hpre gt'.ot.tr q (gt'.wt (pH2.trans p3).length_le)
  cases hf : (findK (entD T) key).isSome with
  | false =>
    have hfn : (findK (entD T) key).isNone = true := by cases h : findK (entD T) key with | none => rfl | some _ => rw [h] at hf; cases hf
    rw [bite_t (by decide)]
    refine entries_spec (hTA.mono (p1.trans p2)) g2 (by omega) hs ?_
    simp only [rG_g, dI_int]
    rw [leafSum_used e0]
    by_cases h60 : 60 ≤ (entD T).length
    · rw [bite_t (by simp; omega)]
      have e2 : insE T key v = 1201 := by rw [hins, hfn, decide_eq_true h60]; rfl
      rw [e2] at hQ1
      exact hQ1 _ (by decide) pH2
    · rw [bite_f (by simp; omega)]
      exact work (by rw [hins, hfn, decide_eq_false h60]; rfl) (by have := insK_le (k := key) (v := v) w.sub.asc.1; omega) H2 (List.prefix_refl _)
  | true =>
    have hfn : (findK (entD T) key).isNone = false := by cases h : findK (entD T) key with | none => rw [h] at hf; cases hf | some _ => rfl
    rw [bite_f (by decide)]
    exact work (by rw [hins, hfn]; rfl) (by rw [insK_len w.sub.asc.1, hfn]; omega) H2 (List.prefix_refl _)
end
end Go.Am
namespace Go.Am
/-! 25: cryostat/cryostatlaw12.awake -/
def law12_awake.cx : Cx := ⟨tys, [], [], [], [(28, ref9_New), (23, insert_Insert), (26, ref9_All), (17, law0_Num), (27, law0_SamePairs)], noDyn, [.tmp 0]⟩
def law12_awake : Sm := fun xs H Q => ∃ k, callK (law12_awake.cx) Go.Proofs.Tryz.f25 k xs H Q
theorem law12_awake_eq (k : Nat)  (H : Hp) (Q : Post) : callK (law12_awake.cx) Go.Proofs.Tryz.f25 (k + 1) [] H Q = (
 cl ref9_New [] H fun r0 H1 =>
 rA r0 fun c2 =>
 uC c2 fun v3 c4 =>
 dL 5 v3 fun x5 n6 =>
 uN c4 (cl insert_Insert [(.agg [(.sl x5 n6 5)]), (.g (.str (mkS [98]))), (.g (.str (mkS [49])))] H1 fun r7 H8 =>
 rT r7 fun c9 =>
 uR c9 fun q10 c11 =>
 rC q10 fun c12 =>
 uC c12 fun v13 c14 =>
 dL 5 v13 fun x15 n16 =>
 uN c14 (uR c11 fun q17 c18 =>
 rS q17 fun v19 =>
 dI .i64 v19 fun i20 =>
 uE c18 (cl insert_Insert [(.agg [(.sl x15 n16 5)]), (.g (.str (mkS [97]))), (.g (.str (mkS [50])))] H8 fun r21 H22 =>
 rT r21 fun c23 =>
 uR c23 fun q24 c25 =>
 rC q24 fun c26 =>
 uC c26 fun v27 c28 =>
 dL 5 v27 fun x29 n30 =>
 uN c28 (uR c25 fun q31 c32 =>
 rS q31 fun v33 =>
 dI .i64 v33 fun i34 =>
 uE c32 (cl insert_Insert [(.agg [(.sl x29 n30 5)]), (.g (.str (mkS [98]))), (.g (.str (mkS [51])))] H22 fun r35 H36 =>
 rT r35 fun c37 =>
 uR c37 fun q38 c39 =>
 rC q38 fun c40 =>
 uC c40 fun v41 c42 =>
 dL 5 v41 fun x43 n44 =>
 uN c42 (uR c39 fun q45 c46 =>
 rS q45 fun v47 =>
 dI .i64 v47 fun i48 =>
 uE c46 (cl insert_Insert [(.agg [(.sl x29 n30 5)]), (.g (.str (mkS []))), (.g (.str (mkS [])))] H36 fun r49 H50 =>
 rT r49 fun c51 =>
 uR c51 fun q52 c53 =>
 rC q52 fun c54 =>
 uC c54 fun v55 c56 =>
 dL 5 v55 fun x57 n58 =>
 uN c56 (uR c53 fun q59 c60 =>
 rS q59 fun v61 =>
 dI .i64 v61 fun i62 =>
 uE c60 (cl insert_Insert [(.agg [(.sl none 0 5)]), (.g (.str (mkS [97]))), (.g (.str (mkS [])))] H50 fun r63 H64 =>
 rT r63 fun c65 =>
 uR c65 fun q66 c67 =>
 rC q66 fun c68 =>
 uC c68 fun v69 c70 =>
 dL 5 v69 fun x71 n72 =>
 uN c70 (uR c67 fun q73 c74 =>
 rS q73 fun v75 =>
 dI .i64 v75 fun i76 =>
 uE c74 (cl ref9_All [(.agg [(.sl x43 n44 5)])] H64 fun r77 H78 =>
 rT r77 fun c79 =>
 uR c79 fun q80 c81 =>
 rS q80 fun v82 =>
 dL 2 v82 fun x83 n84 =>
 uR c81 fun q85 c86 =>
 rS q85 fun v87 =>
 dI .i64 v87 fun i88 =>
 uE c86 (cl law0_Num [(.g (.int .i64 i20))] H78 fun r89 H90 =>
 rG r89 fun v91 =>
 dI .i64 v91 fun i92 =>
 bite (eqI i92 0)
 (cl law0_Num [(.g (.int .i64 i34))] H90 fun r93 H94 =>
  rG r93 fun v95 =>
  dI .i64 v95 fun i96 =>
  bite (eqI i96 0)
  (cl law0_Num [(.g (.int .i64 i48))] H94 fun r97 H98 =>
   rG r97 fun v99 =>
   dI .i64 v99 fun i100 =>
   bite (eqI i100 0)
   (cl law0_Num [(.g (.int .i64 i62))] H98 fun r101 H102 =>
    rG r101 fun v103 =>
    dI .i64 v103 fun i104 =>
    bite (eqI i104 1200)
    (cl law0_Num [(.g (.int .i64 i76))] H102 fun r105 H106 =>
     rG r105 fun v107 =>
     dI .i64 v107 fun i108 =>
     bite (eqI i108 1200)
     (bite (eqI i88 0)
      (cl law0_SamePairs [(.g (.sl x83 n84 2)), (.g (.sl (some ((ln H106), 0)) 2 2))] (pu H106 (.row false 1000003 [(.str (mkS [97])), (.str (mkS [50])), (.str (mkS [98])), (.str (mkS [51]))])) fun r109 H110 =>
       rG r109 fun v111 =>
       dB v111 fun b112 =>
       Q (.g (.bool b112)) H110)
      (Q (.g (.bool false)) H106))
     (Q (.g (.bool false)) H106))
    (Q (.g (.bool false)) H102))
   (Q (.g (.bool false)) H98))
  (Q (.g (.bool false)) H94))
 (Q (.g (.bool false)) H90)))))))))))))) := by kernel_rfl
theorem law12_awake_ok : Sound Go.Proofs.Tryz.prog 25 (law12_awake) := prog_ok.sound (cx := law12_awake.cx) rfl (EnvOK.cons ((ref9_New_ok).c ⟨_, Go.Proofs.Tryz.func28, by kernel_rfl, by kernel_rfl⟩) (EnvOK.cons ((insert_Insert_ok).c ⟨_, Go.Proofs.Tryz.func23, by kernel_rfl, by kernel_rfl⟩) (EnvOK.cons ((ref9_All_ok).c ⟨_, Go.Proofs.Tryz.func26, by kernel_rfl, by kernel_rfl⟩) (EnvOK.cons ((law0_Num_ok).c ⟨_, Go.Proofs.Tryz.func17, by kernel_rfl, by kernel_rfl⟩) (EnvOK.cons ((law0_SamePairs_ok).c ⟨_, Go.Proofs.Tryz.func27, by kernel_rfl, by kernel_rfl⟩) (EnvOK.nil _)))))) (noDyn_ok _) Go.Proofs.Tryz.func25 rfl

/-! 5: cryostat/cryostatlaw12.InsertSame -/
def law12_InsertSame.cx : Cx := ⟨tys, [], [], [], [(25, law12_awake), (26, ref9_All), (23, insert_Insert), (24, ref9_Insert), (17, law0_Num), (18, law0_SameTree)], noDyn, [.tmp 6]⟩
def law12_InsertSame : Sm := fun xs H Q => ∃ k, callK (law12_InsertSame.cx) Go.Proofs.Tryz.f5 k xs H Q
theorem law12_InsertSame_eq (k : Nat) (z0 : Pl) (z0n : Nat) (z1 : Int) (z2 : ByteArray) (H : Hp) (Q : Post) : callK (law12_InsertSame.cx) Go.Proofs.Tryz.f5 (k + 1) [.agg [.sl z0 z0n 5], .g (.int .i64 z1), .g (.str z2)] H Q = (
 cl law12_awake [] H fun r0 H1 =>
 rG r0 fun v2 =>
 dB v2 fun b3 =>
 bite (!b3)
 (Q (.g (.bool false)) H1)
 (cl ref9_All [(.agg [(.sl z0 z0n 5)])] H1 fun r4 H5 =>
  rT r4 fun c6 =>
  uR c6 fun q7 c8 =>
  rS q7 fun v9 =>
  dL 2 v9 fun x10 n11 =>
  uR c8 fun q12 c13 =>
  rS q12 fun v14 =>
  dI .i64 v14 fun i15 =>
  uE c13 (bite (!(eqI i15 0))
  (Q (.g (.bool true)) H5)
  (bite (eqI (nI n11) 0)
   (Q (.g (.bool true)) H5)
   (bite (ltI 10 (sz z2))
    (Q (.g (.bool true)) H5)
    (chk (!(eqI (wrapI .u64 (nI n11)) 0)) (chk true (chk ((leI 0 (wrapI .i64 (Int.tmod (wrapI .u64 z1) (wrapI .u64 (nI n11))))) && (ltI (wrapI .i64 (Int.tmod (wrapI .u64 z1) (wrapI .u64 (nI n11)))) (nI n11))) (pS x10 fun n16 n17 =>
     rd H5 n16 ((n17 + ((tN (wrapI .i64 (Int.tmod (wrapI .u64 z1) (wrapI .u64 (nI n11))))) * 2)) + 0) fun v18 =>
     dS v18 fun s19 =>
     cl insert_Insert [(.agg [(.sl z0 z0n 5)]), (.g (.str s19)), (.g (.str z2))] H5 fun r20 H21 =>
     rT r20 fun c22 =>
     uR c22 fun q23 c24 =>
     rC q23 fun c25 =>
     uC c25 fun v26 c27 =>
     dL 5 v26 fun x28 n29 =>
     uN c27 (uR c24 fun q30 c31 =>
     rS q30 fun v32 =>
     dI .i64 v32 fun i33 =>
     uE c31 (cl ref9_Insert [(.agg [(.sl z0 z0n 5)]), (.g (.str s19)), (.g (.str z2))] H21 fun r34 H35 =>
     rT r34 fun c36 =>
     uR c36 fun q37 c38 =>
     rC q37 fun c39 =>
     uC c39 fun v40 c41 =>
     dL 5 v40 fun x42 n43 =>
     uN c41 (uR c38 fun q44 c45 =>
     rS q44 fun v46 =>
     dI .i64 v46 fun i47 =>
     uE c45 (cl law0_Num [(.g (.int .i64 i33))] H35 fun r48 H49 =>
     rG r48 fun v50 =>
     dI .i64 v50 fun i51 =>
     bite (eqI i51 0)
     (bite (eqI i47 0)
      (cl law0_SameTree [(.agg [(.sl x28 n29 5)]), (.agg [(.sl x42 n43 5)])] H49 fun r52 H53 =>
       rG r52 fun v54 =>
       dB v54 fun b55 =>
       Q (.g (.bool b55)) H53)
      (Q (.g (.bool false)) H49))
     (Q (.g (.bool false)) H49)))))))))))))) := by kernel_rfl
theorem law12_InsertSame_ok : Sound Go.Proofs.Tryz.prog 5 (law12_InsertSame) := prog_ok.sound (cx := law12_InsertSame.cx) rfl (EnvOK.cons ((law12_awake_ok).c ⟨_, Go.Proofs.Tryz.func25, by kernel_rfl, by kernel_rfl⟩) (EnvOK.cons ((ref9_All_ok).c ⟨_, Go.Proofs.Tryz.func26, by kernel_rfl, by kernel_rfl⟩) (EnvOK.cons ((insert_Insert_ok).c ⟨_, Go.Proofs.Tryz.func23, by kernel_rfl, by kernel_rfl⟩) (EnvOK.cons ((ref9_Insert_ok).c ⟨_, Go.Proofs.Tryz.func24, by kernel_rfl, by kernel_rfl⟩) (EnvOK.cons ((law0_Num_ok).c ⟨_, Go.Proofs.Tryz.func17, by kernel_rfl, by kernel_rfl⟩) (EnvOK.cons ((law0_SameTree_ok).c ⟨_, Go.Proofs.Tryz.func18, by kernel_rfl, by kernel_rfl⟩) (EnvOK.nil _))))))) (noDyn_ok _) Go.Proofs.Tryz.func5 rfl

end Go.Am
namespace Go.Am

/-! one leaf alone has a key -/
theorem KidsR.leafMem {R : Nat → List Nat → KV → Prop} {i : Nat} {k : ByteArray} (hR : ∀ a P ps, R a P ps → i ∈ P → ∃ e ∈ ps, e.1 = k) : ∀ {ks : List Int} {ss : List ByteArray} {P : List Nat} {ps : KV}, KidsR R ks ss P ps → i ∈ P → ∃ e ∈ ps, e.1 = k
  | [], _, _, _, h, _ => h.elim
  | a :: ks, [], P, ps, h, hi => hR _ _ _ h.2 hi
  | a :: ks, s :: ss, P, ps, ⟨P1, ps1, P2, ps2, h1, h2, e1, e2, _, _⟩, hi => by
    subst e1; subst e2
    rcases List.mem_append.1 hi with q | q
    · obtain ⟨e, he, z⟩ := hR _ _ _ h1 q; exact ⟨e, by simp [he], z⟩
    · obtain ⟨e, he, z⟩ := KidsR.leafMem hR h2 q; exact ⟨e, by simp [he], z⟩
section
variable {T : List Pg} {i j : Nat} {p q : Pg} {k : ByteArray}
theorem Sub.leafMem (hp : T[i]? = some p) (hl : p.leaf = true) (hk : k ∈ p.keys) : ∀ {d a : Nat} {P : List Nat} {ps : KV}, Sub T d a P ps → i ∈ P → ∃ e ∈ ps, e.1 = k
  | 0, _, _, _, h, _ => h.elim
  | d + 1, a, P, ps, h, hi => by
    obtain ⟨r, hr, hm, ⟨_, h1, e, e2⟩ | ⟨h1, P', e, hkk⟩⟩ := h
    · subst e; subst e2
      rw [List.mem_singleton.1 hi, hr] at hp
      obtain rfl := Option.some.inj hp
      obtain ⟨v, hv⟩ := zip_fst (hm.2.leaf hl).1 hk
      exact ⟨_, hv, rfl⟩
    · subst e
      rcases List.mem_cons.1 hi with z | z
      · subst z; rw [hr] at hp; obtain rfl := Option.some.inj hp; rw [hl] at h1; cases h1
      · exact KidsR.leafMem (fun a P ps h hi => Sub.leafMem hp hl hk h.1 hi) hkk z
theorem KidsR.leafUniq {R : Nat → List Nat → KV → Prop} (hR : ∀ a P ps, R a P ps → P.Nodup → i ∈ P → j ∈ P → i = j) (hi : ∀ a P ps, R a P ps → i ∈ P → ∃ e ∈ ps, e.1 = k) (hj : ∀ a P ps, R a P ps → j ∈ P → ∃ e ∈ ps, e.1 = k) :
    ∀ {ks : List Int} {ss : List ByteArray} {P : List Nat} {ps : KV}, KidsR R ks ss P ps → P.Nodup → i ∈ P → j ∈ P → i = j
  | [], _, _, _, h, _, _, _ => h.elim
  | a :: ks, [], P, ps, h, hn, h1, h2 => hR _ _ _ h.2 hn h1 h2
  | a :: ks, s :: ss, P, ps, ⟨P1, ps1, P2, ps2, r1, r2, e1, e2, lt, ge⟩, hn, h1, h2 => by
    subst e1; subst e2
    obtain ⟨n1, n2, n3⟩ := List.nodup_append.1 hn
    rcases List.mem_append.1 h1 with y | y <;> rcases List.mem_append.1 h2 with z | z
    · exact hR _ _ _ r1 n1 y z
    · obtain ⟨e, he, q⟩ := hi _ _ _ r1 y
      obtain ⟨e', he', q'⟩ := KidsR.leafMem hj r2 z
      have := lt e he
      rw [q, ← q', ge e' he'] at this; cases this
    · obtain ⟨e, he, q⟩ := hj _ _ _ r1 z
      obtain ⟨e', he', q'⟩ := KidsR.leafMem hi r2 y
      have := lt e he
      rw [q, ← q', ge e' he'] at this; cases this
    · exact KidsR.leafUniq hR hi hj r2 n2 y z
theorem Sub.leafUniq (hp : T[i]? = some p) (hl : p.leaf = true) (hk : k ∈ p.keys) (hq : T[j]? = some q) (hl' : q.leaf = true) (hk' : k ∈ q.keys) : ∀ {d a : Nat} {P : List Nat} {ps : KV}, Sub T d a P ps → P.Nodup → i ∈ P → j ∈ P → i = j
  | 0, _, _, _, h, _, _, _ => h.elim
  | d + 1, a, P, ps, h, hn, hi, hj => by
    obtain ⟨r, hr, hm, ⟨_, h1, e, e2⟩ | ⟨h1, P', e, hkk⟩⟩ := h
    · subst e
      rw [List.mem_singleton.1 hi, List.mem_singleton.1 hj]
    · subst e
      have n1 := List.nodup_cons.1 hn
      rcases List.mem_cons.1 hi with y | y
      · subst y; rw [hr] at hp; obtain rfl := Option.some.inj hp; rw [hl] at h1; cases h1
      · rcases List.mem_cons.1 hj with z | z
        · subst z; rw [hr] at hq; obtain rfl := Option.some.inj hq; rw [hl'] at h1; cases h1
        · exact KidsR.leafUniq (fun a P ps h hn hi hj => Sub.leafUniq hp hl hk hq hl' hk' h.1 hn hi hj) (fun a P ps h hi => Sub.leafMem hp hl hk h.1 hi) (fun a P ps h hi => Sub.leafMem hq hl' hk' h.1 hi) hkk n1.2 y z
theorem leaf_same (h : 0 < heightD T) (hp : T[i]? = some p) (hl : p.leaf = true) (hk : slotB p.keys k = true) (hq : T[j]? = some q) (hl' : q.leaf = true) (hk' : slotB q.keys k = true) : i = j ∧ p = q := by
  obtain ⟨P, w⟩ := whole_of h
  have inP : ∀ {i : Nat} {p : Pg}, T[i]? = some p → p.leaf = true → i ∈ P := fun {i p} hp hl => by
    refine Decidable.byContradiction fun z => ?_
    have := w.rest i p hp z
    unfold nothingB at this
    rw [hl] at this
    simp at this
  have mem : ∀ {ks : List ByteArray}, slotB ks k = true → k ∈ ks := fun {ks} h => by
    obtain ⟨hs, e⟩ := slot_at h
    rw [← e]; exact List.getElem_mem hs
  have e := Sub.leafUniq hp hl (mem hk) hq hl' (mem hk') w.sub w.nodup (inP hp hl) (inP hq hl')
  subst e
  rw [hp] at hq
  exact ⟨rfl, Option.some.inj hq⟩
end

/-! the laws -/
theorem newH : 0 < heightD newT := by decide +kernel
theorem newE : entD newT = [] := by decide +kernel
theorem insE_ok {T : List Pg} {key v : ByteArray} (h : 0 < heightD T) (h1 : 1 ≤ key.size) (h2 : key.size ≤ 6) (h3 : v.size ≤ 10) (hl : (entD T).length < 60 ∨ (findK (entD T) key).isSome = true) : insE T key v = 0 := by
  have hform : formE T key v = true := by unfold formE; simp; omega
  unfold insE
  rw [hform]
  show (match (findK (entD T) key).isNone && decide (60 ≤ (entD T).length) with | true => 1201 | false => 0) = (0 : Int)
  rcases hl with hl | hl
  · rw [decide_eq_false (by omega), Bool.and_false]
  · cases hf : findK (entD T) key with
    | none => rw [hf] at hl; cases hl
    | some _ => rfl
theorem insE_form {T : List Pg} {key v : ByteArray} (h : ¬ 0 < heightD T ∨ key.size < 1 ∨ 6 < key.size ∨ 10 < v.size) : insE T key v = 1200 := by
  have hform : formE T key v = false := by
    cases hf : formE T key v with
    | false => rfl
    | true => have := formE_true hf; omega
  unfold insE
  rw [hform]
theorem allE_of {T : List Pg} (h : 0 < heightD T) : allE T = entD T := by unfold allE; rw [decide_eq_true h]
section
variable {H : Hp} {Q : Post} {key v : ByteArray}
theorem kv2_at (H : Hp) : Kv (H ++ [.row false 1000003 [(.str (mkS [97])), (.str (mkS [50])), (.str (mkS [98])), (.str (mkS [51]))]]) (some (H.length, 0)) 2 [(mkS [97], mkS [50]), (mkS [98], mkS [51])] :=
  ⟨by simp [cells?, kvCells], rfl⟩
set_option maxRecDepth 100000 in
theorem law12_awake_spec (hQ : ∀ H', H <+: H' → Q (.g (.bool true)) H') : law12_awake [] H Q := by
  refine ⟨1, ?_⟩
  rw [law12_awake_eq]
  refine ref9_New_spec fun H1 p1 o1 => ?_
  simp only [rA_agg, uC_cons, dL_sl, uN_nil]
  have z1 : insE newT (mkS [98]) (mkS [49]) = 0 := insE_ok newH (by decide) (by decide) (by decide) (.inl (by rw [newE]; decide))
  refine insert_Insert_spec o1.tr (by omega) (fun _ h => (h z1).elim) fun _ _ a1 d1 A1 H2 p2 t1 q1 _ => ?_
  simp only [rT_tup, uR_cons, rC_a, uC_cons, dL_sl, uN_nil, rS_s, dI_int, uE_nil]
  have e1 : entD A1 = [(mkS [98], mkS [49])] := by rw [q1.ent, newE]; rfl
  have z2 : insE A1 (mkS [97]) (mkS [50]) = 0 := insE_ok q1.pos (by decide) (by decide) (by decide) (.inl (by rw [e1]; decide))
  refine insert_Insert_spec t1 (by omega) (fun _ h => (h z2).elim) fun _ _ a2 d2 A2 H3 p3 t2 q2 _ => ?_
  simp only [rT_tup, uR_cons, rC_a, uC_cons, dL_sl, uN_nil, rS_s, dI_int, uE_nil]
  have e2 : entD A2 = [(mkS [97], mkS [50]), (mkS [98], mkS [49])] := by rw [q2.ent, e1]; decide +kernel
  have z3 : insE A2 (mkS [98]) (mkS [51]) = 0 := insE_ok q2.pos (by decide) (by decide) (by decide) (.inl (by rw [e2]; decide))
  refine insert_Insert_spec t2 (by omega) (fun _ h => (h z3).elim) fun _ _ a3 d3 A3 H4 p4 t3 q3 _ => ?_
  simp only [rT_tup, uR_cons, rC_a, uC_cons, dL_sl, uN_nil, rS_s, dI_int, uE_nil]
  have e3 : entD A3 = [(mkS [97], mkS [50]), (mkS [98], mkS [51])] := by rw [q3.ent, e2]; decide +kernel
  have z4 : insE A2 (mkS []) (mkS []) = 1200 := insE_form (.inr (.inl (by decide)))
  refine insert_Insert_spec (t2.mono p4) (by omega) (fun H5 _ p5 => ?_) (fun h => by rw [z4] at h; cases h)
  rw [z4]
  simp only [rT_tup, uR_cons, rC_a, uC_cons, dL_sl, uN_nil, rS_s, dI_int, uE_nil]
  have z5 : insE [] (mkS [97]) (mkS []) = 1200 := insE_form (.inl (by decide +kernel))
  refine insert_Insert_spec (tr_nil H5) (by omega) (fun H6 _ p6 => ?_) (fun h => by rw [z5] at h; cases h)
  rw [z5]
  simp only [rT_tup, uR_cons, rC_a, uC_cons, dL_sl, uN_nil, rS_s, dI_int, uE_nil]
  refine ref9_All_spec (t3.mono (p5.trans p6)) fun c k H7 p7 o7 l7 => ?_
  simp only [rT_tup, uR_cons, rS_s, dL_sl, dI_int, uE_nil]
  rw [err_ok q3.pos]
  refine law0_Num_spec ?_
  simp only [rG_g, dI_int]
  rw [bite_t (by decide)]
  refine law0_Num_spec ?_
  simp only [rG_g, dI_int]
  rw [bite_t (by decide)]
  refine law0_Num_spec ?_
  simp only [rG_g, dI_int]
  rw [bite_t (by decide)]
  refine law0_Num_spec ?_
  simp only [rG_g, dI_int]
  rw [bite_t (by decide)]
  refine law0_Num_spec ?_
  simp only [rG_g, dI_int]
  rw [bite_t (by decide), bite_t (by decide)]
  simp only [pu_def, ln_def]
  rw [allE_of q3.pos, e3] at o7 l7
  have hk : k = 2 := l7.symm
  subst hk
  have pz := pre_pu H7 (.row false 1000003 [(.str (mkS [97])), (.str (mkS [50])), (.str (mkS [98])), (.str (mkS [51]))])
  refine law0_SamePairs_spec ((o7.kv rfl).mono pz) (kv2_at H7) (by omega) fun b hb => ?_
  simp only [rG_g, dB_bool]
  rw [hb.2 rfl]
  exact hQ _ (p1.trans (p2.trans (p3.trans (p4.trans (p5.trans (p6.trans (p7.trans pz)))))))

set_option maxRecDepth 100000 in
theorem law12_InsertSame_spec {z : Pl} {n : Nat} {cs : List Am.PC} {T : List Pg} {which : Int} (hT : Tr H z n cs T) (hn : n * 80 ≤ 140737488351232) (hQ : ∀ H', Q (.g (.bool true)) H') : law12_InsertSame [.agg [.sl z n 5], .g (.int .i64 which), .g (.str v)] H Q := by
  refine ⟨1, ?_⟩
  rw [law12_InsertSame_eq]
  refine law12_awake_spec fun H1 p1 => ?_
  simp only [rG_g, dB_bool]
  rw [bite_f (by decide)]
  refine ref9_All_spec (hT.mono p1) fun c m H2 p2 o2 l2 => ?_
  simp only [rT_tup, uR_cons, rS_s, dL_sl, dI_int, uE_nil]
  by_cases h0 : 0 < heightD T
  rotate_left
  · rw [err_no h0, bite_t (by decide)]; exact hQ _
  rw [err_ok h0, bite_f (by decide)]
  have eA := allE_of h0
  have hl60 := allE_len T
  rw [eA] at o2 l2 hl60
  refine bite_of (fun e => hQ _) (fun e => ?_)
  have hm : 1 ≤ m := by simp at e; omega
  refine bite_of (fun e => hQ _) (fun e => ?_)
  have hv : v.size ≤ 10 := by simp at e; omega
  obtain ⟨i, hi, ei⟩ := pick which hm (by omega)
  rw [nI_def, ei, wrapU_nat (by omega)]
  refine chk_of (by simp; omega) ?_
  rw [chk_true]
  refine chk_of (by simp; omega) ?_
  obtain ⟨l, o, ea, q1, q2⟩ := (o2.kv l2).get (i := i) (by omega)
  subst ea
  have etN : tN (i : Int) = i := rfl
  rw [pS_some, etN, Nat.add_zero, rd_of q1, dS_str]
  obtain ⟨st, s⟩ := SF.of h0
  have hasc := s.ents.1
  have hok := s.ents.2.1 _ (List.getElem_mem (by omega : i < (entD T).length))
  have hfind : (findK (entD T) ((entD T)[i]'(by omega)).1).isSome = true := by
    rw [findK_mem hasc (List.getElem_mem (by omega))]; rfl
  have hz : insE T ((entD T)[i]'(by omega)).1 v = 0 := insE_ok h0 hok.1.1 hok.1.2 hv (.inr hfind)
  refine insert_Insert_spec (hT.mono (p1.trans p2)) hn (fun _ h => (h hz).elim) (fun _ _ a ds A H3 p3 tA qA wA => ?_)
  simp only [rT_tup, uR_cons, rC_a, uC_cons, dL_sl, uN_nil, rS_s, dI_int, uE_nil]
  refine ref9_Insert_spec (hT.mono (p1.trans (p2.trans p3))) hn (fun _ h => (h hz).elim) (fun _ _ a' ds' A' H4 p4 tB qB => ?_)
  simp only [rT_tup, uR_cons, rC_a, uC_cons, dL_sl, uN_nil, rS_s, dI_int, uE_nil]
  refine law0_Num_spec ?_
  simp only [rG_g, dI_int]
  rw [bite_t (by decide), bite_t (by decide)]
  refine law0_SameTree_spec (tA.mono p4) tB (by omega) fun b hb => ?_
  simp only [rG_g, dB_bool]
  obtain ⟨i1, r1, u1, u2, u3, u4⟩ := qA.was hfind
  obtain ⟨i2, r2, w1, w2, w3, w4⟩ := qB.was hfind
  obtain ⟨e1, e2⟩ := leaf_same h0 u1 u2 u3 w1 w2 w3
  rw [hb.2 (by rw [u4, w4, e1, e2])]
  exact hQ _

end
end Go.Am
