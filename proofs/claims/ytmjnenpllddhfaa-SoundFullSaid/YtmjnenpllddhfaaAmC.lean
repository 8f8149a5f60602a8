import Derived.Test.YtmjnenpllddhfaaAmB
set_option linter.unusedVariables false
set_option linter.unusedSimpArgs false
namespace Go.Am

theorem FV.is.mono {φ φ' : List LI} (h : φ <+: φ') {v : FV} {x : Value} (hv : v.is φ x) : v.is φ' x := by
  cases v with
  | g v => exact GV.is.mono h hv
  | agg cs => obtain ⟨us, h1, h2⟩ := hv; exact ⟨us, h1, Is2.mono h h2⟩
  | tup vs => obtain ⟨us, h1, h2⟩ := hv; exact ⟨us, h1, h2.imp fun _ _ => RV.is.mono h⟩
  | _ => exact hv.elim

/-- what a call comes back with -/
def PostOf (φ : List LI) (H : Hp) (w : World) (Q : Post) : Ending → World → Prop := fun e w' => ∃ r H' φ' x, Q r H' ∧ e = .returned x ∧ r.is φ' x ∧ Back φ H w φ' H' w'
/-- a call as an operation makes it -/
def CallsC (P : Program) (f : FuncId) (args : Array Value) (w : World) (R : Ending → World → Prop) : Prop :=
  ((callFunc f args).run P w = .ok (.enter f args) w ∧ Calls P f args w R) ∨ ∃ x w', (callFunc f args).run P w = .ok (.value x) w' ∧ R (.returned x) w'
def SoundC (P : Program) (f : FuncId) (s : Sm) : Prop :=
  ∀ as H Q, s as H Q → ∀ φ w vs, RepH φ H w → All2 (FV.is φ) as vs → CallsC P f vs.toArray w (PostOf φ H w Q)
/-- a function with a body of its own -/
def Bodied (P : Program) (f : FuncId) : Prop := ∃ fn, P.funcs[f]? = some fn ∧ (fn.name == "runtime.NumGoroutine") = false ∧ fn.body.isNone = false
theorem Sound.c {P : Program} {f : FuncId} {s : Sm} (h : Sound P f s) (hb : Bodied P f) : SoundC P f s := by
  intro as H Q hs φ w vs hr ha
  obtain ⟨fn, h1, h2, h3⟩ := hb
  have h2' : ¬ fn.name = "runtime.NumGoroutine" := by simpa using h2
  have h3' : ¬ fn.body = none := by intro e; rw [e] at h3; cases h3
  exact .inl ⟨by simp [callFunc, h1, h2', h3'], h as H Q hs φ w vs hr ha⟩

section
variable {P : Program} {cx : Cx} {φ : List LI} {H : Hp} {lam : Nat → Nat} {fr : List FV} {w : World} {φ0 : List LI} {H0 : Hp} {w0 : World} {tmps : Array Value}

theorem argsK_ok (df : List Deferred) : ∀ {xs : List Operand} {φ : List LI} {H : Hp} {K : List FV → Hp → Prop}, Inv φ0 H0 w0 φ H lam fr tmps w → argsK (ev fr) xs H K →
    ∃ as H' φ', K as H' ∧ All2 (FV.is φ') as (xs.map (Act.eval ⟨tmps, df⟩)) ∧ Inv φ0 H0 w0 φ' H' lam fr tmps w ∧ φ <+: φ'
  | [], φ, H, K, I, h => ⟨[], H, φ, h, .nil, I, List.prefix_refl _⟩
  | x :: xs, φ, H, K, I, h => by
    have hv := I.ev df x
    have h' : (match ev fr x with
      | .g v => argsK (ev fr) xs H fun r H => K (.g v :: r) H
      | .agg cs => argsK (ev fr) xs H fun r H => K (.agg cs :: r) H
      | .bs cs n z => argsK (ev fr) xs (pu H (.row false 0 cs)) fun r H' => K (.g (.sl (some (ln H, 0)) n z) :: r) H'
      | _ => False) := h
    split at h'
    · rename_i v e
      rw [e] at hv
      obtain ⟨as, H', φ', h1, h2, h3, h4⟩ := argsK_ok df I h'
      exact ⟨_, H', φ', h1, .cons (FV.is.mono (v := .g v) h4 hv) h2, h3, h4⟩
    · rename_i v e
      rw [e] at hv
      obtain ⟨as, H', φ', h1, h2, h3, h4⟩ := argsK_ok df I h'
      exact ⟨_, H', φ', h1, .cons (FV.is.mono (v := .agg v) h4 hv) h2, h3, h4⟩
    · rename_i cs n z e
      rw [e] at hv
      obtain ⟨b, c, t, fz, e1, hb0, hblk, hcis, hl, hno, hnb⟩ := hv
      obtain ⟨R, o1, o2⟩ := I.rep.snoc (w' := w) (own := false) (t := 0) (cs := cs) (i := ⟨b, 0, false, cs.length, 0⟩) (Nat.le_refl _) (fun _ _ => rfl)
        ⟨rfl, rfl, (Array.getElem?_eq_some_iff.1 hblk).1, fun j v hj => by
          obtain ⟨x, hx, hvx⟩ := hcis.get hj
          exact ⟨x, by rw [Nat.zero_add, cell_of hblk]; simpa using hx, GV.is.mono (List.prefix_append _ _) hvx⟩⟩ (fun q => by cases q) hno
      have I2 := I.go (List.prefix_append _ _) R (Keeps.refl _ _) (fun b' q => (o1 b' q).imp_right fun q => by cases q.1) (fun b' q => (o2 b' q).imp_right fun q => by rw [q]; exact ⟨hb0, hnb⟩)
      obtain ⟨as, H', φ', h1, h2, h3, h4⟩ := argsK_ok df I2 h'
      refine ⟨_, H', φ', h1, .cons ?_ h2, h3, (List.prefix_append _ _).trans h4⟩
      rw [e1]
      exact ⟨⟨b, 0, false, cs.length, 0⟩, _, n, pre_get h4 (by simp only [ln, ← I.rep.len]; exact List.getElem?_concat_length), rfl, .inl rfl, Nat.le_refl _, by show cs.length ≤ _; omega, fun q => by cases q⟩
    · exact h'.elim

theorem wp_val {o : Oper} {a : Act} {next : Act → World → Prop} {Q : Exit → Act → World → Prop} {u : Value} {w' : World} (h : (execOp a.eval o).run P w = .ok (.value u) w') (hn : next (a.put o.dst u) w') : o.wp P a w next Q := by
  unfold Oper.wp; rw [h]; exact hn
theorem wp_unit {o : Oper} {a : Act} {next : Act → World → Prop} {Q : Exit → Act → World → Prop} {w' : World} (h : (execOp a.eval o).run P w = .ok .skip w') (hn : next (a.put o.dst undef) w') : o.wp P a w next Q := by
  unfold Oper.wp; rw [h]; exact hn

/-- a call -/
theorem call_ok (I : Inv φ0 H0 w0 φ H lam fr tmps w) {o : Oper} {df : List Deferred} {f : FuncId} {s : Sm} {as : List FV} {vs : List Value} {K : FV → Hp → Prop} (hS : SoundC P f s) (hs : cl s as H fun r H => dRes cx o.type r fun r => K r H)
    (ha : All2 (FV.is φ) as vs) (hx : (execOp (Act.eval ⟨tmps, df⟩) o).run P w = (callFunc f vs.toArray).run P w) {next : Act → World → Prop} {Q : Exit → Act → World → Prop}
    (hn : ∀ v H' u w', K v H' → Res φ0 H0 w0 o.dst v fr H' tmps u w' → next ((⟨tmps, df⟩ : Act).put o.dst u) w') : o.wp P ⟨tmps, df⟩ w next Q := by
  have fin : ∀ e w', PostOf φ H w (fun r H => dRes cx o.type r fun r => K r H) e w' → ∃ x, e = .returned x ∧ next ((⟨tmps, df⟩ : Act).put o.dst x) w' := by
    intro e w' ⟨r, H', φ', x, hq, he, hr, B⟩
    obtain ⟨r', hk, hr'⟩ := dRes_ok cx hq
    exact ⟨x, he, hn _ _ _ _ hk (Res.of (I.back B) (hr' _ _ _ _ _ _ _ hr) o.dst)⟩
  rcases hS as H _ hs φ w vs I.rep ha with ⟨h1, h2⟩ | ⟨x, w', h1, h2⟩
  · unfold Oper.wp
    rw [hx, h1, Oper.upon_enter]
    refine h2.mono fun e w' q => ?_
    obtain ⟨x, rfl, hq⟩ := fin e w' q
    exact hq
  · obtain ⟨x', e, hq⟩ := fin _ _ h2
    cases e
    exact wp_val (by rw [hx, h1]) hq


theorem caps_is {caps : List (Nat × Nat)} {xs : List Value} (h : All2 (capIs φ) caps xs) : All2 (FV.is φ) (caps.map capV) xs := by
  induction h with
  | nil => exact .nil
  | cons h _ ih => exact .cons h ih

theorem asBool_bool (b : Bool) : (asBool (.bool b)).run P w = .ok b w := rfl

theorem opE_ok (hT : TysOK P cx.tys) (hE : ∀ f s, cx.env.lookup f = some s → SoundC P f s) (hD : ∀ f, SoundC P f (cx.dyn f)) (I : Inv φ0 H0 w0 φ H lam fr tmps w) (df : List Deferred) {o : Oper} {K : FV → Hp → Prop} (h : opE cx o (ev fr) (fun s => fr.getD s .bad) H K)
    {next : Act → World → Prop} {Q : Exit → Act → World → Prop} (hn : ∀ v H' u w', K v H' → Res φ0 H0 w0 o.dst v fr H' tmps u w' → next ((⟨tmps, df⟩ : Act).put o.dst u) w') : o.wp P ⟨tmps, df⟩ w next Q := by
  have pure1 : ∀ {v u}, K v H → (execOp (Act.eval ⟨tmps, df⟩) o).run P w = .ok (.value u) w → VOK w0.heap.size φ H lam fr w v u → o.wp P ⟨tmps, df⟩ w next Q := fun hk hr hv => wp_val hr (hn _ _ _ _ hk (Res.of I hv o.dst))
  have evT_ok : ∀ t x, VOK w0.heap.size φ H lam fr w (evT cx t (ev fr) x) (Act.eval ⟨tmps, df⟩ x) := by
    intro t x
    unfold evT
    split
    · exact ⟨rfl, rfl⟩
    · exact I.ev df x
  unfold opE at h
  cases ho : o.op with
  | move x =>
    rw [ho] at h
    exact pure1 h (by simp [execOp, ho]) (evT_ok _ _)
  | assign x =>
    rw [ho] at h
    exact pure1 h (by simp [execOp, ho]) (evT_ok _ _)
  | pick c a b =>
    rw [ho] at h
    replace h : (match ev fr c with | .g (.bool t) => bite t (K (ev fr a) H) (K (ev fr b) H) | _ => False) := h
    have hc := I.ev df c
    split at h
    · rename_i t e
      rw [e] at hc
      have hc : Act.eval ⟨tmps, df⟩ c = .bool t := hc
      cases t with
      | true => exact pure1 h (by simp [execOp, ho, hc, asBool_bool]) (I.ev df a)
      | false => exact pure1 h (by simp [execOp, ho, hc, asBool_bool]) (I.ev df b)
    · exact h.elim
  | build t parts =>
    rw [ho] at h
    obtain ⟨ht, h⟩ := ck_iff.1 h
    obtain ⟨hk0, h⟩ := ck_iff.1 h
    obtain ⟨hfs, h⟩ := ck_iff.1 h
    obtain ⟨cs, u, hk, hr, hv⟩ := build_ok (P := P) hT I df ht (beq_eq hk0) hfs h
    exact pure1 hk (by simp [execOp, ho, hr]) hv
  | buildSlice t n parts =>
    rw [ho] at h
    obtain ⟨ht, h⟩ := ck_iff.1 h
    obtain ⟨hz, h⟩ := ck_iff.1 h
    obtain ⟨hn2, h⟩ := ck_iff.1 h
    obtain ⟨cs, cells, hk, hl, hl2, his, hr⟩ := run_buildSlice (P := P) hT I df ht (Nat.le_of_ble_eq_true hz) (Nat.le_of_ble_eq_true hn2) h
    have hw : (execOp (Act.eval ⟨tmps, df⟩) o).run P w = .ok (.value (.slice (some ⟨w.heap.size, 0, none⟩) n n)) (w.alloc (.cells cells (cx.ty t).el)) := by simp [execOp, ho, hr]
    split at hk
    · have B := Back.new I.rep (cx.ty t).el cs cells (0, 0) (by omega) (by rw [List.take_of_length_le (by simp; omega)]; exact his) (fun j _ h => by omega)
      refine wp_val hw (hn _ _ _ _ hk (Res.of (v := .g (.sl (some (ln H, 0)) n _)) (I.back B) ?_ o.dst))
      refine ⟨_, _, n, by simp only [ln, ← I.rep.len]; exact List.getElem?_concat_length, rfl, .inl rfl, Nat.le_refl _, ?_, fun _ => ⟨rfl, ?_⟩⟩
      · show cs.length ≤ _; omega
      · show 0 + _ ≤ cells.size; omega
    · refine wp_val hw (hn _ _ _ _ hk (Res.of (I.alloc _) ?_ o.dst))
      refine ⟨w.heap.size, cells, (cx.ty t).el, (0, 0), rfl, I.keeps.size, heap_alloc_new w _, his, hl, fun q => ?_, fun q => ?_⟩
      · have := I.rep.blockLt q.row; omega
      · have := (I.boxLt q).1; omega
  | load t a =>
    rw [ho] at h
    obtain ⟨ht, h⟩ := ck_iff.1 h
    obtain ⟨v, u, hk, hr, hv⟩ := loadK_ok (P := P) hT I ht h (I.ev df a)
    exact pure1 hk (by simp [execOp, ho, hr]) hv
  | nilCheck x =>
    rw [ho] at h
    replace h : (match ev fr x with
      | .lp s p => K (.lp s p) H
      | .g (.ptr a) => pS a fun l p => K (.g (.ptr (some (l, p)))) H
      | _ => False) := h
    have hv := I.ev df x
    split at h
    · rename_i s p e
      rw [e] at hv
      have hv' : Act.eval ⟨tmps, df⟩ x = .pointer (some ⟨lam s, p, none⟩) := hv
      exact pure1 h (u := Act.eval ⟨tmps, df⟩ x) (by simp [execOp, ho, hv']) hv
    · rename_i a e
      rw [e] at hv
      cases a with
      | none => exact h.elim
      | some p =>
        obtain ⟨i, hi, hv'⟩ := id hv
        exact pure1 h (u := Act.eval ⟨tmps, df⟩ x) (by simp [execOp, ho, hv']) hv
    · exact h.elim
  | binOp op t x y yt =>
    rw [ho] at h
    obtain ⟨v, u, hk, hr, hv⟩ := binK_ok (P := P) (ox := x) (oy := y) hT h (I.ev df x) (I.ev df y)
    refine pure1 hk ?_ hv
    simp only [execOp, ho]
    rw [Sem.run_bind, hr]; rfl
  | unOp op t x =>
    rw [ho] at h
    obtain ⟨v, u, hk, hr, hv⟩ := unK_ok (P := P) h (I.ev df x)
    exact pure1 hk (by simp [execOp, ho, hr]) hv
  | convert s d x =>
    rw [ho] at h
    obtain ⟨v, H', u, w', hk, hr, hres⟩ := convK_ok (P := P) hT I h (I.ev df x) o.dst
    exact wp_val (by simp [execOp, ho, hr]) (hn _ _ _ _ hk hres)
  | makeInterface t x =>
    rw [ho] at h
    obtain ⟨ht, h⟩ := ck_iff.1 h
    obtain ⟨hi, h⟩ := ck_iff.1 h
    have hv := I.ev df x
    split at h
    · rename_i v e
      rw [e] at hv
      obtain ⟨d, hd, hok⟩ := run_under hT ht
      refine pure1 h (u := .iface t (Act.eval ⟨tmps, df⟩ x)) ?_ ⟨_, rfl, hv⟩
      cases d with
      | interface ms =>
        simp [descOK] at hok
        have := isLv_eq hok.2
        simp [TI.isIface, this, hok.1] at hi
      | _ => simp [execOp, ho, Instr.makeInterface, run_underlying hd]
    · exact h.elim
  | makeFunc fn first caps =>
    rw [ho] at h
    dsimp only at h
    split at h
    · rename_i f e
      obtain ⟨cs, hk, hcs⟩ := capsK_ok I df h
      have e' : first = #[] := by simpa using e
      subst e'
      refine pure1 hk (u := .func (.func f) #[] (caps.map (Act.eval ⟨tmps, df⟩))) (by simp [execOp, ho, Instr.makeFunc]) ⟨_, ?_, hcs⟩
      congr 1
      apply Array.ext'
      simp
    · exact h.elim
  | makeSlice t l c =>
    rw [ho] at h
    obtain ⟨v, H', u, w', hk, hr, hres⟩ := mkslK_ok (P := P) hT I h (I.ev df l) (I.ev df c) o.dst
    exact wp_val (by simp [execOp, ho, hr]) (hn _ _ _ _ hk hres)
  | slice t x lo hi mx =>
    rw [ho] at h
    cases mx with
    | some m =>
      obtain ⟨v, u, hk, hr, hv⟩ := slice3K_ok (P := P) hT I df h (I.ev df x)
      refine pure1 hk ?_ hv
      simp only [execOp, ho]
      rw [Sem.run_bind, hr]; rfl
    | none =>
      obtain ⟨v, u, hk, hr, hv⟩ := sliceK_ok (P := P) hT I df h (I.ev df x)
      refine pure1 hk ?_ hv
      simp only [execOp, ho]
      rw [Sem.run_bind, Option.map_none, hr]; rfl
  | fieldAddr t x f =>
    rw [ho] at h
    replace h : (match (cx.ty t).fs[f]? with
      | some (p, e) => ck (cx.ty t).agg <| ck (cx.okT e) <| ck (Nat.ble 1 (cx.ty e).lv.length) <| fldK (ev fr x) p fun v => K v H
      | none => False) := h
    split at h
    · rename_i p e hf
      obtain ⟨ht, h⟩ := ck_iff.1 h
      obtain ⟨he, h⟩ := ck_iff.1 h
      obtain ⟨hp, h⟩ := ck_iff.1 h
      obtain ⟨v, u, hk, hr, hv⟩ := fldK_ok (P := P) hT ht he (Nat.le_of_ble_eq_true hp) hf h (I.ev df x)
      exact pure1 hk (by simp [execOp, ho, hr]) hv
    · exact h.elim
  | field t x f =>
    rw [ho] at h
    replace h : (match (cx.ty t).fs[f]?, ev fr x with
      | some (p, t'), .agg cs => ck (cx.ty t).agg <| ck (cx.okT t') <| cutK cs p (cx.ty t').lv.length (cx.ty t').agg fun v => K v H
      | _, _ => False) := h
    have hv := I.ev df x
    split at h
    · rename_i p t' cs hf e
      rw [e] at hv
      obtain ⟨ht, h⟩ := ck_iff.1 h
      obtain ⟨he, h⟩ := ck_iff.1 h
      obtain ⟨v, u, hk, hr, hv⟩ := field_ok (P := P) hT ht he hf h hv
      exact pure1 hk (by simp [execOp, ho, hr]) hv
    · exact h.elim
  | indexAddr t x i =>
    rw [ho] at h
    obtain ⟨v, u, hk, hr, hv⟩ := idxK_ok (P := P) hT h (I.ev df x) (I.ev df i)
    exact pure1 hk (by simp [execOp, ho, hr]) hv
  | index t x i =>
    rw [ho] at h
    replace h : (match ev fr x, ev fr i with
      | .g (.str s), .g (.int _ j) => ck ((cx.ty t).isA 3) <| chk (leI 0 j && ltI j (sz s)) (K (gi .u8 (byt s (tN j))) H)
      | _, _ => False) := h
    have hv := I.ev df x
    have hvi := I.ev df i
    split at h
    · rename_i s k j e1 e2
      rw [e1] at hv; rw [e2] at hvi
      have hv : Act.eval ⟨tmps, df⟩ x = .string s := hv
      have hvi : Act.eval ⟨tmps, df⟩ i = .int k j := hvi
      obtain ⟨ht, h⟩ := ck_iff.1 h
      obtain ⟨hj, h⟩ := chk_iff.1 h
      rw [Bool.and_eq_true] at hj
      have hr := index_ok (P := P) (w := w) (k := k) hT ht (leI_iff.1 hj.1) (ltI_iff.1 hj.2)
      exact pure1 h (by simp [execOp, ho, hv, hvi, hr]) rfl
    · exact h.elim
  | extract x i =>
    rw [ho] at h
    replace h : (match ev fr x with
      | .tup vs => match vs[i]? with | some (.s v) => K (.g v) H | some (.a cs) => K (.agg cs) H | none => False
      | _ => False) := h
    have hv := I.ev df x
    split at h
    · rename_i vs e
      rw [e] at hv
      obtain ⟨us, hu, hall⟩ := hv
      split at h
      · rename_i v hg
        obtain ⟨u, hr, hru⟩ := extract_ok (P := P) (w := w) hall hg
        exact pure1 h (by simp [execOp, ho, hu, hr]) hru
      · rename_i cs hg
        obtain ⟨u, hr, hru⟩ := extract_ok (P := P) (w := w) hall hg
        exact pure1 h (by simp [execOp, ho, hu, hr]) hru
      · exact h.elim
    · exact h.elim
  | call c =>
    rw [ho] at h
    dsimp only at h
    have dyn : ∀ f, c.callee = .value f → (match ev fr f with
        | .g v => dF v fun f caps => argsK (ev fr) c.args.toList H fun as H => cl (cx.dyn f) (cpl as caps) H fun r H => dRes cx o.type r fun r => K r H
        | _ => False) → o.wp P ⟨tmps, df⟩ w next Q := by
      intro f hc h
      have hv := I.ev df f
      split at h
      · rename_i v e
        rw [e] at hv
        cases v <;> first | exact h.elim | skip
        rename_i g caps
        replace h : argsK (ev fr) c.args.toList H fun as H => cl (cx.dyn g) (cpl as caps) H fun r H => dRes cx o.type r fun r => K r H := h
        obtain ⟨xs, hv, hcaps⟩ := hv
        obtain ⟨as, H', φ', hk, has, I', hpre⟩ := argsK_ok df I h
        refine call_ok (vs := c.args.toList.map (Act.eval ⟨tmps, df⟩) ++ xs) I' (hD g) hk (has.append (caps_is (hcaps.imp fun _ _ => capIs.mono hpre))) ?_ hn
        simp [execOp, ho, resolve, hc, hv, Deferred.ofValue, invoke]
        congr 2
        apply Array.ext'
        simp
      · exact h.elim
    cases hc : c.callee with
    | value f =>
      rw [hc] at h
      cases f with
      | func f =>
        replace h : (match cx.env.lookup f with
          | some sem => argsK (ev fr) c.args.toList H fun as H => cl sem as H fun r H => dRes cx o.type r fun r => K r H
          | none => False) := h
        split at h
        · rename_i sem he
          obtain ⟨as, H', φ', hk, has, I', _⟩ := argsK_ok df I h
          refine call_ok I' (hE f sem he) hk has ?_ hn
          simp [execOp, ho, resolve, hc, Act.eval, Deferred.ofValue, invoke]
          congr 2
          apply Array.ext'
          simp
        · exact h.elim
      | tmp t => exact dyn _ hc h
      | const v => exact dyn _ hc h
      | global g => exact dyn _ hc h
    | builtin b =>
      rw [hc] at h
      dsimp only at h
      have arr : ∀ {α : Type} {xs : Array α} {l : List α}, xs.toList = l → xs = l.toArray := by
        intro α xs l e; rw [← e]
      split at h
      · rename_i x ha
        have ha := arr ha
        split at h
        · rename_i t e
          have e := arr e
          obtain ⟨v, u, hk, hr, hv⟩ := lenK_ok (P := P) (ty := o.type) hT h (I.ev df x)
          exact pure1 hk (by simp [execOp, ho, resolve, hc, ha, e, invoke, builtin, hr]) hv
        · exact h.elim
      · rename_i x ha
        have ha := arr ha
        split at h
        · rename_i t e
          have e := arr e
          obtain ⟨v, H', u, w', hk, hr, hres⟩ := clrK_ok (P := P) (ty := o.type) hT I h (I.ev df x) o.dst
          exact wp_val (by simp [execOp, ho, resolve, hc, ha, e, invoke, builtin, hr]) (hn _ _ _ _ hk hres)
        · exact h.elim
      · rename_i x y ha
        have ha := arr ha
        obtain ⟨v, u, hk, hr, hv⟩ := min2K_ok (P := P) h (I.ev df x) (I.ev df y)
        exact pure1 hk (by simp [execOp, ho, resolve, hc, ha, invoke, builtin, Builtin.min_, hr]) hv
      · rename_i x y ha
        have ha := arr ha
        obtain ⟨v, u, hk, hr, hv⟩ := min2K_ok (P := P) h (I.ev df x) (I.ev df y)
        exact pure1 hk (by simp [execOp, ho, resolve, hc, ha, invoke, builtin, Builtin.max_, hr]) hv
      · rename_i x y ha
        have ha := arr ha
        split at h
        · rename_i t t' e
          have e := arr e
          obtain ⟨h1, h⟩ := ck_iff.1 h
          obtain ⟨h2, h⟩ := ck_iff.1 h
          obtain ⟨h3, h⟩ := ck_iff.1 h
          obtain ⟨v, H', u, w', hk, hr, hres⟩ := appK_ok (P := P) (ty := o.type) hT I h1 h2 h3 h (I.ev df x) (I.ev df y) o.dst
          exact wp_val (by simp [execOp, ho, resolve, hc, ha, e, invoke, builtin, hr]) (hn _ _ _ _ hk hres)
        · exact h.elim
      · exact h.elim
    | invoke r n => rw [hc] at h; exact h.elim
  | _ => rw [ho] at h; exact h.elim


theorem opK_ok (hT : TysOK P cx.tys) (hE : ∀ f s, cx.env.lookup f = some s → SoundC P f s) (hD : ∀ f, SoundC P f (cx.dyn f)) (I : Inv φ0 H0 w0 φ H lam fr tmps w) (df : List Deferred) {o : Oper} {K : FV → List FV → Hp → Prop} (h : opK cx o fr H K)
    {next : Act → World → Prop} {Q : Exit → Act → World → Prop} (hn : ∀ v fr' H' u w', K v fr' H' → Res φ0 H0 w0 o.dst v fr' H' tmps u w' → next ((⟨tmps, df⟩ : Act).put o.dst u) w') : o.wp P ⟨tmps, df⟩ w next Q := by
  unfold opK at h
  cases ho : o.op with
  | alloc t =>
    rw [ho] at h
    obtain ⟨ht, h⟩ := ck_iff.1 h
    obtain ⟨z, hz, hr⟩ := run_alloc (P := P) (w := w) hT ht
    obtain ⟨v, fr', H', hk, hres⟩ := mkK_ok (c := z.cells) I (by rw [hz]; exact zeros_is φ _) h
    exact wp_val (by simp [execOp, ho, hr]) (hn _ _ _ _ _ hk hres)
  | box t x =>
    rw [ho] at h
    obtain ⟨cs, hk, hcs⟩ := cellsK_ok h (I.ev df x)
    obtain ⟨v, fr', H', hk, hres⟩ := mkK_ok (t := t) I hcs hk
    exact wp_val (by simp [execOp, ho, run_box]) (hn _ _ _ _ _ hk hres)
  | store t a x =>
    rw [ho] at h
    obtain ⟨ns, h, his⟩ := cellsK_ok h (I.ev df x)
    obtain ⟨ht, h⟩ := ck_iff.1 h
    obtain ⟨hl, h⟩ := ck_iff.1 h
    obtain ⟨fr', H', w', hk, hr, I'⟩ := storeK_ok (P := P) hT I ht (beq_eq hl) h (I.ev df a) his
    exact wp_unit (by simp [execOp, ho, hr]) (hn _ _ _ _ _ hk (Res.of (v := .bad) I' trivial o.dst))
  | _ =>
    rw [ho] at h
    exact opE_ok hT hE hD I df h (fun v H' u w' hk hr => hn v fr H' u w' hk hr)

end
end Go.Am
