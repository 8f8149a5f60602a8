import Derived.Test.YtmjnenpllddhfaaEE
set_option linter.unusedVariables false
set_option linter.unusedSimpArgs false
namespace Go.Am

theorem OT.base {H : Hp} {b b' : Nat} {t : TypeId} {a : Pl} {n : Nat} {cs : List PC} {T : List Pg} (h : OT H b t a n cs T) (hb : b' ≤ b) : OT H b' t a n cs T := ⟨h.own.base hb, h.len, h.lenT, h.all, h.off⟩
section
variable {B : Hp} {Q : Post} {tp : Nat}
theorem build_l4 : ∀ (D : Nat) (xs : Lvl) (next : Nat) (T : List Pg) (F : Nat) (H : Hp) (tcs : List PC) (x : Pl) (xcs : List PC) (y : Pl), xs.length ≤ D → 1 ≤ xs.length → next + 2 * xs.length ≤ 48 → 8 * xs.length + 8 ≤ F →
    BS B H tp tcs T x xs.length xcs (xs.map (·.1)) y (xs.map (·.2)) → (∀ H' tcs', B <+: H' → OT H' B.length 34 (some (tp, 0)) 48 tcs' (buildGo D T next xs) → Q (.agg [.sl (some (tp, 0)) 48 5]) H') →
    ref9_Build.l4 F none 0 (some (tp, 0)) 48 x xs.length y xs.length (next : Int) H Q := by
  intro D
  induction D with
  | zero => intro xs _ _ _ _ _ _ _ _ h1 h2; omega
  | succ D ih =>
    intro xs next T F H tcs x xcs y hD h1 hb hF g hQ
    obtain ⟨F, rfl⟩ : ∃ F', F = F' + 1 := ⟨F - 1, by omega⟩
    rw [ref9_Build.l4_eq]
    refine bite_of (fun e => ?_) (fun e => ?_)
    · have h2 : 2 ≤ xs.length := by simp at e; omega
      have hk2 : 2 * kOf xs.length 5 ≤ xs.length := by
        unfold kOf
        have : 2 * ((xs.length + 5 - 1) / 5) ≤ xs.length := by omega
        omega
      have hk0 := kOf_pos xs.length 5
      have hUl : (upD xs next).length = kOf xs.length 5 := by unfold upD; simp
      refine ref9_sizes_spec (n := xs.length) (most := 5) (by omega) (by omega) (by omega) fun sa H1 p1 oS _ => ?_
      simp only [rG_g, dL_sl]
      have hst := g.start p1 oS
      have := build_l9 (Q := Q) (B := B) (tp := tp) (xs := xs) (next0 := next) (T0 := T) (x := x) (y := y) (xcs := xcs) (sa := sa) (REST := 8 * kOf xs.length 5 + 8) h2 (by omega) (fun F2 H2 tcs2 up ucs ul hF2 g2 => by
        refine ih (upD xs next) (next + xs.length) (placeD T xs next xs.length) F2 H2 tcs2 up ucs ul (by omega) (by omega) (by omega) (by omega) g2 fun H' tcs' hp ho => ?_
        refine hQ H' tcs' hp ?_
        have e2 : buildGo (D + 1) T next xs = buildGo D (placeD T xs next xs.length) (next + xs.length) (upD xs next) := by
          show (match decide (1 < xs.length) with | true => _ | false => _) = _
          rw [decide_eq_true (by omega)]
        rw [e2]
        exact ho) F 0 H1 tcs none [] none (by rw [cutN_zero]; omega) (Nat.zero_le _) (by rw [cutN_zero]; exact hst)
      rw [cutN_zero] at this
      exact this
    · have h11 : xs.length = 1 := by simp at e; omega
      rw [chk_true]
      refine chk_of (by simp; omega) ?_
      obtain ⟨l, o, c, p, ex, hc, hp, hpc, g0, g1, g2, g3, g4⟩ := g.X.tr.get (i := 0) (by omega)
      have px : ∀ K : Nat → Nat → Prop, pS x K = K l o := fun K => by rw [ex]; rfl
      have et0 : tN 0 = 0 := rfl
      rw [px, et0, rdPage_of g0 g1 g2 g3 g4, chk_true]
      refine chk_of (by simp) ?_
      have e0 : 0 + 0 * 5 = 0 * 5 := by omega
      rw [pS_some, e0]
      refine (g.start (sa := none) (k := 0) (ss := []) (List.prefix_refl _) (.inl ⟨rfl, rfl, rfl⟩)).place (i := 0) (by omega) hc hp fun H' tcs' g' => ?_
      refine hQ H' tcs' g'.pre ?_
      have e2 : buildGo (D + 1) T next xs = T.set 0 p := by
        show (match decide (1 < xs.length) with | true => _ | false => _) = _
        rw [decide_eq_false (by omega)]
        dsimp only
        rw [List.getElem?_map] at hp
        rw [hp]; rfl
      rw [e2]
      exact g'.TP
theorem ref9_Build_spec {H : Hp} {a : Pl} {n : Nat} {ps : KV} (hp : Kv H a n ps) (hn : n ≤ 64) (hQ : ∀ H' tp cs, H <+: H' → OT H' H.length 34 (some (tp, 0)) 48 cs (buildD ps) → Q (.agg [.sl (some (tp, 0)) 48 5]) H') : ref9_Build [.g (.sl a n 2)] H Q := by
  have hpl := hp.len
  refine ⟨8 * 17 + 20, ?_⟩
  rw [ref9_Build_eq]
  refine ref9_New_spec fun H1 p1 o1 => ?_
  simp only [rA_agg, uC_cons, dL_sl, uN_nil]
  refine ref9_leaves_spec (hp.mono p1) (by omega) fun x y cs H2 p2 oX oY hxy hyo hlo => ?_
  simp only [rA_agg, uC_cons, dL_sl, uN_nil]
  have hL : (leavesD ps).length = kOf ps.length 4 := by unfold leavesD; simp
  have hk : kOf ps.length 4 ≤ 17 := by unfold kOf; omega
  have hk0 := kOf_pos ps.length 4
  have l1 := p1.length_le
  have htp : H.length < H1.length := o1.own.ltAny rfl
  have l2 := p2.length_le
  have o2 := o1.mono p2
  have hM : ∀ i l o, ([some (H.length, 0)] : List Pl).getD i none = some (l, o) → i = 0 ∧ l = H.length ∧ o = 0 := by
    intro i l o e
    match i, e with
    | 0, e => cases e; exact ⟨rfl, rfl, rfl⟩
    | i + 1, e => simp at e
  have g : BS H H2 H.length newC newT x (leavesD ps).length cs ((leavesD ps).map (·.1)) y ((leavesD ps).map (·.2)) := by
    refine ⟨p1.trans p2, o2, oX.base l1, oY.base l1, fun i j hne l e1 e2 => ?_, fun i b hb l e1 e2 => ?_, fun i c hc l hl' e => ?_, fun i l o e => ?_, fun b hb l o e => ?_, fun c hc l hl' => ?_⟩
    · exact hne ((hM i l 0 e1).1.trans (hM j l 0 e2).1.symm)
    · obtain ⟨_, rfl, _⟩ := hM i l 0 e1
      simp only [List.mem_cons, List.not_mem_nil, or_false] at hb
      rcases hb with rfl | rfl
      · have := oX.own.above e2; omega
      · have := oY.above e2; omega
    · obtain ⟨_, rfl, _⟩ := hM i l 0 e
      rcases List.mem_append.1 hc with q | q
      · exact newC_off c q _ hl'
      · have := hlo c q _ hl'; omega
    · obtain ⟨_, rfl, _⟩ := hM i l o e; omega
    · simp only [List.mem_cons, List.not_mem_nil, or_false] at hb
      rcases hb with rfl | rfl
      · exact oX.own.ltAny e
      · exact oY.ltAny e
    · rcases List.mem_append.1 hc with q | q
      · exact (newC_off c q _ hl').elim
      · exact oX.onlt q hl'
  refine build_l4 64 (leavesD ps) 1 newT (8 * 17 + 19) H2 newC x cs y (by omega) (by omega) (by omega) (by omega) g fun H' tcs' hp' ho => ?_
  exact hQ H' H.length tcs' hp' ho
end
end Go.Am
