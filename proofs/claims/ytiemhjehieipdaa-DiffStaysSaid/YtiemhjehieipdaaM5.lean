import Derived.Test.YtiemhjehieipdaaM4
set_option linter.unusedVariables false
set_option linter.unusedSimpArgs false
namespace Go.Am

theorem Own.base {H : Hp} {b b' : Nat} {t : TypeId} {a : Pl} {n : Nat} {cs : List GV} (h : Own H b t a n cs) (hb : b' ≤ b) : Own H b' t a n cs := by
  rcases h with h | ⟨l, h1, h2, h3⟩
  · exact .inl h
  · exact .inr ⟨l, h1, by omega, h3⟩
theorem Own.above {H : Hp} {b : Nat} {t : TypeId} {a : Pl} {n : Nat} {cs : List GV} (h : Own H b t a n cs) {l o : Nat} (e : a = some (l, o)) : b ≤ l := by
  rcases h with ⟨h, _⟩ | ⟨l', h1, h2, _⟩
  · rw [h] at e; cases e
  · rw [h1] at e; cases e; exact h2
/-- a level done -/
structure BS (B H : Hp) (tp : Nat) (tcs : List PC) (T : List Pg) (x : Pl) (n : Nat) (xcs : List PC) (xT : List Pg) (y : Pl) (yls : List ByteArray) : Prop where
  pre : B <+: H
  TP : OT H B.length tPg (some (tp, 0)) 48 tcs T
  X : OT H B.length tPg x n xcs xT
  Y : Own H B.length tS y n (yls.map GV.str)
  sp : Sp H [some (tp, 0)] [x, y] (tcs ++ xcs)
section
variable {B H H' : Hp} {tp : Nat} {tcs : List PC} {T : List Pg} {x : Pl} {n : Nat} {xcs : List PC} {xT : List Pg} {y : Pl} {yls : List ByteArray} {sa : Pl} {k : Nat} {ss : List Int}
    {up : Pl} {m : Nat} {ucs : List PC} {uT : List Pg} {ul : Pl} {uls : List ByteArray}
theorem BS.start (g : BS B H tp tcs T x n xcs xT y yls) (hp : H <+: H') (hS : Own H' H.length tI sa k (ss.map (GV.int .i64))) : BJ B H' tp tcs T x n xcs xT y yls sa k ss none 0 [] [] none 0 [] none [] none [] := by
  have hBl := g.pre.length_le
  have hl := hp.length_le
  refine ⟨g.pre.trans hp, g.TP.mono hp, g.X.mono hp, g.Y.mono hp, hS.base hBl, OT.nil _ _ _, .inl ⟨rfl, rfl, rfl⟩, .inl ⟨rfl, rfl, rfl⟩, .inl ⟨rfl, rfl, rfl⟩, ?_⟩
  have hM : ∀ i l o, ([some (tp, 0), none, none, none, none] : List Pl).getD i none = some (l, o) → i = 0 ∧ l = tp ∧ o = 0 := by
    intro i l o e
    match i, e with
    | 0, e => cases e; exact ⟨rfl, rfl, rfl⟩
    | 1, e => cases e
    | 2, e => cases e
    | 3, e => cases e
    | 4, e => cases e
    | i + 5, e => simp at e
  have htp : tp < H.length := g.sp.lm 0 tp 0 rfl
  refine ⟨fun i j hne l e1 e2 => ?_, fun i b hb l e1 e2 => ?_, fun i c hc l hl' e => ?_, fun i l o e => ?_, fun b hb l o e => ?_, fun c hc l hl' => ?_⟩
  · exact hne ((hM i l 0 e1).1.trans (hM j l 0 e2).1.symm)
  · obtain ⟨_, rfl, _⟩ := hM i l 0 e1
    simp only [List.mem_cons, List.not_mem_nil, or_false] at hb
    rcases hb with rfl | rfl | rfl
    · exact g.sp.mf 0 _ (by simp) l rfl e2
    · exact g.sp.mf 0 _ (by simp) l rfl e2
    · have := hS.above e2; omega
  · obtain ⟨_, rfl, _⟩ := hM i l 0 e
    exact g.sp.mp 0 c (by simpa using hc) l hl' rfl
  · obtain ⟨_, rfl, _⟩ := hM i l o e; omega
  · simp only [List.mem_cons, List.not_mem_nil, or_false] at hb
    rcases hb with rfl | rfl | rfl
    · have := g.sp.lf _ (by simp) l o e; omega
    · have := g.sp.lf _ (by simp) l o e; omega
    · exact hS.ltAny e
  · have := g.sp.lp c (by simpa using hc) l hl'; omega
theorem BJ.done (g : BJ B H tp tcs T x n xcs xT y yls sa k ss up m ucs uT ul m uls none [] none []) : BS B H tp tcs T up m ucs uT ul uls := by
  have hM : ∀ i l o, ([some (tp, 0)] : List Pl).getD i none = some (l, o) → i = 0 ∧ l = tp ∧ o = 0 := by
    intro i l o e
    match i, e with
    | 0, e => cases e; exact ⟨rfl, rfl, rfl⟩
    | i + 1, e => simp at e
  refine ⟨g.pre, g.TP, g.UP, g.UL, fun i j hne l e1 e2 => ?_, fun i b hb l e1 e2 => ?_, fun i c hc l hl' e => ?_, fun i l o e => ?_, fun b hb l o e => ?_, fun c hc l hl' => ?_⟩
  · exact hne ((hM i l 0 e1).1.trans (hM j l 0 e2).1.symm)
  · obtain ⟨_, rfl, _⟩ := hM i l 0 e1
    simp only [List.mem_cons, List.not_mem_nil, or_false] at hb
    rcases hb with rfl | rfl
    · exact g.sp.mm 0 1 (by decide) l rfl e2
    · exact g.sp.mm 0 2 (by decide) l rfl e2
  · obtain ⟨_, rfl, _⟩ := hM i l 0 e
    refine g.sp.mp 0 c ?_ l hl' rfl
    simp only [List.mem_append] at hc ⊢
    rcases hc with q | q
    · exact .inl (.inl q)
    · exact .inr q
  · obtain ⟨_, rfl, _⟩ := hM i l o e
    exact g.sp.lm 0 l 0 rfl
  · simp only [List.mem_cons, List.not_mem_nil, or_false] at hb
    rcases hb with rfl | rfl
    · exact g.sp.lm 1 l o e
    · exact g.sp.lm 2 l o e
  · refine g.sp.lp c ?_ l hl'
    simp only [List.mem_append] at hc ⊢
    rcases hc with q | q
    · exact .inl (.inl q)
    · exact .inr q
end

section
variable {B : Hp} {Q : Post} {tp : Nat}
theorem build_l9 {xs : Lvl} {next0 : Nat} {T0 : List Pg} {x y : Pl} {xcs : List PC} {sa : Pl} {REST : Nat} (hn2 : 2 ≤ xs.length) (hb : next0 + xs.length ≤ 48)
    (hK : ∀ (F : Nat) (H : Hp) (tcs : List PC) (up : Pl) (ucs : List PC) (ul : Pl), REST ≤ F → BS B H tp tcs (placeD T0 xs next0 xs.length) up (upD xs next0).length ucs ((upD xs next0).map (·.1)) ul ((upD xs next0).map (·.2)) →
      ref9_Build.l4 F none 0 (some (tp, 0)) 48 up (upD xs next0).length ul (upD xs next0).length ((next0 + xs.length : Nat) : Int) H Q) :
    ∀ (F i : Nat) (H : Hp) (tcs : List PC) (up : Pl) (ucs : List PC) (ul : Pl), xs.length + 3 * (kOf xs.length 5 - i) + REST < F + cutN xs.length (kOf xs.length 5) i → i ≤ kOf xs.length 5 →
      BJ B H tp tcs (placeD T0 xs next0 (cutN xs.length (kOf xs.length 5) i)) x xs.length xcs (xs.map (·.1)) y (xs.map (·.2)) sa (kOf xs.length 5) ((sizesD xs.length 5).map fun (x : Nat) => (x : Int)) up i ucs (((List.range i).map (upAt xs next0 (kOf xs.length 5))).map (·.1)) ul i (((List.range i).map (upAt xs next0 (kOf xs.length 5))).map (·.2)) none [] none [] →
      ref9_Build.l9 F none 0 (some (tp, 0)) 48 x xs.length y xs.length ((next0 + cutN xs.length (kOf xs.length 5) i : Nat) : Int) up i ul i sa (kOf xs.length 5) ((cutN xs.length (kOf xs.length 5) i : Nat) : Int) (i : Int) H Q := by
  have hk := kOf_pos xs.length 5
  have hSD : sizesD xs.length 5 = (List.range (kOf xs.length 5)).map fun i => cutN xs.length (kOf xs.length 5) (i + 1) - cutN xs.length (kOf xs.length 5) i := rfl
  have hUD : upD xs next0 = (List.range (kOf xs.length 5)).map (upAt xs next0 (kOf xs.length 5)) := rfl
  have hk2 : kOf xs.length 5 ≤ 48 := by
    unfold kOf
    have : (xs.length + 5 - 1) / 5 ≤ xs.length := by omega
    omega
  generalize kOf xs.length 5 = k at *
  have hUl : (upD xs next0).length = k := by rw [hUD]; simp
  rw [hUl] at hK
  have hsl : ((sizesD xs.length 5).map fun (x : Nat) => (x : Int)).length = k := by rw [hSD]; simp
  have hsg : ∀ i (h : i < ((sizesD xs.length 5).map fun (x : Nat) => (x : Int)).length), ((sizesD xs.length 5).map fun (x : Nat) => (x : Int))[i] = ((cutN xs.length k (i + 1) - cutN xs.length k i : Nat) : Int) := fun i h => by
    simp only [hSD, List.getElem_map, List.getElem_range]
  intro F
  induction F using Nat.strongRecOn with
  | _ F ihF =>
    intro i H tcs up ucs ul hF hi g
    have hci := cutN_le (n := xs.length) (k := k) (i := i) hi hk
    obtain ⟨F, rfl⟩ : ∃ F', F = F' + 1 := ⟨F - 1, by omega⟩
    rw [ref9_Build.l9_eq]
    by_cases hik : i < k
    · rw [bite_t (by simp; omega)]
      have hmono := cutN_mono xs.length k i
      have hci1 := cutN_le (n := xs.length) (k := k) (i := i + 1) (by omega) hk
      have hclt := cutN_lt (n := xs.length) hik (by omega)
      have isS : ∀ {H tcs T up m ucs uT ul m2 uls kk ks ii is}, BJ B H tp tcs T x xs.length xcs (xs.map (·.1)) y (xs.map (·.2)) sa k ((sizesD xs.length 5).map fun (x : Nat) => (x : Int)) up m ucs uT ul m2 uls kk ks ii is → Is H sa k ((sizesD xs.length 5).map fun (x : Nat) => (x : Int)) := fun g => ⟨g.S.cells, hsl.symm, by omega⟩
      have isY : ∀ {H tcs T up m ucs uT ul m2 uls kk ks ii is}, BJ B H tp tcs T x xs.length xcs (xs.map (·.1)) y (xs.map (·.2)) sa k ((sizesD xs.length 5).map fun (x : Nat) => (x : Int)) up m ucs uT ul m2 uls kk ks ii is → Ss H y xs.length (xs.map (·.2)) := fun g => ⟨g.Y.cells, by simp, by omega⟩
      have w1 : wrapI .i64 (((cutN xs.length k i : Nat) : Int) + ((cutN xs.length k (i + 1) - cutN xs.length k i : Nat) : Int)) = ((cutN xs.length k (i + 1) : Nat) : Int) := by rw [wrap64 (by omega) (by omega)]; omega
      have inner : ∀ (d G j : Nat) (H : Hp) (tcs : List PC) (kk ii : Pl), cutN xs.length k (i + 1) - j = d → cutN xs.length k i ≤ j → j ≤ cutN xs.length k (i + 1) → xs.length + 3 * (k - i) + REST < G + j + 1 → G ≤ F →
          BJ B H tp tcs (placeD T0 xs next0 j) x xs.length xcs (xs.map (·.1)) y (xs.map (·.2)) sa k ((sizesD xs.length 5).map fun (x : Nat) => (x : Int)) up i ucs (((List.range i).map (upAt xs next0 k)).map (·.1)) ul i (((List.range i).map (upAt xs next0 k)).map (·.2))
            kk (((xs.drop (cutN xs.length k i + 1)).take (j - (cutN xs.length k i + 1))).map (·.2)) ii ((List.range (j - cutN xs.length k i)).map fun r => ((next0 + (cutN xs.length k i + r) : Nat) : Int)) →
          ref9_Build.l13 G none 0 (some (tp, 0)) 48 x xs.length y xs.length ((next0 + j : Nat) : Int) up i ul i sa k ((cutN xs.length k i : Nat) : Int) (i : Int) true false kk (((xs.drop (cutN xs.length k i + 1)).take (j - (cutN xs.length k i + 1))).map (·.2)).length none 0 ii ((List.range (j - cutN xs.length k i)).map fun r => ((next0 + (cutN xs.length k i + r) : Nat) : Int)).length (j : Int) H Q := by
        intro d
        induction d with
        | zero =>
          intro G j H tcs kk ii hd hj1 hj2 hG hGF g
          obtain rfl : j = cutN xs.length k (i + 1) := by omega
          obtain ⟨G, rfl⟩ : ∃ G', G = G' + 1 := ⟨G - 1, by omega⟩
          rw [ref9_Build.l13_eq, chk_true, (isS g).rd i rfl (by rw [hsl]; exact hik), hsg, w1, bite_f (by simp), chk_true]
          refine g.page (by simp; omega) (by simp; omega) (by omega) fun u' H1 c g1 => ?_
          rw [chk_true, (isY g1).rd (cutN xs.length k i) rfl (by simp; omega), chk_true]
          refine g1.least _ (by omega) fun ul' H2 g2 => ?_
          rw [chk_true, (isS g2).rd i rfl (by rw [hsl]; exact hik), hsg, w1, wrap_succ (by omega)]
          refine ihF G (by omega) (i + 1) H2 tcs u' (ucs ++ [c]) ul' (by omega) (by omega) ?_
          rw [List.range_succ, List.map_append, List.map_append, List.map_append]
          have e2 : (upAt xs next0 k i).2 = (xs.map (·.2))[cutN xs.length k i]'(by simp; omega) := by
            unfold upAt
            dsimp only
            rw [List.getElem?_eq_getElem hclt, List.getElem_map]
            rfl
          show BJ B H2 tp tcs (placeD T0 xs next0 (cutN xs.length k (i + 1))) x xs.length xcs (xs.map (·.1)) y (xs.map (·.2)) sa k _ u' (i + 1) (ucs ++ [c]) (_ ++ [(upAt xs next0 k i).1]) ul' (i + 1) (_ ++ [(upAt xs next0 k i).2]) none [] none []
          rw [e2]
          exact g2
        | succ d ihd =>
          intro G j H tcs kk ii hd hj1 hj2 hG hGF g
          obtain ⟨G, rfl⟩ : ∃ G', G = G' + 1 := ⟨G - 1, by omega⟩
          have hjl : j < xs.length := by omega
          rw [ref9_Build.l13_eq, chk_true, (isS g).rd i rfl (by rw [hsl]; exact hik), hsg, w1, bite_t (by simp; omega), chk_true]
          refine chk_of (by simp; omega) ?_
          obtain ⟨l, o, c, p, ex, hc, hp, hpc, g0, g1, g2, g3, g4⟩ := g.X.tr.get hjl
          have etN : tN (j : Int) = j := rfl
          have etN2 : 0 + tN ((next0 + j : Nat) : Int) * 5 = (next0 + j) * 5 := by rw [Nat.zero_add]; rfl
          have px : ∀ K : Nat → Nat → Prop, pS x K = K l o := fun K => by rw [ex]; rfl
          rw [px, etN, rdPage_of g0 g1 g2 g3 g4, chk_true]
          refine chk_of (by simp; omega) ?_
          rw [pS_some, etN2]
          refine g.place (i := next0 + j) (by omega) hc hp fun H1 tcs1 h1 => ?_
          have hpl : placeD T0 xs next0 (j + 1) = (placeD T0 xs next0 j).set (next0 + j) p := by
            show (placeD T0 xs next0 j).set (next0 + j) _ = _
            have : ((xs[j]?.map (·.1)).getD noPg) = p := by
              rw [List.getElem?_map] at hp
              rw [hp]; rfl
            rw [this]
          rw [← hpl] at h1
          rw [chk_true]
          refine h1.kid _ (by simp; omega) fun ii' H2 h2 => ?_
          have hr : (List.range (j + 1 - cutN xs.length k i)).map (fun r => ((next0 + (cutN xs.length k i + r) : Nat) : Int)) = (List.range (j - cutN xs.length k i)).map (fun r => ((next0 + (cutN xs.length k i + r) : Nat) : Int)) ++ [((next0 + j : Nat) : Int)] := by
            rw [show j + 1 - cutN xs.length k i = (j - cutN xs.length k i) + 1 by omega, List.range_succ, List.map_append]
            simp
            omega
          rw [← hr] at h2
          have hrl : ((List.range (j - cutN xs.length k i)).map (fun r => ((next0 + (cutN xs.length k i + r) : Nat) : Int))).length + 1 = ((List.range (j + 1 - cutN xs.length k i)).map (fun r => ((next0 + (cutN xs.length k i + r) : Nat) : Int))).length := by simp; omega
          rw [hrl]
          have wn : wrapI .i64 (((next0 + j : Nat) : Int) + 1) = ((next0 + (j + 1) : Nat) : Int) := by rw [wrap64 (by omega) (by omega)]; omega
          rw [wn, wrap_succ (by omega)]
          refine bite_of (fun e => ?_) (fun e => ?_)
          · have hlj : cutN xs.length k i < j := by simpa using e
            have r := fun K => (isY h2).rd j (i := (j : Int)) rfl (by simp; omega) K
            rw [etN] at r
            rw [chk_true, r, chk_true]
            refine h2.key _ (by simp; omega) fun kk' H3 h3 => ?_
            have hks : ((xs.drop (cutN xs.length k i + 1)).take (j + 1 - (cutN xs.length k i + 1))).map (·.2) = ((xs.drop (cutN xs.length k i + 1)).take (j - (cutN xs.length k i + 1))).map (·.2) ++ [(xs.map (·.2))[j]'(by simp; omega)] := by
              rw [show j + 1 - (cutN xs.length k i + 1) = (j - (cutN xs.length k i + 1)) + 1 by omega, List.take_succ_eq_append_getElem (by simp; omega), List.map_append]
              congr 1
              simp
              congr 2
              omega
            rw [← hks] at h3
            have hkl : (((xs.drop (cutN xs.length k i + 1)).take (j - (cutN xs.length k i + 1))).map (·.2)).length + 1 = (((xs.drop (cutN xs.length k i + 1)).take (j + 1 - (cutN xs.length k i + 1))).map (·.2)).length := by rw [hks, List.length_append]; rfl
            rw [hkl]
            exact ihd G (j + 1) H3 tcs1 kk' ii' (by omega) (by omega) (by omega) (by omega) (by omega) h3
          · have hlj : cutN xs.length k i = j := by simp at e; omega
            have hks : ((xs.drop (cutN xs.length k i + 1)).take (j + 1 - (cutN xs.length k i + 1))).map (·.2) = ((xs.drop (cutN xs.length k i + 1)).take (j - (cutN xs.length k i + 1))).map (·.2) := by
              rw [show j + 1 - (cutN xs.length k i + 1) = 0 by omega, show j - (cutN xs.length k i + 1) = 0 by omega]
            rw [← hks] at h2
            rw [← hks]
            exact ihd G (j + 1) H2 tcs1 kk ii' (by omega) (by omega) (by omega) (by omega) (by omega) h2
      have hstart := inner _ F (cutN xs.length k i) H tcs none none rfl (Nat.le_refl _) hmono (by omega) (Nat.le_refl _) (by
        rw [show cutN xs.length k i - (cutN xs.length k i + 1) = 0 by omega, show cutN xs.length k i - cutN xs.length k i = 0 by omega]
        exact g)
      rw [show cutN xs.length k i - (cutN xs.length k i + 1) = 0 by omega, show cutN xs.length k i - cutN xs.length k i = 0 by omega] at hstart
      exact hstart
    · obtain rfl : i = k := by omega
      rw [bite_f (by simp)]
      rw [cutN_all hk] at g hF ⊢
      have hd := g.done
      rw [← hUD] at hd
      exact hK F H tcs up ucs ul (by omega) hd
end
end Go.Am
namespace Go.Am

theorem OT.base {H : Hp} {b b' : Nat} {t : TypeId} {a : Pl} {n : Nat} {cs : List PC} {T : List Pg} (h : OT H b t a n cs T) (hb : b' ≤ b) : OT H b' t a n cs T := ⟨h.own.base hb, h.len, h.lenT, h.all, h.off⟩
section
variable {B : Hp} {Q : Post} {tp : Nat}
theorem build_l4 : ∀ (D : Nat) (xs : Lvl) (next : Nat) (T : List Pg) (F : Nat) (H : Hp) (tcs : List PC) (x : Pl) (xcs : List PC) (y : Pl), xs.length ≤ D → 1 ≤ xs.length → next + 2 * xs.length ≤ 48 → 8 * xs.length + 8 ≤ F →
    BS B H tp tcs T x xs.length xcs (xs.map (·.1)) y (xs.map (·.2)) → (∀ H' tcs', B <+: H' → OT H' B.length tPg (some (tp, 0)) 48 tcs' (buildGo D T next xs) → Q (.agg [.sl (some (tp, 0)) 48 5]) H') →
    ref9_Build.l4 F none 0 (some (tp, 0)) 48 x xs.length y xs.length (next : Int) H Q := by
  intro D
  induction D with
  | zero => intro xs _ _ _ _ _ _ _ _ h1 h2; omega
  | succ D ih =>
    intro xs next T F H tcs x xcs y hD h1 hb hF g hQ
    obtain ⟨F, rfl⟩ : ∃ F', F = F' + 1 := ⟨F - 1, by omega⟩
    rw [ref9_Build.l4_eq]
    refine bite_of (fun e => ?_) (fun e => ?_)
    · have h2 : 2 ≤ xs.length := by simp at e; omega
      have hk2 : 2 * kOf xs.length 5 ≤ xs.length := by
        unfold kOf
        have : 2 * ((xs.length + 5 - 1) / 5) ≤ xs.length := by omega
        omega
      have hk0 := kOf_pos xs.length 5
      have hUl : (upD xs next).length = kOf xs.length 5 := by unfold upD; simp
      refine ref9_sizes_spec (n := xs.length) (most := 5) (by omega) (by omega) (by omega) fun sa H1 p1 oS _ => ?_
      simp only [rG_g, dL_sl]
      have hst := g.start p1 oS
      have := build_l9 (Q := Q) (B := B) (tp := tp) (xs := xs) (next0 := next) (T0 := T) (x := x) (y := y) (xcs := xcs) (sa := sa) (REST := 8 * kOf xs.length 5 + 8) h2 (by omega) (fun F2 H2 tcs2 up ucs ul hF2 g2 => by
        refine ih (upD xs next) (next + xs.length) (placeD T xs next xs.length) F2 H2 tcs2 up ucs ul (by omega) (by omega) (by omega) (by omega) g2 fun H' tcs' hp ho => ?_
        refine hQ H' tcs' hp ?_
        have e2 : buildGo (D + 1) T next xs = buildGo D (placeD T xs next xs.length) (next + xs.length) (upD xs next) := by
          show (match decide (1 < xs.length) with | true => _ | false => _) = _
          rw [decide_eq_true (by omega)]
        rw [e2]
        exact ho) F 0 H1 tcs none [] none (by rw [cutN_zero]; omega) (Nat.zero_le _) (by rw [cutN_zero]; exact hst)
      rw [cutN_zero] at this
      exact this
    · have h11 : xs.length = 1 := by simp at e; omega
      rw [chk_true]
      refine chk_of (by simp; omega) ?_
      obtain ⟨l, o, c, p, ex, hc, hp, hpc, g0, g1, g2, g3, g4⟩ := g.X.tr.get (i := 0) (by omega)
      have px : ∀ K : Nat → Nat → Prop, pS x K = K l o := fun K => by rw [ex]; rfl
      have et0 : tN 0 = 0 := rfl
      rw [px, et0, rdPage_of g0 g1 g2 g3 g4, chk_true]
      refine chk_of (by simp) ?_
      have e0 : 0 + 0 * 5 = 0 * 5 := by omega
      rw [pS_some, e0]
      refine (g.start (sa := none) (k := 0) (ss := []) (List.prefix_refl _) (.inl ⟨rfl, rfl, rfl⟩)).place (i := 0) (by omega) hc hp fun H' tcs' g' => ?_
      refine hQ H' tcs' g'.pre ?_
      have e2 : buildGo (D + 1) T next xs = T.set 0 p := by
        show (match decide (1 < xs.length) with | true => _ | false => _) = _
        rw [decide_eq_false (by omega)]
        dsimp only
        rw [List.getElem?_map] at hp
        rw [hp]; rfl
      rw [e2]
      exact g'.TP
theorem ref9_Build_spec {H : Hp} {a : Pl} {n : Nat} {ps : KV} (hp : Kv H a n ps) (hn : n ≤ 64) (hQ : ∀ H' tp cs, H <+: H' → OT H' H.length tPg (some (tp, 0)) 48 cs (buildD ps) → Q (.agg [.sl (some (tp, 0)) 48 5]) H') : ref9_Build [.g (.sl a n 2)] H Q := by
  have hpl := hp.len
  refine ⟨8 * 17 + 20, ?_⟩
  rw [ref9_Build_eq]
  refine ref9_New_spec fun H1 p1 o1 => ?_
  simp only [rA_agg, uC_cons, dL_sl, uN_nil]
  refine ref9_leaves_spec (hp.mono p1) (by omega) fun x y cs H2 p2 oX oY hxy hyo hlo => ?_
  simp only [rA_agg, uC_cons, dL_sl, uN_nil]
  have hL : (leavesD ps).length = kOf ps.length 4 := by unfold leavesD; simp
  have hk : kOf ps.length 4 ≤ 17 := by unfold kOf; omega
  have hk0 := kOf_pos ps.length 4
  have l1 := p1.length_le
  have htp : H.length < H1.length := o1.own.ltAny rfl
  have l2 := p2.length_le
  have o2 := o1.mono p2
  have hM : ∀ i l o, ([some (H.length, 0)] : List Pl).getD i none = some (l, o) → i = 0 ∧ l = H.length ∧ o = 0 := by
    intro i l o e
    match i, e with
    | 0, e => cases e; exact ⟨rfl, rfl, rfl⟩
    | i + 1, e => simp at e
  have g : BS H H2 H.length newC newT x (leavesD ps).length cs ((leavesD ps).map (·.1)) y ((leavesD ps).map (·.2)) := by
    refine ⟨p1.trans p2, o2, oX.base l1, oY.base l1, fun i j hne l e1 e2 => ?_, fun i b hb l e1 e2 => ?_, fun i c hc l hl' e => ?_, fun i l o e => ?_, fun b hb l o e => ?_, fun c hc l hl' => ?_⟩
    · exact hne ((hM i l 0 e1).1.trans (hM j l 0 e2).1.symm)
    · obtain ⟨_, rfl, _⟩ := hM i l 0 e1
      simp only [List.mem_cons, List.not_mem_nil, or_false] at hb
      rcases hb with rfl | rfl
      · have := oX.own.above e2; omega
      · have := oY.above e2; omega
    · obtain ⟨_, rfl, _⟩ := hM i l 0 e
      rcases List.mem_append.1 hc with q | q
      · exact newC_off c q _ hl'
      · have := hlo c q _ hl'; omega
    · obtain ⟨_, rfl, _⟩ := hM i l o e; omega
    · simp only [List.mem_cons, List.not_mem_nil, or_false] at hb
      rcases hb with rfl | rfl
      · exact oX.own.ltAny e
      · exact oY.ltAny e
    · rcases List.mem_append.1 hc with q | q
      · exact (newC_off c q _ hl').elim
      · exact oX.onlt q hl'
  refine build_l4 64 (leavesD ps) 1 newT (8 * 17 + 19) H2 newC x cs y (by omega) (by omega) (by omega) (by omega) g fun H' tcs' hp' ho => ?_
  exact hQ H' H.length tcs' hp' ho
end
end Go.Am
namespace Go.Am

/-- a tree whose rows are all one's own -/
structure CT (B H : Hp) (t : TypeId) (a : Pl) (n : Nat) (ds : List PC) (T : List Pg) : Prop where
  pre : B <+: H
  ot : OT H B.length t a n ds T
  own : ∀ i (h : i < ds.length) (h' : i < T.length), (ds[i]).own H B.length T[i]
  ap : ∀ i j (hi : i < ds.length) (hj : j < ds.length), i ≠ j → ∀ l, (ds[i]).on l → ¬ (ds[j]).on l
section
variable {B H H' : Hp} {t : TypeId} {a : Pl} {n : Nat} {ds : List PC} {T : List Pg}
theorem CT.mono (g : CT B H t a n ds T) (hp : H <+: H') : CT B H' t a n ds T :=
  ⟨g.pre.trans hp, g.ot.mono hp, fun i h h' => (g.own i h h').keep fun l hl => pre_at hp (g.ot.onlt (List.getElem_mem h) hl), g.ap⟩
/-- a page's row of keys turned -/
theorem CT.setRow (g : CT B H t a n ds T) {i : Nat} (hi : i < ds.length) (hi' : i < T.length) {l : Nat} (hon : (ds[i]).on l) (x : Obj) (hb : B.length ≤ l) (p : Pg)
    (hat : (ds[i]).at (H.set l x) p) (how : (ds[i]).own (H.set l x) B.length p) : CT B (H.set l x) t a n ds (T.set i p) := by
  have q1 := g.ot.len
  have q2 := g.ot.lenT
  have other : ∀ j (h : j < ds.length), j ≠ i → ∀ m, (ds[j]).on m → (H.set l x)[m]? = H[m]? := fun j h hne m hm => by
    rw [List.getElem?_set_ne]
    intro e; subst e
    exact g.ap i j hi h (Ne.symm hne) l hon hm
  refine ⟨pre_set g.pre hb x, ⟨g.ot.own.keep fun m e => ?_, q1, by simp [q2], fun j h1 h2 => ?_, g.ot.off⟩, fun j h1 h2 => ?_, g.ap⟩
  · rw [List.getElem?_set_ne]
    intro e'; subst e'
    exact g.ot.off _ (List.getElem_mem hi) l hon e
  · rw [List.getElem_set]
    by_cases e : i = j
    · subst e; rw [if_pos rfl]; exact hat
    · rw [if_neg e]
      simp at h2
      exact (g.ot.all j h1 h2).keep (other j h1 (Ne.symm e))
  · rw [List.getElem_set]
    by_cases e : i = j
    · subst e; rw [if_pos rfl]; exact how
    · rw [if_neg e]
      simp at h2
      exact (g.own j h1 h2).keep (other j h1 (Ne.symm e))
theorem CT.key (g : CT B H t a n ds T) {i j : Nat} (hi : i < ds.length) (hi' : i < T.length) (hj : j < (T[i]).keys.length) (s : ByteArray) {K : Hp → Prop}
    (hK : ∀ H', CT B H' t a n ds (T.set i { T[i] with keys := (T[i]).keys.set j s }) → K H') : ∃ l, (ds[i]).a1 = some (l, 0) ∧ wr H l j (.str s) K := by
  have ho := g.own i hi hi'
  have hat := g.ot.all i hi hi'
  rcases ho.keys with ⟨_, h, _⟩ | ⟨l, e, hb, hr, hl⟩
  · have := hat.keys.len; omega
  have hlt := (List.getElem?_eq_some_iff.1 hr).1
  have hon : (ds[i]).on l := ⟨0, .inl e⟩
  refine ⟨l, e, wr_row hr (by simpa using hj) ?_⟩
  rw [← List.map_set]
  have keep : ∀ {tt : TypeId} {x : Pl} {m : Nat} {es : List GV} (y : Obj), Own H B.length tt x m es → Dr (ds[i]).a1 x → Own (H.set l y) B.length tt x m es := fun y h hd => h.keep fun m e' => by
    rw [List.getElem?_set_ne]; intro q; subst q; exact hd l 0 0 e e'
  have how : (ds[i]).own (H.set l (.row true tS (((T[i]).keys.set j s).map GV.str))) B.length { T[i] with keys := (T[i]).keys.set j s } :=
    ⟨ho.used, ho.leaf, .inr ⟨l, e, hb, List.getElem?_set_self hlt, by simpa using hl⟩, keep _ ho.vals ho.d12, keep _ ho.kids ho.d13, ho.d12, ho.d13, ho.d23⟩
  refine hK _ (g.setRow hi hi' hon _ hb _ ⟨hat.used, hat.leaf, ⟨how.keys.cells, ?_, hat.keys.lim⟩, ⟨how.vals.cells, hat.vals.len, hat.vals.lim⟩, ⟨how.kids.cells, hat.kids.len, hat.kids.lim⟩⟩ how)
  simpa using hat.keys.len
theorem CT.kid (g : CT B H t a n ds T) {i j : Nat} (hi : i < ds.length) (hi' : i < T.length) (hj : j < (T[i]).kids.length) (s : Int) {K : Hp → Prop}
    (hK : ∀ H', CT B H' t a n ds (T.set i { T[i] with kids := (T[i]).kids.set j s }) → K H') : ∃ l, (ds[i]).a3 = some (l, 0) ∧ wr H l j (.int .i64 s) K := by
  have ho := g.own i hi hi'
  have hat := g.ot.all i hi hi'
  rcases ho.kids with ⟨_, h, _⟩ | ⟨l, e, hb, hr, hl⟩
  · have := hat.kids.len; omega
  have hlt := (List.getElem?_eq_some_iff.1 hr).1
  have hon : (ds[i]).on l := ⟨0, .inr (.inr e)⟩
  refine ⟨l, e, wr_row hr (by simpa using hj) ?_⟩
  rw [← List.map_set]
  have keep : ∀ {tt : TypeId} {x : Pl} {m : Nat} {es : List GV} (y : Obj), Own H B.length tt x m es → Dr x (ds[i]).a3 → Own (H.set l y) B.length tt x m es := fun y h hd => h.keep fun m e' => by
    rw [List.getElem?_set_ne]; intro q; subst q; exact hd l 0 0 e' e
  have how : (ds[i]).own (H.set l (.row true tI (((T[i]).kids.set j s).map (GV.int .i64)))) B.length { T[i] with kids := (T[i]).kids.set j s } :=
    ⟨ho.used, ho.leaf, keep _ ho.keys ho.d13, keep _ ho.vals ho.d23, .inr ⟨l, e, hb, List.getElem?_set_self hlt, by simpa using hl⟩, ho.d12, ho.d13, ho.d23⟩
  refine hK _ (g.setRow hi hi' hon _ hb _ ⟨hat.used, hat.leaf, ⟨how.keys.cells, hat.keys.len, hat.keys.lim⟩, ⟨how.vals.cells, hat.vals.len, hat.vals.lim⟩, ⟨how.kids.cells, ?_, hat.kids.lim⟩⟩ how)
  simpa using hat.kids.len
theorem CT.keyW (g : CT B H t a n ds T) {i j : Nat} (hi : i < ds.length) (hi' : i < T.length) (hj : j < (T[i]).keys.length) (s : ByteArray) {K : Hp → Prop}
    (hK : ∀ H', CT B H' t a n ds (T.set i { T[i] with keys := (T[i]).keys.set j s }) → K H') : pS (ds[i]).a1 fun n m => wr H n (m + tN (j : Int) * 1) (.str s) K := by
  obtain ⟨l, e, h⟩ := g.key hi hi' hj s hK
  have e1 : 0 + tN (j : Int) * 1 = j := by rw [Nat.zero_add, Nat.mul_one]; rfl
  rw [e, pS_some, e1]
  exact h
theorem CT.kidW (g : CT B H t a n ds T) {i j : Nat} (hi : i < ds.length) (hi' : i < T.length) (hj : j < (T[i]).kids.length) (s : Int) {K : Hp → Prop}
    (hK : ∀ H', CT B H' t a n ds (T.set i { T[i] with kids := (T[i]).kids.set j s }) → K H') : pS (ds[i]).a3 fun n m => wr H n (m + tN (j : Int) * 1) (.int .i64 s) K := by
  obtain ⟨l, e, h⟩ := g.kid hi hi' hj s hK
  have e1 : 0 + tN (j : Int) * 1 = j := by rw [Nat.zero_add, Nat.mul_one]; rfl
  rw [e, pS_some, e1]
  exact h
theorem law0_CopyTree_ct {Q : Post} {cs : List PC} (hT : Tr H a n cs T) (hn : n * 80 ≤ 140737488351232) (hQ : ∀ a' ds H', CT H H' tPg a' n ds T → Q (.agg [.sl a' n 5]) H') : law0_CopyTree [.agg [.sl a n 5]] H Q :=
  law0_CopyTree_spec hT hn fun a' ds H' p o1 o2 o3 => hQ a' ds H' ⟨p, o1, o2, o3⟩
end

def kv5 : KV := [(mkS [97], mkS []), (mkS [98], mkS []), (mkS [99], mkS []), (mkS [100], mkS []), (mkS [101], mkS [])]
theorem kv5_at (H : Hp) : Kv (H ++ [.row false 0 [(.str (mkS [97])), (.str (mkS [])), (.str (mkS [98])), (.str (mkS [])), (.str (mkS [99])), (.str (mkS [])), (.str (mkS [100])), (.str (mkS [])), (.str (mkS [101])), (.str (mkS []))]]) (some (H.length, 0)) 5 kv5 :=
  ⟨by simp [cells?, kvCells, kv5], rfl⟩
theorem h_new : heightD newT = 1 := by decide +kernel
theorem h_5 : heightD (buildD kv5) = 2 := by decide +kernel
theorem k_5 : ((buildD kv5)[0]?.map fun p => p.keys.length) = some 1 := by decide +kernel
def turned5 : List Pg := (buildD kv5).set 0 { ((buildD kv5)[0]?.getD noPg) with keys := ((buildD kv5)[0]?.getD noPg).keys.set 0 (mkS [101]) }
theorem h_t5 : heightD turned5 = 0 := by decide +kernel
theorem h_nil : heightD [] = 0 := rfl
theorem tr_nil (H : Hp) : Tr H none 0 [] [] := ⟨rfl, rfl, rfl, fun i h => (by simp at h)⟩

section
variable {H : Hp} {Q : Post}
set_option maxRecDepth 100000 in
theorem law10_awake_spec (hQ : ∀ H', H <+: H' → Q (.g (.bool true)) H') : law10_awake [] H Q := by
  refine ⟨1, ?_⟩
  rw [law10_awake_eq]
  refine sound_New_spec fun H1 p1 o1 => ?_
  simp only [rA_agg, uC_cons, dL_sl, uN_nil]
  rw [bite_f (by decide)]
  simp only [pu_def, ln_def]
  have p2 := pre_pu H1 (.row false 0 [(.str (mkS [97])), (.str (mkS [])), (.str (mkS [98])), (.str (mkS [])), (.str (mkS [99])), (.str (mkS [])), (.str (mkS [100])), (.str (mkS [])), (.str (mkS [101])), (.str (mkS []))])
  have hkv := kv5_at H1
  generalize H1 ++ [.row false 0 [(.str (mkS [97])), (.str (mkS [])), (.str (mkS [98])), (.str (mkS [])), (.str (mkS [99])), (.str (mkS [])), (.str (mkS [100])), (.str (mkS [])), (.str (mkS [101])), (.str (mkS []))]] = H2 at p2 hkv ⊢
  refine ref9_Build_spec hkv (by omega) fun H3 tp cs p3 o3 => ?_
  simp only [rA_agg, uC_cons, dL_sl, uN_nil]
  refine law0_CopyTree_ct o3.tr (by omega) fun c ds H4 g => ?_
  simp only [rA_agg, uC_cons, dL_sl, uN_nil]
  have hlD := g.ot.len
  have hlT := g.ot.lenT
  obtain ⟨l, o, d, p, ex, hd, hp, hpc, g0, g1, g2, g3, g4⟩ := g.ot.tr.get (i := 0) (by omega)
  have hd' : d = ds[0]'(by omega) := by rw [List.getElem?_eq_getElem (by omega)] at hd; exact (Option.some.inj hd).symm
  have hp' : p = (buildD kv5)[0]'(by omega) := by rw [List.getElem?_eq_getElem (by omega)] at hp; exact (Option.some.inj hp).symm
  have hk1 : p.keys.length = 1 := by have := k_5; rw [hp] at this; simpa using this
  subst ex
  rw [chk_true]
  refine chk_of (by decide) ?_
  have e0 : o + tN 0 * 5 + 2 = o + 0 * 5 + 2 := rfl
  rw [pS_some, e0, rd_of g2, dL_sl, chk_true]
  have hn1 : d.n1 = 1 := by rw [hpc.keys.len, hk1]
  refine chk_of (by rw [hn1]; decide) ?_
  rw [hd']
  refine g.keyW (i := 0) (j := 0) (by omega) (by omega) (by rw [← hp']; omega) (mkS [101]) fun H5 g5 => ?_
  have hT5 : (buildD kv5).set 0 { (buildD kv5)[0]'(by omega) with keys := ((buildD kv5)[0]'(by omega)).keys.set 0 (mkS [101]) } = turned5 := by
    unfold turned5
    rw [List.getElem?_eq_getElem (by omega)]; rfl
  rw [hT5] at g5
  have p35 := g5.pre
  refine law0_Num_spec ?_
  simp only [rG_g, dI_int]
  rw [bite_t (by decide)]
  refine ref9_New_spec fun H6 p6 o6 => ?_
  simp only [rA_agg, uC_cons, dL_sl, uN_nil]
  have p16 := p2.trans (p3.trans (p35.trans p6))
  refine law0_SameTree_spec (o1.tr.mono p16) o6.tr (by omega) fun b hb => ?_
  simp only [rG_g, dB_bool]
  rw [bite_t (hb.2 rfl)]
  refine sound_Sound_spec (o1.tr.mono p16) fun H7 p7 => ?_
  simp only [rG_g, dB_bool]
  rw [bite_t (by rw [h_new]; decide)]
  refine sound_Height_spec (o1.tr.mono (p16.trans p7)) fun H8 p8 => ?_
  simp only [rG_g, dI_int]
  rw [bite_t (by rw [h_new]; decide)]
  have p38 := p35.trans (p6.trans (p7.trans p8))
  refine sound_Sound_spec (o3.tr.mono p38) fun H9 p9 => ?_
  simp only [rG_g, dB_bool]
  rw [bite_t (by rw [h_5]; decide)]
  refine sound_Height_spec (o3.tr.mono (p38.trans p9)) fun H10 p10 => ?_
  simp only [rG_g, dI_int]
  rw [bite_t (by rw [h_5]; decide)]
  have p510 := p6.trans (p7.trans (p8.trans (p9.trans p10)))
  refine sound_Sound_spec (g5.ot.tr.mono p510) fun H11 p11 => ?_
  simp only [rG_g, dB_bool]
  rw [bite_t (by rw [h_t5]; decide)]
  refine sound_Height_spec (g5.ot.tr.mono (p510.trans p11)) fun H12 p12 => ?_
  simp only [rG_g, dI_int]
  rw [bite_t (by rw [h_t5]; decide)]
  refine sound_Sound_spec (tr_nil H12) fun H13 p13 => ?_
  simp only [rG_g, dB_bool]
  rw [h_nil]
  exact hQ H13 (p1.trans (p16.trans (p7.trans (p8.trans (p9.trans (p10.trans (p11.trans (p12.trans p13))))))))
end
end Go.Am
namespace Go.Am

theorem and_mask {k m : Nat} (hk : k < 2 ^ 63) (hm : m ≤ 30) {j : Int} (hj : j = ((2 ^ m - 1 : Nat) : Int)) : bitsI .and .i64 (k : Int) j = ((k % 2 ^ m : Nat) : Int) := by
  subst hj
  have h1 : (BitVec.ofInt 64 (k : Int)).toNat = k := by
    rw [BitVec.ofInt_natCast, BitVec.toNat_ofNat, Nat.mod_eq_of_lt (by omega)]
  have h30 : 2 ^ m ≤ 2 ^ 30 := Nat.pow_le_pow_right (by omega) hm
  have h2 : (BitVec.ofInt 64 ((2 ^ m - 1 : Nat) : Int)).toNat = 2 ^ m - 1 := by
    rw [BitVec.ofInt_natCast, BitVec.toNat_ofNat, Nat.mod_eq_of_lt (by omega)]
  have h3 : (BitVec.ofInt 64 (k : Int) &&& BitVec.ofInt 64 ((2 ^ m - 1 : Nat) : Int)).toNat = k % 2 ^ m := by
    rw [BitVec.toNat_and, h1, h2, Nat.and_two_pow_sub_one_eq_mod]
  have hlt : k % 2 ^ m < 2 ^ m := Nat.mod_lt _ (Nat.pos_of_ne_zero (by simp))
  show IntKind.i64.wrap (((BitVec.ofInt 64 (k : Int) &&& BitVec.ofInt 64 ((2 ^ m - 1 : Nat) : Int)).toNat : Nat) : Int) = _
  rw [h3]
  exact wrap64 (by omega) (by omega)
theorem and_le (x : Int) {m : Nat} (hm : m ≤ 1000000) {j : Int} (hj : j = (m : Int)) : ∃ r : Nat, r ≤ m ∧ bitsI .and .i64 x j = (r : Int) := by
  subst hj
  have h2 : (BitVec.ofInt 64 (m : Int)).toNat = m := by
    rw [BitVec.ofInt_natCast, BitVec.toNat_ofNat, Nat.mod_eq_of_lt (by omega)]
  have h : ((BitVec.ofInt 64 x &&& BitVec.ofInt 64 (m : Int)).toNat) ≤ m := by
    rw [BitVec.toNat_and, h2]
    exact Nat.and_le_right
  refine ⟨_, h, ?_⟩
  show IntKind.i64.wrap (((BitVec.ofInt 64 x &&& BitVec.ofInt 64 (m : Int)).toNat : Nat) : Int) = _
  exact wrap64 (by omega) (by omega)
theorem shr4 (k : Nat) : shrI .i64 (k : Int) 4 = ((k / 16 : Nat) : Int) := by
  show Int.fdiv (k : Int) (2 ^ (min 4 64)) = _
  rw [show ((2 : Int) ^ (min 4 64)) = ((16 : Nat) : Int) from rfl, Int.fdiv_eq_ediv_of_nonneg _ (by omega)]
  rfl
def lettersD (k : Nat) : ByteArray := mkS [bof ((97 + k / 16 % 16 : Nat) : Int), bof ((97 + k % 16 : Nat) : Int)]
section
variable {H : Hp} {Q : Post}
theorem letters_word {k : Nat} (hk : k ≤ 100000) : (wrapI .u8 (wrapI .i64 (97 + (bitsI .and .i64 (shrI .i64 (k : Int) 4) 15)))) = ((bof ((97 + k / 16 % 16 : Nat) : Int)).toNat : Int) ∧ (wrapI .u8 (wrapI .i64 (97 + (bitsI .and .i64 (k : Int) 15)))) = ((bof ((97 + k % 16 : Nat) : Int)).toNat : Int) := by
  have e1 := and_mask (k := k / 16) (m := 4) (j := 15) (by omega) (by omega) rfl
  have e2 := and_mask (k := k) (m := 4) (j := 15) (by omega) (by omega) rfl
  rw [shr4, e1, e2]
  have h : ∀ r : Nat, r < 16 → wrapI .u8 (wrapI .i64 (97 + (r : Int))) = ((bof ((97 + r : Nat) : Int)).toNat : Int) := by
    intro r hr
    rw [wrap64 (by omega) (by omega)]
    have := u8_eq (n := ((97 + r : Nat) : Int)) (by omega) (by omega)
    have e : (97 + (r : Int)) = ((97 + r : Nat) : Int) := by omega
    rw [e]
    injection this
  exact ⟨h _ (Nat.mod_lt _ (by omega)), h _ (Nat.mod_lt _ (by omega))⟩
end
/-- pairs in a row of one's own -/
theorem ap_kv {H0 H : Hp} {t : TypeId} {a : Pl} {n : Nat} {ps : KV} {K : Pl → Nat → Hp → Prop} (h0 : H0 <+: H) (h : Own H H0.length t a (n * 2) (kvCells ps)) (x y : ByteArray) (hn : n ≤ 100000)
    (hK : ∀ a' H', Own H' H0.length t a' ((n + 1) * 2) (kvCells (ps ++ [(x, y)])) → H0 <+: H' → K a' (n + 1) H') : ap H t 2 32 a n [.str x, .str y] 1 K :=
  ap_z (by omega) h0 h rfl (by unfold Lim; omega) fun a' H' o e f => hK a' H' (by unfold kvCells at *; rw [List.flatMap_append]; simpa using o) e.pre
theorem Own.kv {H : Hp} {b : Nat} {t : TypeId} {a : Pl} {n : Nat} {ps : KV} (h : Own H b t a (n * 2) (kvCells ps)) (hl : ps.length = n) : Kv H a n ps := ⟨h.cells, hl⟩

/-! SoundFull -/
def kvL (n : Nat) : KV := (List.range n).map fun i => (lettersD i, mkS [])
theorem kvL_length (n : Nat) : (kvL n).length = n := by simp [kvL]
theorem kvL_succ (n : Nat) : kvL (n + 1) = kvL n ++ [(lettersD n, mkS [])] := by simp [kvL, List.range_succ]
end Go.Am
namespace Go.Am

/-! a tree's outer row, cell by cell -/
theorem cells_part {H : Hp} {a : Pl} {n : Nat} {cs : List GV} (h : cells? H a n = some cs) (k m : Nat) (hm : k + m ≤ n) : cells? H (shf a k) m = some ((cs.drop k).take m) := by
  cases a with
  | none => simp [cells?] at h; obtain ⟨rfl, rfl⟩ := h; simp [cells?]; omega
  | some p =>
    obtain ⟨l, o⟩ := p
    unfold cells? at h
    simp only at h
    cases hr : H[l]? with
    | none => rw [hr] at h; cases h
    | some x =>
      rw [hr] at h
      cases x with
      | row own t ds =>
        simp only at h
        split at h
        · rename_i hle
          cases h
          simp only [shf_some, cells?, hr]
          rw [if_pos (by omega), List.drop_take, List.take_take, List.drop_drop, Nat.min_eq_left (by omega)]
        · cases h
      | _ => cases h
theorem Ss.part {H : Hp} {a : Pl} {n : Nat} {xs : List ByteArray} (h : Ss H a n xs) (k m : Nat) (hm : k + m ≤ n) : Ss H (shf a k) m ((xs.drop k).take m) := by
  have hn := h.len
  have hl := h.lim
  refine ⟨?_, by simp; omega, by omega⟩
  rw [cells_part h.cells k m hm, List.map_take, List.map_drop]
theorem pcells_set1 (cs : List PC) (i j : Nat) (v : GV) (c : PC) (hi : i < cs.length) (hj : j < 5) (hc : c.cells = (cs[i].cells).set j v) : (pcells cs).set (i * 5 + j) v = pcells (cs.set i c) := by
  induction cs generalizing i with
  | nil => simp at hi
  | cons d cs ih =>
    have e : pcells (d :: cs) = d.cells ++ pcells cs := rfl
    cases i with
    | zero =>
      rw [e, Nat.zero_mul, Nat.zero_add, List.set_append_left _ _ (by simpa using hj)]
      show _ = c.cells ++ pcells cs
      rw [hc]; rfl
    | succ i =>
      rw [e, List.set_append_right _ _ (by simp; omega)]
      show _ = d.cells ++ pcells (cs.set i c)
      rw [← ih i (by simpa using hi) (by simpa using hc)]
      congr 2
      simp; omega
section
variable {B H : Hp} {t : TypeId} {tp : Nat} {n : Nat} {cs : List PC} {T : List Pg} {i : Nat} {c : PC} {p : Pg}
theorem OT.at_row (h : OT H B.length t (some (tp, 0)) n cs T) : B.length ≤ tp ∧ H[tp]? = some (.row true t (pcells cs)) := by
  rcases h.own with ⟨e, _⟩ | ⟨l, e, hb, hr, hl⟩
  · cases e
  cases e
  exact ⟨hb, hr⟩
theorem OT.gt (h : OT H B.length t (some (tp, 0)) n cs T) (hi : i < cs.length) {j : Nat} (hj : j < 5) : Am.gt H tp (i * 5 + j) = (cs[i].cells)[j]? := by
  rw [gt_some h.at_row.2, pcells_get hi hj]
/-- one cell of a page written -/
theorem OT.cell (h : OT H B.length t (some (tp, 0)) n cs T) (hi : i < n) (hi' : i < cs.length) {j : Nat} (hj : j < 5) {v : GV} (hcell : c.cells = (cs[i].cells).set j v) (hc : c.at H p) (hoff : ∀ l, c.on l → l ≠ tp) {K : Hp → Prop}
    (hK : ∀ H', (∀ B', B' <+: H → B'.length ≤ tp → B' <+: H') → OT H' B.length t (some (tp, 0)) n (cs.set i c) (T.set i p) → K H') : wr H tp (i * 5 + j) v K := by
  obtain ⟨hb, hr⟩ := h.at_row
  refine wr_row hr (by rw [pcells_length]; omega) ?_
  rw [pcells_set1 cs i j v c hi' hj hcell]
  exact hK _ (fun B' hp hl => pre_set hp hl _) (h.place hi hc hoff)
theorem OT.page5 (h : OT H B.length t (some (tp, 0)) n cs T) (hi : i < n) (hc : c.at H p) (hoff : ∀ l, c.on l → l ≠ tp) {K : Hp → Prop}
    (hK : ∀ H', (∀ B', B' <+: H → B'.length ≤ tp → B' <+: H') → OT H' B.length t (some (tp, 0)) n (cs.set i c) (T.set i p) → K H') :
    wr H tp (i * 5) (.bool c.u) fun H1 => wr H1 tp (i * 5 + 1) (.bool c.l) fun H2 => wr H2 tp (i * 5 + 1 + 1) (.sl c.a1 c.n1 1) fun H3 => wr H3 tp (i * 5 + 1 + 1 + 1) (.sl c.a2 c.n2 1) fun H4 => wr H4 tp (i * 5 + 1 + 1 + 1 + 1) (.sl c.a3 c.n3 1) K := by
  obtain ⟨hb, hr⟩ := h.at_row
  exact wr5 hr (by have := h.len; omega) (hK _ (fun B' hp hl => pre_set hp hl _) (h.place hi hc hoff))
theorem Tr.take {H : Hp} {a : Pl} {n : Nat} {cs : List PC} {T : List Pg} (h : Tr H a n cs T) {m : Nat} (hm : m ≤ n) : Tr H (shf a 0) m (cs.take m) (T.take m) := by
  have q1 := h.len
  have q2 := h.lenT
  refine ⟨?_, by simp [q1]; omega, by simp [q2]; omega, fun i h1 h2 => ?_⟩
  · have e : pcells (cs.take m) = (pcells cs).take (m * 5) := by
      have := pcells_append (cs.take m) (cs.drop m)
      rw [List.take_append_drop] at this
      rw [this, List.take_left' (by rw [pcells_length]; simp [q1]; omega)]
    rw [e, cells_part h.cells 0 (m * 5) (by omega), List.drop_zero]
  · simp at h1 h2
    rw [List.getElem_take, List.getElem_take]
    exact h.all i (by omega) (by omega)
end

/-! SoundForms -/
end Go.Am
namespace Go.Am

theorem sound_facts {T : List Pg} (h : 0 < heightD T) : ∃ st, T.length = 48 ∧ walkD T 49 0 1 (mkS []) (mkS []) ws0 = some st ∧ restD T st.met = true ∧ st.count ≤ 60 ∧ heightD T = st.deep := by
  unfold heightD at h ⊢
  by_cases hl : T.length = 48
  · rw [decide_eq_true hl] at h ⊢
    dsimp only at h ⊢
    cases hw : walkD T 49 0 1 (mkS []) (mkS []) ws0 with
    | none => rw [hw] at h; simp at h
    | some st =>
      rw [hw] at h
      dsimp only at h ⊢
      cases hr : restD T st.met && decide (st.count ≤ 60) with
      | false => rw [hr] at h; simp at h
      | true =>
        rw [Bool.and_eq_true, decide_eq_true_eq] at hr
        exact ⟨st, hl, rfl, hr.1, hr.2, rfl⟩
  · rw [decide_eq_false hl] at h; simp at h
theorem height_none {T : List Pg} (h : walkD T 49 0 1 (mkS []) (mkS []) ws0 = none) : heightD T = 0 := by
  unfold heightD
  cases decide (T.length = 48) with
  | false => rfl
  | true => dsimp only; rw [h]
theorem height_rest {T : List Pg} {st : WS} (h : walkD T 49 0 1 (mkS []) (mkS []) ws0 = some st) (hr : restD T st.met = false) : heightD T = 0 := by
  unfold heightD
  cases decide (T.length = 48) with
  | false => rfl
  | true => dsimp only; rw [h]; dsimp only; rw [hr]; rfl
theorem ws0_met (i : Nat) (h : i < 48) : ws0.met[i]? = some false := by
  show (List.replicate 48 false)[i]? = some false
  rw [List.getElem?_replicate, if_pos h]

theorem okD_met {p : Pg} {a : Nat} {lo hi : ByteArray} {st : WS} (h : okD p a lo hi st = true) : st.met[a]? = some false ∧ mayB_ p = true ∧ (0 < a → 2 ≤ p.keys.length) ∧ holdB lo hi p.keys = true := by
  unfold okD at h
  simp only [Bool.and_eq_true] at h
  obtain ⟨h1, h2, h3, h4⟩ := h
  refine ⟨?_, h2, fun ha => ?_, h4⟩
  · cases hq : st.met[a]? with
    | none => rw [hq] at h1; simp at h1
    | some b => rw [hq] at h1; simp at h1; rw [h1]
  · have : decide (0 < a) = true := decide_eq_true ha
    rw [this, Bool.true_and] at h3
    simp at h3; omega
theorem leafD_some {p : Pg} {deep : Nat} {st st' : WS} (h : leafD p deep st = some st') : st'.met = st.met ∧ st'.count = st.count + p.keys.length ∧ st'.deep = deep ∧ (st.deep = 0 ∨ st.deep = deep) := by
  unfold leafD at h
  split at h
  · rename_i e; cases h; exact ⟨rfl, rfl, rfl, .inl (of_decide_eq_true e)⟩
  · split at h
    · rename_i e; cases h; exact ⟨rfl, rfl, rfl, .inr (of_decide_eq_true e)⟩
    · cases h
/-- one step of a walk that goes well -/
theorem walkD_step {T : List Pg} {f a deep : Nat} {lo hi : ByteArray} {st st' : WS} (h : walkD T (f + 1) a deep lo hi st = some st') : ∃ p, T[a]? = some p ∧ okD p a lo hi st = true ∧
    ((p.leaf = true ∧ leafD p deep ⟨st.met.set a true, st.deep, st.count⟩ = some st') ∨ (p.leaf = false ∧ kidsD (fun k i s => walkD T f k.toNat (deep + 1) (loK p lo i) (hiK p hi i) s) p.kids 0 ⟨st.met.set a true, st.deep, st.count⟩ = some st')) := by
  cases hp : T[a]? with
  | none => unfold walkD at h; rw [hp] at h; cases h
  | some p =>
    rw [walkD_eq T f a deep lo hi st hp] at h
    refine ⟨p, rfl, ?_⟩
    cases hok : okD p a lo hi st with
    | false => rw [hok] at h; cases h
    | true =>
      rw [hok] at h
      dsimp only at h
      cases hl : p.leaf with
      | true => rw [hl] at h; exact ⟨rfl, .inl ⟨rfl, h⟩⟩
      | false => rw [hl] at h; exact ⟨rfl, .inr ⟨rfl, h⟩⟩
/-- kids that all go well -/
theorem kidsD_ind {rec : Int → Nat → WS → Option WS} {R : WS → WS → Prop} {P : List Int → WS → WS → Prop} (hnil : ∀ s, P [] s s) (hcons : ∀ k ks i s s1 s', rec k i s = some s1 → kidsD rec ks (i + 1) s1 = some s' → P ks s1 s' → P (k :: ks) s s') :
    ∀ (ks : List Int) (i : Nat) (s s' : WS), kidsD rec ks i s = some s' → P ks s s' := by
  intro ks
  induction ks with
  | nil => intro i s s' h; cases h; exact hnil s
  | cons k ks ih =>
    intro i s s' h
    rw [kidsD_cons] at h
    cases hr : rec k i s with
    | none => rw [hr] at h; cases h
    | some s1 => rw [hr] at h; exact hcons k ks i s s1 s' hr h (ih (i + 1) s1 s' h)
theorem kidsD_ind' {rec : Int → Nat → WS → Option WS} {P : List Int → WS → WS → Prop} (hnil : ∀ s, P [] s s) (hcons : ∀ k ks i s s1 s', rec k i s = some s1 → P ks s1 s' → P (k :: ks) s s') :
    ∀ (ks : List Int) (i : Nat) (s s' : WS), kidsD rec ks i s = some s' → P ks s s' :=
  kidsD_ind (R := fun _ _ => True) hnil fun k ks i s s1 s' h _ hp => hcons k ks i s s1 s' h hp

/-- pages that are met -/
theorem walkD_met (T : List Pg) : ∀ (f a deep : Nat) (lo hi : ByteArray) (st st' : WS), walkD T f a deep lo hi st = some st' → (∀ j : Nat, st.met[j]? = some true → st'.met[j]? = some true) ∧ st'.met[a]? = some true ∧
    (∀ j, st'.met[j]? = some true → st.met[j]? = some true ∨ ∃ p, T[j]? = some p ∧ mayB_ p = true ∧ (0 < j → 2 ≤ p.keys.length)) := by
  intro f
  induction f with
  | zero => intro _ _ _ _ _ _ h; cases h
  | succ f ih =>
    intro a deep lo hi st st' h
    obtain ⟨p, hp, hok, hcase⟩ := walkD_step h
    obtain ⟨hm, hmay, h2, _⟩ := okD_met hok
    have hlt : a < st.met.length := (List.getElem?_eq_some_iff.1 hm).1
    have set1 : ∀ j, st.met[j]? = some true → (st.met.set a true)[j]? = some true := fun j hj => by
      by_cases e : a = j
      · subst e; exact List.getElem?_set_self hlt
      · rw [List.getElem?_set_ne e]; exact hj
    have set2 : (st.met.set a true)[a]? = some true := List.getElem?_set_self hlt
    have set3 : ∀ j, (st.met.set a true)[j]? = some true → st.met[j]? = some true ∨ ∃ p, T[j]? = some p ∧ mayB_ p = true ∧ (0 < j → 2 ≤ p.keys.length) := fun j hj => by
      by_cases e : a = j
      · subst e; exact .inr ⟨p, hp, hmay, h2⟩
      · rw [List.getElem?_set_ne e] at hj; exact .inl hj
    rcases hcase with ⟨hl, hlf⟩ | ⟨hl, hk⟩
    · obtain ⟨e1, _⟩ := leafD_some hlf
      rw [e1]
      exact ⟨set1, set2, set3⟩
    · have key := kidsD_ind' (P := fun _ s s' => (∀ j, s.met[j]? = some true → s'.met[j]? = some true) ∧ (∀ j, s'.met[j]? = some true → s.met[j]? = some true ∨ ∃ p, T[j]? = some p ∧ mayB_ p = true ∧ (0 < j → 2 ≤ p.keys.length)))
        (fun s => ⟨fun j hj => hj, fun j hj => .inl hj⟩) (fun k ks i s s1 s' hr hP => by
          obtain ⟨q1, _, q3⟩ := ih _ _ _ _ _ _ hr
          refine ⟨fun j hj => hP.1 j (q1 j hj), fun j hj => ?_⟩
          rcases hP.2 j hj with q | q
          · exact q3 j q
          · exact .inr q) _ _ _ _ hk
      dsimp only at key
      refine ⟨fun j hj => key.1 j (set1 j hj), key.1 a set2, fun j hj => ?_⟩
      rcases key.2 j hj with q | q
      · exact set3 j q
      · exact .inr q

/-- a page that is not met may be another one -/
theorem walkD_same (T T' : List Pg) (i : Nat) (hT : ∀ j, j ≠ i → T'[j]? = T[j]?) : ∀ (f a deep : Nat) (lo hi : ByteArray) (st st' : WS), walkD T f a deep lo hi st = some st' → st'.met[i]? ≠ some true → walkD T' f a deep lo hi st = some st' := by
  intro f
  induction f with
  | zero => intro _ _ _ _ _ _ h; cases h
  | succ f ih =>
    intro a deep lo hi st st' h hi'
    obtain ⟨m1, m2, _⟩ := walkD_met T _ _ _ _ _ _ _ h
    obtain ⟨p, hp, hok, hcase⟩ := walkD_step h
    have ha : a ≠ i := fun e => hi' (by rw [← e]; exact m2)
    rw [walkD_eq T' f a deep lo hi st (by rw [hT a ha]; exact hp), hok]
    dsimp only
    rcases hcase with ⟨hl, hlf⟩ | ⟨hl, hk⟩
    · rw [hl]; exact hlf
    · rw [hl]
      dsimp only
      have key : ∀ (ks : List Int) (n : Nat) (s s' : WS), kidsD (fun k i s => walkD T f k.toNat (deep + 1) (loK p lo i) (hiK p hi i) s) ks n s = some s' → s'.met[i]? ≠ some true → kidsD (fun k i s => walkD T' f k.toNat (deep + 1) (loK p lo i) (hiK p hi i) s) ks n s = some s' := by
        intro ks
        induction ks with
        | nil => intro n s s' h _; exact h
        | cons k ks ihk =>
          intro n s s' h hne
          rw [kidsD_cons] at h ⊢
          cases hr : walkD T f k.toNat (deep + 1) (loK p lo n) (hiK p hi n) s with
          | none => rw [hr] at h; cases h
          | some s1 =>
            rw [hr] at h
            dsimp only at h
            have mono : ∀ j, s1.met[j]? = some true → s'.met[j]? = some true :=
              kidsD_ind' (rec := fun k i s => walkD T f k.toNat (deep + 1) (loK p lo i) (hiK p hi i) s) (P := fun _ s s' => ∀ j, s.met[j]? = some true → s'.met[j]? = some true) (fun s j hj => hj) (fun k ks i s s1 s' hr hP j hj => hP j ((walkD_met T _ _ _ _ _ _ _ hr).1 j hj)) _ _ _ _ h
            rw [ih _ _ _ _ _ _ hr (fun e => hne (mono i e))]
            exact ihk (n + 1) s1 s' h hne
      exact key _ _ _ _ hk hi'
/-- a page that is met, turned so that it may not be -/
theorem walkD_bad (T T' : List Pg) (i : Nat) {q : Pg} (hT : ∀ j, j ≠ i → T'[j]? = T[j]?) (hq : T'[i]? = some q) (hbad : ∀ lo hi st, okD q i lo hi st = false) : ∀ (f a deep : Nat) (lo hi : ByteArray) (st st' : WS), walkD T f a deep lo hi st = some st' → st.met[i]? ≠ some true → st'.met[i]? = some true → walkD T' f a deep lo hi st = none := by
  intro f
  induction f with
  | zero => intro _ _ _ _ _ _ h; cases h
  | succ f ih =>
    intro a deep lo hi st st' h h1 h2
    by_cases ha : a = i
    · subst ha
      rw [walkD_eq T' f a deep lo hi st hq, hbad]
    obtain ⟨p, hp, hok, hcase⟩ := walkD_step h
    rw [walkD_eq T' f a deep lo hi st (by rw [hT a ha]; exact hp), hok]
    dsimp only
    have hs : (st.met.set a true)[i]? ≠ some true := by rw [List.getElem?_set_ne ha]; exact h1
    rcases hcase with ⟨hl, hlf⟩ | ⟨hl, hk⟩
    · rw [hl]
      obtain ⟨e1, _⟩ := leafD_some hlf
      rw [e1] at h2
      exact (hs h2).elim
    · rw [hl]
      dsimp only
      have key : ∀ (ks : List Int) (n : Nat) (s s' : WS), kidsD (fun k i s => walkD T f k.toNat (deep + 1) (loK p lo i) (hiK p hi i) s) ks n s = some s' → s.met[i]? ≠ some true → s'.met[i]? = some true → kidsD (fun k i s => walkD T' f k.toNat (deep + 1) (loK p lo i) (hiK p hi i) s) ks n s = none := by
        intro ks
        induction ks with
        | nil => intro n s s' h q1 q2; cases h; exact (q1 q2).elim
        | cons k ks ihk =>
          intro n s s' h q1 q2
          rw [kidsD_cons] at h ⊢
          cases hr : walkD T f k.toNat (deep + 1) (loK p lo n) (hiK p hi n) s with
          | none => rw [hr] at h; cases h
          | some s1 =>
            rw [hr] at h
            dsimp only at h
            by_cases e : s1.met[i]? = some true
            · rw [ih _ _ _ _ _ _ hr q1 e]
            · rw [walkD_same T T' i hT _ _ _ _ _ _ _ hr e]
              exact ihk (n + 1) s1 s' h e q2
      exact key _ _ _ _ hk hs h2
/-- how many pages there are, to so many entries -/
theorem walkD_many (T : List Pg) : ∀ (f a deep : Nat) (lo hi : ByteArray) (st st' : WS), walkD T f a deep lo hi st = some st' → 4 * unmet st.met + 3 * st.count ≤ 4 * unmet st'.met + 3 * st'.count + 4 ∧ (0 < a → 4 * unmet st.met + 3 * st.count + 2 ≤ 4 * unmet st'.met + 3 * st'.count) := by
  intro f
  induction f with
  | zero => intro _ _ _ _ _ _ h; cases h
  | succ f ih =>
    intro a deep lo hi st st' h
    obtain ⟨p, hp, hok, hcase⟩ := walkD_step h
    obtain ⟨hm, hmay, h2, _⟩ := okD_met hok
    have hus := unmet_set hm
    rcases hcase with ⟨hl, hlf⟩ | ⟨hl, hk⟩
    · obtain ⟨e1, e2, _⟩ := leafD_some hlf
      rw [e1, e2]
      dsimp only
      exact ⟨by omega, fun ha => by have := h2 ha; omega⟩
    · obtain ⟨k1, k2, k3, k4, k5⟩ := ((mayB_iff p).1 hmay).2.inner hl
      have key : ∀ (ks : List Int), (∀ k ∈ ks, 1 ≤ k) → ∀ (n : Nat) (s s' : WS), kidsD (fun k i s => walkD T f k.toNat (deep + 1) (loK p lo i) (hiK p hi i) s) ks n s = some s' → 4 * unmet s.met + 3 * s.count + 2 * ks.length ≤ 4 * unmet s'.met + 3 * s'.count := by
        intro ks
        induction ks with
        | nil => intro _ n s s' h; cases h; simp
        | cons k ks ihk =>
          intro hks n s s' h
          rw [kidsD_cons] at h
          cases hr : walkD T f k.toNat (deep + 1) (loK p lo n) (hiK p hi n) s with
          | none => rw [hr] at h; cases h
          | some s1 =>
            rw [hr] at h
            dsimp only at h
            have := (ih _ _ _ _ _ _ hr).2 (by have := hks k (by simp); omega)
            have := ihk (fun k' hk' => hks k' (by simp [hk'])) (n + 1) s1 s' h
            simp only [List.length_cons]
            omega
      have := key p.kids (fun k hk => (k4 k hk).1) _ _ _ hk
      dsimp only at this
      exact ⟨by omega, fun ha => by have := h2 ha; omega⟩
end Go.Am
namespace Go.Am

theorem rest_at {T : List Pg} {met : List Bool} (h : restD T met = true) {i : Nat} (hi : i < T.length) {p : Pg} (hp : T[i]? = some p) : met[i]?.getD true = true ∨ nothingB p = true := by
  unfold restD at h
  rw [List.all_eq_true] at h
  have := h i (List.mem_range.2 hi)
  rw [hp, Option.getD_some, Bool.or_eq_true] at this
  exact this
theorem rest_false {T : List Pg} {met : List Bool} {i : Nat} (hi : i < T.length) {p : Pg} (hp : T[i]? = some p) (hm : met[i]? = some false) (hn : nothingB p = false) : restD T met = false := by
  unfold restD
  rw [List.all_eq_false]
  exact ⟨i, List.mem_range.2 hi, by rw [hm, hp, Option.getD_some, Option.getD_some, hn]; simp⟩
/-- a sound tree's pages -/
structure SF (T : List Pg) (st : WS) : Prop where
  len : T.length = 48
  walk : walkD T 49 0 1 (mkS []) (mkS []) ws0 = some st
  rest : restD T st.met = true
  count : st.count ≤ 60
  height : heightD T = st.deep
  metlen : st.met.length = 48
theorem SF.of {T : List Pg} (h : 0 < heightD T) : ∃ st, SF T st := by
  obtain ⟨st, h1, h2, h3, h4, h5⟩ := sound_facts h
  exact ⟨st, h1, h2, h3, h4, h5, (walkD_unmet T _ _ _ _ _ _ _ h2).2.1⟩
section
variable {T : List Pg} {st : WS}
theorem SF.used (s : SF T st) {i : Nat} {p : Pg} (hp : T[i]? = some p) (hu : p.used = true) : st.met[i]? = some true ∧ mayB_ p = true ∧ (0 < i → 2 ≤ p.keys.length) := by
  have hi : i < 48 := by have := (List.getElem?_eq_some_iff.1 hp).1; have := s.len; omega
  have hm : st.met[i]? = some true := by
    rcases rest_at s.rest (by rw [s.len]; exact hi) hp with h | h
    · rw [List.getElem?_eq_getElem (by rw [s.metlen]; exact hi)] at h ⊢
      simpa using h
    · unfold nothingB at h; rw [hu] at h; simp at h
  refine ⟨hm, ?_⟩
  rcases (walkD_met T _ _ _ _ _ _ _ s.walk).2.2 i hm with h | ⟨q, hq, h1, h2⟩
  · rw [ws0_met i hi] at h; cases h
  · rw [hp] at hq; cases hq; exact ⟨h1, h2⟩
theorem SF.unused (s : SF T st) : ∃ i, 0 < i ∧ i < 48 ∧ st.met[i]? = some false := by
  have hm := (walkD_many T _ _ _ _ _ _ _ s.walk).1
  have h0 : unmet ws0.met = 48 := unmet_rep 48
  rw [h0] at hm
  have hc := s.count
  have h00 : ws0.count = 0 := rfl
  have hu : 2 ≤ unmet st.met := by omega
  -- two that are not met
  obtain ⟨b, tl, hb⟩ : ∃ b tl, st.met = b :: tl := by
    cases hq : st.met with
    | nil => have := s.metlen; rw [hq] at this; simp at this
    | cons b tl => exact ⟨b, tl, rfl⟩
  rw [hb] at hu
  have ht : 1 ≤ (tl.filter (! ·)).length := by
    unfold unmet at hu
    cases b <;> simp at hu <;> omega
  obtain ⟨x, hx⟩ := List.exists_mem_of_length_pos (by omega : 0 < (tl.filter (! ·)).length)
  rw [List.mem_filter] at hx
  obtain ⟨j, hj, e⟩ := List.getElem_of_mem hx.1
  have hxf : x = false := by simpa using hx.2
  refine ⟨j + 1, by omega, ?_, ?_⟩
  · have := s.metlen; rw [hb] at this; simp at this; omega
  · rw [hb, List.getElem?_cons_succ, List.getElem?_eq_getElem hj, e, hxf]
theorem SF.free (s : SF T st) {i : Nat} {p : Pg} (hp : T[i]? = some p) (hm : st.met[i]? = some false) : p.used = false := by
  cases hu : p.used with
  | false => rfl
  | true => rw [(s.used hp hu).1] at hm; cases hm
/-- another page where none was met -/
theorem SF.more (s : SF T st) {i : Nat} (hi : i < 48) {p q : Pg} (hp : T[i]? = some p) (hu : p.used = false) (hq : nothingB q = false) : heightD (T.set i q) = 0 := by
  have hm : st.met[i]? = some false := by
    rw [List.getElem?_eq_getElem (by rw [s.metlen]; exact hi)]
    cases e : st.met[i]'(by rw [s.metlen]; exact hi) with
    | false => rfl
    | true =>
      have hm : st.met[i]? = some true := by rw [List.getElem?_eq_getElem (by rw [s.metlen]; exact hi), e]
      rcases (walkD_met T _ _ _ _ _ _ _ s.walk).2.2 i hm with h | ⟨q, hq, h1, _⟩
      · rw [ws0_met i hi] at h; cases h
      · rw [hp] at hq; cases hq
        have := ((mayB_iff p).1 h1).2.used
        rw [hu] at this; cases this
  refine height_rest (walkD_same T _ i (fun j hj => List.getElem?_set_ne (Ne.symm hj)) _ _ _ _ _ _ _ s.walk (by rw [hm]; simp)) ?_
  exact rest_false (p := q) (by simp [s.len]; exact hi) (List.getElem?_set_self (by rw [s.len]; exact hi)) hm hq
/-- a page with too few keys -/
theorem SF.less (s : SF T st) {i : Nat} (h0 : 0 < i) {p q : Pg} (hp : T[i]? = some p) (hu : p.used = true) (hq : q.keys.length < 2) : heightD (T.set i q) = 0 := by
  have hi : i < 48 := by have := (List.getElem?_eq_some_iff.1 hp).1; have := s.len; omega
  refine height_none (walkD_bad T _ i (q := q) (fun j hj => List.getElem?_set_ne (Ne.symm hj)) (List.getElem?_set_self (by rw [s.len]; exact hi)) (fun lo hi st => ?_) _ _ _ _ _ _ _ s.walk (by rw [ws0_met i hi]; simp) (s.used hp hu).1)
  unfold okD
  rw [decide_eq_true h0, decide_eq_true hq]
  simp
end

end Go.Am
namespace Go.Am

/-! the order of texts -/
section
variable {a b c : ByteArray}
theorem blt_tri (a b : ByteArray) : (blt a b = true ∧ a ≠ b ∧ blt b a = false) ∨ (a = b ∧ blt a b = false ∧ blt b a = false) ∨ (blt b a = true ∧ a ≠ b ∧ blt a b = false) := by
  unfold blt
  rcases less_tri (bs a) (bs b) with ⟨h1, h2, h3⟩ | ⟨h1, h2, h3⟩ | ⟨h1, h2, h3⟩
  · exact .inl ⟨h1, fun e => h2 (by rw [e]), h3⟩
  · exact .inr (.inl ⟨bs_inj h1, h2, h3⟩)
  · exact .inr (.inr ⟨h1, fun e => h2 (by rw [e]), h3⟩)
theorem blt_irr (a : ByteArray) : blt a a = false := by
  rcases blt_tri a a with h | h | h
  · exact (h.2.1 rfl).elim
  · exact h.2.1
  · exact (h.2.1 rfl).elim
theorem blt_asy (h : blt a b = true) : blt b a = false := by
  rcases blt_tri a b with q | q | q
  · exact q.2.2
  · exact q.2.2
  · rw [q.2.2] at h; cases h
theorem le_blt (h1 : blt b a = false) (h2 : blt b c = true) : blt a c = true := by
  rcases blt_tri a b with q | q | q
  · exact blt_trans q.1 h2
  · rw [q.1]; exact h2
  · rw [q.1] at h1; cases h1
theorem blt_le (h1 : blt a b = true) (h2 : blt c b = false) : blt a c = true := by
  rcases blt_tri b c with q | q | q
  · exact blt_trans h1 q.1
  · rw [← q.1]; exact h1
  · rw [q.1] at h2; cases h2
theorem le_le (h1 : blt b a = false) (h2 : blt c b = false) : blt c a = false := by
  cases e : blt c a with
  | false => rfl
  | true => rw [blt_le e h1] at h2; cases h2
theorem blt_ne (h : blt a b = true) : a ≠ b := fun e => by rw [e, blt_irr] at h; cases h
theorem blt_mk (a : ByteArray) : blt a (mkS []) = false := by
  unfold blt
  rw [bs_mkS]
  cases bs a <;> rfl
end

/-! the entries of a tree, in their order -/
def allD (T : List Pg) : Nat → Nat → KV
  | 0, _ => []
  | f + 1, a => match T[a]? with
    | none => []
    | some p => p.keys.zip p.vals ++ p.kids.flatMap fun k => allD T f k.toNat
theorem allD_leaf {T : List Pg} {f a : Nat} {p : Pg} (hp : T[a]? = some p) (hk : p.kids = []) : allD T (f + 1) a = p.keys.zip p.vals := by
  rw [allD, hp]; dsimp only; rw [hk]; simp
theorem allD_inner {T : List Pg} {f a : Nat} {p : Pg} (hp : T[a]? = some p) (hv : p.vals = []) : allD T (f + 1) a = p.kids.flatMap fun k => allD T f k.toNat := by
  rw [allD, hp]; dsimp only; rw [hv]; simp
def Asc (ps : KV) : Prop := ps.Pairwise fun x y => blt x.1 y.1 = true
def Win (lo hi : ByteArray) (ps : KV) : Prop := ∀ x ∈ ps, blt x.1 lo = false ∧ (hi.size = 0 ∨ blt x.1 hi = true)
def KVok (ps : KV) : Prop := ∀ x ∈ ps, (1 ≤ x.1.size ∧ x.1.size ≤ 6) ∧ x.2.size ≤ 10
theorem rising_pw {ks : List ByteArray} (h : Rising ks) : ks.Pairwise fun a b => blt a b = true := by
  rw [List.pairwise_iff_getElem]
  intro i j hi hj hij
  obtain ⟨d, rfl⟩ : ∃ d, j = i + d + 1 := ⟨j - i - 1, by omega⟩
  exact rising_lt h i d hj
theorem zip_asc {ks vs : List ByteArray} (h : Rising ks) (hl : vs.length = ks.length) : Asc (ks.zip vs) := by
  have := rising_pw h
  rw [← List.map_fst_zip (l₁ := ks) (l₂ := vs) (by omega), List.pairwise_map] at this
  exact this
theorem holdB_at {lo hi : ByteArray} {ks : List ByteArray} (h : holdB lo hi ks = true) {k : ByteArray} (hk : k ∈ ks) : blt k lo = false ∧ (hi.size = 0 ∨ blt k hi = true) := by
  unfold holdB at h
  rw [List.all_eq_true] at h
  have := h k hk
  simp only [Bool.and_eq_true, Bool.not_eq_true', Bool.or_eq_true, decide_eq_true_eq] at this
  exact this
theorem zip_mem {ks vs : List ByteArray} {x : ByteArray × ByteArray} (h : x ∈ ks.zip vs) : x.1 ∈ ks ∧ x.2 ∈ vs := ⟨(List.of_mem_zip h).1, (List.of_mem_zip h).2⟩

theorem loK_at {p : Pg} {lo : ByteArray} {i : Nat} (h : i < p.keys.length) : loK p lo (i + 1) = p.keys[i] := by
  unfold loK; rw [decide_eq_true (by omega)]; simp [h]
theorem hiK_at {p : Pg} {hi : ByteArray} {i : Nat} (h : i < p.keys.length) : hiK p hi i = p.keys[i] := by
  unfold hiK; rw [List.getElem?_eq_getElem h]; rfl
theorem hiK_end {p : Pg} {hi : ByteArray} {i : Nat} (h : p.keys.length ≤ i) : hiK p hi i = hi := by
  unfold hiK; rw [List.getElem?_eq_none h]; rfl
/-- what a walk that goes well says of the entries -/
def AllOf (T : List Pg) (f : Nat) : Prop := ∀ (a deep : Nat) (lo hi : ByteArray) (st st' : WS), walkD T f a deep lo hi st = some st' →
    Asc (allD T f a) ∧ Win lo hi (allD T f a) ∧ KVok (allD T f a) ∧ st'.count = st.count + (allD T f a).length
theorem kidsD_all {T : List Pg} {f : Nat} (ih : AllOf T f) {p : Pg} {lo hi : ByteArray} {deep : Nat} (hfit : FitsP p) (hh : holdB lo hi p.keys = true) :
    ∀ (ks : List Int) (i : Nat), i + ks.length = p.keys.length + 1 → ∀ (s s' : WS), kidsD (fun k i s => walkD T f k.toNat (deep + 1) (loK p lo i) (hiK p hi i) s) ks i s = some s' →
          Asc (ks.flatMap fun k => allD T f k.toNat) ∧ Win (loK p lo i) hi (ks.flatMap fun k => allD T f k.toNat) ∧ KVok (ks.flatMap fun k => allD T f k.toNat) ∧ s'.count = s.count + (ks.flatMap fun k => allD T f k.toNat).length := by
  have hkey : ∀ k ∈ p.keys, 1 ≤ k.size ∧ k.size ≤ 6 := hfit.keys
  intro ks
  induction ks with
  | nil => intro i _ s s' h; cases h; exact ⟨List.Pairwise.nil, fun x hx => (by simp at hx), fun x hx => (by simp at hx), rfl⟩
  | cons k ks ihk =>
    intro i hi' s s' h
    rw [kidsD_cons] at h
    cases hr : walkD T f k.toNat (deep + 1) (loK p lo i) (hiK p hi i) s with
    | none => rw [hr] at h; cases h
    | some s1 =>
      rw [hr] at h
      dsimp only at h
      obtain ⟨a1, a2, a3, a4⟩ := ih _ _ _ _ _ _ hr
      obtain ⟨b1, b2, b3, b4⟩ := ihk (i + 1) (by simp at hi'; omega) s1 s' h
      rw [List.flatMap_cons]
      simp only [List.length_cons] at hi'
      have hne : ∀ y, y ∈ ks.flatMap (fun k => allD T f k.toNat) → i < p.keys.length := fun y hy => by
        have : ks ≠ [] := fun e => by rw [e] at hy; simp at hy
        have := List.length_pos_iff.2 this
        omega
      refine ⟨List.pairwise_append.2 ⟨a1, b1, fun x hx y hy => ?_⟩, fun x hx => ?_, fun x hx => ?_, by rw [b4, a4, List.length_append]; omega⟩
      · have hi1 := hne y hy
        have ax := (a2 x hx).2
        have by_ := (b2 y hy).1
        rw [loK_at hi1] at by_
        rw [hiK_at hi1] at ax
        have := (hkey _ (List.getElem_mem hi1)).1
        rcases ax with q | q
        · omega
        · exact blt_le q by_
      · rcases List.mem_append.1 hx with q | q
        · obtain ⟨x1, x2⟩ := a2 x q
          refine ⟨x1, ?_⟩
          rcases Nat.lt_or_ge i p.keys.length with hi1 | hi1
          · rw [hiK_at hi1] at x2
            have hk1 := (hkey _ (List.getElem_mem hi1)).1
            rcases x2 with x2 | x2
            · omega
            · rcases (holdB_at hh (List.getElem_mem hi1)).2 with z | z
              · exact .inl z
              · exact .inr (blt_trans x2 z)
          · rw [hiK_end hi1] at x2; exact x2
        · have hi1 := hne x q
          obtain ⟨x1, x2⟩ := b2 x q
          refine ⟨?_, x2⟩
          rw [loK_at hi1] at x1
          rcases Nat.eq_zero_or_pos i with e | e
          · subst e
            have : loK p lo 0 = lo := rfl
            rw [this]
            exact le_le (holdB_at hh (List.getElem_mem hi1)).1 x1
          · obtain ⟨j, rfl⟩ : ∃ j, i = j + 1 := ⟨i - 1, by omega⟩
            rw [loK_at (show j < p.keys.length by omega)]
            exact le_le (blt_asy (rising_lt hfit.rising j 0 (by omega))) x1
      · rcases List.mem_append.1 hx with q | q
        · exact a3 x q
        · exact b3 x q
theorem walkD_all (T : List Pg) : ∀ f, AllOf T f := by
  intro f
  induction f with
  | zero => intro _ _ _ _ _ _ h; cases h
  | succ f ih =>
    intro a deep lo hi st st' h
    obtain ⟨p, hp, hok, hcase⟩ := walkD_step h
    obtain ⟨hm, hmay, h2, hh⟩ := okD_met hok
    have hfit := ((mayB_iff p).1 hmay).2
    have hkey : ∀ k ∈ p.keys, 1 ≤ k.size ∧ k.size ≤ 6 := hfit.keys
    rcases hcase with ⟨hl, hlf⟩ | ⟨hl, hk⟩
    · obtain ⟨e1, e2, _⟩ := leafD_some hlf
      obtain ⟨v1, v2, v3⟩ := hfit.leaf hl
      rw [allD_leaf hp v2]
      refine ⟨zip_asc hfit.rising v1, fun x hx => holdB_at hh (zip_mem hx).1, fun x hx => ⟨hkey _ (zip_mem hx).1, v3 _ (zip_mem hx).2⟩, ?_⟩
      rw [e2, List.length_zip, v1, Nat.min_self]
    · obtain ⟨k1, k2, k3, k4, k5⟩ := hfit.inner hl
      rw [allD_inner hp k2]
      have := kidsD_all ih hfit hh p.kids 0 (by omega) _ _ hk
      exact this

/-! sums over the pages met -/
def wt (g : Pg → Nat) : List Pg → List Bool → Nat
  | p :: T, b :: met => (match b with | true => g p | false => 0) + wt g T met
  | _, _ => 0
theorem wt_set (g : Pg → Nat) : ∀ {T : List Pg} {met : List Bool} {i : Nat} {p : Pg}, T[i]? = some p → met[i]? = some false → wt g T (met.set i true) = wt g T met + g p
  | [], _, i, p, h, _ => by simp at h
  | _ :: _, [], i, p, _, h => by simp at h
  | q :: T, b :: met, 0, p, h1, h2 => by
    simp at h1 h2; subst h1; subst h2
    simp only [List.set_cons_zero, wt]; omega
  | q :: T, b :: met, i + 1, p, h1, h2 => by
    simp only [List.getElem?_cons_succ] at h1 h2
    simp only [List.set_cons_succ, wt]
    have := wt_set g h1 h2
    omega
theorem wt_none (g : Pg → Nat) : ∀ (T : List Pg) (n : Nat), wt g T (List.replicate n false) = 0
  | [], n => by cases n <;> rfl
  | p :: T, 0 => rfl
  | p :: T, n + 1 => by simp only [List.replicate_succ, wt]; rw [wt_none g T n]
/-- all that are used are met -/
def usedSum (g : Pg → Nat) (T : List Pg) : Nat := (T.map fun (p : Pg) => match p.used with | true => g p | false => 0).sum
theorem wt_used (g : Pg → Nat) : ∀ {T : List Pg} {met : List Bool}, met.length = T.length → (∀ (i : Nat) (p : Pg), T[i]? = some p → met[i]? = some p.used) → wt g T met = usedSum g T
  | [], [], _, _ => rfl
  | [], _ :: _, h, _ => by simp at h
  | _ :: _, [], h, _ => by simp at h
  | p :: T, b :: met, hl, h => by
    have h0 := h 0 p rfl
    simp at h0
    subst h0
    have ih := wt_used g (T := T) (met := met) (by simpa using hl) fun i q hq => by have := h (i + 1) q (by simpa using hq); simpa using this
    unfold wt usedSum
    rw [List.map_cons, List.sum_cons, ih]
    rfl
def gK (p : Pg) : Nat := match p.leaf with | true => p.keys.length | false => 0
def gL (p : Pg) : Nat := match p.leaf with | true => 1 | false => 0
theorem walkD_sum (T : List Pg) : ∀ (f a deep : Nat) (lo hi : ByteArray) (st st' : WS), walkD T f a deep lo hi st = some st' → st'.count + wt gK T st.met = st.count + wt gK T st'.met := by
  intro f
  induction f with
  | zero => intro _ _ _ _ _ _ h; cases h
  | succ f ih =>
    intro a deep lo hi st st' h
    obtain ⟨p, hp, hok, hcase⟩ := walkD_step h
    obtain ⟨hm, hmay, h2, hh⟩ := okD_met hok
    have hw := wt_set gK hp hm
    rcases hcase with ⟨hl, hlf⟩ | ⟨hl, hk⟩
    · obtain ⟨e1, e2, _⟩ := leafD_some hlf
      rw [e1, e2]
      dsimp only at *
      have : gK p = p.keys.length := by unfold gK; rw [hl]
      omega
    · have : gK p = 0 := by unfold gK; rw [hl]
      have key := kidsD_ind' (P := fun _ s s' => s'.count + wt gK T s.met = s.count + wt gK T s'.met) (fun s => rfl) (fun k ks i s s1 s' hr hP => by
        have := ih _ _ _ _ _ _ hr
        omega) _ _ _ _ hk
      dsimp only at key
      omega
theorem walkD_high (T : List Pg) : ∀ (f a deep : Nat) (lo hi : ByteArray) (st st' : WS), walkD T f a deep lo hi st = some st' → 1 ≤ deep → (st.deep = 0 ∨ st.deep = st'.deep) ∧ deep ≤ st'.deep ∧
    (0 < a → wt gL T st.met + 3 ^ (st'.deep - deep) ≤ wt gL T st'.met ∧ st.count + 2 * 3 ^ (st'.deep - deep) ≤ st'.count) ∧
    ((st'.deep = deep ∧ wt gL T st'.met = wt gL T st.met + 1) ∨ (deep < st'.deep ∧ wt gL T st.met + 2 * 3 ^ (st'.deep - (deep + 1)) ≤ wt gL T st'.met ∧ st.count + 4 * 3 ^ (st'.deep - (deep + 1)) ≤ st'.count)) := by
  intro f
  induction f with
  | zero => intro _ _ _ _ _ _ h; cases h
  | succ f ih =>
    intro a deep lo hi st st' h hd
    obtain ⟨p, hp, hok, hcase⟩ := walkD_step h
    obtain ⟨hm, hmay, h2, hh⟩ := okD_met hok
    have hw := wt_set gL hp hm
    rcases hcase with ⟨hl, hlf⟩ | ⟨hl, hk⟩
    · obtain ⟨e1, e2, e3, e4⟩ := leafD_some hlf
      have hg : gL p = 1 := by unfold gL; rw [hl]
      rw [e1, e2, e3]
      dsimp only at *
      rw [Nat.sub_self, Nat.pow_zero]
      exact ⟨e4, Nat.le_refl _, fun h0 => ⟨by omega, by have := h2 h0; omega⟩, .inl ⟨rfl, by omega⟩⟩
    · have hg : gL p = 0 := by unfold gL; rw [hl]
      obtain ⟨k1, k2, k3, k4, k5⟩ := ((mayB_iff p).1 hmay).2.inner hl
      have key : ∀ (ks : List Int), (∀ k ∈ ks, 1 ≤ k) → ∀ (i : Nat) (s s' : WS), kidsD (fun k i s => walkD T f k.toNat (deep + 1) (loK p lo i) (hiK p hi i) s) ks i s = some s' →
          (s.deep = 0 ∨ s.deep = s'.deep) ∧ (ks ≠ [] → deep + 1 ≤ s'.deep) ∧ wt gL T s.met + ks.length * 3 ^ (s'.deep - (deep + 1)) ≤ wt gL T s'.met ∧ s.count + 2 * (ks.length * 3 ^ (s'.deep - (deep + 1))) ≤ s'.count := by
        intro ks
        induction ks with
        | nil => intro _ i s s' h; cases h; exact ⟨.inr rfl, fun h => (h rfl).elim, by simp, by simp⟩
        | cons k ks ihk =>
          intro hks i s s' h
          rw [kidsD_cons] at h
          cases hr : walkD T f k.toNat (deep + 1) (loK p lo i) (hiK p hi i) s with
          | none => rw [hr] at h; cases h
          | some s1 =>
            rw [hr] at h
            dsimp only at h
            obtain ⟨q1, q2, q3, _⟩ := ih _ _ _ _ _ _ hr (by omega)
            obtain ⟨q4, q5⟩ := q3 (by have := hks k (by simp); omega)
            obtain ⟨r1, r2, r3, r4⟩ := ihk (fun k' hk' => hks k' (by simp [hk'])) (i + 1) s1 s' h
            have e : s1.deep = s'.deep := by rcases r1 with r | r; omega; exact r
            rw [e] at q1 q2 q4 q5
            simp only [List.length_cons, Nat.add_mul, Nat.one_mul]
            generalize 3 ^ (s'.deep - (deep + 1)) = X at *
            generalize ks.length * X = Y at *
            exact ⟨q1, fun _ => q2, by omega, by omega⟩
      obtain ⟨c1, c2, c3, c4⟩ := key p.kids (fun k hk => (k4 k hk).1) _ _ _ hk
      have hdeep := c2 (fun e => by rw [e] at k3; simp at k3)
      dsimp only at *
      obtain ⟨X, hX⟩ : ∃ X, 3 ^ (st'.deep - (deep + 1)) = X := ⟨_, rfl⟩
      have hX3 : 3 ^ (st'.deep - deep) = X * 3 := by rw [← hX, ← Nat.pow_succ]; congr 1; omega
      rw [hX] at c3 c4 ⊢
      rw [hX3]
      have m2 : 2 * X ≤ p.kids.length * X := Nat.mul_le_mul_right X (by omega)
      refine ⟨c1, by omega, fun h0 => ?_, .inr ⟨by omega, by omega, by omega⟩⟩
      have m3 : 3 * X ≤ p.kids.length * X := Nat.mul_le_mul_right X (by have := h2 h0; omega)
      exact ⟨by omega, by omega⟩

/-- the entries of a sound tree -/
def entD (T : List Pg) : KV := allD T 49 0
section
variable {T : List Pg} {st : WS}
theorem SF.ents (s : SF T st) : Asc (entD T) ∧ KVok (entD T) ∧ (entD T).length = st.count ∧ (entD T).length ≤ 60 := by
  obtain ⟨h1, _, h3, h4⟩ := walkD_all T _ _ _ _ _ _ _ s.walk
  have h00 : ws0.count = 0 := rfl
  have := s.count
  unfold entD
  exact ⟨h1, h3, by omega, by omega⟩
theorem SF.metU (s : SF T st) {i : Nat} {p : Pg} (hp : T[i]? = some p) : st.met[i]? = some p.used := by
  have hi : i < 48 := by have := (List.getElem?_eq_some_iff.1 hp).1; have := s.len; omega
  cases hu : p.used with
  | true => exact (s.used hp hu).1
  | false =>
    rw [List.getElem?_eq_getElem (by rw [s.metlen]; exact hi)]
    cases e : st.met[i]'(by rw [s.metlen]; exact hi) with
    | false => rfl
    | true =>
      have hm : st.met[i]? = some true := by rw [List.getElem?_eq_getElem (by rw [s.metlen]; exact hi), e]
      rcases (walkD_met T _ _ _ _ _ _ _ s.walk).2.2 i hm with h | ⟨q, hq, h1, _⟩
      · rw [ws0_met i hi] at h; cases h
      · rw [hp] at hq; cases hq
        have := ((mayB_iff p).1 h1).2.used
        rw [hu] at this; cases this
/-- how many entries, leaves a sound tree has -/
theorem SF.sums (s : SF T st) : usedSum gK T = (entD T).length ∧ (heightD T = 1 ↔ usedSum gL T = 1) ∧ 1 ≤ heightD T ∧ heightD T ≤ 4 := by
  have e0 : ∀ g, wt g T ws0.met = 0 := fun g => wt_none g T 48
  have eU : ∀ g, wt g T st.met = usedSum g T := fun g => wt_used g (by rw [s.metlen, s.len]) fun i p hp => s.metU hp
  have h1 := walkD_sum T _ _ _ _ _ _ _ s.walk
  obtain ⟨_, h2, _, h3⟩ := walkD_high T _ _ _ _ _ _ _ s.walk (Nat.le_refl _)
  rw [e0, eU] at h1 h3
  have h00 : ws0.count = 0 := rfl
  have hc := s.ents.2.2.1
  have hc2 := s.count
  rw [s.height]
  refine ⟨by omega, ?_, by omega, ?_⟩
  · rcases h3 with ⟨q1, q2⟩ | ⟨q1, q2, q3⟩
    · constructor <;> intro <;> omega
    · have : 1 ≤ 3 ^ (st.deep - 2) := Nat.pow_pos (by omega)
      simp only [Nat.reduceAdd] at q2 q3
      constructor <;> intro <;> omega
  · rcases h3 with ⟨q1, q2⟩ | ⟨q1, q2, q3⟩
    · omega
    · simp only [Nat.reduceAdd] at q2 q3
      rcases Nat.lt_or_ge st.deep 5 with h | h
      · omega
      · have : 3 ^ 3 ≤ 3 ^ (st.deep - 2) := Nat.pow_le_pow_right (by omega) (by omega)
        omega
end
end Go.Am
namespace Go.Am

/-! trees, by what stands below a page -/
/-- kids with the keys between them -/
def KidsR (R : Nat → List Nat → KV → Prop) : List Int → List ByteArray → List Nat → KV → Prop
  | [], _, _, _ => False
  | k :: ks, ss, P, ps => match ss with
    | [] => ks = [] ∧ R k.toNat P ps
    | s :: ss => ∃ P1 ps1 P2 ps2, R k.toNat P1 ps1 ∧ KidsR R ks ss P2 ps2 ∧ P = P1 ++ P2 ∧ ps = ps1 ++ ps2 ∧ (∀ x ∈ ps1, blt x.1 s = true) ∧ (∀ y ∈ ps2, blt y.1 s = false)
/-- a subtree: its height, its root's number, its pages' numbers, its entries -/
def Sub (T : List Pg) : Nat → Nat → List Nat → KV → Prop
  | 0, _, _, _ => False
  | d + 1, a, P, ps => ∃ p, T[a]? = some p ∧ MayP p ∧
      ((d = 0 ∧ p.leaf = true ∧ P = [a] ∧ ps = p.keys.zip p.vals) ∨
       (p.leaf = false ∧ ∃ P', P = a :: P' ∧ KidsR (fun k P ps => Sub T d k P ps ∧ ∃ q, T[k]? = some q ∧ 2 ≤ q.keys.length) p.kids p.keys P' ps))
/-- one that is no root -/
def SubB (T : List Pg) (d k : Nat) (P : List Nat) (ps : KV) : Prop := Sub T d k P ps ∧ ∃ q, T[k]? = some q ∧ 2 ≤ q.keys.length
theorem KidsR.imp {R R' : Nat → List Nat → KV → Prop} : ∀ {ks : List Int} {ss : List ByteArray} {P : List Nat} {ps : KV}, (∀ k P' ps', R k P' ps' → (∀ i ∈ P', i ∈ P) → R' k P' ps') → KidsR R ks ss P ps → KidsR R' ks ss P ps
  | [], _, _, _, _, h => h.elim
  | k :: ks, [], P, ps, f, h => ⟨h.1, f _ _ _ h.2 fun i hi => hi⟩
  | k :: ks, s :: ss, P, ps, f, ⟨P1, ps1, P2, ps2, h1, h2, e1, e2, h3, h4⟩ => by
    subst e1
    exact ⟨P1, ps1, P2, ps2, f _ _ _ h1 fun i hi => List.mem_append.2 (.inl hi), KidsR.imp (fun k P' ps' h hs => f k P' ps' h fun i hi => List.mem_append.2 (.inr (hs i hi))) h2, rfl, e2, h3, h4⟩
theorem KidsR.len {R : Nat → List Nat → KV → Prop} : ∀ {ks : List Int} {ss : List ByteArray} {P : List Nat} {ps : KV}, KidsR R ks ss P ps → ks.length = ss.length + 1
  | [], _, _, _, h => h.elim
  | k :: ks, [], P, ps, h => by rw [h.1]; rfl
  | k :: ks, s :: ss, P, ps, ⟨P1, ps1, P2, ps2, h1, h2, _⟩ => by simp [KidsR.len h2]
theorem Sub.head {T : List Pg} {d a : Nat} {P : List Nat} {ps : KV} (h : Sub T d a P ps) : a ∈ P := by
  cases d with
  | zero => exact h.elim
  | succ d =>
    obtain ⟨p, _, _, ⟨_, _, e, _⟩ | ⟨_, P', e, _⟩⟩ := h <;> simp [e]
/-- the pages stand as they stood -/
theorem Sub.keep {T T' : List Pg} : ∀ {d a : Nat} {P : List Nat} {ps : KV}, Sub T d a P ps → (∀ i ∈ P, T'[i]? = T[i]?) → Sub T' d a P ps
  | 0, _, _, _, h, _ => h.elim
  | d + 1, a, P, ps, h, hk => by
    have ha := hk a h.head
    obtain ⟨p, hp, hm, h⟩ := h
    refine ⟨p, by rw [ha]; exact hp, hm, ?_⟩
    rcases h with h | ⟨h1, P', e, h2⟩
    · exact .inl h
    · subst e
      refine .inr ⟨h1, P', rfl, h2.imp fun k Q qs ⟨q1, q, q2, q3⟩ hs => ⟨Sub.keep q1 fun i hi => hk i (by simp [hs i hi]), q, ?_, q3⟩⟩
      rw [hk k (by simp [hs k q1.head])]; exact q2
theorem SubB.keep {T T' : List Pg} {d a : Nat} {P : List Nat} {ps : KV} (h : SubB T d a P ps) (hk : ∀ i ∈ P, T'[i]? = T[i]?) : SubB T' d a P ps := by
  obtain ⟨h1, q, h2, h3⟩ := h
  exact ⟨h1.keep hk, q, by rw [hk a h1.head]; exact h2, h3⟩

theorem KidsR.allD {T : List Pg} {f : Nat} {R : Nat → List Nat → KV → Prop} (hR : ∀ k P ps, R k P ps → Am.allD T f k = ps) : ∀ {ks : List Int} {ss : List ByteArray} {P : List Nat} {ps : KV}, KidsR R ks ss P ps → (ks.flatMap fun k => Am.allD T f k.toNat) = ps
  | [], _, _, _, h => h.elim
  | k :: ks, [], P, ps, h => by rw [h.1]; simp [hR _ _ _ h.2]
  | k :: ks, s :: ss, P, ps, ⟨P1, ps1, P2, ps2, h1, h2, _, e2, _⟩ => by rw [List.flatMap_cons, hR _ _ _ h1, KidsR.allD hR h2, e2]
theorem Sub.allD {T : List Pg} : ∀ {d f a : Nat} {P : List Nat} {ps : KV}, Sub T d a P ps → d ≤ f → Am.allD T f a = ps
  | 0, _, _, _, _, h, _ => h.elim
  | d + 1, 0, _, _, _, _, hf => by omega
  | d + 1, f + 1, a, P, ps, h, hf => by
    obtain ⟨p, hp, hm, ⟨_, hl, _, e⟩ | ⟨hl, P', _, hk⟩⟩ := h
    · rw [allD_leaf hp (hm.2.leaf hl).2.1, e]
    · rw [allD_inner hp (hm.2.inner hl).2.1]
      exact KidsR.allD (fun k P ps h => Sub.allD h.1 (by omega)) hk

theorem kids_asc {R : Nat → List Nat → KV → Prop} (hR : ∀ k P ps, R k P ps → Asc ps ∧ KVok ps) : ∀ {ks : List Int} {ss : List ByteArray} {P : List Nat} {ps : KV}, KidsR R ks ss P ps → Asc ps ∧ KVok ps
  | [], _, _, _, h => h.elim
  | k :: ks, [], P, ps, h => hR _ _ _ h.2
  | k :: ks, s :: ss, P, ps, ⟨P1, ps1, P2, ps2, h1, h2, _, e2, h3, h4⟩ => by
    obtain ⟨a1, a2⟩ := hR _ _ _ h1
    obtain ⟨b1, b2⟩ := kids_asc hR h2
    subst e2
    exact ⟨List.pairwise_append.2 ⟨a1, b1, fun x hx y hy => blt_le (h3 x hx) (h4 y hy)⟩, fun x hx => (List.mem_append.1 hx).elim (a2 x) (b2 x)⟩
theorem Sub.asc {T : List Pg} : ∀ {d a : Nat} {P : List Nat} {ps : KV}, Sub T d a P ps → Asc ps ∧ KVok ps
  | 0, _, _, _, h => h.elim
  | d + 1, a, P, ps, h => by
    obtain ⟨p, hp, hm, ⟨_, hl, _, e⟩ | ⟨hl, P', _, hk⟩⟩ := h
    · obtain ⟨v1, v2, v3⟩ := hm.2.leaf hl
      subst e
      exact ⟨zip_asc hm.2.rising v1, fun x hx => ⟨hm.2.keys _ (zip_mem hx).1, v3 _ (zip_mem hx).2⟩⟩
    · exact kids_asc (fun k P ps h => Sub.asc h.1) hk
theorem kids_size {R : Nat → List Nat → KV → Prop} {m : Nat} (hR : ∀ k P ps, R k P ps → m ≤ ps.length) : ∀ {ks : List Int} {ss : List ByteArray} {P : List Nat} {ps : KV}, KidsR R ks ss P ps → ks.length * m ≤ ps.length
  | [], _, _, _, h => h.elim
  | k :: ks, [], P, ps, h => by rw [h.1]; have := hR _ _ _ h.2; simpa using this
  | k :: ks, s :: ss, P, ps, ⟨P1, ps1, P2, ps2, h1, h2, _, e2, h3, h4⟩ => by
    have := hR _ _ _ h1
    have := kids_size hR h2
    subst e2
    rw [List.length_cons, List.length_append, Nat.add_mul]
    omega
theorem SubB.size {T : List Pg} : ∀ {d a : Nat} {P : List Nat} {ps : KV}, SubB T d a P ps → 2 * d ≤ ps.length
  | 0, _, _, _, h => by omega
  | d + 1, a, P, ps, ⟨h, q, hq, h2⟩ => by
    obtain ⟨p, hp, hm, ⟨hd, hl, _, e⟩ | ⟨hl, P', _, hk⟩⟩ := h
    · rw [hp] at hq; cases hq
      have := (hm.2.leaf hl).1
      subst e; subst hd
      rw [List.length_zip]; omega
    · rw [hp] at hq; cases hq
      have hlen := hk.len
      have := kids_size (m := 2 * d) (fun k P ps h => SubB.size h) hk
      have hd : 1 ≤ d := by
        cases d with
        | zero => cases hks : q.kids with
          | nil => rw [hks] at hlen; simp at hlen
          | cons k ks =>
            rw [hks] at hk
            cases hs : q.keys with
            | nil => rw [hs] at h2; simp at h2
            | cons s ss => rw [hs] at hk; obtain ⟨_, _, _, _, h1, _⟩ := hk; exact h1.1.elim
        | succ d => omega
      have : 2 * (2 * d) ≤ q.kids.length * (2 * d) := Nat.mul_le_mul_right _ (by omega)
      omega
theorem SubB.ne {T : List Pg} {d a : Nat} {P : List Nat} {ps : KV} (h : SubB T d a P ps) : ps ≠ [] := by
  intro e
  have := h.size
  subst e
  cases d with
  | zero => exact h.1.elim
  | succ d => simp at this

/-- pages of a list that are met -/
def metAll (met : List Bool) (P : List Nat) : List Bool := P.foldl (fun m i => m.set i true) met
theorem metAll_len (P : List Nat) : ∀ met, (metAll met P).length = met.length := by
  unfold metAll
  induction P with
  | nil => intro met; rfl
  | cons i P ih => intro met; simp only [List.foldl_cons]; rw [ih]; simp
theorem metAll_out {P : List Nat} : ∀ {met : List Bool} {i : Nat}, i ∉ P → (metAll met P)[i]? = met[i]? := by
  unfold metAll
  induction P with
  | nil => intro met i _; rfl
  | cons j P ih =>
    intro met i h
    simp only [List.foldl_cons]
    rw [ih (fun q => h (by simp [q])), List.getElem?_set_ne (fun e => h (by simp [e]))]
theorem metAll_in {P : List Nat} : ∀ {met : List Bool} {i : Nat}, i ∈ P → i < met.length → (metAll met P)[i]? = some true := by
  unfold metAll
  induction P with
  | nil => intro met i h; simp at h
  | cons j P ih =>
    intro met i h hl
    simp only [List.foldl_cons]
    by_cases hi : i ∈ P
    · exact ih hi (by simpa using hl)
    · have : i = j := by simpa [hi] using h
      subst this
      have := metAll_out (met := met.set i true) hi
      unfold metAll at this
      rw [this, List.getElem?_set_self hl]
theorem metAll_append (met : List Bool) (P Q : List Nat) : metAll met (P ++ Q) = metAll (metAll met P) Q := by unfold metAll; rw [List.foldl_append]
theorem metAll_cons (met : List Bool) (a : Nat) (P : List Nat) : metAll met (a :: P) = metAll (met.set a true) P := rfl

theorem kids_hold {R : Nat → List Nat → KV → Prop} (hR : ∀ k P ps, R k P ps → ps ≠ []) {lo hi : ByteArray} : ∀ {ks : List Int} {ss : List ByteArray} {P : List Nat} {ps : KV}, KidsR R ks ss P ps → ps ≠ [] ∧ (Win lo hi ps → ∀ s ∈ ss, blt s lo = false ∧ (hi.size = 0 ∨ blt s hi = true))
  | [], _, _, _, h => h.elim
  | k :: ks, [], P, ps, h => ⟨hR _ _ _ h.2, fun _ s hs => by simp at hs⟩
  | k :: ks, s :: ss, P, ps, ⟨P1, ps1, P2, ps2, h1, h2, _, e2, h3, h4⟩ => by
    have n1 := hR _ _ _ h1
    obtain ⟨n2, ih⟩ := kids_hold hR (lo := lo) (hi := hi) h2
    subst e2
    refine ⟨by simp [n1], fun w s' hs => ?_⟩
    obtain ⟨x, hx⟩ := List.exists_mem_of_ne_nil _ n1
    obtain ⟨y, hy⟩ := List.exists_mem_of_ne_nil _ n2
    have wx := w x (List.mem_append.2 (.inl hx))
    have wy := w y (List.mem_append.2 (.inr hy))
    rcases List.mem_cons.1 hs with e | e
    · subst e
      refine ⟨?_, ?_⟩
      · exact le_le wx.1 (blt_asy (h3 x hx))
      · rcases wy.2 with q | q
        · exact .inl q
        · exact .inr (le_blt (h4 y hy) q)
    · exact ih (fun z hz => w z (List.mem_append.2 (.inr hz))) s' e
theorem holdB_of {lo hi : ByteArray} {ks : List ByteArray} (h : ∀ s ∈ ks, blt s lo = false ∧ (hi.size = 0 ∨ blt s hi = true)) : holdB lo hi ks = true := by
  unfold holdB
  rw [List.all_eq_true]
  intro k hk
  obtain ⟨h1, h2⟩ := h k hk
  rw [h1]
  rcases h2 with q | q
  · rw [decide_eq_true q]; rfl
  · rw [q]; simp

/-- such a tree is walked well -/
theorem Sub.walk (T : List Pg) : ∀ (d f a : Nat) (P : List Nat) (ps : KV) (deep : Nat) (lo hi : ByteArray) (st : WS), Sub T d a P ps → d ≤ f → (0 < a → ∃ q, T[a]? = some q ∧ 2 ≤ q.keys.length) → P.Nodup → (∀ i ∈ P, st.met[i]? = some false) → Win lo hi ps →
    (st.deep = 0 ∨ st.deep + 1 = deep + d) → 1 ≤ deep → walkD T f a deep lo hi st = some ⟨metAll st.met P, deep + d - 1, st.count + ps.length⟩
  | 0, _, _, _, _, _, _, _, _, h, _, _, _, _, _, _, _ => h.elim
  | d + 1, 0, _, _, _, _, _, _, _, _, hf, _, _, _, _, _, _ => by omega
  | d + 1, f + 1, a, P, ps, deep, lo, hi, st, h, hf, ha, hnd, hm, hw, hdp, hd1 => by
    have hma := hm a h.head
    obtain ⟨p, hp, hmay, hcase⟩ := h
    have hbig : (decide (0 < a) && decide (p.keys.length < 2)) = false := by
      rw [Bool.and_eq_false_iff, decide_eq_false_iff_not, decide_eq_false_iff_not]
      rcases Nat.eq_zero_or_pos a with e | e
      · exact .inl (by omega)
      · obtain ⟨q, hq, h2⟩ := ha e
        rw [hp] at hq; cases hq
        exact .inr (by omega)
    have hok : holdB lo hi p.keys = true → okD p a lo hi st = true := fun hh => by
      unfold okD
      rw [hma, (mayB_iff p).2 hmay, hbig, hh]; rfl
    rw [walkD_eq T f a deep lo hi st hp]
    rcases hcase with ⟨e0, hl, e1, e2⟩ | ⟨hl, P', e1, hk⟩
    · subst e0; subst e1; subst e2
      have v1 := (hmay.2.leaf hl).1
      have hh : holdB lo hi p.keys = true := holdB_of fun s hs => by
        obtain ⟨i, hi', e⟩ := List.getElem_of_mem hs
        have : (p.keys.zip p.vals)[i]'(by rw [List.length_zip]; omega) ∈ p.keys.zip p.vals := List.getElem_mem _
        have := hw _ this
        rw [List.getElem_zip, e] at this
        exact this
      rw [hok hh]
      dsimp only
      rw [hl]
      dsimp only
      unfold leafD
      dsimp only
      have hz : (p.keys.zip p.vals).length = p.keys.length := by rw [List.length_zip]; omega
      rw [hz]
      rcases hdp with q | q
      · rw [decide_eq_true q]; rfl
      · have q' : st.deep = deep := by omega
        rw [decide_eq_false (by omega), decide_eq_true q']; rfl
    · subst e1
      have hh : holdB lo hi p.keys = true := holdB_of ((kids_hold (fun k P ps h => SubB.ne h) hk).2 hw)
      rw [hok hh]
      dsimp only
      rw [hl]
      dsimp only
      have hlen := hk.len
      obtain ⟨k1, k2, k3, k4, k5⟩ := hmay.2.inner hl
      rw [List.nodup_cons] at hnd
      have loop : ∀ (ks : List Int) (i : Nat) (ss : List ByteArray) (P : List Nat) (ps : KV) (s : WS), (∀ k ∈ ks, 1 ≤ k) → p.keys.drop i = ss → i + ss.length = p.keys.length → KidsR (fun k P ps => Sub T d k P ps ∧ ∃ q, T[k]? = some q ∧ 2 ≤ q.keys.length) ks ss P ps →
          P.Nodup → (∀ i ∈ P, s.met[i]? = some false) → Win (loK p lo i) hi ps → (s.deep = 0 ∨ s.deep = deep + d) →
          kidsD (fun k i s => walkD T f k.toNat (deep + 1) (loK p lo i) (hiK p hi i) s) ks i s = some ⟨metAll s.met P, deep + d, s.count + ps.length⟩ := by
        intro ks
        induction ks with
        | nil => intro i ss P ps s _ _ _ h; exact h.elim
        | cons k ks ihk =>
          intro i ss P ps s hk1 hss hlen' hR hnd hm hw hdp
          have hk0 := hk1 k (by simp)
          cases ss with
          | nil =>
            obtain ⟨e, hs⟩ := hR
            subst e
            have hend : p.keys.length ≤ i := by simp at hlen'; omega
            rw [kidsD_cons]
            have := Sub.walk T d f k.toNat P ps (deep + 1) (loK p lo i) (hiK p hi i) s hs.1 (by omega) (fun _ => hs.2) hnd hm (by rw [hiK_end hend]; exact hw) (by rcases hdp with q | q; exact .inl q; exact .inr (by omega)) (by omega)
            rw [this]
            dsimp only
            have e : deep + 1 + d - 1 = deep + d := by omega
            rw [e]; rfl
          | cons s0 ss =>
            obtain ⟨P1, ps1, P2, ps2, h1, h2, e1, e2, h3, h4⟩ := hR
            subst e1; subst e2
            simp only [List.length_cons] at hlen'
            have hi1 : i < p.keys.length := by omega
            have hs0 : p.keys[i] = s0 := by
              rw [List.drop_eq_getElem_cons hi1] at hss
              exact (List.cons.inj hss).1
            have hss' : p.keys.drop (i + 1) = ss := by
              rw [List.drop_eq_getElem_cons hi1] at hss
              exact (List.cons.inj hss).2
            rw [kidsD_cons]
            rw [List.nodup_append] at hnd
            obtain ⟨d1, d2, d3⟩ := hnd
            have hw1 : Win (loK p lo i) (hiK p hi i) ps1 := fun x hx => ⟨(hw x (List.mem_append.2 (.inl hx))).1, .inr (by rw [hiK_at hi1, hs0]; exact h3 x hx)⟩
            have := Sub.walk T d f k.toNat P1 ps1 (deep + 1) (loK p lo i) (hiK p hi i) s h1.1 (by omega) (fun _ => h1.2) d1 (fun j hj => hm j (List.mem_append.2 (.inl hj))) hw1 (by rcases hdp with q | q; exact .inl q; exact .inr (by omega)) (by omega)
            rw [this]
            dsimp only
            have e : deep + 1 + d - 1 = deep + d := by omega
            rw [e]
            have := ihk (i + 1) ss P2 ps2 ⟨metAll s.met P1, deep + d, s.count + ps1.length⟩ (fun k' hk' => hk1 k' (by simp [hk'])) hss' (by omega) h2 d2 (fun j hj => by
                dsimp only
                rw [metAll_out (fun q => d3 j q j hj rfl)]
                exact hm j (List.mem_append.2 (.inr hj)))
              (fun y hy => ⟨by rw [loK_at hi1, hs0]; exact h4 y hy, (hw y (List.mem_append.2 (.inr hy))).2⟩) (.inr rfl)
            rw [this]
            dsimp only
            rw [metAll_append, List.length_append, Nat.add_assoc]
      have := loop p.kids 0 p.keys P' ps ⟨st.met.set a true, st.deep, st.count⟩ (fun k hk => (k4 k hk).1) rfl (by omega) hk hnd.2 (fun j hj => by
          dsimp only
          rw [List.getElem?_set_ne (fun e => hnd.1 (by rw [e]; exact hj))]
          exact hm j (by simp [hj])) hw (by dsimp only; rcases hdp with q | q; exact .inl q; exact .inr (by omega))
      rw [this, metAll_cons]
      dsimp only
      congr 2
end Go.Am
namespace Go.Am

/-- a walk that goes well: what stands below -/
theorem walkD_sub (T : List Pg) : ∀ (f a deep : Nat) (lo hi : ByteArray) (st st' : WS), walkD T f a deep lo hi st = some st' → 1 ≤ deep →
    ∃ d P, st'.deep + 1 = deep + d ∧ Sub T d a P (allD T f a) ∧ st'.met = metAll st.met P ∧ P.Nodup ∧ (∀ i ∈ P, st.met[i]? = some false) := by
  intro f
  induction f with
  | zero => intro _ _ _ _ _ _ h; cases h
  | succ f ih =>
    intro a deep lo hi st st' h hd1
    obtain ⟨p, hp, hok, hcase⟩ := walkD_step h
    obtain ⟨hm, hmay, h2, hh⟩ := okD_met hok
    have hM := (mayB_iff p).1 hmay
    have hfit := hM.2
    have hlt := (List.getElem?_eq_some_iff.1 hm).1
    rcases hcase with ⟨hl, hlf⟩ | ⟨hl, hk⟩
    · obtain ⟨e1, e2, e3, _⟩ := leafD_some hlf
      refine ⟨1, [a], by omega, ⟨p, hp, hM, .inl ⟨rfl, hl, rfl, allD_leaf hp (hfit.leaf hl).2.1⟩⟩, by rw [e1]; rfl, by simp, fun i hi => by rw [List.mem_singleton.1 hi]; exact hm⟩
    · obtain ⟨k1, k2, k3, k4, k5⟩ := hfit.inner hl
      have loop : ∀ (ks : List Int) (i : Nat) (ss : List ByteArray) (s s' : WS), (∀ k ∈ ks, 1 ≤ k) → p.keys.drop i = ss → i + ss.length = p.keys.length → ks.length = ss.length + 1 →
          kidsD (fun k i s => walkD T f k.toNat (deep + 1) (loK p lo i) (hiK p hi i) s) ks i s = some s' →
          ∃ d P, s'.deep + 1 = deep + 1 + d ∧ KidsR (SubB T d) ks ss P (ks.flatMap fun k => allD T f k.toNat) ∧ s'.met = metAll s.met P ∧ P.Nodup ∧ (∀ i ∈ P, s.met[i]? = some false) ∧ (s.deep = 0 ∨ s.deep = s'.deep) := by
        intro ks
        induction ks with
        | nil => intro i ss s s' _ _ _ h; simp at h
        | cons k ks ihk =>
          intro i ss s s' hk1 hss hlen hkl h
          have hk0 := hk1 k (by simp)
          rw [kidsD_cons] at h
          cases hr : walkD T f k.toNat (deep + 1) (loK p lo i) (hiK p hi i) s with
          | none => rw [hr] at h; cases h
          | some s1 =>
            rw [hr] at h
            dsimp only at h
            obtain ⟨d1, P1, e1, S1, m1, n1, u1⟩ := ih _ _ _ _ _ _ hr (by omega)
            obtain ⟨q1, _⟩ := walkD_high T _ _ _ _ _ _ _ hr (by omega)
            have B1 : SubB T d1 k.toNat P1 (allD T f k.toNat) := by
              obtain ⟨q, hq, hqo, _⟩ := walkD_step (f := f - 1) (by
                cases f with
                | zero => cases hr
                | succ f => exact hr)
              exact ⟨S1, q, hq, (okD_met hqo).2.2.1 (by omega)⟩
            cases ss with
            | nil =>
              have : ks = [] := by simpa using hkl
              subst this
              cases h
              exact ⟨d1, P1, e1, ⟨rfl, by simpa using B1⟩, m1, n1, u1, q1⟩
            | cons s0 ss =>
              simp only [List.length_cons] at hlen hkl
              have hi1 : i < p.keys.length := by omega
              have hs0 : p.keys[i] = s0 := by
                rw [List.drop_eq_getElem_cons hi1] at hss
                exact (List.cons.inj hss).1
              have hss' : p.keys.drop (i + 1) = ss := by
                rw [List.drop_eq_getElem_cons hi1] at hss
                exact (List.cons.inj hss).2
              obtain ⟨d2, P2, e2, K2, m2, n2, u2, z2⟩ := ihk (i + 1) ss s1 s' (fun k' hk' => hk1 k' (by simp [hk'])) hss' (by omega) (by omega) h
              have hd12 : d1 = d2 := by rcases z2 with z | z <;> omega
              subst hd12
              have w1 := (walkD_all T f _ _ _ _ _ _ hr).2.1
              have w2 := (kidsD_all (walkD_all T f) hfit hh ks (i + 1) (by omega) _ _ h).2.1
              rw [loK_at hi1, hs0] at w2
              rw [hiK_at hi1, hs0] at w1
              have hsz : 1 ≤ s0.size := by rw [← hs0]; exact (hfit.keys _ (List.getElem_mem hi1)).1
              have u2' : ∀ j ∈ P2, j ∉ P1 := fun j hj q => by
                have := u2 j hj
                have hjl := (List.getElem?_eq_some_iff.1 (u1 j q)).1
                rw [m1, metAll_in q hjl] at this
                cases this
              refine ⟨d1, P1 ++ P2, e2, ⟨P1, _, P2, _, B1, K2, rfl, by rw [List.flatMap_cons], fun x hx => ?_, fun y hy => (w2 y hy).1⟩, by rw [m2, m1, metAll_append], ?_, fun j hj => ?_, ?_⟩
              · rcases (w1 x hx).2 with z | z
                · omega
                · exact z
              · rw [List.nodup_append]
                exact ⟨n1, n2, fun j hj j' hj' e => u2' j' hj' (by rw [← e]; exact hj)⟩
              · rcases List.mem_append.1 hj with q | q
                · exact u1 j q
                · have := u2 j q
                  rw [m1, metAll_out (u2' j q)] at this
                  exact this
              · rcases q1 with q | q
                · exact .inl q
                · rcases z2 with z | z
                  · omega
                  · exact .inr (by omega)
      obtain ⟨d, P, e, K, m, n, u, _⟩ := loop p.kids 0 p.keys _ _ (fun k hk => (k4 k hk).1) rfl (by omega) k3 hk
      dsimp only at m u
      have haP : a ∉ P := fun q => by
        have := u a q
        rw [List.getElem?_set_self hlt] at this
        cases this
      refine ⟨d + 1, a :: P, by omega, ⟨p, hp, hM, .inr ⟨hl, P, rfl, by rw [allD_inner hp k2]; exact K⟩⟩, by rw [m, metAll_cons], List.nodup_cons.2 ⟨haP, n⟩, fun j hj => ?_⟩
      rcases List.mem_cons.1 hj with q | q
      · rw [q]; exact hm
      · have := u j q
        rw [List.getElem?_set_ne (fun z => haP (by rw [z]; exact q))] at this
        exact this

theorem Sub.inT {T : List Pg} : ∀ {d a : Nat} {P : List Nat} {ps : KV}, Sub T d a P ps → ∀ i ∈ P, i < T.length
  | 0, _, _, _, h => h.elim
  | d + 1, a, P, ps, h => by
    obtain ⟨p, hp, hm, h⟩ := h
    have ha := (List.getElem?_eq_some_iff.1 hp).1
    rcases h with ⟨_, _, e, _⟩ | ⟨_, P', e, h2⟩
    · subst e; intro i hi; rw [List.mem_singleton.1 hi]; exact ha
    · subst e
      intro i hi
      rcases List.mem_cons.1 hi with q | q
      · rw [q]; exact ha
      · have key : ∀ {ks : List Int} {ss : List ByteArray} {P : List Nat} {ps : KV}, KidsR (SubB T d) ks ss P ps → ∀ i ∈ P, i < T.length := by
          intro ks
          induction ks with
          | nil => intro _ _ _ h; exact h.elim
          | cons k ks ih =>
            intro ss P ps h i hi
            cases ss with
            | nil => exact Sub.inT h.2.1 i hi
            | cons s ss =>
              obtain ⟨P1, ps1, P2, ps2, h1, h2, e1, _⟩ := h
              subst e1
              rcases List.mem_append.1 hi with q | q
              · exact Sub.inT h1.1 i q
              · exact ih h2 i q
        exact key h2 i q
theorem Sub.low {T : List Pg} {d a : Nat} {P : List Nat} {ps : KV} (h : Sub T d a P ps) : 2 * d ≤ ps.length + 2 := by
  cases d with
  | zero => exact h.elim
  | succ d =>
    obtain ⟨p, hp, hm, ⟨e0, _, _, _⟩ | ⟨_, P', _, hk⟩⟩ := h
    · subst e0; omega
    · have := kids_size (m := 2 * d) (fun k P ps h => SubB.size h) hk
      have hl := hk.len
      have : 1 * (2 * d) ≤ p.kids.length * (2 * d) := Nat.mul_le_mul_right _ (by omega)
      omega

/-- a whole tree: its height, the numbers of its pages, its entries -/
structure Whole (T : List Pg) (d : Nat) (P : List Nat) (ps : KV) : Prop where
  len : T.length = 48
  sub : Sub T d 0 P ps
  nodup : P.Nodup
  rest : ∀ (i : Nat) p, T[i]? = some p → i ∉ P → nothingB p = true
  count : ps.length ≤ 60
section
variable {T : List Pg} {d : Nat} {P : List Nat} {ps : KV}
theorem Whole.pos (w : Whole T d P ps) : 1 ≤ d := by
  cases d with
  | zero => exact w.sub.elim
  | succ d => omega
theorem Whole.sound (w : Whole T d P ps) : heightD T = d ∧ entD T = ps := by
  have hd := w.sub.low
  have hc := w.count
  have h1 := w.pos
  have hw := Sub.walk T d 49 0 P ps 1 (mkS []) (mkS []) ws0 w.sub (by omega) (fun h => by omega) w.nodup (fun i hi => ws0_met i (by have := w.sub.inT i hi; rw [w.len] at this; exact this))
    (fun x _ => ⟨blt_mk _, .inl rfl⟩) (.inl rfl) (Nat.le_refl _)
  refine ⟨?_, w.sub.allD (by omega)⟩
  unfold heightD
  rw [decide_eq_true w.len]
  dsimp only
  rw [hw]
  dsimp only
  have hr : restD T (metAll ws0.met P) = true := by
    unfold restD
    rw [List.all_eq_true]
    intro i hi
    have hi := List.mem_range.1 hi
    have hi48 : i < 48 := by rw [w.len] at hi; exact hi
    by_cases hp : i ∈ P
    · rw [metAll_in hp (by show i < (List.replicate 48 false).length; simpa using hi48)]; rfl
    · rw [w.rest i (T[i]?.getD noPg) (by rw [List.getElem?_eq_getElem hi]; rfl) hp]; simp
  have h0 : ws0.count = 0 := rfl
  rw [hr, h0, Nat.zero_add, decide_eq_true hc]
  show 1 + d - 1 = d
  omega
theorem Whole.pos' (w : Whole T d P ps) : 0 < heightD T := by rw [w.sound.1]; exact w.pos
theorem SF.whole {st : WS} (s : SF T st) : ∃ P, Whole T (heightD T) P (entD T) := by
  obtain ⟨d, P, e, S, m, n, u⟩ := walkD_sub T _ _ _ _ _ _ _ s.walk (Nat.le_refl _)
  have hd : d = heightD T := by rw [s.height]; omega
  subst hd
  refine ⟨P, s.len, S, n, fun i p hp hi => ?_, s.ents.2.2.2⟩
  have hlt := (List.getElem?_eq_some_iff.1 hp).1
  have hi48 : i < 48 := by rw [s.len] at hlt; exact hlt
  have hm : st.met[i]? = some false := by rw [m, metAll_out hi, ws0_met i hi48]
  rcases rest_at s.rest hlt hp with h | h
  · rw [hm] at h; simp at h
  · exact h
theorem whole_of (h : 0 < heightD T) : ∃ P, Whole T (heightD T) P (entD T) := by
  obtain ⟨st, s⟩ := SF.of h
  exact s.whole
end
end Go.Am
namespace Go.Am

/-! a key among keys that rise; an entry among entries -/
def slotN (ks : List ByteArray) (key : ByteArray) : Nat := ks.countP fun s => blt s key
def slotB (ks : List ByteArray) (key : ByteArray) : Bool := decide (ks[slotN ks key]? = some key)
def kidN (ks : List ByteArray) (key : ByteArray) : Nat := slotN ks key + (match slotB ks key with | true => 1 | false => 0)
def findK : KV → ByteArray → Option ByteArray
  | [], _ => none
  | x :: ps, key => match decide (x.1 = key) with | true => some x.2 | false => findK ps key
abbrev Pw (ks : List ByteArray) : Prop := ks.Pairwise fun a b => blt a b = true
section
variable {s key : ByteArray} {ks : List ByteArray}
theorem slotN_nil : slotN [] key = 0 := rfl
theorem slotB_nil : slotB [] key = false := by simp [slotB]
theorem slot_lt (h : blt s key = true) : slotN (s :: ks) key = slotN ks key + 1 ∧ slotB (s :: ks) key = slotB ks key := by
  have e : slotN (s :: ks) key = slotN ks key + 1 := by unfold slotN; rw [List.countP_cons_of_pos (by simpa using h)]
  refine ⟨e, ?_⟩
  unfold slotB
  rw [e, List.getElem?_cons_succ]
theorem slotN_zero (h : ∀ t ∈ ks, blt t key = false) : slotN ks key = 0 := by
  unfold slotN
  rw [List.countP_eq_zero]
  intro t ht
  rw [h t ht]; simp
theorem slot_ge (pw : Pw (s :: ks)) (h : blt s key = false) : slotN (s :: ks) key = 0 ∧ slotB (s :: ks) key = decide (s = key) := by
  have e : slotN (s :: ks) key = 0 := slotN_zero fun t ht => by
    rcases List.mem_cons.1 ht with q | q
    · rw [q]; exact h
    · exact le_le h (blt_asy ((List.pairwise_cons.1 pw).1 t q))
  refine ⟨e, ?_⟩
  unfold slotB
  rw [e]; simp
theorem kidN_above (h : ∀ t ∈ ks, blt key t = true) : kidN ks key = 0 := by
  have e : slotN ks key = 0 := slotN_zero fun t ht => blt_asy (h t ht)
  have e2 : slotB ks key = false := by
    unfold slotB
    rw [e, decide_eq_false_iff_not]
    intro q
    have := h key (List.mem_of_getElem? q)
    rw [blt_irr] at this; cases this
  unfold kidN
  rw [e, e2]; rfl
theorem findK_cons (x : ByteArray × ByteArray) (ps : KV) (key : ByteArray) : findK (x :: ps) key = match decide (x.1 = key) with | true => some x.2 | false => findK ps key := rfl
theorem findK_none {ps : KV} (h : ∀ x ∈ ps, x.1 ≠ key) : findK ps key = none := by
  induction ps with
  | nil => rfl
  | cons x ps ih =>
    unfold findK
    rw [decide_eq_false (h x (by simp))]
    exact ih fun y hy => h y (by simp [hy])
theorem findK_append {ps qs : KV} : findK (ps ++ qs) key = match findK ps key with | some v => some v | none => findK qs key := by
  induction ps with
  | nil => rfl
  | cons x ps ih =>
    show (match decide (x.1 = key) with | true => some x.2 | false => findK (ps ++ qs) key) = match (match decide (x.1 = key) with | true => some x.2 | false => findK ps key) with | some v => some v | none => findK qs key
    cases decide (x.1 = key) with
    | true => rfl
    | false => exact ih
theorem findK_left {ps qs : KV} (h : ∀ x ∈ qs, x.1 ≠ key) : findK (ps ++ qs) key = findK ps key := by
  rw [findK_append, findK_none h]
  cases findK ps key <;> rfl
theorem findK_right {ps qs : KV} (h : ∀ x ∈ ps, x.1 ≠ key) : findK (ps ++ qs) key = findK qs key := by
  rw [findK_append, findK_none h]
theorem findK_zip : ∀ {ks vs : List ByteArray}, Pw ks → vs.length = ks.length → findK (ks.zip vs) key = match slotB ks key with | true => vs[slotN ks key]? | false => none
  | [], vs, _, _ => by rw [slotB_nil]; rfl
  | s :: ks, [], _, h => by simp at h
  | s :: ks, v :: vs, pw, h => by
    have pw' := (List.pairwise_cons.1 pw).2
    have hgt := (List.pairwise_cons.1 pw).1
    rw [List.zip_cons_cons]
    unfold findK
    dsimp only
    cases e : blt s key with
    | true =>
      rw [(slot_lt e).1, (slot_lt e).2, decide_eq_false (blt_ne e)]
      dsimp only
      rw [findK_zip pw' (by simpa using h)]
      rfl
    | false =>
      rw [(slot_ge pw e).1, (slot_ge pw e).2]
      by_cases q : s = key
      · rw [decide_eq_true q]; rfl
      · rw [decide_eq_false q]
        dsimp only
        refine findK_none fun x hx hxk => ?_
        have := hgt x.1 (zip_mem hx).1
        rw [hxk, e] at this
        cases this
theorem kids_find {R : Nat → List Nat → KV → Prop} : ∀ {ks : List Int} {ss : List ByteArray} {P : List Nat} {ps : KV}, KidsR R ks ss P ps → Pw ss →
    ∃ k P1 ps1, ks[kidN ss key]? = some k ∧ R k.toNat P1 ps1 ∧ findK ps key = findK ps1 key
  | [], _, _, _, h, _ => h.elim
  | k :: ks, [], P, ps, h, _ => ⟨k, P, ps, by unfold kidN; rw [slotB_nil]; rfl, h.2, rfl⟩
  | k :: ks, s :: ss, P, ps, ⟨P1, ps1, P2, ps2, h1, h2, e1, e2, h3, h4⟩, pw => by
    have pw' := (List.pairwise_cons.1 pw).2
    have hgt := (List.pairwise_cons.1 pw).1
    subst e2
    have right : kidN (s :: ss) key = kidN ss key + 1 → blt key s = false → ∃ k' P' ps', (k :: ks)[kidN (s :: ss) key]? = some k' ∧ R k'.toNat P' ps' ∧ findK (ps1 ++ ps2) key = findK ps' key := fun e q => by
      obtain ⟨k', P', ps', q1, q2, q3⟩ := kids_find h2 pw'
      refine ⟨k', P', ps', by rw [e, List.getElem?_cons_succ]; exact q1, q2, ?_⟩
      rw [findK_right fun x hx e => ?_]
      · exact q3
      · have := h3 x hx
        rw [e, q] at this; cases this
    cases e : blt s key with
    | true => exact right (by unfold kidN; rw [(slot_lt e).1, (slot_lt e).2]; omega) (blt_asy e)
    | false =>
      by_cases q : s = key
      · refine right ?_ (by rw [q, blt_irr])
        have : kidN ss key = 0 := kidN_above fun t ht => by rw [← q]; exact hgt t ht
        rw [this]
        unfold kidN
        rw [(slot_ge pw e).1, (slot_ge pw e).2, decide_eq_true q]
      · have hks : blt key s = true := by
          rcases blt_tri s key with z | z | z
          · rw [z.1] at e; cases e
          · exact (q z.1).elim
          · exact z.1
        refine ⟨k, P1, ps1, ?_, h1, findK_left fun y hy e => ?_⟩
        · have : kidN (s :: ss) key = 0 := by
            unfold kidN
            rw [(slot_ge pw e).1, (slot_ge pw e).2, decide_eq_false q]; rfl
          rw [this]; rfl
        · have := h4 y hy
          rw [e, hks] at this; cases this
end
theorem findK_mem {ps : KV} (h : Asc ps) {x : ByteArray × ByteArray} (hx : x ∈ ps) : findK ps x.1 = some x.2 := by
  induction ps with
  | nil => simp at hx
  | cons y ps ih =>
    obtain ⟨h1, h2⟩ := List.pairwise_cons.1 h
    unfold findK
    rcases List.mem_cons.1 hx with e | e
    · subst e; rw [decide_eq_true rfl]
    · rw [decide_eq_false (blt_ne (h1 x e))]
      exact ih h2 e
theorem findK_some {ps : KV} {key v : ByteArray} (h : findK ps key = some v) : (key, v) ∈ ps := by
  induction ps with
  | nil => cases h
  | cons y ps ih =>
    unfold findK at h
    by_cases e : y.1 = key
    · rw [decide_eq_true e] at h
      cases h
      subst e
      simp
    · rw [decide_eq_false e] at h
      simp [ih h]
theorem findK_is {ps : KV} {key : ByteArray} : (findK ps key).isSome = ps.any fun x => decide (x.1 = key) := by
  induction ps with
  | nil => rfl
  | cons y ps ih =>
    unfold findK
    rw [List.any_cons, ← ih]
    cases decide (y.1 = key) <;> rfl
end Go.Am
namespace Go.Am

theorem pw_rising {ks : List ByteArray} (h : Pw ks) : Rising ks := by
  intro i hi
  have := List.pairwise_iff_getElem.1 h i (i + 1) (by omega) hi (by omega)
  rw [blt_eq]; exact this
theorem asc_pw {ps : KV} (h : Asc ps) : Pw (ps.map (·.1)) := by rw [Pw, List.pairwise_map]; exact h
theorem zip_map (ps : KV) : (ps.map (·.1)).zip (ps.map (·.2)) = ps := by
  induction ps with
  | nil => rfl
  | cons x ps ih => simp [ih]

/-! a page over its kids -/
def PageSub (T : List Pg) (d : Nat) (p : Pg) (P : List Nat) (e : KV) : Prop :=
  MayP p ∧ ((d = 0 ∧ p.leaf = true ∧ P = [] ∧ e = p.keys.zip p.vals) ∨ (p.leaf = false ∧ KidsR (SubB T d) p.kids p.keys P e))
theorem PageSub.sub {T : List Pg} {d a : Nat} {p : Pg} {P : List Nat} {e : KV} (h : PageSub T d p P e) (hp : T[a]? = some p) : Sub T (d + 1) a (a :: P) e := by
  obtain ⟨hm, ⟨e0, hl, e1, e2⟩ | ⟨hl, hk⟩⟩ := h
  · subst e1; exact ⟨p, hp, hm, .inl ⟨e0, hl, rfl, e2⟩⟩
  · exact ⟨p, hp, hm, .inr ⟨hl, P, rfl, hk⟩⟩
theorem PageSub.keep {T T' : List Pg} {d : Nat} {p : Pg} {P : List Nat} {e : KV} (h : PageSub T d p P e) (hk : ∀ i ∈ P, T'[i]? = T[i]?) : PageSub T' d p P e := by
  obtain ⟨hm, h | ⟨hl, h⟩⟩ := h
  · exact ⟨hm, .inl h⟩
  · exact ⟨hm, .inr ⟨hl, h.imp fun k Q qs hs hin => hs.keep fun i hi => hk i (hin i hi)⟩⟩
/-- a level: pages with their least keys -/
def LV (T : List Pg) (d : Nat) : Lvl → List Nat → KV → Prop
  | [], P, e => P = [] ∧ e = []
  | (p, s) :: xs, P, e => ∃ P1 e1 P2 e2, P = P1 ++ P2 ∧ e = e1 ++ e2 ∧ PageSub T d p P1 e1 ∧ 2 ≤ p.keys.length ∧ (∃ y r, e1 = y :: r ∧ y.1 = s) ∧ LV T d xs P2 e2
theorem LV.append {T : List Pg} {d : Nat} : ∀ {xs ys : Lvl} {P Q : List Nat} {e f : KV}, LV T d xs P e → LV T d ys Q f → LV T d (xs ++ ys) (P ++ Q) (e ++ f)
  | [], ys, P, Q, e, f, ⟨h1, h2⟩, h => by subst h1; subst h2; exact h
  | (p, s) :: xs, ys, P, Q, e, f, ⟨P1, e1, P2, e2, h1, h2, h3, h4, h5, h6⟩, h => by
    subst h1; subst h2
    exact ⟨P1, e1, P2 ++ Q, e2 ++ f, by rw [List.append_assoc], by rw [List.append_assoc], h3, h4, h5, LV.append h6 h⟩
theorem LV.split {T : List Pg} {d : Nat} : ∀ {xs ys : Lvl} {P : List Nat} {e : KV}, LV T d (xs ++ ys) P e → ∃ P1 e1 P2 e2, P = P1 ++ P2 ∧ e = e1 ++ e2 ∧ LV T d xs P1 e1 ∧ LV T d ys P2 e2
  | [], ys, P, e, h => ⟨[], [], P, e, rfl, rfl, ⟨rfl, rfl⟩, h⟩
  | (p, s) :: xs, ys, P, e, ⟨P1, e1, P2, e2, h1, h2, h3, h4, h5, h6⟩ => by
    obtain ⟨Q1, f1, Q2, f2, g1, g2, g3, g4⟩ := LV.split h6
    exact ⟨P1 ++ Q1, e1 ++ f1, Q2, f2, by rw [h1, g1, List.append_assoc], by rw [h2, g2, List.append_assoc], ⟨P1, e1, Q1, f1, rfl, rfl, h3, h4, h5, g3⟩, g4⟩
theorem LV.keep {T T' : List Pg} {d : Nat} : ∀ {xs : Lvl} {P : List Nat} {e : KV}, LV T d xs P e → (∀ i ∈ P, T'[i]? = T[i]?) → LV T' d xs P e
  | [], P, e, h, _ => h
  | (p, s) :: xs, P, e, ⟨P1, e1, P2, e2, h1, h2, h3, h4, h5, h6⟩, hk => by
    subst h1
    exact ⟨P1, e1, P2, e2, rfl, h2, h3.keep fun i hi => hk i (List.mem_append.2 (.inl hi)), h4, h5, LV.keep h6 fun i hi => hk i (List.mem_append.2 (.inr hi))⟩
/-- leasts of a level are keys of its entries, and rise -/
theorem LV.leasts {T : List Pg} {d : Nat} : ∀ {xs : Lvl} {P : List Nat} {e : KV}, LV T d xs P e → Asc e → Pw (xs.map (·.2)) ∧ ∀ s ∈ xs.map (·.2), ∃ y ∈ e, y.1 = s
  | [], P, e, h, _ => ⟨List.Pairwise.nil, fun s hs => by simp at hs⟩
  | (p, s) :: xs, P, e, ⟨P1, e1, P2, e2, h1, h2, h3, h4, ⟨y, r, h5, h7⟩, h6⟩, ha => by
    subst h2; subst h5
    obtain ⟨a1, a2, a3⟩ := List.pairwise_append.1 ha
    obtain ⟨q1, q2⟩ := LV.leasts h6 a2
    rw [List.map_cons]
    refine ⟨List.pairwise_cons.2 ⟨fun t ht => ?_, q1⟩, fun t ht => ?_⟩
    · obtain ⟨z, hz, e⟩ := q2 t ht
      rw [← e, ← h7]
      exact a3 y (by simp) z hz
    · rcases List.mem_cons.1 ht with q | q
      · exact ⟨y, by simp, by rw [q]; exact h7⟩
      · obtain ⟨z, hz, e⟩ := q2 t q
        exact ⟨z, by simp [hz], e⟩

def kidsAt (base m : Nat) : List Int := (List.range m).map fun j => ((base + j : Nat) : Int)
theorem kidsAt_succ (base m : Nat) : kidsAt base (m + 1) = (base : Int) :: kidsAt (base + 1) m := by
  unfold kidsAt
  rw [List.range_succ_eq_map, List.map_cons, List.map_map]
  congr 1
  apply List.map_congr_left
  intro j _
  simp only [Function.comp]
  congr 1
  omega
/-- pages that stand one behind the other, as kids -/
theorem LV.kids {T : List Pg} {d next : Nat} : ∀ {xs : Lvl} {base : Nat} {P : List Nat} {e : KV}, xs ≠ [] → LV T d xs P e → (∀ j (h : j < xs.length), T[base + j]? = some (xs[j]).1) → Asc e → P.Nodup → (∀ i ∈ P, i < next) → next ≤ base →
    ∃ P', KidsR (SubB T (d + 1)) (kidsAt base xs.length) (xs.tail.map (·.2)) P' e ∧ P'.Nodup ∧ ∀ i, i ∈ P' ↔ i ∈ P ∨ (base ≤ i ∧ i < base + xs.length)
  | [], _, _, _, h, _, _, _, _, _, _ => (h rfl).elim
  | (p, s) :: xs, base, P, e, _, ⟨P1, e1, P2, e2, h1, h2, h3, h4, h5, h6⟩, hT, ha, hnd, hlt, hnb => by
    subst h1; subst h2
    obtain ⟨a1, a2, a3⟩ := List.pairwise_append.1 ha
    obtain ⟨d1, d2, d3⟩ := List.nodup_append.1 hnd
    have hp : T[base]? = some p := by have := hT 0 (by simp); simpa using this
    have hB : SubB T (d + 1) base (base :: P1) e1 := ⟨h3.sub hp, p, hp, h4⟩
    have hb1 : base ∉ P1 := fun q => by have := hlt base (List.mem_append.2 (.inl q)); omega
    cases xs with
    | nil =>
      obtain ⟨q1, q2⟩ := h6
      subst q1; subst q2
      refine ⟨base :: P1, ?_, List.nodup_cons.2 ⟨hb1, d1⟩, fun i => ?_⟩
      · show KidsR _ (kidsAt base (0 + 1)) [] _ _
        rw [kidsAt_succ]
        exact ⟨rfl, by simpa using hB⟩
      · rw [List.mem_cons, List.append_nil]
        show i = base ∨ i ∈ P1 ↔ i ∈ P1 ∨ (base ≤ i ∧ i < base + 1)
        constructor
        · rintro (q | q)
          · exact .inr (by omega)
          · exact .inl q
        · rintro (q | q)
          · exact .inr q
          · exact .inl (by omega)
    | cons x xs =>
      obtain ⟨P', k1, k2, k3⟩ := LV.kids (next := next) (base := base + 1) (by simp) h6 (fun j hj => by
        have := hT (j + 1) (by simp at hj ⊢; omega)
        rw [← Nat.add_assoc, Nat.add_right_comm] at this
        simpa using this) a2 d2 (fun i hi => hlt i (List.mem_append.2 (.inr hi))) (by omega)
      have hm : ∀ i, i ∈ P' → i ∉ base :: P1 := fun i hi q => by
        rcases (k3 i).1 hi with z | z
        · rcases List.mem_cons.1 q with y | y
          · subst y; have := hlt i (List.mem_append.2 (.inr z)); omega
          · exact d3 i y i z rfl
        · rcases List.mem_cons.1 q with y | y
          · omega
          · have := hlt i (List.mem_append.2 (.inl y)); omega
      refine ⟨(base :: P1) ++ P', ?_, ?_, fun i => ?_⟩
      · show KidsR _ (kidsAt base ((x :: xs).length + 1)) ((x :: xs).map (·.2)) _ _
        rw [kidsAt_succ, List.map_cons]
        obtain ⟨x1, x2⟩ := x
        obtain ⟨Q1, f1, Q2, f2, g1, g2, g3, g4, ⟨y, r, g5, g6⟩, g7⟩ := h6
        refine ⟨base :: P1, e1, P', e2, by simpa using hB, k1, rfl, rfl, fun z hz => ?_, fun z hz => ?_⟩
        · show blt z.1 x2 = true
          rw [← g6]
          exact a3 z hz y (by rw [g2, g5]; simp)
        · show blt z.1 x2 = false
          rw [← g6]
          rw [g2, g5, List.cons_append] at hz a2
          rcases List.mem_cons.1 hz with q | q
          · rw [q]; exact blt_irr _
          · exact blt_asy ((List.pairwise_cons.1 a2).1 z q)
      · exact List.nodup_append.2 ⟨List.nodup_cons.2 ⟨hb1, d1⟩, k2, fun i hi j hj e => hm j hj (by rw [← e]; exact hi)⟩
      · rw [List.mem_append, k3, List.mem_cons, List.mem_append]
        simp only [List.length_cons]
        constructor
        · rintro ((q | q) | (q | q))
          · exact .inr (by omega)
          · exact .inl (.inl q)
          · exact .inl (.inr q)
          · exact .inr (by omega)
        · rintro ((q | q) | q)
          · exact .inl (.inr q)
          · exact .inr (.inl q)
          · rcases Nat.eq_or_lt_of_le q.1 with z | z
            · exact .inl (.inl z.symm)
            · exact .inr (.inr (by omega))

/-! pages placed -/
theorem placeD_len (T : List Pg) (xs : Lvl) (next : Nat) : ∀ j, (placeD T xs next j).length = T.length
  | 0 => rfl
  | j + 1 => by unfold placeD; rw [List.length_set, placeD_len T xs next j]
theorem placeD_out (T : List Pg) (xs : Lvl) (next : Nat) : ∀ j i, i < next ∨ next + j ≤ i → (placeD T xs next j)[i]? = T[i]?
  | 0, i, _ => rfl
  | j + 1, i, h => by
    unfold placeD
    rw [List.getElem?_set_ne (by omega), placeD_out T xs next j i (by omega)]
theorem placeD_in (T : List Pg) (xs : Lvl) (next : Nat) : ∀ j i (h : i < j), next + j ≤ T.length → j ≤ xs.length → (placeD T xs next j)[next + i]? = (xs[i]?).map (·.1)
  | 0, i, h, _, _ => by omega
  | j + 1, i, h, hl, hx => by
    unfold placeD
    by_cases e : i = j
    · subst e
      rw [List.getElem?_set_self (by rw [placeD_len]; omega), List.getElem?_eq_getElem (by omega)]; rfl
    · rw [List.getElem?_set_ne (by omega)]
      exact placeD_in T xs next j i (by omega) (by omega) (by omega)

/-! cuts -/
theorem cuts4 : ∀ n : Fin 61, ∀ i : Fin 15, 5 ≤ n.1 → i.1 < kOf n.1 4 → 2 ≤ cutN n.1 (kOf n.1 4) (i.1 + 1) - cutN n.1 (kOf n.1 4) i.1 ∧ cutN n.1 (kOf n.1 4) (i.1 + 1) - cutN n.1 (kOf n.1 4) i.1 ≤ 4 := by decide +kernel
theorem kOf4 : ∀ n : Fin 61, kOf n.1 4 ≤ 15 ∧ (n.1 ≤ 4 → kOf n.1 4 = 1) ∧ (5 ≤ n.1 → 2 ≤ kOf n.1 4) := by decide +kernel
theorem cuts5 : ∀ n : Fin 16, ∀ i : Fin 3, 6 ≤ n.1 → i.1 < kOf n.1 5 → 3 ≤ cutN n.1 (kOf n.1 5) (i.1 + 1) - cutN n.1 (kOf n.1 5) i.1 ∧ cutN n.1 (kOf n.1 5) (i.1 + 1) - cutN n.1 (kOf n.1 5) i.1 ≤ 5 := by decide +kernel
theorem kOf5 : ∀ n : Fin 16, kOf n.1 5 ≤ 3 ∧ (n.1 ≤ 5 → kOf n.1 5 = 1) ∧ (6 ≤ n.1 → 2 ≤ kOf n.1 5) := by decide +kernel
theorem take_cut {α : Type} (l : List α) {a b : Nat} (h : a ≤ b) : l.take b = l.take a ++ (l.drop a).take (b - a) := by
  obtain ⟨c, rfl⟩ : ∃ c, b = a + c := ⟨b - a, by omega⟩
  rw [List.take_add, Nat.add_sub_cancel_left]

/-- a leaf of entries -/
theorem leaf_page {T : List Pg} {e : KV} (ha : Asc e) (hk : KVok e) (hl : e.length ≤ 4) : PageSub T 0 ⟨true, true, e.map (·.1), e.map (·.2), []⟩ [] e := by
  refine ⟨⟨by simpa using hl, ⟨rfl, pw_rising (asc_pw ha), fun k hk' => ?_, fun _ => ⟨by simp, rfl, fun v hv => ?_⟩, fun h => by cases h⟩⟩, .inl ⟨rfl, rfl, rfl, (zip_map e).symm⟩⟩
  · obtain ⟨x, hx, rfl⟩ := List.mem_map.1 hk'
    exact (hk x hx).1
  · obtain ⟨x, hx, rfl⟩ := List.mem_map.1 hv
    exact (hk x hx).2
/-- an inner page over a level's part -/
theorem inner_page {T : List Pg} {d next base : Nat} {xs : Lvl} {P : List Nat} {e : KV} (h2 : 2 ≤ xs.length) (h5 : xs.length ≤ 5) (hx : LV T d xs P e) (hT : ∀ j (h : j < xs.length), T[base + j]? = some (xs[j]).1) (ha : Asc e) (hk : KVok e) (hnd : P.Nodup) (hlt : ∀ i ∈ P, i < next) (hnb : next ≤ base) (hn1 : 1 ≤ next) (h48 : base + xs.length ≤ 48) :
    ∃ P', PageSub T (d + 1) ⟨true, false, xs.tail.map (·.2), [], kidsAt base xs.length⟩ P' e ∧ P'.Nodup ∧ ∀ i, i ∈ P' ↔ i ∈ P ∨ (base ≤ i ∧ i < base + xs.length) := by
  obtain ⟨P', k1, k2, k3⟩ := LV.kids (next := next) (fun q => by rw [q] at h2; simp at h2) hx hT ha hnd hlt hnb
  obtain ⟨l1, l2⟩ := hx.leasts ha
  have ht : (xs.tail.map (·.2)).length = xs.length - 1 := by simp
  have hsub : ∀ s ∈ xs.tail.map (·.2), s ∈ xs.map (·.2) := fun s hs => by
    obtain ⟨x, hx, e⟩ := List.mem_map.1 hs
    exact List.mem_map.2 ⟨x, List.mem_of_mem_tail hx, e⟩
  refine ⟨P', ⟨⟨by show (xs.tail.map (·.2)).length ≤ 4; omega, ⟨rfl, pw_rising ?_, fun k hk' => ?_, fun h => (by cases h), fun _ => ⟨by show 1 ≤ (xs.tail.map (·.2)).length; omega, rfl, ?_, fun k hk' => ?_, ?_⟩⟩⟩, .inr ⟨rfl, k1⟩⟩, k2, k3⟩
  · show Pw (xs.tail.map (·.2))
    rw [List.map_tail]
    exact l1.sublist (List.tail_sublist _)
  · obtain ⟨y, hy, e⟩ := l2 k (hsub k hk')
    rw [← e]; exact (hk y hy).1
  · show (kidsAt base xs.length).length = (xs.tail.map (·.2)).length + 1
    unfold kidsAt; simp; omega
  · obtain ⟨j, hj, e⟩ := List.mem_map.1 (show k ∈ kidsAt base xs.length from hk')
    have := List.mem_range.1 hj
    omega
  · show (kidsAt base xs.length).Nodup
    unfold kidsAt
    exact List.pairwise_map.2 (List.nodup_range.imp fun {a b} h q => h (by omega))

/-- leaves -/
theorem leaves_lv (T : List Pg) {ps : KV} (ha : Asc ps) (hk : KVok ps) (h5 : 5 ≤ ps.length) (h60 : ps.length ≤ 60) : LV T 0 (leavesD ps) [] ps := by
  have hK := kOf4 ⟨ps.length, by omega⟩
  dsimp only at hK
  have key : ∀ i, i ≤ kOf ps.length 4 → LV T 0 ((List.range i).map (leafAt ps (kOf ps.length 4))) [] (ps.take (cutN ps.length (kOf ps.length 4) i)) := by
    intro i
    induction i with
    | zero => intro _; rw [cutN_zero]; exact ⟨rfl, rfl⟩
    | succ i ih =>
      intro hi
      have hc := cuts4 ⟨ps.length, by omega⟩ ⟨i, by omega⟩ h5 (by show i < kOf ps.length 4; omega)
      dsimp only at hc
      have hm := cutN_mono ps.length (kOf ps.length 4) i
      have hle := cutN_le (n := ps.length) (k := kOf ps.length 4) (i := i + 1) hi (kOf_pos _ _)
      rw [List.range_succ, List.map_append, List.map_cons, List.map_nil, take_cut ps hm]
      have hlen : ((ps.drop (cutN ps.length (kOf ps.length 4) i)).take (cutN ps.length (kOf ps.length 4) (i + 1) - cutN ps.length (kOf ps.length 4) i)).length = cutN ps.length (kOf ps.length 4) (i + 1) - cutN ps.length (kOf ps.length 4) i := by
        rw [List.length_take, List.length_drop]; omega
      have hsl : ((ps.drop (cutN ps.length (kOf ps.length 4) i)).take (cutN ps.length (kOf ps.length 4) (i + 1) - cutN ps.length (kOf ps.length 4) i)).Sublist ps := (List.take_sublist _ _).trans (List.drop_sublist _ _)
      refine LV.append (ih (by omega)) ?_
      have hL := leaf_page (T := T) (ha.sublist hsl) (fun x hx => hk x (hsl.subset hx)) (by omega)
      refine ⟨[], _, [], [], rfl, by simp, hL, by simp [hlen]; omega, ?_, ⟨rfl, rfl⟩⟩
      have hlt : cutN ps.length (kOf ps.length 4) i < ps.length := by omega
      rw [decide_eq_true (by omega)]
      refine ⟨ps[cutN ps.length (kOf ps.length 4) i], (ps.drop (cutN ps.length (kOf ps.length 4) i + 1)).take (cutN ps.length (kOf ps.length 4) (i + 1) - cutN ps.length (kOf ps.length 4) i - 1), ?_, ?_⟩
      · rw [List.drop_eq_getElem_cons hlt]
        obtain ⟨c, hc'⟩ : ∃ c, cutN ps.length (kOf ps.length 4) (i + 1) - cutN ps.length (kOf ps.length 4) i = c + 1 := ⟨_, (Nat.succ_pred_eq_of_pos (by omega)).symm⟩
        rw [hc', List.take_succ_cons, Nat.add_sub_cancel]
      · rw [List.getElem?_eq_getElem hlt]; rfl
  have := key _ (Nat.le_refl _)
  rw [cutN_all (kOf_pos _ _), List.take_length] at this
  exact this

/-- a level's pages placed, and the level above it -/
theorem up_step {T : List Pg} {d next : Nat} {xs : Lvl} {P : List Nat} {ps : KV} (hx : LV T d xs P ps) (ha : Asc ps) (hk : KVok ps) (hnd : P.Nodup) (hP : ∀ i, i ∈ P ↔ 1 ≤ i ∧ i < next) (hn1 : 1 ≤ next) (h2 : 2 ≤ xs.length) (h15 : xs.length ≤ 15) (h48 : next + xs.length ≤ 48) (hT : T.length = 48) :
    ∃ P', P'.Nodup ∧ (∀ i, i ∈ P' ↔ 1 ≤ i ∧ i < next + xs.length) ∧
      ((xs.length ≤ 5 ∧ ∃ q, upD xs next = [q] ∧ PageSub (placeD T xs next xs.length) (d + 1) q.1 P' ps) ∨ (6 ≤ xs.length ∧ LV (placeD T xs next xs.length) (d + 1) (upD xs next) P' ps)) := by
  have hK := kOf5 ⟨xs.length, by omega⟩
  dsimp only at hK
  have hx' : LV (placeD T xs next xs.length) d xs P ps := hx.keep fun i hi => placeD_out _ _ _ _ _ (.inl ((hP i).1 hi).2)
  have hpl : ∀ j (h : j < xs.length), (placeD T xs next xs.length)[next + j]? = some (xs[j]).1 := fun j h => by
    rw [placeD_in T xs next xs.length j h (by omega) (Nat.le_refl _), List.getElem?_eq_getElem h]; rfl
  generalize placeD T xs next xs.length = T' at *
  by_cases h6 : xs.length ≤ 5
  · have hk1 := hK.2.1 h6
    obtain ⟨P', k1, k2, k3⟩ := inner_page (base := next) h2 h6 hx' hpl ha hk hnd (fun i hi => ((hP i).1 hi).2) (Nat.le_refl _) hn1 h48
    refine ⟨P', k2, fun i => by rw [k3, hP]; omega, .inl ⟨h6, (upAt xs next 1 0), by unfold upD; rw [hk1]; rfl, ?_⟩⟩
    have e0 : cutN xs.length 1 0 = 0 := cutN_zero _ _
    have e1 : cutN xs.length 1 (0 + 1) = xs.length := cutN_all (by omega)
    unfold upAt
    dsimp only
    rw [e0, e1]
    have q1 : (xs.drop (0 + 1)).take (xs.length - (0 + 1)) = xs.tail := by rw [Nat.zero_add, List.drop_one, List.take_of_length_le (by simp)]
    have q2 : ((List.range (xs.length - 0)).map fun j => ((next + (0 + j) : Nat) : Int)) = kidsAt next xs.length := by
      unfold kidsAt
      rw [Nat.sub_zero]
      apply List.map_congr_left
      intro j _
      congr 2
      omega
    rw [q1, q2]
    exact k1
  · have h6 : 6 ≤ xs.length := by omega
    have key : ∀ i, i ≤ kOf xs.length 5 → ∀ Q f, LV T' d (xs.take (cutN xs.length (kOf xs.length 5) i)) Q f → Asc f → KVok f → Q.Nodup → (∀ j ∈ Q, j < next) → ∃ P', P'.Nodup ∧ (∀ j, j ∈ P' ↔ j ∈ Q ∨ (next ≤ j ∧ j < next + cutN xs.length (kOf xs.length 5) i)) ∧ LV T' (d + 1) ((List.range i).map (upAt xs next (kOf xs.length 5))) P' f := by
      intro i
      induction i with
      | zero =>
        intro _ Q f hQ _ _ _ _
        rw [cutN_zero, List.take_zero] at hQ
        obtain ⟨q1, q2⟩ := hQ
        subst q1; subst q2
        exact ⟨[], List.nodup_nil, fun j => by rw [cutN_zero]; simp, rfl, rfl⟩
      | succ i ih =>
        intro hi Q f hQ haf hkf hnQ hlQ
        have hc := cuts5 ⟨xs.length, by omega⟩ ⟨i, by omega⟩ h6 (by show i < kOf xs.length 5; omega)
        dsimp only at hc
        have hm := cutN_mono xs.length (kOf xs.length 5) i
        have hle := cutN_le (n := xs.length) (k := kOf xs.length 5) (i := i + 1) hi (kOf_pos _ _)
        rw [take_cut xs hm] at hQ
        obtain ⟨Q1, f1, Q2, f2, g1, g2, g3, g4⟩ := hQ.split
        subst g1; subst g2
        obtain ⟨a1, a2, a3⟩ := List.pairwise_append.1 haf
        obtain ⟨d1, d2, d3⟩ := List.nodup_append.1 hnQ
        obtain ⟨P1, p1, p2, p3⟩ := ih (by omega) Q1 f1 g3 a1 (fun x hx => hkf x (by simp [hx])) d1 (fun j hj => hlQ j (by simp [hj]))
        generalize hci : cutN xs.length (kOf xs.length 5) i = ci at *
        generalize hcj : cutN xs.length (kOf xs.length 5) (i + 1) = cj at *
        have hlen : ((xs.drop ci).take (cj - ci)).length = cj - ci := by rw [List.length_take, List.length_drop]; omega
        obtain ⟨P2, k1, k2, k3⟩ := inner_page (base := next + ci) (next := next) (by rw [hlen]; omega) (by rw [hlen]; omega) g4 (fun j hj => by
          rw [Nat.add_assoc, hpl (ci + j) (by omega)]
          simp) a2 (fun x hx => hkf x (by simp [hx])) d2 (fun j hj => hlQ j (by simp [hj])) (by omega) hn1 (by rw [hlen]; omega)
        rw [hlen] at k1 k3
        refine ⟨P1 ++ P2, List.nodup_append.2 ⟨p1, k2, fun j hj j' hj' e => ?_⟩, fun j => ?_, ?_⟩
        · subst e
          have z1 := (p2 j).1 hj
          have z2 := (k3 j).1 hj'
          rcases z1 with z1 | z1
          · rcases z2 with z2 | z2
            · exact d3 j z1 j z2 rfl
            · have := hlQ j (by simp [z1]); omega
          · rcases z2 with z2 | z2
            · have := hlQ j (by simp [z2]); omega
            · omega
        · rw [List.mem_append, p2, k3, List.mem_append]
          constructor
          · rintro ((q | q) | (q | q))
            · exact .inl (.inl q)
            · exact .inr (by omega)
            · exact .inl (.inr q)
            · exact .inr (by omega)
          · rintro ((q | q) | q)
            · exact .inl (.inl q)
            · exact .inr (.inl q)
            · rcases Nat.lt_or_ge j (next + ci) with z | z
              · exact .inl (.inr (by omega))
              · exact .inr (.inr (by omega))
        · rw [List.range_succ, List.map_append, List.map_cons, List.map_nil]
          refine LV.append p3 ?_
          have q0 : upAt xs next (kOf xs.length 5) i = (⟨true, false, ((xs.drop ci).take (cj - ci)).tail.map (·.2), [], kidsAt (next + ci) (cj - ci)⟩, (xs[ci]?.map (·.2)).getD (mkS [])) := by
            unfold upAt
            rw [hci, hcj]
            congr 2
            · rw [← List.drop_one, ← List.drop_take, ← List.drop_take, List.drop_drop]
            · unfold kidsAt
              apply List.map_congr_left
              intro j _
              congr 1
              omega
          have hlt : ci < xs.length := by omega
          rw [q0, List.getElem?_eq_getElem hlt]
          refine ⟨P2, f2, [], [], by simp, by simp, k1, by simp; omega, ?_, rfl, rfl⟩
          rw [List.drop_eq_getElem_cons hlt] at g4
          obtain ⟨c, hc'⟩ : ∃ c, cj - ci = c + 1 := ⟨_, (Nat.succ_pred_eq_of_pos (by omega)).symm⟩
          rw [hc', List.take_succ_cons] at g4
          obtain ⟨_, e1, _, e2, _, w2, _, _, ⟨y, r, w5, w6⟩, _⟩ := g4
          refine ⟨y, r ++ e2, by rw [w2, w5]; rfl, w6⟩
    have hall : cutN xs.length (kOf xs.length 5) (kOf xs.length 5) = xs.length := cutN_all (kOf_pos _ _)
    obtain ⟨P', z1, z2, z3⟩ := key _ (Nat.le_refl _) P ps (by rw [hall, List.take_length]; exact hx') ha hk hnd (fun i hi => ((hP i).1 hi).2)
    rw [hall] at z2
    exact ⟨P', z1, fun i => by rw [z2, hP]; omega, .inr ⟨h6, z3⟩⟩

theorem newT_at (i : Nat) (h : 1 ≤ i) (h48 : i < 48) : newT[i]? = some noPg := by
  obtain ⟨j, rfl⟩ : ∃ j, i = j + 1 := ⟨i - 1, by omega⟩
  show (List.replicate 47 noPg)[j]? = some noPg
  rw [List.getElem?_replicate, if_pos (by omega)]
/-- the root placed -/
theorem root_whole {T : List Pg} {d next : Nat} {p : Pg} {P : List Nat} {ps : KV} (h : PageSub T d p P ps) (hnd : P.Nodup) (hP : ∀ i, i ∈ P ↔ 1 ≤ i ∧ i < next) (hT : T.length = 48) (hrest : ∀ i, next ≤ i → 1 ≤ i → i < 48 → T[i]? = some noPg) (h60 : ps.length ≤ 60) : Whole (T.set 0 p) (d + 1) (0 :: P) ps := by
  have h0 : 0 ∉ P := fun q => by have := (hP 0).1 q; omega
  refine ⟨by simp [hT], (h.keep fun i hi => List.getElem?_set_ne (fun e => h0 (by rw [e]; exact hi))).sub (List.getElem?_set_self (by omega)), List.nodup_cons.2 ⟨h0, hnd⟩, fun i q hq hi => ?_, h60⟩
  have hi48 : i < 48 := by have := (List.getElem?_eq_some_iff.1 hq).1; simp [hT] at this; exact this
  have hi0 : i ≠ 0 := fun e => hi (by simp [e])
  have hiP : i ∉ P := fun z => hi (by simp [z])
  rw [List.getElem?_set_ne (Ne.symm hi0), hrest i (by have := mt (hP i).2 hiP; omega) (by omega) hi48] at hq
  cases hq
  rfl
/-- a tree built is sound, and holds what it was built of -/
theorem buildD_whole {ps : KV} (ha : Asc ps) (hk : KVok ps) (h60 : ps.length ≤ 60) : ∃ d P, Whole (buildD ps) d P ps := by
  have hK := kOf4 ⟨ps.length, by omega⟩
  dsimp only at hK
  have hll : (leavesD ps).length = kOf ps.length 4 := by simp [leavesD]
  unfold buildD
  by_cases h5 : 5 ≤ ps.length
  · have hL := leaves_lv newT ha hk h5 h60
    have h2 := hK.2.2 h5
    rw [show (64 : Nat) = 63 + 1 from rfl, buildGo, decide_eq_true (by omega)]
    dsimp only
    obtain ⟨P1, n1, m1, c1⟩ := up_step (next := 1) hL ha hk List.nodup_nil (fun i => ⟨fun q => by simp at q, fun q => by omega⟩) (Nat.le_refl _) (by omega) (by omega) (by omega) rfl
    have hT1 : (placeD newT (leavesD ps) 1 (leavesD ps).length).length = 48 := placeD_len _ _ _ _
    have hr1 : ∀ i, 1 + (leavesD ps).length ≤ i → 1 ≤ i → i < 48 → (placeD newT (leavesD ps) 1 (leavesD ps).length)[i]? = some noPg := fun i q1 q2 q3 => by
      rw [placeD_out _ _ _ _ _ (.inr q1)]; exact newT_at i q2 q3
    generalize hnx : 1 + (leavesD ps).length = nx at *
    generalize hTT : placeD newT (leavesD ps) 1 (leavesD ps).length = T1 at *
    rcases c1 with ⟨_, q, e, hq⟩ | ⟨h6, hU⟩
    · rw [e, show (63 : Nat) = 62 + 1 from rfl, buildGo, decide_eq_false (by simp)]
      exact ⟨_, _, root_whole hq n1 m1 hT1 hr1 h60⟩
    · have hK5 := kOf5 ⟨(leavesD ps).length, by omega⟩
      dsimp only at hK5
      have hul : (upD (leavesD ps) 1).length = kOf (leavesD ps).length 5 := by simp [upD]
      have h22 := hK5.2.2 h6
      generalize upD (leavesD ps) 1 = ys at *
      rw [show (63 : Nat) = 62 + 1 from rfl, buildGo, decide_eq_true (by omega)]
      dsimp only
      obtain ⟨P2, n2, m2, c2⟩ := up_step (next := nx) hU ha hk n1 m1 (by omega) (by omega) (by omega) (by omega) hT1
      rcases c2 with ⟨_, q, e, hq⟩ | ⟨h6', _⟩
      · rw [e, show (62 : Nat) = 61 + 1 from rfl, buildGo, decide_eq_false (by simp)]
        exact ⟨_, _, root_whole hq n2 m2 (by rw [placeD_len]; exact hT1) (fun i q1 q2 q3 => by rw [placeD_out _ _ _ _ _ (.inr q1)]; exact hr1 i (by omega) q2 q3) h60⟩
      · omega
  · have h1 := hK.2.1 (by omega)
    have hL : leavesD ps = [leafAt ps 1 0] := by unfold leavesD; rw [h1]; rfl
    rw [show (64 : Nat) = 63 + 1 from rfl, buildGo, hL, decide_eq_false (by simp)]
    have hp : (leafAt ps 1 0).1 = ⟨true, true, ps.map (·.1), ps.map (·.2), []⟩ := by
      unfold leafAt
      rw [cutN_zero, cutN_all (show 0 < 0 + 1 by omega), Nat.sub_zero, List.drop_zero, List.take_length]
    refine ⟨1, [0], root_whole (next := 1) (P := []) ?_ List.nodup_nil (fun i => ⟨fun q => by simp at q, fun q => by omega⟩) rfl (fun i q1 q2 q3 => newT_at i q2 q3) h60⟩
    show PageSub newT 0 (leafAt ps 1 0).1 [] ps
    rw [hp]
    exact leaf_page ha hk (by omega)
theorem build_sound {ps : KV} (ha : Asc ps) (hk : KVok ps) (h60 : ps.length ≤ 60) : 0 < heightD (buildD ps) ∧ entD (buildD ps) = ps := by
  obtain ⟨d, P, w⟩ := buildD_whole ha hk h60
  exact ⟨w.pos', w.sound.2⟩
end Go.Am
namespace Go.Am
/-! 4: cryostat/cryostatlaw10.SoundPages -/
def law10_SoundPages.cx : Cx := ⟨tys, [], [(8, [1, 3, 4, 5, 6, 7])], [], [(24, law10_awake), (25, sound_Sound), (26, sound_Height), (27, ref9_All), (28, ref1_PageMay)], noDyn, [.tmp 2]⟩
def law10_SoundPages : Sm := fun xs H Q => ∃ k, callK (law10_SoundPages.cx) Go.Proofs.Try.f4 k xs H Q
def law10_SoundPages.l8 (k : Nat) (xx0 : Pl) (nx1 : Nat) (xx2 : Pl) (nx3 : Nat) (ix4 : Int) (ix5 : Int) (ix6 : Int) (ix7 : Int) (H : Hp) (Q : Post) : Prop := loopK (law10_SoundPages.cx) Go.Proofs.Try.f4 8 k (.bad :: (.bx [(.sl xx0 nx1 5)]) :: .bad :: (.g (.sl xx2 nx3 2)) :: (.g (.int .i64 ix4)) :: (.g (.int .i64 ix5)) :: (.g (.int .i64 ix6)) :: (.g (.int .i64 ix7)) :: B 86 ([])) H Q
theorem law10_SoundPages_eq (k : Nat) (z0 : Pl) (z0n : Nat) (H : Hp) (Q : Post) : callK (law10_SoundPages.cx) Go.Proofs.Try.f4 (k + 1) [.agg [.sl z0 z0n 5]] H Q = (
 cl law10_awake [] H fun r0 H1 =>
 rG r0 fun v2 =>
 dB v2 fun b3 =>
 bite (!b3)
 (Q (.g (.bool false)) H1)
 (cl sound_Sound [(.agg [(.sl z0 z0n 5)])] H1 fun r4 H5 =>
  rG r4 fun v6 =>
  dB v6 fun b7 =>
  bite (!b7)
  (cl sound_Height [(.agg [(.sl z0 z0n 5)])] H5 fun r8 H9 =>
   rG r8 fun v10 =>
   dI .i64 v10 fun i11 =>
   Q (.g (.bool (eqI i11 0))) H9)
  (cl ref9_All [(.agg [(.sl z0 z0n 5)])] H5 fun r12 H13 =>
   rT r12 fun c14 =>
   uR c14 fun q15 c16 =>
   rS q15 fun v17 =>
   dL 2 v17 fun x18 n19 =>
   uR c16 fun q20 c21 =>
   rS q20 fun v22 =>
   dI .i64 v22 fun i23 =>
   uE c21 (law10_SoundPages.l8 k z0 z0n x18 n19 i23 0 0 0 H13 Q)))) := by kernel_rfl
theorem law10_SoundPages.l8_eq (k : Nat) (xx0 : Pl) (nx1 : Nat) (xx2 : Pl) (nx3 : Nat) (ix4 : Int) (ix5 : Int) (ix6 : Int) (ix7 : Int) (H : Hp) (Q : Post) : law10_SoundPages.l8 (k + 1) xx0 nx1 xx2 nx3 ix4 ix5 ix6 ix7 H Q = (
 bite (ltI ix7 (nI nx1))
 (chk true (chk ((leI 0 ix7) && (ltI ix7 (nI nx1))) (pS xx0 fun n0 n1 =>
  rd H n0 (n1 + ((tN ix7) * 5)) fun v2 =>
  dB v2 fun b3 =>
  rd H n0 ((n1 + ((tN ix7) * 5)) + 1) fun v4 =>
  dB v4 fun b5 =>
  rd H n0 (((n1 + ((tN ix7) * 5)) + 1) + 1) fun v6 =>
  dL 1 v6 fun x7 n8 =>
  rd H n0 ((((n1 + ((tN ix7) * 5)) + 1) + 1) + 1) fun v9 =>
  dL 1 v9 fun x10 n11 =>
  rd H n0 (((((n1 + ((tN ix7) * 5)) + 1) + 1) + 1) + 1) fun v12 =>
  dL 1 v12 fun x13 n14 =>
  bite b3
  (cl ref1_PageMay [(.agg [(.bool b3), (.bool b5), (.sl x7 n8 1), (.sl x10 n11 1), (.sl x13 n14 1)])] H fun r15 H16 =>
   rG r15 fun v17 =>
   dB v17 fun b18 =>
   bite (!b18)
   (Q (.g (.bool false)) H16)
   (bite (ltI 0 ix7)
    (bite (ltI (nI n8) 2)
     (Q (.g (.bool false)) H16)
     (bite b3
      (bite b5
       (law10_SoundPages.l8 k xx0 nx1 xx2 nx3 ix4 (wrapI .i64 (ix5 + (nI n8))) (wrapI .i64 (ix6 + 1)) (wrapI .i64 (ix7 + 1)) H16 Q)
       (law10_SoundPages.l8 k xx0 nx1 xx2 nx3 ix4 ix5 ix6 (wrapI .i64 (ix7 + 1)) H16 Q))
      (law10_SoundPages.l8 k xx0 nx1 xx2 nx3 ix4 ix5 ix6 (wrapI .i64 (ix7 + 1)) H16 Q)))
    (bite b3
     (bite b5
      (law10_SoundPages.l8 k xx0 nx1 xx2 nx3 ix4 (wrapI .i64 (ix5 + (nI n8))) (wrapI .i64 (ix6 + 1)) (wrapI .i64 (ix7 + 1)) H16 Q)
      (law10_SoundPages.l8 k xx0 nx1 xx2 nx3 ix4 ix5 ix6 (wrapI .i64 (ix7 + 1)) H16 Q))
     (law10_SoundPages.l8 k xx0 nx1 xx2 nx3 ix4 ix5 ix6 (wrapI .i64 (ix7 + 1)) H16 Q))))
  (bite b3
   (bite b5
    (law10_SoundPages.l8 k xx0 nx1 xx2 nx3 ix4 (wrapI .i64 (ix5 + (nI n8))) (wrapI .i64 (ix6 + 1)) (wrapI .i64 (ix7 + 1)) H Q)
    (law10_SoundPages.l8 k xx0 nx1 xx2 nx3 ix4 ix5 ix6 (wrapI .i64 (ix7 + 1)) H Q))
   (law10_SoundPages.l8 k xx0 nx1 xx2 nx3 ix4 ix5 ix6 (wrapI .i64 (ix7 + 1)) H Q)))))
 (cl sound_Height [(.agg [(.sl xx0 nx1 5)])] H fun r19 H20 =>
  rG r19 fun v21 =>
  dI .i64 v21 fun i22 =>
  bite (eqI ix4 0)
  (bite (eqI (nI nx3) ix5)
   (bite (leI ix5 60)
    (bite (leI 1 i22)
     (bite (eqB (eqI i22 1) (eqI ix6 1))
      (Q (.g (.bool (leI i22 5))) H20)
      (Q (.g (.bool false)) H20))
     (Q (.g (.bool false)) H20))
    (Q (.g (.bool false)) H20))
   (Q (.g (.bool false)) H20))
  (Q (.g (.bool false)) H20))) := by kernel_rfl
theorem law10_SoundPages_ok : Sound Go.Proofs.Try.prog 4 (law10_SoundPages) := prog_ok.sound (cx := law10_SoundPages.cx) rfl (EnvOK.cons ((law10_awake_ok).c ⟨_, Go.Proofs.Try.func24, by kernel_rfl, by kernel_rfl⟩) (EnvOK.cons ((sound_Sound_ok).c ⟨_, Go.Proofs.Try.func25, by kernel_rfl, by kernel_rfl⟩) (EnvOK.cons ((sound_Height_ok).c ⟨_, Go.Proofs.Try.func26, by kernel_rfl, by kernel_rfl⟩) (EnvOK.cons ((ref9_All_ok).c ⟨_, Go.Proofs.Try.func27, by kernel_rfl, by kernel_rfl⟩) (EnvOK.cons ((ref1_PageMay_ok).c ⟨_, Go.Proofs.Try.func28, by kernel_rfl, by kernel_rfl⟩) (EnvOK.nil _)))))) (noDyn_ok _) Go.Proofs.Try.func4 rfl

/-! 63: cryostat/scan.walk -/
def scan_walk.cx (E : Nat → Sm) (S : Sm) : Cx := ⟨tys, [], [(2, [0, 2, 6, 20, 21, 22]), (7, [2, 6, 34, 35, 36])], [], [(63, S)], E, []⟩
def scan_walk.st (E : Nat → Sm) (S : Sm) : Sm := fun xs H Q => ∃ k, callK (scan_walk.cx E S) Go.Proofs.Try.f63 k xs H Q
def scan_walk.l2 (E : Nat → Sm) (S : Sm) (k : Nat) (xx0 : Pl) (nx1 : Nat) (cx2 : List (Nat × Nat)) (nx3 : Nat) (nx4 : Nat) (xx5 : Pl) (nx6 : Nat) (ix7 : Int) (ix8 : Int) (H : Hp) (Q : Post) : Prop := loopK (scan_walk.cx E S) Go.Proofs.Try.f63 2 k ((.g (.ptr xx0)) :: .bad :: (.g (.fn nx1 cx2)) :: B 3 ((.g (.ptr (some (nx3, nx4)))) :: B 13 ((.g (.sl xx5 nx6 1)) :: (.g (.int .i64 ix7)) :: (.g (.int .i64 ix8)) :: B 30 ([])))) H Q
def scan_walk.l7 (E : Nat → Sm) (S : Sm) (k : Nat) (nx0 : Nat) (cx1 : List (Nat × Nat)) (nx2 : Nat) (nx3 : Nat) (xx4 : Pl) (nx5 : Nat) (ix6 : Int) (ix7 : Int) (H : Hp) (Q : Post) : Prop := loopK (scan_walk.cx E S) Go.Proofs.Try.f63 7 k (.bad :: .bad :: (.g (.fn nx0 cx1)) :: B 3 ((.g (.ptr (some (nx2, nx3)))) :: B 27 ((.g (.sl xx4 nx5 1)) :: (.g (.int .i64 ix6)) :: (.g (.int .i64 ix7)) :: B 16 ([])))) H Q
theorem scan_walk_eq (E : Nat → Sm) (S : Sm) (k : Nat) (z0 : Pl) (z1 : Int) (z2 : Nat) (z2c : List (Nat × Nat)) (H : Hp) (Q : Post) : callK (scan_walk.cx E S) Go.Proofs.Try.f63 (k + 1) [.g (.ptr z0), .g (.int .i64 z1), .g (.fn z2 z2c)] H Q = (
 pS z0 fun n0 n1 =>
 rd H n0 (n1 + 0) fun v2 =>
 dL 5 v2 fun x3 n4 =>
 chk true (chk ((leI 0 z1) && (ltI z1 (nI n4))) (pS x3 fun n5 n6 =>
 rd H n5 ((n6 + ((tN z1) * 5)) + 4) fun v7 =>
 dL 1 v7 fun x8 n9 =>
 scan_walk.l2 E S k z0 z2 z2c n5 (n6 + ((tN z1) * 5)) x8 n9 (nI n9) 0 H Q))) := by kernel_rfl
theorem scan_walk.l2_eq (E : Nat → Sm) (S : Sm) (k : Nat) (xx0 : Pl) (nx1 : Nat) (cx2 : List (Nat × Nat)) (nx3 : Nat) (nx4 : Nat) (xx5 : Pl) (nx6 : Nat) (ix7 : Int) (ix8 : Int) (H : Hp) (Q : Post) : scan_walk.l2 E S (k + 1) xx0 nx1 cx2 nx3 nx4 xx5 nx6 ix7 ix8 H Q = (
 bite (ltI ix8 ix7)
 (chk true (chk ((leI 0 ix8) && (ltI ix8 (nI nx6))) (pS xx5 fun n0 n1 =>
  rd H n0 (n1 + ((tN ix8) * 1)) fun v2 =>
  dI .i64 v2 fun i3 =>
  cl S [(.g (.ptr xx0)), (.g (.int .i64 i3)), (.g (.fn nx1 cx2))] H fun r4 H5 =>
  scan_walk.l2 E S k xx0 nx1 cx2 nx3 nx4 xx5 nx6 ix7 (wrapI .i64 (ix8 + 1)) H5 Q)))
 (rd H nx3 (nx4 + 3) fun v6 =>
  dL 1 v6 fun x7 n8 =>
  scan_walk.l7 E S k nx1 cx2 nx3 nx4 x7 n8 (nI n8) 0 H Q)) := by kernel_rfl
theorem scan_walk.l7_eq (E : Nat → Sm) (S : Sm) (k : Nat) (nx0 : Nat) (cx1 : List (Nat × Nat)) (nx2 : Nat) (nx3 : Nat) (xx4 : Pl) (nx5 : Nat) (ix6 : Int) (ix7 : Int) (H : Hp) (Q : Post) : scan_walk.l7 E S (k + 1) nx0 cx1 nx2 nx3 xx4 nx5 ix6 ix7 H Q = (
 bite (ltI ix7 ix6)
 (chk true (chk ((leI 0 ix7) && (ltI ix7 (nI nx5))) (pS xx4 fun n0 n1 =>
  rd H n0 (n1 + ((tN ix7) * 1)) fun v2 =>
  dS v2 fun s3 =>
  rd H nx2 (nx3 + 2) fun v4 =>
  dL 1 v4 fun x5 n6 =>
  chk true (chk ((leI 0 ix7) && (ltI ix7 (nI n6))) (pS x5 fun n7 n8 =>
  rd H n7 (n8 + ((tN ix7) * 1)) fun v9 =>
  dS v9 fun s10 =>
  cl (E nx0) (cpl [(.agg [(.str s10), (.str s3)])] cx1) H fun r11 H12 =>
  scan_walk.l7 E S k nx0 cx1 nx2 nx3 xx4 nx5 ix6 (wrapI .i64 (ix7 + 1)) H12 Q)))))
 (Q (.tup []) H)) := by kernel_rfl
theorem scan_walk.st_ok (E : Nat → Sm) (hE : ∀ f, SoundC Go.Proofs.Try.prog f (E f)) (S : Sm) (hS : SoundC Go.Proofs.Try.prog 63 S) : Sound Go.Proofs.Try.prog 63 (scan_walk.st E S) := prog_ok.sound (cx := scan_walk.cx E S) rfl (EnvOK.cons hS (EnvOK.nil _)) hE Go.Proofs.Try.func63 rfl
def scan_walk.at (E : Nat → Sm) : Nat → Sm
  | 0 => fun _ _ _ => False
  | n + 1 => scan_walk.st E (scan_walk.at E n)
def scan_walk (E : Nat → Sm) : Sm := fun xs H Q => ∃ n, scan_walk.at E n xs H Q
theorem scan_walk.at_ok (E : Nat → Sm) (hE : ∀ f, SoundC Go.Proofs.Try.prog f (E f)) : ∀ n, Sound Go.Proofs.Try.prog 63 (scan_walk.at E n)
  | 0 => fun _ _ _ h => h.elim
  | n + 1 => scan_walk.st_ok E hE _ ((scan_walk.at_ok E hE n).c ⟨_, Go.Proofs.Try.func63, by kernel_rfl, by kernel_rfl⟩)
theorem scan_walk_ok (E : Nat → Sm) (hE : ∀ f, SoundC Go.Proofs.Try.prog f (E f)) : Sound Go.Proofs.Try.prog 63 (scan_walk E) := Sound.ex (scan_walk.at_ok E hE)

/-! 64: cryostat/scan.Range$1 -/
def scan_Range_1.cx : Cx := ⟨tys, [], [], [], [], noDyn, []⟩
def scan_Range_1 : Sm := fun xs H Q => ∃ k, callK (scan_Range_1.cx) Go.Proofs.Try.f64 k xs H Q
theorem scan_Range_1_eq (k : Nat) (z0 : ByteArray) (z1 : ByteArray) (z2 : Nat) (z2o : Nat) (z3 : Nat) (z3o : Nat) (z4 : Nat) (z4o : Nat) (H : Hp) (Q : Post) : callK (scan_Range_1.cx) Go.Proofs.Try.f64 (k + 1) [.agg [.str z0, .str z1], .g (.ptr (some (z2, z2o))), .g (.ptr (some (z3, z3o))), .g (.ptr (some (z4, z4o)))] H Q = (
 rd H z2 z2o fun v0 =>
 dS v0 fun s1 =>
 bite (!(strLt z0 s1))
 (rd H z3 z3o fun v2 =>
  dS v2 fun s3 =>
  bite (strEq s3 (mkS []))
  (rd H z4 z4o fun v4 =>
   dL 2 v4 fun x5 n6 =>
   chk true (ap H 53 2 32 x5 n6 [(.str z0), (.str z1)] 1 fun x7 n8 H9 =>
   wr H9 z4 z4o (.sl x7 n8 2) fun H10 =>
   Q (.tup []) H10))
  (rd H z3 z3o fun v11 =>
   dS v11 fun s12 =>
   bite (strLt z0 s12)
   (rd H z4 z4o fun v13 =>
    dL 2 v13 fun x14 n15 =>
    chk true (ap H 53 2 32 x14 n15 [(.str z0), (.str z1)] 1 fun x16 n17 H18 =>
    wr H18 z4 z4o (.sl x16 n17 2) fun H19 =>
    Q (.tup []) H19))
   (Q (.tup []) H)))
 (Q (.tup []) H)) := by kernel_rfl
theorem scan_Range_1_ok : Sound Go.Proofs.Try.prog 64 (scan_Range_1) := prog_ok.sound (cx := scan_Range_1.cx) rfl (EnvOK.nil _) (noDyn_ok _) Go.Proofs.Try.func64 rfl

/-! 31: cryostat/scan.Range -/
def scan_Range.cx : Cx := ⟨tys, [3, 4, 5, 8], [], [], [(25, sound_Sound), (63, (scan_walk (dynOf [(64, scan_Range_1)])))], noDyn, [.tmp 6, .tmp 7]⟩
def scan_Range : Sm := fun xs H Q => ∃ k, callK (scan_Range.cx) Go.Proofs.Try.f31 k xs H Q
theorem scan_Range_eq (k : Nat) (z0 : Pl) (z0n : Nat) (z1 : ByteArray) (z2 : ByteArray) (H : Hp) (Q : Post) : callK (scan_Range.cx) Go.Proofs.Try.f31 (k + 1) [.agg [.sl z0 z0n 5], .g (.str z1), .g (.str z2)] H Q = (
 rd (pu (pu (pu H (.row true 34 [(.sl z0 z0n 5)])) (.row true 9 [(.str z1)])) (.row true 9 [(.str z2)])) (ln H) 0 fun v0 =>
 dL 5 v0 fun x1 n2 =>
 cl sound_Sound [(.agg [(.sl x1 n2 5)])] (pu (pu (pu H (.row true 34 [(.sl z0 z0n 5)])) (.row true 9 [(.str z1)])) (.row true 9 [(.str z2)])) fun r3 H4 =>
 rG r3 fun v5 =>
 dB v5 fun b6 =>
 bite (!b6)
 (Q (.tup [(.s (.sl none 0 2)), (.s (.int .i64 1400))]) H4)
 (cl (scan_walk (dynOf [(64, scan_Range_1)])) [(.g (.ptr (some ((ln H), 0)))), (.g (.int .i64 0)), (.g (.fn 64 [((ln (pu H (.row true 34 [(.sl z0 z0n 5)]))), 0), ((ln (pu (pu H (.row true 34 [(.sl z0 z0n 5)])) (.row true 9 [(.str z1)]))), 0), ((ln H4), 0)]))] (pu H4 (.row true 37 [(.sl none 0 2)])) fun r7 H8 =>
  rd H8 (ln H4) 0 fun v9 =>
  dL 2 v9 fun x10 n11 =>
  Q (.tup [(.s (.sl x10 n11 2)), (.s (.int .i64 0))]) H8)) := by kernel_rfl
theorem scan_Range_ok : Sound Go.Proofs.Try.prog 31 (scan_Range) := prog_ok.sound (cx := scan_Range.cx) rfl (EnvOK.cons ((sound_Sound_ok).c ⟨_, Go.Proofs.Try.func25, by kernel_rfl, by kernel_rfl⟩) (EnvOK.cons ((scan_walk_ok (dynOf [(64, scan_Range_1)]) (dynOf_ok (EnvOK.cons ((scan_Range_1_ok).c ⟨_, Go.Proofs.Try.func64, by kernel_rfl, by kernel_rfl⟩) (EnvOK.nil _)))).c ⟨_, Go.Proofs.Try.func63, by kernel_rfl, by kernel_rfl⟩) (EnvOK.nil _))) (noDyn_ok _) Go.Proofs.Try.func31 rfl

/-! 30: cryostat/scan.All -/
def scan_All.cx : Cx := ⟨tys, [], [], [], [(31, scan_Range)], noDyn, [.tmp 2, .tmp 3]⟩
def scan_All : Sm := fun xs H Q => ∃ k, callK (scan_All.cx) Go.Proofs.Try.f30 k xs H Q
theorem scan_All_eq (k : Nat) (z0 : Pl) (z0n : Nat) (H : Hp) (Q : Post) : callK (scan_All.cx) Go.Proofs.Try.f30 (k + 1) [.agg [.sl z0 z0n 5]] H Q = (
 cl scan_Range [(.agg [(.sl z0 z0n 5)]), (.g (.str (mkS []))), (.g (.str (mkS [])))] H fun r0 H1 =>
 rT r0 fun c2 =>
 uR c2 fun q3 c4 =>
 rS q3 fun v5 =>
 dL 2 v5 fun x6 n7 =>
 uR c4 fun q8 c9 =>
 rS q8 fun v10 =>
 dI .i64 v10 fun i11 =>
 uE c9 (Q (.tup [(.s (.sl x6 n7 2)), (.s (.int .i64 i11))]) H1)) := by kernel_rfl
theorem scan_All_ok : Sound Go.Proofs.Try.prog 30 (scan_All) := prog_ok.sound (cx := scan_All.cx) rfl (EnvOK.cons ((scan_Range_ok).c ⟨_, Go.Proofs.Try.func31, by kernel_rfl, by kernel_rfl⟩) (EnvOK.nil _)) (noDyn_ok _) Go.Proofs.Try.func30 rfl

/-! 32: cryostat/cryostatref9.Range -/
def ref9_Range.cx : Cx := ⟨tys, [], [(4, [1, 2, 8, 9, 10, 11])], [], [(27, ref9_All)], noDyn, [.tmp 6, .tmp 7]⟩
def ref9_Range : Sm := fun xs H Q => ∃ k, callK (ref9_Range.cx) Go.Proofs.Try.f32 k xs H Q
def ref9_Range.l4 (k : Nat) (sx0 : ByteArray) (sx1 : ByteArray) (xx2 : Pl) (nx3 : Nat) (ix4 : Int) (ax5 : Pl) (nx6 : Nat) (ix7 : Int) (H : Hp) (Q : Post) : Prop := loopK (ref9_Range.cx) Go.Proofs.Try.f32 4 k (.bad :: (.g (.str sx0)) :: (.g (.str sx1)) :: B 5 ((.g (.sl xx2 nx3 2)) :: (.g (.int .i64 ix4)) :: (.g (.sl ax5 nx6 2)) :: (.g (.int .i64 ix7)) :: B 40 ([]))) H Q
theorem ref9_Range_eq (k : Nat) (z0 : Pl) (z0n : Nat) (z1 : ByteArray) (z2 : ByteArray) (H : Hp) (Q : Post) : callK (ref9_Range.cx) Go.Proofs.Try.f32 (k + 1) [.agg [.sl z0 z0n 5], .g (.str z1), .g (.str z2)] H Q = (
 cl ref9_All [(.agg [(.sl z0 z0n 5)])] H fun r0 H1 =>
 rT r0 fun c2 =>
 uR c2 fun q3 c4 =>
 rS q3 fun v5 =>
 dL 2 v5 fun x6 n7 =>
 uR c4 fun q8 c9 =>
 rS q8 fun v10 =>
 dI .i64 v10 fun i11 =>
 uE c9 (ref9_Range.l4 k z1 z2 x6 n7 i11 none 0 0 H1 Q)) := by kernel_rfl
theorem ref9_Range.l4_eq (k : Nat) (sx0 : ByteArray) (sx1 : ByteArray) (xx2 : Pl) (nx3 : Nat) (ix4 : Int) (ax5 : Pl) (nx6 : Nat) (ix7 : Int) (H : Hp) (Q : Post) : ref9_Range.l4 (k + 1) sx0 sx1 xx2 nx3 ix4 ax5 nx6 ix7 H Q = (
 bite (ltI ix7 (nI nx3))
 (chk true (chk ((leI 0 ix7) && (ltI ix7 (nI nx3))) (pS xx2 fun n0 n1 =>
  rd H n0 ((n1 + ((tN ix7) * 2)) + 0) fun v2 =>
  dS v2 fun s3 =>
  bite (!(strLt s3 sx0))
  (bite (strEq sx1 (mkS []))
   (chk true (chk ((leI 0 ix7) && (ltI ix7 (nI nx3))) (pS xx2 fun n4 n5 =>
    rd H n4 (n5 + ((tN ix7) * 2)) fun v6 =>
    dS v6 fun s7 =>
    rd H n4 ((n5 + ((tN ix7) * 2)) + 1) fun v8 =>
    dS v8 fun s9 =>
    chk true (ap H 53 2 32 ax5 nx6 [(.str s7), (.str s9)] 1 fun x10 n11 H12 =>
    ref9_Range.l4 k sx0 sx1 xx2 nx3 ix4 x10 n11 (wrapI .i64 (ix7 + 1)) H12 Q))))
   (chk true (chk ((leI 0 ix7) && (ltI ix7 (nI nx3))) (pS xx2 fun n13 n14 =>
    rd H n13 ((n14 + ((tN ix7) * 2)) + 0) fun v15 =>
    dS v15 fun s16 =>
    bite (strLt s16 sx1)
    (chk true (chk ((leI 0 ix7) && (ltI ix7 (nI nx3))) (pS xx2 fun n17 n18 =>
     rd H n17 (n18 + ((tN ix7) * 2)) fun v19 =>
     dS v19 fun s20 =>
     rd H n17 ((n18 + ((tN ix7) * 2)) + 1) fun v21 =>
     dS v21 fun s22 =>
     chk true (ap H 53 2 32 ax5 nx6 [(.str s20), (.str s22)] 1 fun x23 n24 H25 =>
     ref9_Range.l4 k sx0 sx1 xx2 nx3 ix4 x23 n24 (wrapI .i64 (ix7 + 1)) H25 Q))))
    (ref9_Range.l4 k sx0 sx1 xx2 nx3 ix4 ax5 nx6 (wrapI .i64 (ix7 + 1)) H Q)))))
  (ref9_Range.l4 k sx0 sx1 xx2 nx3 ix4 ax5 nx6 (wrapI .i64 (ix7 + 1)) H Q))))
 (Q (.tup [(.s (.sl ax5 nx6 2)), (.s (.int .i64 ix4))]) H)) := by kernel_rfl
theorem ref9_Range_ok : Sound Go.Proofs.Try.prog 32 (ref9_Range) := prog_ok.sound (cx := ref9_Range.cx) rfl (EnvOK.cons ((ref9_All_ok).c ⟨_, Go.Proofs.Try.func27, by kernel_rfl, by kernel_rfl⟩) (EnvOK.nil _)) (noDyn_ok _) Go.Proofs.Try.func32 rfl

/-! 33: cryostat/cryostatlaw0.SamePairs -/
def law0_SamePairs.cx : Cx := ⟨tys, [], [(4, [0, 1, 5])], [], [], noDyn, [.tmp 4]⟩
def law0_SamePairs : Sm := fun xs H Q => ∃ k, callK (law0_SamePairs.cx) Go.Proofs.Try.f33 k xs H Q
def law0_SamePairs.l4 (k : Nat) (xx0 : Pl) (nx1 : Nat) (xx2 : Pl) (nx3 : Nat) (ix4 : Int) (H : Hp) (Q : Post) : Prop := loopK (law0_SamePairs.cx) Go.Proofs.Try.f33 4 k ((.g (.sl xx0 nx1 2)) :: (.g (.sl xx2 nx3 2)) :: B 3 ((.g (.int .i64 ix4)) :: B 20 ([]))) H Q
theorem law0_SamePairs_eq (k : Nat) (z0 : Pl) (z0n : Nat) (z1 : Pl) (z1n : Nat) (H : Hp) (Q : Post) : callK (law0_SamePairs.cx) Go.Proofs.Try.f33 (k + 1) [.g (.sl z0 z0n 2), .g (.sl z1 z1n 2)] H Q = (
 bite (!(eqI (nI z0n) (nI z1n)))
 (Q (.g (.bool false)) H)
 (law0_SamePairs.l4 k z0 z0n z1 z1n 0 H Q)) := by kernel_rfl
theorem law0_SamePairs.l4_eq (k : Nat) (xx0 : Pl) (nx1 : Nat) (xx2 : Pl) (nx3 : Nat) (ix4 : Int) (H : Hp) (Q : Post) : law0_SamePairs.l4 (k + 1) xx0 nx1 xx2 nx3 ix4 H Q = (
 bite (ltI ix4 (nI nx1))
 (chk true (chk ((leI 0 ix4) && (ltI ix4 (nI nx1))) (pS xx0 fun n0 n1 =>
  rd H n0 (n1 + ((tN ix4) * 2)) fun v2 =>
  dS v2 fun s3 =>
  rd H n0 ((n1 + ((tN ix4) * 2)) + 1) fun v4 =>
  dS v4 fun s5 =>
  chk true (chk ((leI 0 ix4) && (ltI ix4 (nI nx3))) (pS xx2 fun n6 n7 =>
  rd H n6 (n7 + ((tN ix4) * 2)) fun v8 =>
  dS v8 fun s9 =>
  rd H n6 ((n7 + ((tN ix4) * 2)) + 1) fun v10 =>
  dS v10 fun s11 =>
  bite (!((strEq s3 s9) && ((strEq s5 s11) && true)))
  (Q (.g (.bool false)) H)
  (law0_SamePairs.l4 k xx0 nx1 xx2 nx3 (wrapI .i64 (ix4 + 1)) H Q))))))
 (Q (.g (.bool true)) H)) := by kernel_rfl
theorem law0_SamePairs_ok : Sound Go.Proofs.Try.prog 33 (law0_SamePairs) := prog_ok.sound (cx := law0_SamePairs.cx) rfl (EnvOK.nil _) (noDyn_ok _) Go.Proofs.Try.func33 rfl

/-! 34: cryostat/cryostatlaw0.SpoilPairs -/
def law0_SpoilPairs.cx : Cx := ⟨tys, [], [(1, [0, 2])], [], [], noDyn, []⟩
def law0_SpoilPairs : Sm := fun xs H Q => ∃ k, callK (law0_SpoilPairs.cx) Go.Proofs.Try.f34 k xs H Q
def law0_SpoilPairs.l1 (k : Nat) (xx0 : Pl) (nx1 : Nat) (ix2 : Int) (H : Hp) (Q : Post) : Prop := loopK (law0_SpoilPairs.cx) Go.Proofs.Try.f34 1 k ((.g (.sl xx0 nx1 2)) :: .bad :: (.g (.int .i64 ix2)) :: B 10 ([])) H Q
theorem law0_SpoilPairs_eq (k : Nat) (z0 : Pl) (z0n : Nat) (H : Hp) (Q : Post) : callK (law0_SpoilPairs.cx) Go.Proofs.Try.f34 (k + 1) [.g (.sl z0 z0n 2)] H Q = (
 law0_SpoilPairs.l1 k z0 z0n 0 H Q) := by kernel_rfl
theorem law0_SpoilPairs.l1_eq (k : Nat) (xx0 : Pl) (nx1 : Nat) (ix2 : Int) (H : Hp) (Q : Post) : law0_SpoilPairs.l1 (k + 1) xx0 nx1 ix2 H Q = (
 bite (ltI ix2 (nI nx1))
 (chk true (chk ((leI 0 ix2) && (ltI ix2 (nI nx1))) (pS xx0 fun n0 n1 =>
  wr H n0 ((n1 + ((tN ix2) * 2)) + 0) (.str (mkS [115, 112, 111, 105, 108, 116])) fun H2 =>
  law0_SpoilPairs.l1 k xx0 nx1 (wrapI .i64 (ix2 + 1)) H2 Q)))
 (Q (.tup []) H)) := by kernel_rfl
theorem law0_SpoilPairs_ok : Sound Go.Proofs.Try.prog 34 (law0_SpoilPairs) := prog_ok.sound (cx := law0_SpoilPairs.cx) rfl (EnvOK.nil _) (noDyn_ok _) Go.Proofs.Try.func34 rfl

/-! 36: cryostat/cryostatlaw14.awake -/
def law14_awake.cx : Cx := ⟨tys, [16], [], [], [(38, ref9_Build), (30, scan_All), (31, scan_Range), (33, law0_SamePairs), (23, law0_Num)], noDyn, [.tmp 0]⟩
def law14_awake : Sm := fun xs H Q => ∃ k, callK (law14_awake.cx) Go.Proofs.Try.f36 k xs H Q
theorem law14_awake_eq (k : Nat)  (H : Hp) (Q : Post) : callK (law14_awake.cx) Go.Proofs.Try.f36 (k + 1) [] H Q = (
 cl ref9_Build [(.g (.sl (some ((ln H), 0)) 5 2))] (pu H (.row true 53 [(.str (mkS [97])), (.str (mkS [49])), (.str (mkS [98])), (.str (mkS [])), (.str (mkS [99])), (.str (mkS [51])), (.str (mkS [100])), (.str (mkS [])), (.str (mkS [101])), (.str (mkS [53]))])) fun r0 H1 =>
 rA r0 fun c2 =>
 uC c2 fun v3 c4 =>
 dL 5 v3 fun x5 n6 =>
 uN c4 (cl scan_All [(.agg [(.sl x5 n6 5)])] H1 fun r7 H8 =>
 rT r7 fun c9 =>
 uR c9 fun q10 c11 =>
 rS q10 fun v12 =>
 dL 2 v12 fun x13 n14 =>
 uR c11 fun q15 c16 =>
 rS q15 fun v17 =>
 dI .i64 v17 fun i18 =>
 uE c16 (cl scan_Range [(.agg [(.sl x5 n6 5)]), (.g (.str (mkS [98]))), (.g (.str (mkS [100])))] H8 fun r19 H20 =>
 rT r19 fun c21 =>
 uR c21 fun q22 c23 =>
 rS q22 fun v24 =>
 dL 2 v24 fun x25 n26 =>
 uR c23 fun q27 c28 =>
 rS q27 fun v29 =>
 dI .i64 v29 fun i30 =>
 uE c28 (cl scan_Range [(.agg [(.sl x5 n6 5)]), (.g (.str (mkS [100]))), (.g (.str (mkS [])))] H20 fun r31 H32 =>
 rT r31 fun c33 =>
 uR c33 fun q34 c35 =>
 rS q34 fun v36 =>
 dL 2 v36 fun x37 n38 =>
 uR c35 fun q39 c40 =>
 rS q39 fun v41 =>
 dI .i64 v41 fun i42 =>
 uE c40 (cl scan_All [(.agg [(.sl none 0 5)])] H32 fun r43 H44 =>
 rT r43 fun c45 =>
 uR c45 fun q46 c47 =>
 rS q46 fun v48 =>
 dL 2 v48 fun x49 n50 =>
 uR c47 fun q51 c52 =>
 rS q51 fun v53 =>
 dI .i64 v53 fun i54 =>
 uE c52 (cl law0_SamePairs [(.g (.sl x13 n14 2)), (.g (.sl (some ((ln H), 0)) 5 2))] H44 fun r55 H56 =>
 rG r55 fun v57 =>
 dB v57 fun b58 =>
 bite b58
 (cl law0_Num [(.g (.int .i64 i18))] H56 fun r59 H60 =>
  rG r59 fun v61 =>
  dI .i64 v61 fun i62 =>
  bite (eqI i62 0)
  (chk true (chk ((leN (tN 1) (tN 3)) && ((leN (tN 3) 5) || (room H60 (some ((ln H), 0)) ((tN 3) * 2)))) (cl law0_SamePairs [(.g (.sl x25 n26 2)), (.g (.sl (shf (some ((ln H), 0)) ((tN 1) * 2)) ((tN 3) - (tN 1)) 2))] H60 fun r63 H64 =>
   rG r63 fun v65 =>
   dB v65 fun b66 =>
   bite b66
   (cl law0_Num [(.g (.int .i64 i30))] H64 fun r67 H68 =>
    rG r67 fun v69 =>
    dI .i64 v69 fun i70 =>
    bite (eqI i70 0)
    (chk true (chk (leN (tN 3) 5) (cl law0_SamePairs [(.g (.sl x37 n38 2)), (.g (.sl (shf (some ((ln H), 0)) ((tN 3) * 2)) (5 - (tN 3)) 2))] H68 fun r71 H72 =>
     rG r71 fun v73 =>
     dB v73 fun b74 =>
     bite b74
     (cl law0_Num [(.g (.int .i64 i42))] H72 fun r75 H76 =>
      rG r75 fun v77 =>
      dI .i64 v77 fun i78 =>
      bite (eqI i78 0)
      (cl law0_Num [(.g (.int .i64 i54))] H76 fun r79 H80 =>
       rG r79 fun v81 =>
       dI .i64 v81 fun i82 =>
       Q (.g (.bool (eqI i82 1400))) H80)
      (Q (.g (.bool false)) H76))
     (Q (.g (.bool false)) H72))))
    (Q (.g (.bool false)) H68))
   (Q (.g (.bool false)) H64))))
  (Q (.g (.bool false)) H60))
 (Q (.g (.bool false)) H56))))))) := by kernel_rfl
theorem law14_awake_ok : Sound Go.Proofs.Try.prog 36 (law14_awake) := prog_ok.sound (cx := law14_awake.cx) rfl (EnvOK.cons ((ref9_Build_ok).c ⟨_, Go.Proofs.Try.func38, by kernel_rfl, by kernel_rfl⟩) (EnvOK.cons ((scan_All_ok).c ⟨_, Go.Proofs.Try.func30, by kernel_rfl, by kernel_rfl⟩) (EnvOK.cons ((scan_Range_ok).c ⟨_, Go.Proofs.Try.func31, by kernel_rfl, by kernel_rfl⟩) (EnvOK.cons ((law0_SamePairs_ok).c ⟨_, Go.Proofs.Try.func33, by kernel_rfl, by kernel_rfl⟩) (EnvOK.cons ((law0_Num_ok).c ⟨_, Go.Proofs.Try.func23, by kernel_rfl, by kernel_rfl⟩) (EnvOK.nil _)))))) (noDyn_ok _) Go.Proofs.Try.func36 rfl

/-! 5: cryostat/cryostatlaw14.Scans -/
def law14_Scans.cx : Cx := ⟨tys, [], [], [], [(29, law0_CopyTree), (30, scan_All), (27, ref9_All), (31, scan_Range), (32, ref9_Range), (33, law0_SamePairs), (23, law0_Num), (34, law0_SpoilPairs), (35, law0_SameTree), (36, law14_awake)], noDyn, [.tmp 6]⟩
def law14_Scans : Sm := fun xs H Q => ∃ k, callK (law14_Scans.cx) Go.Proofs.Try.f5 k xs H Q
theorem law14_Scans_eq (k : Nat) (z0 : Pl) (z0n : Nat) (z1 : ByteArray) (z2 : ByteArray) (H : Hp) (Q : Post) : callK (law14_Scans.cx) Go.Proofs.Try.f5 (k + 1) [.agg [.sl z0 z0n 5], .g (.str z1), .g (.str z2)] H Q = (
 cl law0_CopyTree [(.agg [(.sl z0 z0n 5)])] H fun r0 H1 =>
 rA r0 fun c2 =>
 uC c2 fun v3 c4 =>
 dL 5 v3 fun x5 n6 =>
 uN c4 (cl scan_All [(.agg [(.sl x5 n6 5)])] H1 fun r7 H8 =>
 rT r7 fun c9 =>
 uR c9 fun q10 c11 =>
 rS q10 fun v12 =>
 dL 2 v12 fun x13 n14 =>
 uR c11 fun q15 c16 =>
 rS q15 fun v17 =>
 dI .i64 v17 fun i18 =>
 uE c16 (cl ref9_All [(.agg [(.sl z0 z0n 5)])] H8 fun r19 H20 =>
 rT r19 fun c21 =>
 uR c21 fun q22 c23 =>
 rS q22 fun v24 =>
 dL 2 v24 fun x25 n26 =>
 uR c23 fun q27 c28 =>
 rS q27 fun v29 =>
 dI .i64 v29 fun i30 =>
 uE c28 (cl scan_Range [(.agg [(.sl x5 n6 5)]), (.g (.str z1)), (.g (.str z2))] H20 fun r31 H32 =>
 rT r31 fun c33 =>
 uR c33 fun q34 c35 =>
 rS q34 fun v36 =>
 dL 2 v36 fun x37 n38 =>
 uR c35 fun q39 c40 =>
 rS q39 fun v41 =>
 dI .i64 v41 fun i42 =>
 uE c40 (cl ref9_Range [(.agg [(.sl z0 z0n 5)]), (.g (.str z1)), (.g (.str z2))] H32 fun r43 H44 =>
 rT r43 fun c45 =>
 uR c45 fun q46 c47 =>
 rS q46 fun v48 =>
 dL 2 v48 fun x49 n50 =>
 uR c47 fun q51 c52 =>
 rS q51 fun v53 =>
 dI .i64 v53 fun i54 =>
 uE c52 (cl law0_SamePairs [(.g (.sl x13 n14 2)), (.g (.sl x25 n26 2))] H44 fun r55 H56 =>
 rG r55 fun v57 =>
 dB v57 fun b58 =>
 bite (!b58)
 (Q (.g (.bool false)) H56)
 (cl law0_Num [(.g (.int .i64 i18))] H56 fun r59 H60 =>
  rG r59 fun v61 =>
  dI .i64 v61 fun i62 =>
  bite (!(eqI i62 i30))
  (Q (.g (.bool false)) H60)
  (cl law0_SamePairs [(.g (.sl x37 n38 2)), (.g (.sl x49 n50 2))] H60 fun r63 H64 =>
   rG r63 fun v65 =>
   dB v65 fun b66 =>
   bite (!b66)
   (Q (.g (.bool false)) H64)
   (cl law0_Num [(.g (.int .i64 i42))] H64 fun r67 H68 =>
    rG r67 fun v69 =>
    dI .i64 v69 fun i70 =>
    bite (!(eqI i70 i54))
    (Q (.g (.bool false)) H68)
    (cl law0_SpoilPairs [(.g (.sl x13 n14 2))] H68 fun r71 H72 =>
     cl law0_SpoilPairs [(.g (.sl x37 n38 2))] H72 fun r73 H74 =>
     cl law0_SameTree [(.agg [(.sl x5 n6 5)]), (.agg [(.sl z0 z0n 5)])] H74 fun r75 H76 =>
     rG r75 fun v77 =>
     dB v77 fun b78 =>
     bite b78
     (cl law14_awake [] H76 fun r79 H80 =>
      rG r79 fun v81 =>
      dB v81 fun b82 =>
      Q (.g (.bool b82)) H80)
     (Q (.g (.bool false)) H76))))))))))) := by kernel_rfl
theorem law14_Scans_ok : Sound Go.Proofs.Try.prog 5 (law14_Scans) := prog_ok.sound (cx := law14_Scans.cx) rfl (EnvOK.cons ((law0_CopyTree_ok).c ⟨_, Go.Proofs.Try.func29, by kernel_rfl, by kernel_rfl⟩) (EnvOK.cons ((scan_All_ok).c ⟨_, Go.Proofs.Try.func30, by kernel_rfl, by kernel_rfl⟩) (EnvOK.cons ((ref9_All_ok).c ⟨_, Go.Proofs.Try.func27, by kernel_rfl, by kernel_rfl⟩) (EnvOK.cons ((scan_Range_ok).c ⟨_, Go.Proofs.Try.func31, by kernel_rfl, by kernel_rfl⟩) (EnvOK.cons ((ref9_Range_ok).c ⟨_, Go.Proofs.Try.func32, by kernel_rfl, by kernel_rfl⟩) (EnvOK.cons ((law0_SamePairs_ok).c ⟨_, Go.Proofs.Try.func33, by kernel_rfl, by kernel_rfl⟩) (EnvOK.cons ((law0_Num_ok).c ⟨_, Go.Proofs.Try.func23, by kernel_rfl, by kernel_rfl⟩) (EnvOK.cons ((law0_SpoilPairs_ok).c ⟨_, Go.Proofs.Try.func34, by kernel_rfl, by kernel_rfl⟩) (EnvOK.cons ((law0_SameTree_ok).c ⟨_, Go.Proofs.Try.func35, by kernel_rfl, by kernel_rfl⟩) (EnvOK.cons ((law14_awake_ok).c ⟨_, Go.Proofs.Try.func36, by kernel_rfl, by kernel_rfl⟩) (EnvOK.nil _))))))))))) (noDyn_ok _) Go.Proofs.Try.func5 rfl

/-! 6: cryostat/cryostatlaw14.ScanParts -/
def law14_ScanParts.cx : Cx := ⟨tys, [], [(13, [5, 8, 10, 11, 12])], [], [(36, law14_awake), (30, scan_All), (23, law0_Num), (31, scan_Range), (33, law0_SamePairs)], noDyn, [.tmp 4]⟩
def law14_ScanParts : Sm := fun xs H Q => ∃ k, callK (law14_ScanParts.cx) Go.Proofs.Try.f6 k xs H Q
def law14_ScanParts.l13 (k : Nat) (xx0 : Pl) (nx1 : Nat) (ix2 : Int) (ix3 : Int) (xx4 : Pl) (nx5 : Nat) (ix6 : Int) (H : Hp) (Q : Post) : Prop := loopK (law14_ScanParts.cx) Go.Proofs.Try.f6 13 k (B 5 ((.g (.sl xx0 nx1 2)) :: .bad :: .bad :: (.g (.int .i64 ix2)) :: .bad :: (.g (.int .i64 ix3)) :: (.g (.sl xx4 nx5 2)) :: (.g (.int .i64 ix6)) :: B 77 ([]))) H Q
theorem law14_ScanParts_eq (k : Nat) (z0 : Pl) (z0n : Nat) (z1 : ByteArray) (H : Hp) (Q : Post) : callK (law14_ScanParts.cx) Go.Proofs.Try.f6 (k + 1) [.agg [.sl z0 z0n 5], .g (.str z1)] H Q = (
 cl law14_awake [] H fun r0 H1 =>
 rG r0 fun v2 =>
 dB v2 fun b3 =>
 bite (!b3)
 (Q (.g (.bool false)) H1)
 (cl scan_All [(.agg [(.sl z0 z0n 5)])] H1 fun r4 H5 =>
  rT r4 fun c6 =>
  uR c6 fun q7 c8 =>
  rS q7 fun v9 =>
  dL 2 v9 fun x10 n11 =>
  uR c8 fun q12 c13 =>
  rS q12 fun v14 =>
  dI .i64 v14 fun i15 =>
  uE c13 (cl law0_Num [(.g (.int .i64 i15))] H5 fun r16 H17 =>
  rG r16 fun v18 =>
  dI .i64 v18 fun i19 =>
  bite (!(eqI i19 0))
  (Q (.g (.bool (eqI (nI n11) 0))) H17)
  (cl scan_Range [(.agg [(.sl z0 z0n 5)]), (.g (.str (mkS []))), (.g (.str z1))] H17 fun r20 H21 =>
   rT r20 fun c22 =>
   uR c22 fun q23 c24 =>
   rS q23 fun v25 =>
   dL 2 v25 fun x26 n27 =>
   uR c24 fun q28 c29 =>
   rS q28 fun v30 =>
   dI .i64 v30 fun i31 =>
   uE c29 (cl scan_Range [(.agg [(.sl z0 z0n 5)]), (.g (.str z1)), (.g (.str (mkS [])))] H21 fun r32 H33 =>
   rT r32 fun c34 =>
   uR c34 fun q35 c36 =>
   rS q35 fun v37 =>
   dL 2 v37 fun x38 n39 =>
   uR c36 fun q40 c41 =>
   rS q40 fun v42 =>
   dI .i64 v42 fun i43 =>
   uE c41 (bite (strEq z1 (mkS []))
   (cl law0_Num [(.g (.int .i64 i31))] H33 fun r44 H45 =>
    rG r44 fun v46 =>
    dI .i64 v46 fun i47 =>
    bite (eqI i47 0)
    (cl law0_SamePairs [(.g (.sl x26 n27 2)), (.g (.sl x10 n11 2))] H45 fun r48 H49 =>
     rG r48 fun v50 =>
     dB v50 fun b51 =>
     bite b51
     (cl law0_SamePairs [(.g (.sl x38 n39 2)), (.g (.sl x10 n11 2))] H49 fun r52 H53 =>
      rG r52 fun v54 =>
      dB v54 fun b55 =>
      Q (.g (.bool b55)) H53)
     (Q (.g (.bool false)) H49))
    (Q (.g (.bool false)) H45))
   (chk true (rdN H33 x26 (n27 * 2) fun c56 =>
    ap0 H33 53 2 32 c56 n27 fun H57 =>
    chk true (rdN H57 x38 (n39 * 2) fun c58 =>
    chk true (ap H57 53 2 32 (some ((ln H33), 0)) n27 c58 n39 fun x59 n60 H61 =>
    law14_ScanParts.l13 k x10 n11 i31 i43 x59 n60 1 H61 Q)))))))))) := by kernel_rfl
theorem law14_ScanParts.l13_eq (k : Nat) (xx0 : Pl) (nx1 : Nat) (ix2 : Int) (ix3 : Int) (xx4 : Pl) (nx5 : Nat) (ix6 : Int) (H : Hp) (Q : Post) : law14_ScanParts.l13 (k + 1) xx0 nx1 ix2 ix3 xx4 nx5 ix6 H Q = (
 bite (ltI ix6 (nI nx1))
 (chk true (chk ((leI 0 ix6) && (ltI ix6 (nI nx1))) (pS xx0 fun n0 n1 =>
  rd H n0 ((n1 + ((tN ix6) * 2)) + 0) fun v2 =>
  dS v2 fun s3 =>
  chk true (chk ((leI 0 (wrapI .i64 (ix6 - 1))) && (ltI (wrapI .i64 (ix6 - 1)) (nI nx1))) (pS xx0 fun n4 n5 =>
  rd H n4 ((n5 + ((tN (wrapI .i64 (ix6 - 1))) * 2)) + 0) fun v6 =>
  dS v6 fun s7 =>
  bite ((strLt s3 s7) || (strEq s3 s7))
  (Q (.g (.bool false)) H)
  (law14_ScanParts.l13 k xx0 nx1 ix2 ix3 xx4 nx5 (wrapI .i64 (ix6 + 1)) H Q))))))
 (cl law0_Num [(.g (.int .i64 ix2))] H fun r8 H9 =>
  rG r8 fun v10 =>
  dI .i64 v10 fun i11 =>
  bite (eqI i11 0)
  (cl law0_Num [(.g (.int .i64 ix3))] H9 fun r12 H13 =>
   rG r12 fun v14 =>
   dI .i64 v14 fun i15 =>
   bite (eqI i15 0)
   (cl law0_SamePairs [(.g (.sl xx4 nx5 2)), (.g (.sl xx0 nx1 2))] H13 fun r16 H17 =>
    rG r16 fun v18 =>
    dB v18 fun b19 =>
    Q (.g (.bool b19)) H17)
   (Q (.g (.bool false)) H13))
  (Q (.g (.bool false)) H9))) := by kernel_rfl
theorem law14_ScanParts_ok : Sound Go.Proofs.Try.prog 6 (law14_ScanParts) := prog_ok.sound (cx := law14_ScanParts.cx) rfl (EnvOK.cons ((law14_awake_ok).c ⟨_, Go.Proofs.Try.func36, by kernel_rfl, by kernel_rfl⟩) (EnvOK.cons ((scan_All_ok).c ⟨_, Go.Proofs.Try.func30, by kernel_rfl, by kernel_rfl⟩) (EnvOK.cons ((law0_Num_ok).c ⟨_, Go.Proofs.Try.func23, by kernel_rfl, by kernel_rfl⟩) (EnvOK.cons ((scan_Range_ok).c ⟨_, Go.Proofs.Try.func31, by kernel_rfl, by kernel_rfl⟩) (EnvOK.cons ((law0_SamePairs_ok).c ⟨_, Go.Proofs.Try.func33, by kernel_rfl, by kernel_rfl⟩) (EnvOK.nil _)))))) (noDyn_ok _) Go.Proofs.Try.func6 rfl

/-! 37: cryostat/cryostatlaw14.letters -/
def law14_letters.cx : Cx := ⟨tys, [12], [], [], [], noDyn, [.tmp 2]⟩
def law14_letters : Sm := fun xs H Q => ∃ k, callK (law14_letters.cx) Go.Proofs.Try.f37 k xs H Q
theorem law14_letters_eq (k : Nat) (z0 : Int) (H : Hp) (Q : Post) : callK (law14_letters.cx) Go.Proofs.Try.f37 (k + 1) [.g (.int .i64 z0)] H Q = (
 rdN (pu H (.row true 5 [(.int .u8 (wrapI .u8 (wrapI .i64 (97 + (bitsI .and .i64 (shrI .i64 z0 4) 15))))), (.int .u8 (wrapI .u8 (wrapI .i64 (97 + (bitsI .and .i64 z0 15)))))])) (some ((ln H), 0)) 2 fun c0 =>
 txt c0 fun s1 =>
 Q (.g (.str s1)) (pu H (.row true 5 [(.int .u8 (wrapI .u8 (wrapI .i64 (97 + (bitsI .and .i64 (shrI .i64 z0 4) 15))))), (.int .u8 (wrapI .u8 (wrapI .i64 (97 + (bitsI .and .i64 z0 15)))))]))) := by kernel_rfl
theorem law14_letters_ok : Sound Go.Proofs.Try.prog 37 (law14_letters) := prog_ok.sound (cx := law14_letters.cx) rfl (EnvOK.nil _) (noDyn_ok _) Go.Proofs.Try.func37 rfl

/-! 7: cryostat/cryostatlaw14.ScanRange -/
def law14_ScanRange.cx : Cx := ⟨tys, [], [(9, [7, 8, 9, 10, 11, 12])], [(6, [1, 2, 7])], [(36, law14_awake), (37, law14_letters), (38, ref9_Build), (31, scan_Range), (30, scan_All), (23, law0_Num), (33, law0_SamePairs)], noDyn, [.tmp 6]⟩
def law14_ScanRange : Sm := fun xs H Q => ∃ k, callK (law14_ScanRange.cx) Go.Proofs.Try.f7 k xs H Q
def law14_ScanRange.l6 (k : Nat) (ix0 : Int) (ix1 : Int) (ix2 : Int) (H : Hp) (Q : Post) : Prop := loopK (law14_ScanRange.cx) Go.Proofs.Try.f7 6 k (.bad :: (.g (.int .i64 ix0)) :: (.g (.int .i64 ix1)) :: B 4 ((.g (.int .i64 ix2)) :: B 79 ([]))) H Q
def law14_ScanRange.l9 (k : Nat) (ix0 : Int) (ax1 : Pl) (nx2 : Nat) (ax3 : Pl) (nx4 : Nat) (ix5 : Int) (ix6 : Int) (ix7 : Int) (H : Hp) (Q : Post) : Prop := loopK (law14_ScanRange.cx) Go.Proofs.Try.f7 9 k (B 7 ((.g (.int .i64 ix0)) :: (.g (.sl ax1 nx2 2)) :: (.g (.sl ax3 nx4 2)) :: (.g (.int .i64 ix5)) :: (.g (.int .i64 ix6)) :: (.g (.int .i64 ix7)) :: B 74 ([]))) H Q
theorem law14_ScanRange_eq (k : Nat) (z0 : Int) (z1 : Int) (z2 : Int) (H : Hp) (Q : Post) : callK (law14_ScanRange.cx) Go.Proofs.Try.f7 (k + 1) [.g (.int .i64 z0), .g (.int .i64 z1), .g (.int .i64 z2)] H Q = (
 cl law14_awake [] H fun r0 H1 =>
 rG r0 fun v2 =>
 dB v2 fun b3 =>
 bite (!b3)
 (Q (.g (.bool false)) H1)
 (bite (ltI 60 (bitsI .and .i64 z0 63))
  (law14_ScanRange.l6 k z1 z2 60 H1 Q)
  (law14_ScanRange.l6 k z1 z2 (bitsI .and .i64 z0 63) H1 Q))) := by kernel_rfl
theorem law14_ScanRange.l6_eq (k : Nat) (ix0 : Int) (ix1 : Int) (ix2 : Int) (H : Hp) (Q : Post) : law14_ScanRange.l6 (k + 1) ix0 ix1 ix2 H Q = (
 law14_ScanRange.l9 k ix2 none 0 none 0 (bitsI .and .i64 ix0 63) (bitsI .and .i64 ix1 63) 0 H Q) := by kernel_rfl
theorem law14_ScanRange.l9_eq (k : Nat) (ix0 : Int) (ax1 : Pl) (nx2 : Nat) (ax3 : Pl) (nx4 : Nat) (ix5 : Int) (ix6 : Int) (ix7 : Int) (H : Hp) (Q : Post) : law14_ScanRange.l9 (k + 1) ix0 ax1 nx2 ax3 nx4 ix5 ix6 ix7 H Q = (
 bite (ltI ix7 ix0)
 (cl law14_letters [(.g (.int .i64 ix7))] H fun r0 H1 =>
  rG r0 fun v2 =>
  dS v2 fun s3 =>
  chk true (ap H1 53 2 32 ax1 nx2 [(.str s3), (.str (mkS [118]))] 1 fun x4 n5 H6 =>
  bite (leI ix5 ix7)
  (bite (ltI ix7 ix6)
   (chk true (ap H6 53 2 32 ax3 nx4 [(.str s3), (.str (mkS [118]))] 1 fun x7 n8 H9 =>
    law14_ScanRange.l9 k ix0 x4 n5 x7 n8 ix5 ix6 (wrapI .i64 (ix7 + 1)) H9 Q))
   (law14_ScanRange.l9 k ix0 x4 n5 ax3 nx4 ix5 ix6 (wrapI .i64 (ix7 + 1)) H6 Q))
  (law14_ScanRange.l9 k ix0 x4 n5 ax3 nx4 ix5 ix6 (wrapI .i64 (ix7 + 1)) H6 Q)))
 (cl ref9_Build [(.g (.sl ax1 nx2 2))] H fun r10 H11 =>
  rA r10 fun c12 =>
  uC c12 fun v13 c14 =>
  dL 5 v13 fun x15 n16 =>
  uN c14 (cl law14_letters [(.g (.int .i64 ix5))] H11 fun r17 H18 =>
  rG r17 fun v19 =>
  dS v19 fun s20 =>
  cl law14_letters [(.g (.int .i64 ix6))] H18 fun r21 H22 =>
  rG r21 fun v23 =>
  dS v23 fun s24 =>
  cl scan_Range [(.agg [(.sl x15 n16 5)]), (.g (.str s20)), (.g (.str s24))] H22 fun r25 H26 =>
  rT r25 fun c27 =>
  uR c27 fun q28 c29 =>
  rS q28 fun v30 =>
  dL 2 v30 fun x31 n32 =>
  uR c29 fun q33 c34 =>
  rS q33 fun v35 =>
  dI .i64 v35 fun i36 =>
  uE c34 (cl scan_All [(.agg [(.sl x15 n16 5)])] H26 fun r37 H38 =>
  rT r37 fun c39 =>
  uR c39 fun q40 c41 =>
  rS q40 fun v42 =>
  dL 2 v42 fun x43 n44 =>
  uR c41 fun q45 c46 =>
  rS q45 fun v47 =>
  dI .i64 v47 fun i48 =>
  uE c46 (cl law0_Num [(.g (.int .i64 i36))] H38 fun r49 H50 =>
  rG r49 fun v51 =>
  dI .i64 v51 fun i52 =>
  bite (eqI i52 0)
  (cl law0_SamePairs [(.g (.sl x31 n32 2)), (.g (.sl ax3 nx4 2))] H50 fun r53 H54 =>
   rG r53 fun v55 =>
   dB v55 fun b56 =>
   bite b56
   (cl law0_Num [(.g (.int .i64 i48))] H54 fun r57 H58 =>
    rG r57 fun v59 =>
    dI .i64 v59 fun i60 =>
    bite (eqI i60 0)
    (cl law0_SamePairs [(.g (.sl x43 n44 2)), (.g (.sl ax1 nx2 2))] H58 fun r61 H62 =>
     rG r61 fun v63 =>
     dB v63 fun b64 =>
     Q (.g (.bool b64)) H62)
    (Q (.g (.bool false)) H58))
   (Q (.g (.bool false)) H54))
  (Q (.g (.bool false)) H50)))))) := by kernel_rfl
theorem law14_ScanRange_ok : Sound Go.Proofs.Try.prog 7 (law14_ScanRange) := prog_ok.sound (cx := law14_ScanRange.cx) rfl (EnvOK.cons ((law14_awake_ok).c ⟨_, Go.Proofs.Try.func36, by kernel_rfl, by kernel_rfl⟩) (EnvOK.cons ((law14_letters_ok).c ⟨_, Go.Proofs.Try.func37, by kernel_rfl, by kernel_rfl⟩) (EnvOK.cons ((ref9_Build_ok).c ⟨_, Go.Proofs.Try.func38, by kernel_rfl, by kernel_rfl⟩) (EnvOK.cons ((scan_Range_ok).c ⟨_, Go.Proofs.Try.func31, by kernel_rfl, by kernel_rfl⟩) (EnvOK.cons ((scan_All_ok).c ⟨_, Go.Proofs.Try.func30, by kernel_rfl, by kernel_rfl⟩) (EnvOK.cons ((law0_Num_ok).c ⟨_, Go.Proofs.Try.func23, by kernel_rfl, by kernel_rfl⟩) (EnvOK.cons ((law0_SamePairs_ok).c ⟨_, Go.Proofs.Try.func33, by kernel_rfl, by kernel_rfl⟩) (EnvOK.nil _)))))))) (noDyn_ok _) Go.Proofs.Try.func7 rfl

/-! 21: cryostat/node.Slot -/
def node_Slot.cx : Cx := ⟨tys, [], [(3, [0, 1, 6, 9, 10, 11])], [], [], noDyn, [.tmp 4, .tmp 5]⟩
def node_Slot : Sm := fun xs H Q => ∃ k, callK (node_Slot.cx) Go.Proofs.Try.f21 k xs H Q
def node_Slot.l3 (k : Nat) (xx0 : Pl) (nx1 : Nat) (sx2 : ByteArray) (ix3 : Int) (xx4 : Pl) (nx5 : Nat) (ix6 : Int) (ix7 : Int) (H : Hp) (Q : Post) : Prop := loopK (node_Slot.cx) Go.Proofs.Try.f21 3 k ((.g (.sl xx0 nx1 1)) :: (.g (.str sx2)) :: B 4 ((.g (.int .i64 ix3)) :: .bad :: .bad :: (.g (.sl xx4 nx5 1)) :: (.g (.int .i64 ix6)) :: (.g (.int .i64 ix7)) :: B 22 ([]))) H Q
theorem node_Slot_eq (k : Nat) (z0 : Pl) (z0n : Nat) (z1 : ByteArray) (H : Hp) (Q : Post) : callK (node_Slot.cx) Go.Proofs.Try.f21 (k + 1) [.g (.sl z0 z0n 1), .g (.str z1)] H Q = (
 node_Slot.l3 k z0 z0n z1 0 z0 z0n (nI z0n) 0 H Q) := by kernel_rfl
theorem node_Slot.l3_eq (k : Nat) (xx0 : Pl) (nx1 : Nat) (sx2 : ByteArray) (ix3 : Int) (xx4 : Pl) (nx5 : Nat) (ix6 : Int) (ix7 : Int) (H : Hp) (Q : Post) : node_Slot.l3 (k + 1) xx0 nx1 sx2 ix3 xx4 nx5 ix6 ix7 H Q = (
 bite (ltI ix7 ix6)
 (chk true (chk ((leI 0 ix7) && (ltI ix7 (nI nx5))) (pS xx4 fun n0 n1 =>
  rd H n0 (n1 + ((tN ix7) * 1)) fun v2 =>
  dS v2 fun s3 =>
  bite (strLt s3 sx2)
  (node_Slot.l3 k xx0 nx1 sx2 (wrapI .i64 (ix3 + 1)) xx4 nx5 ix6 (wrapI .i64 (ix7 + 1)) H Q)
  (node_Slot.l3 k xx0 nx1 sx2 ix3 xx4 nx5 ix6 (wrapI .i64 (ix7 + 1)) H Q))))
 (bite (ltI ix3 (nI nx1))
  (chk true (chk ((leI 0 ix3) && (ltI ix3 (nI nx1))) (pS xx0 fun n4 n5 =>
   rd H n4 (n5 + ((tN ix3) * 1)) fun v6 =>
   dS v6 fun s7 =>
   Q (.tup [(.s (.int .i64 ix3)), (.s (.bool (strEq s7 sx2)))]) H)))
  (Q (.tup [(.s (.int .i64 ix3)), (.s (.bool false))]) H))) := by kernel_rfl
theorem node_Slot_ok : Sound Go.Proofs.Try.prog 21 (node_Slot) := prog_ok.sound (cx := node_Slot.cx) rfl (EnvOK.nil _) (noDyn_ok _) Go.Proofs.Try.func21 rfl

/-! 68: cryostat/find.Kid -/
def find_Kid.cx : Cx := ⟨tys, [], [], [], [(21, node_Slot)], noDyn, [.tmp 4]⟩
def find_Kid : Sm := fun xs H Q => ∃ k, callK (find_Kid.cx) Go.Proofs.Try.f68 k xs H Q
theorem find_Kid_eq (k : Nat) (z0 : Pl) (z1 : ByteArray) (H : Hp) (Q : Post) : callK (find_Kid.cx) Go.Proofs.Try.f68 (k + 1) [.g (.ptr z0), .g (.str z1)] H Q = (
 pS z0 fun n0 n1 =>
 rd H n0 (n1 + 2) fun v2 =>
 dL 1 v2 fun x3 n4 =>
 cl node_Slot [(.g (.sl x3 n4 1)), (.g (.str z1))] H fun r5 H6 =>
 rT r5 fun c7 =>
 uR c7 fun q8 c9 =>
 rS q8 fun v10 =>
 dI .i64 v10 fun i11 =>
 uR c9 fun q12 c13 =>
 rS q12 fun v14 =>
 dB v14 fun b15 =>
 uE c13 (bite b15
 (Q (.g (.int .i64 (wrapI .i64 (i11 + 1)))) H6)
 (Q (.g (.int .i64 i11)) H6))) := by kernel_rfl
theorem find_Kid_ok : Sound Go.Proofs.Try.prog 68 (find_Kid) := prog_ok.sound (cx := find_Kid.cx) rfl (EnvOK.cons ((node_Slot_ok).c ⟨_, Go.Proofs.Try.func21, by kernel_rfl, by kernel_rfl⟩) (EnvOK.nil _)) (noDyn_ok _) Go.Proofs.Try.func68 rfl

/-! 40: cryostat/find.Find -/
def find_Find.cx : Cx := ⟨tys, [], [(4, [1, 2, 7])], [], [(25, sound_Sound), (68, find_Kid), (21, node_Slot)], noDyn, [.tmp 4, .tmp 5, .tmp 6]⟩
def find_Find : Sm := fun xs H Q => ∃ k, callK (find_Find.cx) Go.Proofs.Try.f40 k xs H Q
def find_Find.l4 (k : Nat) (sx0 : ByteArray) (xx1 : Pl) (nx2 : Nat) (nx3 : Nat) (nx4 : Nat) (H : Hp) (Q : Post) : Prop := loopK (find_Find.cx) Go.Proofs.Try.f40 4 k (.bad :: (.g (.str sx0)) :: (.bx [(.sl xx1 nx2 5)]) :: B 4 ((.g (.ptr (some (nx3, nx4)))) :: B 43 ([]))) H Q
theorem find_Find_eq (k : Nat) (z0 : Pl) (z0n : Nat) (z1 : ByteArray) (H : Hp) (Q : Post) : callK (find_Find.cx) Go.Proofs.Try.f40 (k + 1) [.agg [.sl z0 z0n 5], .g (.str z1)] H Q = (
 cl sound_Sound [(.agg [(.sl z0 z0n 5)])] H fun r0 H1 =>
 rG r0 fun v2 =>
 dB v2 fun b3 =>
 bite (!b3)
 (Q (.tup [(.s (.str (mkS []))), (.s (.bool false)), (.s (.int .i64 1100))]) H1)
 (chk true (chk ((leI 0 0) && (ltI 0 (nI z0n))) (pS z0 fun n4 n5 =>
  find_Find.l4 k z1 z0 z0n n4 (n5 + ((tN 0) * 5)) H1 Q)))) := by kernel_rfl
theorem find_Find.l4_eq (k : Nat) (sx0 : ByteArray) (xx1 : Pl) (nx2 : Nat) (nx3 : Nat) (nx4 : Nat) (H : Hp) (Q : Post) : find_Find.l4 (k + 1) sx0 xx1 nx2 nx3 nx4 H Q = (
 rd H nx3 (nx4 + 1) fun v0 =>
 dB v0 fun b1 =>
 bite (!b1)
 (rd H nx3 (nx4 + 4) fun v2 =>
  dL 1 v2 fun x3 n4 =>
  cl find_Kid [(.g (.ptr (some (nx3, nx4)))), (.g (.str sx0))] H fun r5 H6 =>
  rG r5 fun v7 =>
  dI .i64 v7 fun i8 =>
  rd H6 nx3 (nx4 + 4) fun v9 =>
  dL 1 v9 fun x10 n11 =>
  eqv (.g (.sl x3 n4 1)) (.g (.sl x10 n11 1)) (chk true (chk ((leI 0 i8) && (ltI i8 (nI n4))) (pS x3 fun n12 n13 =>
  rd H6 n12 (n13 + ((tN i8) * 1)) fun v14 =>
  dI .i64 v14 fun i15 =>
  chk true (chk ((leI 0 i15) && (ltI i15 (nI nx2))) (pS xx1 fun n16 n17 =>
  find_Find.l4 k sx0 xx1 nx2 n16 (n17 + ((tN i15) * 5)) H6 Q))))))
 (rd H nx3 (nx4 + 2) fun v18 =>
  dL 1 v18 fun x19 n20 =>
  cl node_Slot [(.g (.sl x19 n20 1)), (.g (.str sx0))] H fun r21 H22 =>
  rT r21 fun c23 =>
  uR c23 fun q24 c25 =>
  rS q24 fun v26 =>
  dI .i64 v26 fun i27 =>
  uR c25 fun q28 c29 =>
  rS q28 fun v30 =>
  dB v30 fun b31 =>
  uE c29 (bite (!b31)
  (Q (.tup [(.s (.str (mkS []))), (.s (.bool false)), (.s (.int .i64 0))]) H22)
  (rd H22 nx3 (nx4 + 3) fun v32 =>
   dL 1 v32 fun x33 n34 =>
   chk true (chk ((leI 0 i27) && (ltI i27 (nI n34))) (pS x33 fun n35 n36 =>
   rd H22 n35 (n36 + ((tN i27) * 1)) fun v37 =>
   dS v37 fun s38 =>
   Q (.tup [(.s (.str s38)), (.s (.bool true)), (.s (.int .i64 0))]) H22)))))) := by kernel_rfl
theorem find_Find_ok : Sound Go.Proofs.Try.prog 40 (find_Find) := prog_ok.sound (cx := find_Find.cx) rfl (EnvOK.cons ((sound_Sound_ok).c ⟨_, Go.Proofs.Try.func25, by kernel_rfl, by kernel_rfl⟩) (EnvOK.cons ((find_Kid_ok).c ⟨_, Go.Proofs.Try.func68, by kernel_rfl, by kernel_rfl⟩) (EnvOK.cons ((node_Slot_ok).c ⟨_, Go.Proofs.Try.func21, by kernel_rfl, by kernel_rfl⟩) (EnvOK.nil _)))) (noDyn_ok _) Go.Proofs.Try.func40 rfl

/-! 41: cryostat/cryostatref9.Find -/
def ref9_Find.cx : Cx := ⟨tys, [], [(5, [1, 7, 9])], [], [(27, ref9_All)], noDyn, [.tmp 4, .tmp 5, .tmp 6]⟩
def ref9_Find : Sm := fun xs H Q => ∃ k, callK (ref9_Find.cx) Go.Proofs.Try.f41 k xs H Q
def ref9_Find.l5 (k : Nat) (sx0 : ByteArray) (xx1 : Pl) (nx2 : Nat) (ix3 : Int) (H : Hp) (Q : Post) : Prop := loopK (ref9_Find.cx) Go.Proofs.Try.f41 5 k (.bad :: (.g (.str sx0)) :: B 5 ((.g (.sl xx1 nx2 2)) :: .bad :: (.g (.int .i64 ix3)) :: B 25 ([]))) H Q
theorem ref9_Find_eq (k : Nat) (z0 : Pl) (z0n : Nat) (z1 : ByteArray) (H : Hp) (Q : Post) : callK (ref9_Find.cx) Go.Proofs.Try.f41 (k + 1) [.agg [.sl z0 z0n 5], .g (.str z1)] H Q = (
 cl ref9_All [(.agg [(.sl z0 z0n 5)])] H fun r0 H1 =>
 rT r0 fun c2 =>
 uR c2 fun q3 c4 =>
 rS q3 fun v5 =>
 dL 2 v5 fun x6 n7 =>
 uR c4 fun q8 c9 =>
 rS q8 fun v10 =>
 dI .i64 v10 fun i11 =>
 uE c9 (bite (!(eqI i11 0))
 (Q (.tup [(.s (.str (mkS []))), (.s (.bool false)), (.s (.int .i64 1100))]) H1)
 (ref9_Find.l5 k z1 x6 n7 0 H1 Q))) := by kernel_rfl
theorem ref9_Find.l5_eq (k : Nat) (sx0 : ByteArray) (xx1 : Pl) (nx2 : Nat) (ix3 : Int) (H : Hp) (Q : Post) : ref9_Find.l5 (k + 1) sx0 xx1 nx2 ix3 H Q = (
 bite (ltI ix3 (nI nx2))
 (chk true (chk ((leI 0 ix3) && (ltI ix3 (nI nx2))) (pS xx1 fun n0 n1 =>
  rd H n0 ((n1 + ((tN ix3) * 2)) + 0) fun v2 =>
  dS v2 fun s3 =>
  bite (strEq s3 sx0)
  (chk true (chk ((leI 0 ix3) && (ltI ix3 (nI nx2))) (pS xx1 fun n4 n5 =>
   rd H n4 ((n5 + ((tN ix3) * 2)) + 1) fun v6 =>
   dS v6 fun s7 =>
   Q (.tup [(.s (.str s7)), (.s (.bool true)), (.s (.int .i64 0))]) H)))
  (ref9_Find.l5 k sx0 xx1 nx2 (wrapI .i64 (ix3 + 1)) H Q))))
 (Q (.tup [(.s (.str (mkS []))), (.s (.bool false)), (.s (.int .i64 0))]) H)) := by kernel_rfl
theorem ref9_Find_ok : Sound Go.Proofs.Try.prog 41 (ref9_Find) := prog_ok.sound (cx := ref9_Find.cx) rfl (EnvOK.cons ((ref9_All_ok).c ⟨_, Go.Proofs.Try.func27, by kernel_rfl, by kernel_rfl⟩) (EnvOK.nil _)) (noDyn_ok _) Go.Proofs.Try.func41 rfl

/-! 42: cryostat/cryostatlaw11.awake -/
def law11_awake.cx : Cx := ⟨tys, [], [], [], [(38, ref9_Build), (40, find_Find), (23, law0_Num)], noDyn, [.tmp 0]⟩
def law11_awake : Sm := fun xs H Q => ∃ k, callK (law11_awake.cx) Go.Proofs.Try.f42 k xs H Q
theorem law11_awake_eq (k : Nat)  (H : Hp) (Q : Post) : callK (law11_awake.cx) Go.Proofs.Try.f42 (k + 1) [] H Q = (
 cl ref9_Build [(.g (.sl (some ((ln H), 0)) 5 2))] (pu H (.row false 0 [(.str (mkS [97])), (.str (mkS [49])), (.str (mkS [98])), (.str (mkS [])), (.str (mkS [99])), (.str (mkS [51])), (.str (mkS [100])), (.str (mkS [])), (.str (mkS [101])), (.str (mkS [53]))])) fun r0 H1 =>
 rA r0 fun c2 =>
 uC c2 fun v3 c4 =>
 dL 5 v3 fun x5 n6 =>
 uN c4 (cl find_Find [(.agg [(.sl x5 n6 5)]), (.g (.str (mkS [101])))] H1 fun r7 H8 =>
 rT r7 fun c9 =>
 uR c9 fun q10 c11 =>
 rS q10 fun v12 =>
 dS v12 fun s13 =>
 uR c11 fun q14 c15 =>
 rS q14 fun v16 =>
 dB v16 fun b17 =>
 uR c15 fun q18 c19 =>
 rS q18 fun v20 =>
 dI .i64 v20 fun i21 =>
 uE c19 (cl find_Find [(.agg [(.sl x5 n6 5)]), (.g (.str (mkS [98, 98])))] H8 fun r22 H23 =>
 rT r22 fun c24 =>
 uR c24 fun q25 c26 =>
 rS q25 fun v27 =>
 dS v27 fun s28 =>
 uR c26 fun q29 c30 =>
 rS q29 fun v31 =>
 dB v31 fun b32 =>
 uR c30 fun q33 c34 =>
 rS q33 fun v35 =>
 dI .i64 v35 fun i36 =>
 uE c34 (cl find_Find [(.agg [(.sl none 0 5)]), (.g (.str (mkS [97])))] H23 fun r37 H38 =>
 rT r37 fun c39 =>
 uR c39 fun q40 c41 =>
 rS q40 fun v42 =>
 dS v42 fun s43 =>
 uR c41 fun q44 c45 =>
 rS q44 fun v46 =>
 dB v46 fun b47 =>
 uR c45 fun q48 c49 =>
 rS q48 fun v50 =>
 dI .i64 v50 fun i51 =>
 uE c49 (bite (strEq s13 (mkS [53]))
 (bite b17
  (cl law0_Num [(.g (.int .i64 i21))] H38 fun r52 H53 =>
   rG r52 fun v54 =>
   dI .i64 v54 fun i55 =>
   bite (eqI i55 0)
   (bite (!b32)
    (cl law0_Num [(.g (.int .i64 i36))] H53 fun r56 H57 =>
     rG r56 fun v58 =>
     dI .i64 v58 fun i59 =>
     bite (eqI i59 0)
     (cl law0_Num [(.g (.int .i64 i51))] H57 fun r60 H61 =>
      rG r60 fun v62 =>
      dI .i64 v62 fun i63 =>
      Q (.g (.bool (eqI i63 1100))) H61)
     (Q (.g (.bool false)) H57))
    (Q (.g (.bool false)) H53))
   (Q (.g (.bool false)) H53))
  (Q (.g (.bool false)) H38))
 (Q (.g (.bool false)) H38)))))) := by kernel_rfl
theorem law11_awake_ok : Sound Go.Proofs.Try.prog 42 (law11_awake) := prog_ok.sound (cx := law11_awake.cx) rfl (EnvOK.cons ((ref9_Build_ok).c ⟨_, Go.Proofs.Try.func38, by kernel_rfl, by kernel_rfl⟩) (EnvOK.cons ((find_Find_ok).c ⟨_, Go.Proofs.Try.func40, by kernel_rfl, by kernel_rfl⟩) (EnvOK.cons ((law0_Num_ok).c ⟨_, Go.Proofs.Try.func23, by kernel_rfl, by kernel_rfl⟩) (EnvOK.nil _)))) (noDyn_ok _) Go.Proofs.Try.func42 rfl

/-! 9: cryostat/cryostatlaw11.Finds -/
def law11_Finds.cx : Cx := ⟨tys, [], [], [], [(29, law0_CopyTree), (40, find_Find), (41, ref9_Find), (23, law0_Num), (35, law0_SameTree), (42, law11_awake)], noDyn, [.tmp 4]⟩
def law11_Finds : Sm := fun xs H Q => ∃ k, callK (law11_Finds.cx) Go.Proofs.Try.f9 k xs H Q
theorem law11_Finds_eq (k : Nat) (z0 : Pl) (z0n : Nat) (z1 : ByteArray) (H : Hp) (Q : Post) : callK (law11_Finds.cx) Go.Proofs.Try.f9 (k + 1) [.agg [.sl z0 z0n 5], .g (.str z1)] H Q = (
 cl law0_CopyTree [(.agg [(.sl z0 z0n 5)])] H fun r0 H1 =>
 rA r0 fun c2 =>
 uC c2 fun v3 c4 =>
 dL 5 v3 fun x5 n6 =>
 uN c4 (cl find_Find [(.agg [(.sl x5 n6 5)]), (.g (.str z1))] H1 fun r7 H8 =>
 rT r7 fun c9 =>
 uR c9 fun q10 c11 =>
 rS q10 fun v12 =>
 dS v12 fun s13 =>
 uR c11 fun q14 c15 =>
 rS q14 fun v16 =>
 dB v16 fun b17 =>
 uR c15 fun q18 c19 =>
 rS q18 fun v20 =>
 dI .i64 v20 fun i21 =>
 uE c19 (cl ref9_Find [(.agg [(.sl z0 z0n 5)]), (.g (.str z1))] H8 fun r22 H23 =>
 rT r22 fun c24 =>
 uR c24 fun q25 c26 =>
 rS q25 fun v27 =>
 dS v27 fun s28 =>
 uR c26 fun q29 c30 =>
 rS q29 fun v31 =>
 dB v31 fun b32 =>
 uR c30 fun q33 c34 =>
 rS q33 fun v35 =>
 dI .i64 v35 fun i36 =>
 uE c34 (bite (strEq s13 s28)
 (bite (eqB b17 b32)
  (cl law0_Num [(.g (.int .i64 i21))] H23 fun r37 H38 =>
   rG r37 fun v39 =>
   dI .i64 v39 fun i40 =>
   bite (eqI i40 i36)
   (cl law0_SameTree [(.agg [(.sl x5 n6 5)]), (.agg [(.sl z0 z0n 5)])] H38 fun r41 H42 =>
    rG r41 fun v43 =>
    dB v43 fun b44 =>
    bite b44
    (cl law11_awake [] H42 fun r45 H46 =>
     rG r45 fun v47 =>
     dB v47 fun b48 =>
     Q (.g (.bool b48)) H46)
    (Q (.g (.bool false)) H42))
   (Q (.g (.bool false)) H38))
  (Q (.g (.bool false)) H23))
 (Q (.g (.bool false)) H23))))) := by kernel_rfl
theorem law11_Finds_ok : Sound Go.Proofs.Try.prog 9 (law11_Finds) := prog_ok.sound (cx := law11_Finds.cx) rfl (EnvOK.cons ((law0_CopyTree_ok).c ⟨_, Go.Proofs.Try.func29, by kernel_rfl, by kernel_rfl⟩) (EnvOK.cons ((find_Find_ok).c ⟨_, Go.Proofs.Try.func40, by kernel_rfl, by kernel_rfl⟩) (EnvOK.cons ((ref9_Find_ok).c ⟨_, Go.Proofs.Try.func41, by kernel_rfl, by kernel_rfl⟩) (EnvOK.cons ((law0_Num_ok).c ⟨_, Go.Proofs.Try.func23, by kernel_rfl, by kernel_rfl⟩) (EnvOK.cons ((law0_SameTree_ok).c ⟨_, Go.Proofs.Try.func35, by kernel_rfl, by kernel_rfl⟩) (EnvOK.cons ((law11_awake_ok).c ⟨_, Go.Proofs.Try.func42, by kernel_rfl, by kernel_rfl⟩) (EnvOK.nil _))))))) (noDyn_ok _) Go.Proofs.Try.func9 rfl

/-! 10: cryostat/cryostatlaw11.FindAll -/
def law11_FindAll.cx : Cx := ⟨tys, [], [(9, [1, 2, 5, 10, 11])], [], [(42, law11_awake), (27, ref9_All), (40, find_Find), (23, law0_Num)], noDyn, [.tmp 4]⟩
def law11_FindAll : Sm := fun xs H Q => ∃ k, callK (law11_FindAll.cx) Go.Proofs.Try.f10 k xs H Q
def law11_FindAll.l9 (k : Nat) (sx0 : ByteArray) (xx1 : Pl) (nx2 : Nat) (xx3 : Pl) (nx4 : Nat) (bx5 : Bool) (ix6 : Int) (H : Hp) (Q : Post) : Prop := loopK (law11_FindAll.cx) Go.Proofs.Try.f10 9 k (.bad :: (.g (.str sx0)) :: (.bx [(.sl xx1 nx2 5)]) :: .bad :: .bad :: (.g (.sl xx3 nx4 2)) :: B 4 ((.g (.bool bx5)) :: (.g (.int .i64 ix6)) :: B 115 ([]))) H Q
theorem law11_FindAll_eq (k : Nat) (z0 : Pl) (z0n : Nat) (z1 : ByteArray) (H : Hp) (Q : Post) : callK (law11_FindAll.cx) Go.Proofs.Try.f10 (k + 1) [.agg [.sl z0 z0n 5], .g (.str z1)] H Q = (
 cl law11_awake [] H fun r0 H1 =>
 rG r0 fun v2 =>
 dB v2 fun b3 =>
 bite (!b3)
 (Q (.g (.bool false)) H1)
 (cl ref9_All [(.agg [(.sl z0 z0n 5)])] H1 fun r4 H5 =>
  rT r4 fun c6 =>
  uR c6 fun q7 c8 =>
  rS q7 fun v9 =>
  dL 2 v9 fun x10 n11 =>
  uR c8 fun q12 c13 =>
  rS q12 fun v14 =>
  dI .i64 v14 fun i15 =>
  uE c13 (bite (!(eqI i15 0))
  (cl find_Find [(.agg [(.sl z0 z0n 5)]), (.g (.str z1))] H5 fun r16 H17 =>
   rT r16 fun c18 =>
   uR c18 fun q19 c20 =>
   rS q19 fun v21 =>
   dS v21 fun s22 =>
   uR c20 fun q23 c24 =>
   rS q23 fun v25 =>
   dB v25 fun b26 =>
   uR c24 fun q27 c28 =>
   rS q27 fun v29 =>
   dI .i64 v29 fun i30 =>
   uE c28 (cl law0_Num [(.g (.int .i64 i30))] H17 fun r31 H32 =>
   rG r31 fun v33 =>
   dI .i64 v33 fun i34 =>
   Q (.g (.bool (eqI i34 1100))) H32))
  (law11_FindAll.l9 k z1 z0 z0n x10 n11 false 0 H5 Q)))) := by kernel_rfl
theorem law11_FindAll.l9_eq (k : Nat) (sx0 : ByteArray) (xx1 : Pl) (nx2 : Nat) (xx3 : Pl) (nx4 : Nat) (bx5 : Bool) (ix6 : Int) (H : Hp) (Q : Post) : law11_FindAll.l9 (k + 1) sx0 xx1 nx2 xx3 nx4 bx5 ix6 H Q = (
 bite (ltI ix6 (nI nx4))
 (chk true (chk ((leI 0 ix6) && (ltI ix6 (nI nx4))) (pS xx3 fun n0 n1 =>
  rd H n0 ((n1 + ((tN ix6) * 2)) + 0) fun v2 =>
  dS v2 fun s3 =>
  cl find_Find [(.agg [(.sl xx1 nx2 5)]), (.g (.str s3))] H fun r4 H5 =>
  rT r4 fun c6 =>
  uR c6 fun q7 c8 =>
  rS q7 fun v9 =>
  dS v9 fun s10 =>
  uR c8 fun q11 c12 =>
  rS q11 fun v13 =>
  dB v13 fun b14 =>
  uR c12 fun q15 c16 =>
  rS q15 fun v17 =>
  dI .i64 v17 fun i18 =>
  uE c16 (chk true (chk ((leI 0 ix6) && (ltI ix6 (nI nx4))) (pS xx3 fun n19 n20 =>
  rd H5 n19 ((n20 + ((tN ix6) * 2)) + 0) fun v21 =>
  dS v21 fun s22 =>
  catS s22 (mkS [0, 0]) fun s23 =>
  cl find_Find [(.agg [(.sl xx1 nx2 5)]), (.g (.str s23))] H5 fun r24 H25 =>
  rT r24 fun c26 =>
  uR c26 fun q27 c28 =>
  rS q27 fun v29 =>
  dS v29 fun s30 =>
  uR c28 fun q31 c32 =>
  rS q31 fun v33 =>
  dB v33 fun b34 =>
  uR c32 fun q35 c36 =>
  rS q35 fun v37 =>
  dI .i64 v37 fun i38 =>
  uE c36 (cl law0_Num [(.g (.int .i64 i18))] H25 fun r39 H40 =>
  rG r39 fun v41 =>
  dI .i64 v41 fun i42 =>
  bite (!(eqI i42 0))
  (Q (.g (.bool false)) H40)
  (bite (!b14)
   (Q (.g (.bool false)) H40)
   (chk true (chk ((leI 0 ix6) && (ltI ix6 (nI nx4))) (pS xx3 fun n43 n44 =>
    rd H40 n43 ((n44 + ((tN ix6) * 2)) + 1) fun v45 =>
    dS v45 fun s46 =>
    bite (!(strEq s10 s46))
    (Q (.g (.bool false)) H40)
    (cl law0_Num [(.g (.int .i64 i38))] H40 fun r47 H48 =>
     rG r47 fun v49 =>
     dI .i64 v49 fun i50 =>
     bite (!(eqI i50 0))
     (Q (.g (.bool false)) H48)
     (bite b34
      (chk true (chk ((leI 0 ix6) && (ltI ix6 (nI nx4))) (pS xx3 fun n51 n52 =>
       rd H48 n51 ((n52 + ((tN ix6) * 2)) + 0) fun v53 =>
       dS v53 fun s54 =>
       bite (ltI 4 (sz s54))
       (Q (.g (.bool false)) H48)
       (bite bx5
        (law11_FindAll.l9 k sx0 xx1 nx2 xx3 nx4 true (wrapI .i64 (ix6 + 1)) H48 Q)
        (chk true (chk ((leI 0 ix6) && (ltI ix6 (nI nx4))) (pS xx3 fun n55 n56 =>
         rd H48 n55 ((n56 + ((tN ix6) * 2)) + 0) fun v57 =>
         dS v57 fun s58 =>
         law11_FindAll.l9 k sx0 xx1 nx2 xx3 nx4 (strEq s58 sx0) (wrapI .i64 (ix6 + 1)) H48 Q)))))))
      (bite bx5
       (law11_FindAll.l9 k sx0 xx1 nx2 xx3 nx4 true (wrapI .i64 (ix6 + 1)) H48 Q)
       (chk true (chk ((leI 0 ix6) && (ltI ix6 (nI nx4))) (pS xx3 fun n59 n60 =>
        rd H48 n59 ((n60 + ((tN ix6) * 2)) + 0) fun v61 =>
        dS v61 fun s62 =>
        law11_FindAll.l9 k sx0 xx1 nx2 xx3 nx4 (strEq s62 sx0) (wrapI .i64 (ix6 + 1)) H48 Q)))))))))))))))))
 (cl find_Find [(.agg [(.sl xx1 nx2 5)]), (.g (.str sx0))] H fun r63 H64 =>
  rT r63 fun c65 =>
  uR c65 fun q66 c67 =>
  rS q66 fun v68 =>
  dS v68 fun s69 =>
  uR c67 fun q70 c71 =>
  rS q70 fun v72 =>
  dB v72 fun b73 =>
  uR c71 fun q74 c75 =>
  rS q74 fun v76 =>
  dI .i64 v76 fun i77 =>
  uE c75 (cl law0_Num [(.g (.int .i64 i77))] H64 fun r78 H79 =>
  rG r78 fun v80 =>
  dI .i64 v80 fun i81 =>
  bite (eqI i81 0)
  (Q (.g (.bool (eqB b73 bx5))) H79)
  (Q (.g (.bool false)) H79)))) := by kernel_rfl
theorem law11_FindAll_ok : Sound Go.Proofs.Try.prog 10 (law11_FindAll) := prog_ok.sound (cx := law11_FindAll.cx) rfl (EnvOK.cons ((law11_awake_ok).c ⟨_, Go.Proofs.Try.func42, by kernel_rfl, by kernel_rfl⟩) (EnvOK.cons ((ref9_All_ok).c ⟨_, Go.Proofs.Try.func27, by kernel_rfl, by kernel_rfl⟩) (EnvOK.cons ((find_Find_ok).c ⟨_, Go.Proofs.Try.func40, by kernel_rfl, by kernel_rfl⟩) (EnvOK.cons ((law0_Num_ok).c ⟨_, Go.Proofs.Try.func23, by kernel_rfl, by kernel_rfl⟩) (EnvOK.nil _))))) (noDyn_ok _) Go.Proofs.Try.func10 rfl

/-! 43: cryostat/cryostatlaw11.letters -/
def law11_letters.cx : Cx := ⟨tys, [12], [], [], [], noDyn, [.tmp 2]⟩
def law11_letters : Sm := fun xs H Q => ∃ k, callK (law11_letters.cx) Go.Proofs.Try.f43 k xs H Q
theorem law11_letters_eq (k : Nat) (z0 : Int) (H : Hp) (Q : Post) : callK (law11_letters.cx) Go.Proofs.Try.f43 (k + 1) [.g (.int .i64 z0)] H Q = (
 rdN (pu H (.row true 5 [(.int .u8 (wrapI .u8 (wrapI .i64 (97 + (bitsI .and .i64 (shrI .i64 z0 4) 15))))), (.int .u8 (wrapI .u8 (wrapI .i64 (97 + (bitsI .and .i64 z0 15)))))])) (some ((ln H), 0)) 2 fun c0 =>
 txt c0 fun s1 =>
 Q (.g (.str s1)) (pu H (.row true 5 [(.int .u8 (wrapI .u8 (wrapI .i64 (97 + (bitsI .and .i64 (shrI .i64 z0 4) 15))))), (.int .u8 (wrapI .u8 (wrapI .i64 (97 + (bitsI .and .i64 z0 15)))))]))) := by kernel_rfl
theorem law11_letters_ok : Sound Go.Proofs.Try.prog 43 (law11_letters) := prog_ok.sound (cx := law11_letters.cx) rfl (EnvOK.nil _) (noDyn_ok _) Go.Proofs.Try.func43 rfl

/-! 11: cryostat/cryostatlaw11.FindRow -/
def law11_FindRow.cx : Cx := ⟨tys, [], [(8, [1, 5, 6, 7])], [(6, [1, 5])], [(42, law11_awake), (43, law11_letters), (38, ref9_Build), (40, find_Find), (23, law0_Num)], noDyn, [.tmp 4]⟩
def law11_FindRow : Sm := fun xs H Q => ∃ k, callK (law11_FindRow.cx) Go.Proofs.Try.f11 k xs H Q
def law11_FindRow.l6 (k : Nat) (ix0 : Int) (ix1 : Int) (H : Hp) (Q : Post) : Prop := loopK (law11_FindRow.cx) Go.Proofs.Try.f11 6 k (.bad :: (.g (.int .i64 ix0)) :: B 3 ((.g (.int .i64 ix1)) :: B 93 ([]))) H Q
def law11_FindRow.l8 (k : Nat) (ix0 : Int) (ix1 : Int) (ax2 : Pl) (nx3 : Nat) (ix4 : Int) (H : Hp) (Q : Post) : Prop := loopK (law11_FindRow.cx) Go.Proofs.Try.f11 8 k (.bad :: (.g (.int .i64 ix0)) :: B 3 ((.g (.int .i64 ix1)) :: (.g (.sl ax2 nx3 2)) :: (.g (.int .i64 ix4)) :: B 91 ([]))) H Q
theorem law11_FindRow_eq (k : Nat) (z0 : Int) (z1 : Int) (H : Hp) (Q : Post) : callK (law11_FindRow.cx) Go.Proofs.Try.f11 (k + 1) [.g (.int .i64 z0), .g (.int .i64 z1)] H Q = (
 cl law11_awake [] H fun r0 H1 =>
 rG r0 fun v2 =>
 dB v2 fun b3 =>
 bite (!b3)
 (Q (.g (.bool false)) H1)
 (bite (ltI 60 (bitsI .and .i64 z0 63))
  (law11_FindRow.l6 k z1 60 H1 Q)
  (law11_FindRow.l6 k z1 (bitsI .and .i64 z0 63) H1 Q))) := by kernel_rfl
theorem law11_FindRow.l6_eq (k : Nat) (ix0 : Int) (ix1 : Int) (H : Hp) (Q : Post) : law11_FindRow.l6 (k + 1) ix0 ix1 H Q = (
 law11_FindRow.l8 k ix0 ix1 none 0 0 H Q) := by kernel_rfl
theorem law11_FindRow.l8_eq (k : Nat) (ix0 : Int) (ix1 : Int) (ax2 : Pl) (nx3 : Nat) (ix4 : Int) (H : Hp) (Q : Post) : law11_FindRow.l8 (k + 1) ix0 ix1 ax2 nx3 ix4 H Q = (
 bite (ltI ix4 ix1)
 (cl law11_letters [(.g (.int .i64 (wrapI .i64 (2 * ix4))))] H fun r0 H1 =>
  rG r0 fun v2 =>
  dS v2 fun s3 =>
  cl law11_letters [(.g (.int .i64 ix4))] H1 fun r4 H5 =>
  rG r4 fun v6 =>
  dS v6 fun s7 =>
  chk true (ap H5 53 2 32 ax2 nx3 [(.str s3), (.str s7)] 1 fun x8 n9 H10 =>
  law11_FindRow.l8 k ix0 ix1 x8 n9 (wrapI .i64 (ix4 + 1)) H10 Q))
 (cl ref9_Build [(.g (.sl ax2 nx3 2))] H fun r11 H12 =>
  rA r11 fun c13 =>
  uC c13 fun v14 c15 =>
  dL 5 v14 fun x16 n17 =>
  uN c15 (cl law11_letters [(.g (.int .i64 (bitsI .and .i64 ix0 127)))] H12 fun r18 H19 =>
  rG r18 fun v20 =>
  dS v20 fun s21 =>
  cl find_Find [(.agg [(.sl x16 n17 5)]), (.g (.str s21))] H19 fun r22 H23 =>
  rT r22 fun c24 =>
  uR c24 fun q25 c26 =>
  rS q25 fun v27 =>
  dS v27 fun s28 =>
  uR c26 fun q29 c30 =>
  rS q29 fun v31 =>
  dB v31 fun b32 =>
  uR c30 fun q33 c34 =>
  rS q33 fun v35 =>
  dI .i64 v35 fun i36 =>
  uE c34 (bite (eqI (Int.tmod (bitsI .and .i64 ix0 127) 2) 0)
  (cl find_Find [(.agg [(.sl x16 n17 5)]), (.g (.str (mkS [])))] H23 fun r37 H38 =>
   rT r37 fun c39 =>
   uR c39 fun q40 c41 =>
   rS q40 fun v42 =>
   dS v42 fun s43 =>
   uR c41 fun q44 c45 =>
   rS q44 fun v46 =>
   dB v46 fun b47 =>
   uR c45 fun q48 c49 =>
   rS q48 fun v50 =>
   dI .i64 v50 fun i51 =>
   uE c49 (cl law0_Num [(.g (.int .i64 i36))] H38 fun r52 H53 =>
   rG r52 fun v54 =>
   dI .i64 v54 fun i55 =>
   bite (eqI i55 0)
   (bite (eqB b32 (ltI (wrapI .i64 (Int.tdiv (bitsI .and .i64 ix0 127) 2)) ix1))
    (bite (!b32)
     (bite b32
      (bite (!b47)
       (cl law0_Num [(.g (.int .i64 i51))] H53 fun r56 H57 =>
        rG r56 fun v58 =>
        dI .i64 v58 fun i59 =>
        Q (.g (.bool (eqI i59 0))) H57)
       (Q (.g (.bool false)) H53))
      (bite (strEq s28 (mkS []))
       (bite (!b47)
        (cl law0_Num [(.g (.int .i64 i51))] H53 fun r60 H61 =>
         rG r60 fun v62 =>
         dI .i64 v62 fun i63 =>
         Q (.g (.bool (eqI i63 0))) H61)
        (Q (.g (.bool false)) H53))
       (Q (.g (.bool false)) H53)))
     (cl law11_letters [(.g (.int .i64 (wrapI .i64 (Int.tdiv (bitsI .and .i64 ix0 127) 2))))] H53 fun r64 H65 =>
      rG r64 fun v66 =>
      dS v66 fun s67 =>
      bite (strEq s28 s67)
      (bite b32
       (bite (!b47)
        (cl law0_Num [(.g (.int .i64 i51))] H65 fun r68 H69 =>
         rG r68 fun v70 =>
         dI .i64 v70 fun i71 =>
         Q (.g (.bool (eqI i71 0))) H69)
        (Q (.g (.bool false)) H65))
       (bite (strEq s28 (mkS []))
        (bite (!b47)
         (cl law0_Num [(.g (.int .i64 i51))] H65 fun r72 H73 =>
          rG r72 fun v74 =>
          dI .i64 v74 fun i75 =>
          Q (.g (.bool (eqI i75 0))) H73)
         (Q (.g (.bool false)) H65))
        (Q (.g (.bool false)) H65)))
      (Q (.g (.bool false)) H65)))
    (Q (.g (.bool false)) H53))
   (Q (.g (.bool false)) H53)))
  (cl find_Find [(.agg [(.sl x16 n17 5)]), (.g (.str (mkS [])))] H23 fun r76 H77 =>
   rT r76 fun c78 =>
   uR c78 fun q79 c80 =>
   rS q79 fun v81 =>
   dS v81 fun s82 =>
   uR c80 fun q83 c84 =>
   rS q83 fun v85 =>
   dB v85 fun b86 =>
   uR c84 fun q87 c88 =>
   rS q87 fun v89 =>
   dI .i64 v89 fun i90 =>
   uE c88 (cl law0_Num [(.g (.int .i64 i36))] H77 fun r91 H92 =>
   rG r91 fun v93 =>
   dI .i64 v93 fun i94 =>
   bite (eqI i94 0)
   (bite (eqB b32 false)
    (bite (!b32)
     (bite b32
      (bite (!b86)
       (cl law0_Num [(.g (.int .i64 i90))] H92 fun r95 H96 =>
        rG r95 fun v97 =>
        dI .i64 v97 fun i98 =>
        Q (.g (.bool (eqI i98 0))) H96)
       (Q (.g (.bool false)) H92))
      (bite (strEq s28 (mkS []))
       (bite (!b86)
        (cl law0_Num [(.g (.int .i64 i90))] H92 fun r99 H100 =>
         rG r99 fun v101 =>
         dI .i64 v101 fun i102 =>
         Q (.g (.bool (eqI i102 0))) H100)
        (Q (.g (.bool false)) H92))
       (Q (.g (.bool false)) H92)))
     (cl law11_letters [(.g (.int .i64 (wrapI .i64 (Int.tdiv (bitsI .and .i64 ix0 127) 2))))] H92 fun r103 H104 =>
      rG r103 fun v105 =>
      dS v105 fun s106 =>
      bite (strEq s28 s106)
      (bite b32
       (bite (!b86)
        (cl law0_Num [(.g (.int .i64 i90))] H104 fun r107 H108 =>
         rG r107 fun v109 =>
         dI .i64 v109 fun i110 =>
         Q (.g (.bool (eqI i110 0))) H108)
        (Q (.g (.bool false)) H104))
       (bite (strEq s28 (mkS []))
        (bite (!b86)
         (cl law0_Num [(.g (.int .i64 i90))] H104 fun r111 H112 =>
          rG r111 fun v113 =>
          dI .i64 v113 fun i114 =>
          Q (.g (.bool (eqI i114 0))) H112)
         (Q (.g (.bool false)) H104))
        (Q (.g (.bool false)) H104)))
      (Q (.g (.bool false)) H104)))
    (Q (.g (.bool false)) H92))
   (Q (.g (.bool false)) H92))))))) := by kernel_rfl
theorem law11_FindRow_ok : Sound Go.Proofs.Try.prog 11 (law11_FindRow) := prog_ok.sound (cx := law11_FindRow.cx) rfl (EnvOK.cons ((law11_awake_ok).c ⟨_, Go.Proofs.Try.func42, by kernel_rfl, by kernel_rfl⟩) (EnvOK.cons ((law11_letters_ok).c ⟨_, Go.Proofs.Try.func43, by kernel_rfl, by kernel_rfl⟩) (EnvOK.cons ((ref9_Build_ok).c ⟨_, Go.Proofs.Try.func38, by kernel_rfl, by kernel_rfl⟩) (EnvOK.cons ((find_Find_ok).c ⟨_, Go.Proofs.Try.func40, by kernel_rfl, by kernel_rfl⟩) (EnvOK.cons ((law0_Num_ok).c ⟨_, Go.Proofs.Try.func23, by kernel_rfl, by kernel_rfl⟩) (EnvOK.nil _)))))) (noDyn_ok _) Go.Proofs.Try.func11 rfl


end Go.Am
