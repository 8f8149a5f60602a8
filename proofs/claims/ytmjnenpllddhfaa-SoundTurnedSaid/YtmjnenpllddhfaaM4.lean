import Derived.Test.YtmjnenpllddhfaaM3
set_option linter.unusedVariables false
set_option linter.unusedSimpArgs false
namespace Go.Am

theorem Own.base {H : Hp} {b b' : Nat} {t : TypeId} {a : Pl} {n : Nat} {cs : List GV} (h : Own H b t a n cs) (hb : b' ≤ b) : Own H b' t a n cs := by
  rcases h with h | ⟨l, h1, h2, h3⟩
  · exact .inl h
  · exact .inr ⟨l, h1, by omega, h3⟩
theorem Own.above {H : Hp} {b : Nat} {t : TypeId} {a : Pl} {n : Nat} {cs : List GV} (h : Own H b t a n cs) {l o : Nat} (e : a = some (l, o)) : b ≤ l := by
  rcases h with ⟨h, _⟩ | ⟨l', h1, h2, _⟩
  · rw [h] at e; cases e
  · rw [h1] at e; cases e; exact h2
/-- a level done -/
structure BS (B H : Hp) (tp : Nat) (tcs : List PC) (T : List Pg) (x : Pl) (n : Nat) (xcs : List PC) (xT : List Pg) (y : Pl) (yls : List ByteArray) : Prop where
  pre : B <+: H
  TP : OT H B.length 34 (some (tp, 0)) 48 tcs T
  X : OT H B.length 34 x n xcs xT
  Y : Own H B.length 9 y n (yls.map GV.str)
  sp : Sp H [some (tp, 0)] [x, y] (tcs ++ xcs)
section
variable {B H H' : Hp} {tp : Nat} {tcs : List PC} {T : List Pg} {x : Pl} {n : Nat} {xcs : List PC} {xT : List Pg} {y : Pl} {yls : List ByteArray} {sa : Pl} {k : Nat} {ss : List Int}
    {up : Pl} {m : Nat} {ucs : List PC} {uT : List Pg} {ul : Pl} {uls : List ByteArray}
theorem BS.start (g : BS B H tp tcs T x n xcs xT y yls) (hp : H <+: H') (hS : Own H' H.length 3 sa k (ss.map (GV.int .i64))) : BJ B H' tp tcs T x n xcs xT y yls sa k ss none 0 [] [] none 0 [] none [] none [] := by
  have hBl := g.pre.length_le
  have hl := hp.length_le
  refine ⟨g.pre.trans hp, g.TP.mono hp, g.X.mono hp, g.Y.mono hp, hS.base hBl, OT.nil _ _ _, .inl ⟨rfl, rfl, rfl⟩, .inl ⟨rfl, rfl, rfl⟩, .inl ⟨rfl, rfl, rfl⟩, ?_⟩
  have hM : ∀ i l o, ([some (tp, 0), none, none, none, none] : List Pl).getD i none = some (l, o) → i = 0 ∧ l = tp ∧ o = 0 := by
    intro i l o e
    match i, e with
    | 0, e => cases e; exact ⟨rfl, rfl, rfl⟩
    | 1, e => cases e
    | 2, e => cases e
    | 3, e => cases e
    | 4, e => cases e
    | i + 5, e => simp at e
  have htp : tp < H.length := g.sp.lm 0 tp 0 rfl
  refine ⟨fun i j hne l e1 e2 => ?_, fun i b hb l e1 e2 => ?_, fun i c hc l hl' e => ?_, fun i l o e => ?_, fun b hb l o e => ?_, fun c hc l hl' => ?_⟩
  · exact hne ((hM i l 0 e1).1.trans (hM j l 0 e2).1.symm)
  · obtain ⟨_, rfl, _⟩ := hM i l 0 e1
    simp only [List.mem_cons, List.not_mem_nil, or_false] at hb
    rcases hb with rfl | rfl | rfl
    · exact g.sp.mf 0 _ (by simp) l rfl e2
    · exact g.sp.mf 0 _ (by simp) l rfl e2
    · have := hS.above e2; omega
  · obtain ⟨_, rfl, _⟩ := hM i l 0 e
    exact g.sp.mp 0 c (by simpa using hc) l hl' rfl
  · obtain ⟨_, rfl, _⟩ := hM i l o e; omega
  · simp only [List.mem_cons, List.not_mem_nil, or_false] at hb
    rcases hb with rfl | rfl | rfl
    · have := g.sp.lf _ (by simp) l o e; omega
    · have := g.sp.lf _ (by simp) l o e; omega
    · exact hS.ltAny e
  · have := g.sp.lp c (by simpa using hc) l hl'; omega
theorem BJ.done (g : BJ B H tp tcs T x n xcs xT y yls sa k ss up m ucs uT ul m uls none [] none []) : BS B H tp tcs T up m ucs uT ul uls := by
  have hM : ∀ i l o, ([some (tp, 0)] : List Pl).getD i none = some (l, o) → i = 0 ∧ l = tp ∧ o = 0 := by
    intro i l o e
    match i, e with
    | 0, e => cases e; exact ⟨rfl, rfl, rfl⟩
    | i + 1, e => simp at e
  refine ⟨g.pre, g.TP, g.UP, g.UL, fun i j hne l e1 e2 => ?_, fun i b hb l e1 e2 => ?_, fun i c hc l hl' e => ?_, fun i l o e => ?_, fun b hb l o e => ?_, fun c hc l hl' => ?_⟩
  · exact hne ((hM i l 0 e1).1.trans (hM j l 0 e2).1.symm)
  · obtain ⟨_, rfl, _⟩ := hM i l 0 e1
    simp only [List.mem_cons, List.not_mem_nil, or_false] at hb
    rcases hb with rfl | rfl
    · exact g.sp.mm 0 1 (by decide) l rfl e2
    · exact g.sp.mm 0 2 (by decide) l rfl e2
  · obtain ⟨_, rfl, _⟩ := hM i l 0 e
    refine g.sp.mp 0 c ?_ l hl' rfl
    simp only [List.mem_append] at hc ⊢
    rcases hc with q | q
    · exact .inl (.inl q)
    · exact .inr q
  · obtain ⟨_, rfl, _⟩ := hM i l o e
    exact g.sp.lm 0 l 0 rfl
  · simp only [List.mem_cons, List.not_mem_nil, or_false] at hb
    rcases hb with rfl | rfl
    · exact g.sp.lm 1 l o e
    · exact g.sp.lm 2 l o e
  · refine g.sp.lp c ?_ l hl'
    simp only [List.mem_append] at hc ⊢
    rcases hc with q | q
    · exact .inl (.inl q)
    · exact .inr q
end

section
variable {B : Hp} {Q : Post} {tp : Nat}
theorem build_l9 {xs : Lvl} {next0 : Nat} {T0 : List Pg} {x y : Pl} {xcs : List PC} {sa : Pl} {REST : Nat} (hn2 : 2 ≤ xs.length) (hb : next0 + xs.length ≤ 48)
    (hK : ∀ (F : Nat) (H : Hp) (tcs : List PC) (up : Pl) (ucs : List PC) (ul : Pl), REST ≤ F → BS B H tp tcs (placeD T0 xs next0 xs.length) up (upD xs next0).length ucs ((upD xs next0).map (·.1)) ul ((upD xs next0).map (·.2)) →
      ref9_Build.l4 F none 0 (some (tp, 0)) 48 up (upD xs next0).length ul (upD xs next0).length ((next0 + xs.length : Nat) : Int) H Q) :
    ∀ (F i : Nat) (H : Hp) (tcs : List PC) (up : Pl) (ucs : List PC) (ul : Pl), xs.length + 3 * (kOf xs.length 5 - i) + REST < F + cutN xs.length (kOf xs.length 5) i → i ≤ kOf xs.length 5 →
      BJ B H tp tcs (placeD T0 xs next0 (cutN xs.length (kOf xs.length 5) i)) x xs.length xcs (xs.map (·.1)) y (xs.map (·.2)) sa (kOf xs.length 5) ((sizesD xs.length 5).map fun (x : Nat) => (x : Int)) up i ucs (((List.range i).map (upAt xs next0 (kOf xs.length 5))).map (·.1)) ul i (((List.range i).map (upAt xs next0 (kOf xs.length 5))).map (·.2)) none [] none [] →
      ref9_Build.l9 F none 0 (some (tp, 0)) 48 x xs.length y xs.length ((next0 + cutN xs.length (kOf xs.length 5) i : Nat) : Int) up i ul i sa (kOf xs.length 5) ((cutN xs.length (kOf xs.length 5) i : Nat) : Int) (i : Int) H Q := by
  have hk := kOf_pos xs.length 5
  have hSD : sizesD xs.length 5 = (List.range (kOf xs.length 5)).map fun i => cutN xs.length (kOf xs.length 5) (i + 1) - cutN xs.length (kOf xs.length 5) i := rfl
  have hUD : upD xs next0 = (List.range (kOf xs.length 5)).map (upAt xs next0 (kOf xs.length 5)) := rfl
  have hk2 : kOf xs.length 5 ≤ 48 := by
    unfold kOf
    have : (xs.length + 5 - 1) / 5 ≤ xs.length := by omega
    omega
  generalize kOf xs.length 5 = k at *
  have hUl : (upD xs next0).length = k := by rw [hUD]; simp
  rw [hUl] at hK
  have hsl : ((sizesD xs.length 5).map fun (x : Nat) => (x : Int)).length = k := by rw [hSD]; simp
  have hsg : ∀ i (h : i < ((sizesD xs.length 5).map fun (x : Nat) => (x : Int)).length), ((sizesD xs.length 5).map fun (x : Nat) => (x : Int))[i] = ((cutN xs.length k (i + 1) - cutN xs.length k i : Nat) : Int) := fun i h => by
    simp only [hSD, List.getElem_map, List.getElem_range]
  intro F
  induction F using Nat.strongRecOn with
  | _ F ihF =>
    intro i H tcs up ucs ul hF hi g
    have hci := cutN_le (n := xs.length) (k := k) (i := i) hi hk
    obtain ⟨F, rfl⟩ : ∃ F', F = F' + 1 := ⟨F - 1, by omega⟩
    rw [ref9_Build.l9_eq]
    by_cases hik : i < k
    · rw [bite_t (by simp; omega)]
      have hmono := cutN_mono xs.length k i
      have hci1 := cutN_le (n := xs.length) (k := k) (i := i + 1) (by omega) hk
      have hclt := cutN_lt (n := xs.length) hik (by omega)
      have isS : ∀ {H tcs T up m ucs uT ul m2 uls kk ks ii is}, BJ B H tp tcs T x xs.length xcs (xs.map (·.1)) y (xs.map (·.2)) sa k ((sizesD xs.length 5).map fun (x : Nat) => (x : Int)) up m ucs uT ul m2 uls kk ks ii is → Is H sa k ((sizesD xs.length 5).map fun (x : Nat) => (x : Int)) := fun g => ⟨g.S.cells, hsl.symm, by omega⟩
      have isY : ∀ {H tcs T up m ucs uT ul m2 uls kk ks ii is}, BJ B H tp tcs T x xs.length xcs (xs.map (·.1)) y (xs.map (·.2)) sa k ((sizesD xs.length 5).map fun (x : Nat) => (x : Int)) up m ucs uT ul m2 uls kk ks ii is → Ss H y xs.length (xs.map (·.2)) := fun g => ⟨g.Y.cells, by simp, by omega⟩
      have w1 : wrapI .i64 (((cutN xs.length k i : Nat) : Int) + ((cutN xs.length k (i + 1) - cutN xs.length k i : Nat) : Int)) = ((cutN xs.length k (i + 1) : Nat) : Int) := by rw [wrap64 (by omega) (by omega)]; omega
      have inner : ∀ (d G j : Nat) (H : Hp) (tcs : List PC) (kk ii : Pl), cutN xs.length k (i + 1) - j = d → cutN xs.length k i ≤ j → j ≤ cutN xs.length k (i + 1) → xs.length + 3 * (k - i) + REST < G + j + 1 → G ≤ F →
          BJ B H tp tcs (placeD T0 xs next0 j) x xs.length xcs (xs.map (·.1)) y (xs.map (·.2)) sa k ((sizesD xs.length 5).map fun (x : Nat) => (x : Int)) up i ucs (((List.range i).map (upAt xs next0 k)).map (·.1)) ul i (((List.range i).map (upAt xs next0 k)).map (·.2))
            kk (((xs.drop (cutN xs.length k i + 1)).take (j - (cutN xs.length k i + 1))).map (·.2)) ii ((List.range (j - cutN xs.length k i)).map fun r => ((next0 + (cutN xs.length k i + r) : Nat) : Int)) →
          ref9_Build.l13 G none 0 (some (tp, 0)) 48 x xs.length y xs.length ((next0 + j : Nat) : Int) up i ul i sa k ((cutN xs.length k i : Nat) : Int) (i : Int) true false kk (((xs.drop (cutN xs.length k i + 1)).take (j - (cutN xs.length k i + 1))).map (·.2)).length none 0 ii ((List.range (j - cutN xs.length k i)).map fun r => ((next0 + (cutN xs.length k i + r) : Nat) : Int)).length (j : Int) H Q := by
        intro d
        induction d with
        | zero =>
          intro G j H tcs kk ii hd hj1 hj2 hG hGF g
          obtain rfl : j = cutN xs.length k (i + 1) := by omega
          obtain ⟨G, rfl⟩ : ∃ G', G = G' + 1 := ⟨G - 1, by omega⟩
          rw [ref9_Build.l13_eq, chk_true, (isS g).rd i rfl (by rw [hsl]; exact hik), hsg, w1, bite_f (by simp), chk_true]
          refine g.page (by simp; omega) (by simp; omega) (by omega) fun u' H1 c g1 => ?_
          rw [chk_true, (isY g1).rd (cutN xs.length k i) rfl (by simp; omega), chk_true]
          refine g1.least _ (by omega) fun ul' H2 g2 => ?_
          rw [chk_true, (isS g2).rd i rfl (by rw [hsl]; exact hik), hsg, w1, wrap_succ (by omega)]
          refine ihF G (by omega) (i + 1) H2 tcs u' (ucs ++ [c]) ul' (by omega) (by omega) ?_
          rw [List.range_succ, List.map_append, List.map_append, List.map_append]
          have e2 : (upAt xs next0 k i).2 = (xs.map (·.2))[cutN xs.length k i]'(by simp; omega) := by
            unfold upAt
            dsimp only
            rw [List.getElem?_eq_getElem hclt, List.getElem_map]
            rfl
          show BJ B H2 tp tcs (placeD T0 xs next0 (cutN xs.length k (i + 1))) x xs.length xcs (xs.map (·.1)) y (xs.map (·.2)) sa k _ u' (i + 1) (ucs ++ [c]) (_ ++ [(upAt xs next0 k i).1]) ul' (i + 1) (_ ++ [(upAt xs next0 k i).2]) none [] none []
          rw [e2]
          exact g2
        | succ d ihd =>
          intro G j H tcs kk ii hd hj1 hj2 hG hGF g
          obtain ⟨G, rfl⟩ : ∃ G', G = G' + 1 := ⟨G - 1, by omega⟩
          have hjl : j < xs.length := by omega
          rw [ref9_Build.l13_eq, chk_true, (isS g).rd i rfl (by rw [hsl]; exact hik), hsg, w1, bite_t (by simp; omega), chk_true]
          refine chk_of (by simp; omega) ?_
          obtain ⟨l, o, c, p, ex, hc, hp, hpc, g0, g1, g2, g3, g4⟩ := g.X.tr.get hjl
          have etN : tN (j : Int) = j := rfl
          have etN2 : 0 + tN ((next0 + j : Nat) : Int) * 5 = (next0 + j) * 5 := by rw [Nat.zero_add]; rfl
          have px : ∀ K : Nat → Nat → Prop, pS x K = K l o := fun K => by rw [ex]; rfl
          rw [px, etN, rdPage_of g0 g1 g2 g3 g4, chk_true]
          refine chk_of (by simp; omega) ?_
          rw [pS_some, etN2]
          refine g.place (i := next0 + j) (by omega) hc hp fun H1 tcs1 h1 => ?_
          have hpl : placeD T0 xs next0 (j + 1) = (placeD T0 xs next0 j).set (next0 + j) p := by
            show (placeD T0 xs next0 j).set (next0 + j) _ = _
            have : ((xs[j]?.map (·.1)).getD noPg) = p := by
              rw [List.getElem?_map] at hp
              rw [hp]; rfl
            rw [this]
          rw [← hpl] at h1
          rw [chk_true]
          refine h1.kid _ (by simp; omega) fun ii' H2 h2 => ?_
          have hr : (List.range (j + 1 - cutN xs.length k i)).map (fun r => ((next0 + (cutN xs.length k i + r) : Nat) : Int)) = (List.range (j - cutN xs.length k i)).map (fun r => ((next0 + (cutN xs.length k i + r) : Nat) : Int)) ++ [((next0 + j : Nat) : Int)] := by
            rw [show j + 1 - cutN xs.length k i = (j - cutN xs.length k i) + 1 by omega, List.range_succ, List.map_append]
            simp
            omega
          rw [← hr] at h2
          have hrl : ((List.range (j - cutN xs.length k i)).map (fun r => ((next0 + (cutN xs.length k i + r) : Nat) : Int))).length + 1 = ((List.range (j + 1 - cutN xs.length k i)).map (fun r => ((next0 + (cutN xs.length k i + r) : Nat) : Int))).length := by simp; omega
          rw [hrl]
          have wn : wrapI .i64 (((next0 + j : Nat) : Int) + 1) = ((next0 + (j + 1) : Nat) : Int) := by rw [wrap64 (by omega) (by omega)]; omega
          rw [wn, wrap_succ (by omega)]
          refine bite_of (fun e => ?_) (fun e => ?_)
          · have hlj : cutN xs.length k i < j := by simpa using e
            have r := fun K => (isY h2).rd j (i := (j : Int)) rfl (by simp; omega) K
            rw [etN] at r
            rw [chk_true, r, chk_true]
            refine h2.key _ (by simp; omega) fun kk' H3 h3 => ?_
            have hks : ((xs.drop (cutN xs.length k i + 1)).take (j + 1 - (cutN xs.length k i + 1))).map (·.2) = ((xs.drop (cutN xs.length k i + 1)).take (j - (cutN xs.length k i + 1))).map (·.2) ++ [(xs.map (·.2))[j]'(by simp; omega)] := by
              rw [show j + 1 - (cutN xs.length k i + 1) = (j - (cutN xs.length k i + 1)) + 1 by omega, List.take_succ_eq_append_getElem (by simp; omega), List.map_append]
              congr 1
              simp
              congr 2
              omega
            rw [← hks] at h3
            have hkl : (((xs.drop (cutN xs.length k i + 1)).take (j - (cutN xs.length k i + 1))).map (·.2)).length + 1 = (((xs.drop (cutN xs.length k i + 1)).take (j + 1 - (cutN xs.length k i + 1))).map (·.2)).length := by rw [hks, List.length_append]; rfl
            rw [hkl]
            exact ihd G (j + 1) H3 tcs1 kk' ii' (by omega) (by omega) (by omega) (by omega) (by omega) h3
          · have hlj : cutN xs.length k i = j := by simp at e; omega
            have hks : ((xs.drop (cutN xs.length k i + 1)).take (j + 1 - (cutN xs.length k i + 1))).map (·.2) = ((xs.drop (cutN xs.length k i + 1)).take (j - (cutN xs.length k i + 1))).map (·.2) := by
              rw [show j + 1 - (cutN xs.length k i + 1) = 0 by omega, show j - (cutN xs.length k i + 1) = 0 by omega]
            rw [← hks] at h2
            rw [← hks]
            exact ihd G (j + 1) H2 tcs1 kk ii' (by omega) (by omega) (by omega) (by omega) (by omega) h2
      have hstart := inner _ F (cutN xs.length k i) H tcs none none rfl (Nat.le_refl _) hmono (by omega) (Nat.le_refl _) (by
        rw [show cutN xs.length k i - (cutN xs.length k i + 1) = 0 by omega, show cutN xs.length k i - cutN xs.length k i = 0 by omega]
        exact g)
      rw [show cutN xs.length k i - (cutN xs.length k i + 1) = 0 by omega, show cutN xs.length k i - cutN xs.length k i = 0 by omega] at hstart
      exact hstart
    · obtain rfl : i = k := by omega
      rw [bite_f (by simp)]
      rw [cutN_all hk] at g hF ⊢
      have hd := g.done
      rw [← hUD] at hd
      exact hK F H tcs up ucs ul (by omega) hd
end
end Go.Am
namespace Go.Am

theorem OT.base {H : Hp} {b b' : Nat} {t : TypeId} {a : Pl} {n : Nat} {cs : List PC} {T : List Pg} (h : OT H b t a n cs T) (hb : b' ≤ b) : OT H b' t a n cs T := ⟨h.own.base hb, h.len, h.lenT, h.all, h.off⟩
section
variable {B : Hp} {Q : Post} {tp : Nat}
theorem build_l4 : ∀ (D : Nat) (xs : Lvl) (next : Nat) (T : List Pg) (F : Nat) (H : Hp) (tcs : List PC) (x : Pl) (xcs : List PC) (y : Pl), xs.length ≤ D → 1 ≤ xs.length → next + 2 * xs.length ≤ 48 → 8 * xs.length + 8 ≤ F →
    BS B H tp tcs T x xs.length xcs (xs.map (·.1)) y (xs.map (·.2)) → (∀ H' tcs', B <+: H' → OT H' B.length 34 (some (tp, 0)) 48 tcs' (buildGo D T next xs) → Q (.agg [.sl (some (tp, 0)) 48 5]) H') →
    ref9_Build.l4 F none 0 (some (tp, 0)) 48 x xs.length y xs.length (next : Int) H Q := by
  intro D
  induction D with
  | zero => intro xs _ _ _ _ _ _ _ _ h1 h2; omega
  | succ D ih =>
    intro xs next T F H tcs x xcs y hD h1 hb hF g hQ
    obtain ⟨F, rfl⟩ : ∃ F', F = F' + 1 := ⟨F - 1, by omega⟩
    rw [ref9_Build.l4_eq]
    refine bite_of (fun e => ?_) (fun e => ?_)
    · have h2 : 2 ≤ xs.length := by simp at e; omega
      have hk2 : 2 * kOf xs.length 5 ≤ xs.length := by
        unfold kOf
        have : 2 * ((xs.length + 5 - 1) / 5) ≤ xs.length := by omega
        omega
      have hk0 := kOf_pos xs.length 5
      have hUl : (upD xs next).length = kOf xs.length 5 := by unfold upD; simp
      refine ref9_sizes_spec (n := xs.length) (most := 5) (by omega) (by omega) (by omega) fun sa H1 p1 oS _ => ?_
      simp only [rG_g, dL_sl]
      have hst := g.start p1 oS
      have := build_l9 (Q := Q) (B := B) (tp := tp) (xs := xs) (next0 := next) (T0 := T) (x := x) (y := y) (xcs := xcs) (sa := sa) (REST := 8 * kOf xs.length 5 + 8) h2 (by omega) (fun F2 H2 tcs2 up ucs ul hF2 g2 => by
        refine ih (upD xs next) (next + xs.length) (placeD T xs next xs.length) F2 H2 tcs2 up ucs ul (by omega) (by omega) (by omega) (by omega) g2 fun H' tcs' hp ho => ?_
        refine hQ H' tcs' hp ?_
        have e2 : buildGo (D + 1) T next xs = buildGo D (placeD T xs next xs.length) (next + xs.length) (upD xs next) := by
          show (match decide (1 < xs.length) with | true => _ | false => _) = _
          rw [decide_eq_true (by omega)]
        rw [e2]
        exact ho) F 0 H1 tcs none [] none (by rw [cutN_zero]; omega) (Nat.zero_le _) (by rw [cutN_zero]; exact hst)
      rw [cutN_zero] at this
      exact this
    · have h11 : xs.length = 1 := by simp at e; omega
      rw [chk_true]
      refine chk_of (by simp; omega) ?_
      obtain ⟨l, o, c, p, ex, hc, hp, hpc, g0, g1, g2, g3, g4⟩ := g.X.tr.get (i := 0) (by omega)
      have px : ∀ K : Nat → Nat → Prop, pS x K = K l o := fun K => by rw [ex]; rfl
      have et0 : tN 0 = 0 := rfl
      rw [px, et0, rdPage_of g0 g1 g2 g3 g4, chk_true]
      refine chk_of (by simp) ?_
      have e0 : 0 + 0 * 5 = 0 * 5 := by omega
      rw [pS_some, e0]
      refine (g.start (sa := none) (k := 0) (ss := []) (List.prefix_refl _) (.inl ⟨rfl, rfl, rfl⟩)).place (i := 0) (by omega) hc hp fun H' tcs' g' => ?_
      refine hQ H' tcs' g'.pre ?_
      have e2 : buildGo (D + 1) T next xs = T.set 0 p := by
        show (match decide (1 < xs.length) with | true => _ | false => _) = _
        rw [decide_eq_false (by omega)]
        dsimp only
        rw [List.getElem?_map] at hp
        rw [hp]; rfl
      rw [e2]
      exact g'.TP
theorem ref9_Build_spec {H : Hp} {a : Pl} {n : Nat} {ps : KV} (hp : Kv H a n ps) (hn : n ≤ 64) (hQ : ∀ H' tp cs, H <+: H' → OT H' H.length 34 (some (tp, 0)) 48 cs (buildD ps) → Q (.agg [.sl (some (tp, 0)) 48 5]) H') : ref9_Build [.g (.sl a n 2)] H Q := by
  have hpl := hp.len
  refine ⟨8 * 17 + 20, ?_⟩
  rw [ref9_Build_eq]
  refine ref9_New_spec fun H1 p1 o1 => ?_
  simp only [rA_agg, uC_cons, dL_sl, uN_nil]
  refine ref9_leaves_spec (hp.mono p1) (by omega) fun x y cs H2 p2 oX oY hxy hyo hlo => ?_
  simp only [rA_agg, uC_cons, dL_sl, uN_nil]
  have hL : (leavesD ps).length = kOf ps.length 4 := by unfold leavesD; simp
  have hk : kOf ps.length 4 ≤ 17 := by unfold kOf; omega
  have hk0 := kOf_pos ps.length 4
  have l1 := p1.length_le
  have htp : H.length < H1.length := o1.own.ltAny rfl
  have l2 := p2.length_le
  have o2 := o1.mono p2
  have hM : ∀ i l o, ([some (H.length, 0)] : List Pl).getD i none = some (l, o) → i = 0 ∧ l = H.length ∧ o = 0 := by
    intro i l o e
    match i, e with
    | 0, e => cases e; exact ⟨rfl, rfl, rfl⟩
    | i + 1, e => simp at e
  have g : BS H H2 H.length newC newT x (leavesD ps).length cs ((leavesD ps).map (·.1)) y ((leavesD ps).map (·.2)) := by
    refine ⟨p1.trans p2, o2, oX.base l1, oY.base l1, fun i j hne l e1 e2 => ?_, fun i b hb l e1 e2 => ?_, fun i c hc l hl' e => ?_, fun i l o e => ?_, fun b hb l o e => ?_, fun c hc l hl' => ?_⟩
    · exact hne ((hM i l 0 e1).1.trans (hM j l 0 e2).1.symm)
    · obtain ⟨_, rfl, _⟩ := hM i l 0 e1
      simp only [List.mem_cons, List.not_mem_nil, or_false] at hb
      rcases hb with rfl | rfl
      · have := oX.own.above e2; omega
      · have := oY.above e2; omega
    · obtain ⟨_, rfl, _⟩ := hM i l 0 e
      rcases List.mem_append.1 hc with q | q
      · exact newC_off c q _ hl'
      · have := hlo c q _ hl'; omega
    · obtain ⟨_, rfl, _⟩ := hM i l o e; omega
    · simp only [List.mem_cons, List.not_mem_nil, or_false] at hb
      rcases hb with rfl | rfl
      · exact oX.own.ltAny e
      · exact oY.ltAny e
    · rcases List.mem_append.1 hc with q | q
      · exact (newC_off c q _ hl').elim
      · exact oX.onlt q hl'
  refine build_l4 64 (leavesD ps) 1 newT (8 * 17 + 19) H2 newC x cs y (by omega) (by omega) (by omega) (by omega) g fun H' tcs' hp' ho => ?_
  exact hQ H' H.length tcs' hp' ho
end
end Go.Am
namespace Go.Am

/-- a tree whose rows are all one's own -/
structure CT (B H : Hp) (t : TypeId) (a : Pl) (n : Nat) (ds : List PC) (T : List Pg) : Prop where
  pre : B <+: H
  ot : OT H B.length t a n ds T
  own : ∀ i (h : i < ds.length) (h' : i < T.length), (ds[i]).own H B.length T[i]
  ap : ∀ i j (hi : i < ds.length) (hj : j < ds.length), i ≠ j → ∀ l, (ds[i]).on l → ¬ (ds[j]).on l
section
variable {B H H' : Hp} {t : TypeId} {a : Pl} {n : Nat} {ds : List PC} {T : List Pg}
theorem CT.mono (g : CT B H t a n ds T) (hp : H <+: H') : CT B H' t a n ds T :=
  ⟨g.pre.trans hp, g.ot.mono hp, fun i h h' => (g.own i h h').keep fun l hl => pre_at hp (g.ot.onlt (List.getElem_mem h) hl), g.ap⟩
/-- a page's row of keys turned -/
theorem CT.setRow (g : CT B H t a n ds T) {i : Nat} (hi : i < ds.length) (hi' : i < T.length) {l : Nat} (hon : (ds[i]).on l) (x : Obj) (hb : B.length ≤ l) (p : Pg)
    (hat : (ds[i]).at (H.set l x) p) (how : (ds[i]).own (H.set l x) B.length p) : CT B (H.set l x) t a n ds (T.set i p) := by
  have q1 := g.ot.len
  have q2 := g.ot.lenT
  have other : ∀ j (h : j < ds.length), j ≠ i → ∀ m, (ds[j]).on m → (H.set l x)[m]? = H[m]? := fun j h hne m hm => by
    rw [List.getElem?_set_ne]
    intro e; subst e
    exact g.ap i j hi h (Ne.symm hne) l hon hm
  refine ⟨pre_set g.pre hb x, ⟨g.ot.own.keep fun m e => ?_, q1, by simp [q2], fun j h1 h2 => ?_, g.ot.off⟩, fun j h1 h2 => ?_, g.ap⟩
  · rw [List.getElem?_set_ne]
    intro e'; subst e'
    exact g.ot.off _ (List.getElem_mem hi) l hon e
  · rw [List.getElem_set]
    by_cases e : i = j
    · subst e; rw [if_pos rfl]; exact hat
    · rw [if_neg e]
      simp at h2
      exact (g.ot.all j h1 h2).keep (other j h1 (Ne.symm e))
  · rw [List.getElem_set]
    by_cases e : i = j
    · subst e; rw [if_pos rfl]; exact how
    · rw [if_neg e]
      simp at h2
      exact (g.own j h1 h2).keep (other j h1 (Ne.symm e))
theorem CT.key (g : CT B H t a n ds T) {i j : Nat} (hi : i < ds.length) (hi' : i < T.length) (hj : j < (T[i]).keys.length) (s : ByteArray) {K : Hp → Prop}
    (hK : ∀ H', CT B H' t a n ds (T.set i { T[i] with keys := (T[i]).keys.set j s }) → K H') : ∃ l, (ds[i]).a1 = some (l, 0) ∧ wr H l j (.str s) K := by
  have ho := g.own i hi hi'
  have hat := g.ot.all i hi hi'
  rcases ho.keys with ⟨_, h, _⟩ | ⟨l, e, hb, hr, hl⟩
  · have := hat.keys.len; omega
  have hlt := (List.getElem?_eq_some_iff.1 hr).1
  have hon : (ds[i]).on l := ⟨0, .inl e⟩
  refine ⟨l, e, wr_row hr (by simpa using hj) ?_⟩
  rw [← List.map_set]
  have keep : ∀ {tt : TypeId} {x : Pl} {m : Nat} {es : List GV} (y : Obj), Own H B.length tt x m es → Dr (ds[i]).a1 x → Own (H.set l y) B.length tt x m es := fun y h hd => h.keep fun m e' => by
    rw [List.getElem?_set_ne]; intro q; subst q; exact hd l 0 0 e e'
  have how : (ds[i]).own (H.set l (.row true 9 (((T[i]).keys.set j s).map GV.str))) B.length { T[i] with keys := (T[i]).keys.set j s } :=
    ⟨ho.used, ho.leaf, .inr ⟨l, e, hb, List.getElem?_set_self hlt, by simpa using hl⟩, keep _ ho.vals ho.d12, keep _ ho.kids ho.d13, ho.d12, ho.d13, ho.d23⟩
  refine hK _ (g.setRow hi hi' hon _ hb _ ⟨hat.used, hat.leaf, ⟨how.keys.cells, ?_, hat.keys.lim⟩, ⟨how.vals.cells, hat.vals.len, hat.vals.lim⟩, ⟨how.kids.cells, hat.kids.len, hat.kids.lim⟩⟩ how)
  simpa using hat.keys.len
theorem CT.kid (g : CT B H t a n ds T) {i j : Nat} (hi : i < ds.length) (hi' : i < T.length) (hj : j < (T[i]).kids.length) (s : Int) {K : Hp → Prop}
    (hK : ∀ H', CT B H' t a n ds (T.set i { T[i] with kids := (T[i]).kids.set j s }) → K H') : ∃ l, (ds[i]).a3 = some (l, 0) ∧ wr H l j (.int .i64 s) K := by
  have ho := g.own i hi hi'
  have hat := g.ot.all i hi hi'
  rcases ho.kids with ⟨_, h, _⟩ | ⟨l, e, hb, hr, hl⟩
  · have := hat.kids.len; omega
  have hlt := (List.getElem?_eq_some_iff.1 hr).1
  have hon : (ds[i]).on l := ⟨0, .inr (.inr e)⟩
  refine ⟨l, e, wr_row hr (by simpa using hj) ?_⟩
  rw [← List.map_set]
  have keep : ∀ {tt : TypeId} {x : Pl} {m : Nat} {es : List GV} (y : Obj), Own H B.length tt x m es → Dr x (ds[i]).a3 → Own (H.set l y) B.length tt x m es := fun y h hd => h.keep fun m e' => by
    rw [List.getElem?_set_ne]; intro q; subst q; exact hd l 0 0 e' e
  have how : (ds[i]).own (H.set l (.row true 3 (((T[i]).kids.set j s).map (GV.int .i64)))) B.length { T[i] with kids := (T[i]).kids.set j s } :=
    ⟨ho.used, ho.leaf, keep _ ho.keys ho.d13, keep _ ho.vals ho.d23, .inr ⟨l, e, hb, List.getElem?_set_self hlt, by simpa using hl⟩, ho.d12, ho.d13, ho.d23⟩
  refine hK _ (g.setRow hi hi' hon _ hb _ ⟨hat.used, hat.leaf, ⟨how.keys.cells, hat.keys.len, hat.keys.lim⟩, ⟨how.vals.cells, hat.vals.len, hat.vals.lim⟩, ⟨how.kids.cells, ?_, hat.kids.lim⟩⟩ how)
  simpa using hat.kids.len
theorem CT.keyW (g : CT B H t a n ds T) {i j : Nat} (hi : i < ds.length) (hi' : i < T.length) (hj : j < (T[i]).keys.length) (s : ByteArray) {K : Hp → Prop}
    (hK : ∀ H', CT B H' t a n ds (T.set i { T[i] with keys := (T[i]).keys.set j s }) → K H') : pS (ds[i]).a1 fun n m => wr H n (m + tN (j : Int) * 1) (.str s) K := by
  obtain ⟨l, e, h⟩ := g.key hi hi' hj s hK
  have e1 : 0 + tN (j : Int) * 1 = j := by rw [Nat.zero_add, Nat.mul_one]; rfl
  rw [e, pS_some, e1]
  exact h
theorem CT.kidW (g : CT B H t a n ds T) {i j : Nat} (hi : i < ds.length) (hi' : i < T.length) (hj : j < (T[i]).kids.length) (s : Int) {K : Hp → Prop}
    (hK : ∀ H', CT B H' t a n ds (T.set i { T[i] with kids := (T[i]).kids.set j s }) → K H') : pS (ds[i]).a3 fun n m => wr H n (m + tN (j : Int) * 1) (.int .i64 s) K := by
  obtain ⟨l, e, h⟩ := g.kid hi hi' hj s hK
  have e1 : 0 + tN (j : Int) * 1 = j := by rw [Nat.zero_add, Nat.mul_one]; rfl
  rw [e, pS_some, e1]
  exact h
theorem law0_CopyTree_ct {Q : Post} {cs : List PC} (hT : Tr H a n cs T) (hn : n * 80 ≤ 140737488351232) (hQ : ∀ a' ds H', CT H H' 34 a' n ds T → Q (.agg [.sl a' n 5]) H') : law0_CopyTree [.agg [.sl a n 5]] H Q :=
  law0_CopyTree_spec hT hn fun a' ds H' p o1 o2 o3 => hQ a' ds H' ⟨p, o1, o2, o3⟩
end

def kv5 : KV := [(mkS [97], mkS []), (mkS [98], mkS []), (mkS [99], mkS []), (mkS [100], mkS []), (mkS [101], mkS [])]
theorem kv5_at (H : Hp) : Kv (H ++ [.row false 0 [(.str (mkS [97])), (.str (mkS [])), (.str (mkS [98])), (.str (mkS [])), (.str (mkS [99])), (.str (mkS [])), (.str (mkS [100])), (.str (mkS [])), (.str (mkS [101])), (.str (mkS []))]]) (some (H.length, 0)) 5 kv5 :=
  ⟨by simp [cells?, kvCells, kv5], rfl⟩
theorem h_new : heightD newT = 1 := by decide +kernel
theorem h_5 : heightD (buildD kv5) = 2 := by decide +kernel
theorem k_5 : ((buildD kv5)[0]?.map fun p => p.keys.length) = some 1 := by decide +kernel
def turned5 : List Pg := (buildD kv5).set 0 { ((buildD kv5)[0]?.getD noPg) with keys := ((buildD kv5)[0]?.getD noPg).keys.set 0 (mkS [101]) }
theorem h_t5 : heightD turned5 = 0 := by decide +kernel
theorem h_nil : heightD [] = 0 := rfl
theorem tr_nil (H : Hp) : Tr H none 0 [] [] := ⟨rfl, rfl, rfl, fun i h => (by simp at h)⟩

section
variable {H : Hp} {Q : Post}
set_option maxRecDepth 100000 in
theorem law10_awake_spec (hQ : ∀ H', H <+: H' → Q (.g (.bool true)) H') : law10_awake [] H Q := by
  refine ⟨1, ?_⟩
  rw [law10_awake_eq]
  refine sound_New_spec fun H1 p1 o1 => ?_
  simp only [rA_agg, uC_cons, dL_sl, uN_nil]
  rw [bite_f (by decide)]
  simp only [pu_def, ln_def]
  have p2 := pre_pu H1 (.row false 0 [(.str (mkS [97])), (.str (mkS [])), (.str (mkS [98])), (.str (mkS [])), (.str (mkS [99])), (.str (mkS [])), (.str (mkS [100])), (.str (mkS [])), (.str (mkS [101])), (.str (mkS []))])
  have hkv := kv5_at H1
  generalize H1 ++ [.row false 0 [(.str (mkS [97])), (.str (mkS [])), (.str (mkS [98])), (.str (mkS [])), (.str (mkS [99])), (.str (mkS [])), (.str (mkS [100])), (.str (mkS [])), (.str (mkS [101])), (.str (mkS []))]] = H2 at p2 hkv ⊢
  refine ref9_Build_spec hkv (by omega) fun H3 tp cs p3 o3 => ?_
  simp only [rA_agg, uC_cons, dL_sl, uN_nil]
  refine law0_CopyTree_ct o3.tr (by omega) fun c ds H4 g => ?_
  simp only [rA_agg, uC_cons, dL_sl, uN_nil]
  have hlD := g.ot.len
  have hlT := g.ot.lenT
  obtain ⟨l, o, d, p, ex, hd, hp, hpc, g0, g1, g2, g3, g4⟩ := g.ot.tr.get (i := 0) (by omega)
  have hd' : d = ds[0]'(by omega) := by rw [List.getElem?_eq_getElem (by omega)] at hd; exact (Option.some.inj hd).symm
  have hp' : p = (buildD kv5)[0]'(by omega) := by rw [List.getElem?_eq_getElem (by omega)] at hp; exact (Option.some.inj hp).symm
  have hk1 : p.keys.length = 1 := by have := k_5; rw [hp] at this; simpa using this
  subst ex
  rw [chk_true]
  refine chk_of (by decide) ?_
  have e0 : o + tN 0 * 5 + 2 = o + 0 * 5 + 2 := rfl
  rw [pS_some, e0, rd_of g2, dL_sl, chk_true]
  have hn1 : d.n1 = 1 := by rw [hpc.keys.len, hk1]
  refine chk_of (by rw [hn1]; decide) ?_
  rw [hd']
  refine g.keyW (i := 0) (j := 0) (by omega) (by omega) (by rw [← hp']; omega) (mkS [101]) fun H5 g5 => ?_
  have hT5 : (buildD kv5).set 0 { (buildD kv5)[0]'(by omega) with keys := ((buildD kv5)[0]'(by omega)).keys.set 0 (mkS [101]) } = turned5 := by
    unfold turned5
    rw [List.getElem?_eq_getElem (by omega)]; rfl
  rw [hT5] at g5
  have p35 := g5.pre
  refine law0_Num_spec ?_
  simp only [rG_g, dI_int]
  rw [bite_t (by decide)]
  refine ref9_New_spec fun H6 p6 o6 => ?_
  simp only [rA_agg, uC_cons, dL_sl, uN_nil]
  have p16 := p2.trans (p3.trans (p35.trans p6))
  refine law0_SameTree_spec (o1.tr.mono p16) o6.tr (by omega) fun b hb => ?_
  simp only [rG_g, dB_bool]
  rw [bite_t (hb.2 rfl)]
  refine sound_Sound_spec (o1.tr.mono p16) fun H7 p7 => ?_
  simp only [rG_g, dB_bool]
  rw [bite_t (by rw [h_new]; decide)]
  refine sound_Height_spec (o1.tr.mono (p16.trans p7)) fun H8 p8 => ?_
  simp only [rG_g, dI_int]
  rw [bite_t (by rw [h_new]; decide)]
  have p38 := p35.trans (p6.trans (p7.trans p8))
  refine sound_Sound_spec (o3.tr.mono p38) fun H9 p9 => ?_
  simp only [rG_g, dB_bool]
  rw [bite_t (by rw [h_5]; decide)]
  refine sound_Height_spec (o3.tr.mono (p38.trans p9)) fun H10 p10 => ?_
  simp only [rG_g, dI_int]
  rw [bite_t (by rw [h_5]; decide)]
  have p510 := p6.trans (p7.trans (p8.trans (p9.trans p10)))
  refine sound_Sound_spec (g5.ot.tr.mono p510) fun H11 p11 => ?_
  simp only [rG_g, dB_bool]
  rw [bite_t (by rw [h_t5]; decide)]
  refine sound_Height_spec (g5.ot.tr.mono (p510.trans p11)) fun H12 p12 => ?_
  simp only [rG_g, dI_int]
  rw [bite_t (by rw [h_t5]; decide)]
  refine sound_Sound_spec (tr_nil H12) fun H13 p13 => ?_
  simp only [rG_g, dB_bool]
  rw [h_nil]
  exact hQ H13 (p1.trans (p16.trans (p7.trans (p8.trans (p9.trans (p10.trans (p11.trans (p12.trans p13))))))))
theorem law10_Sounds_spec {a : Pl} {n : Nat} {cs : List PC} {T : List Pg} (hT : Tr H a n cs T) (hn : n * 80 ≤ 140737488351232) (hQ : ∀ H', Q (.g (.bool true)) H') : law10_Sounds [.agg [.sl a n 5]] H Q := by
  refine ⟨1, ?_⟩
  rw [law10_Sounds_eq]
  refine law0_CopyTree_ct hT hn fun x ds H1 g => ?_
  simp only [rA_agg, uC_cons, dL_sl, uN_nil]
  have X := g.ot.tr
  have p1 := g.pre
  refine sound_Sound_spec X fun H2 p2 => ?_
  simp only [rG_g, dB_bool]
  refine ref9_Sound_spec (hT.mono (p1.trans p2)) fun H3 p3 => ?_
  simp only [rG_g, dB_bool]
  rw [bite_f (by simp)]
  refine sound_Height_spec (X.mono (p2.trans p3)) fun H4 p4 => ?_
  simp only [rG_g, dI_int]
  refine ref9_Height_spec (hT.mono (p1.trans (p2.trans (p3.trans p4)))) fun H5 p5 => ?_
  simp only [rG_g, dI_int]
  rw [bite_f (by simp)]
  refine sound_New_spec fun H6 p6 o6 => ?_
  simp only [rA_agg, uC_cons, dL_sl, uN_nil]
  refine ref9_New_spec fun H7 p7 o7 => ?_
  simp only [rA_agg, uC_cons, dL_sl, uN_nil]
  refine law0_SameTree_spec (o6.tr.mono p7) o7.tr (by omega) fun b hb => ?_
  simp only [rG_g, dB_bool]
  rw [bite_f (by rw [hb.2 rfl]; rfl)]
  have p17 := p2.trans (p3.trans (p4.trans (p5.trans (p6.trans p7))))
  refine law0_SameTree_spec (X.mono p17) (hT.mono (p1.trans p17)) (by omega) fun b hb => ?_
  simp only [rG_g, dB_bool]
  rw [bite_t (hb.2 rfl)]
  refine law10_awake_spec fun H8 p8 => ?_
  simp only [rG_g, dB_bool]
  exact hQ _
end
end Go.Am
namespace Go.Am
/-! 4: cryostat/cryostatlaw10.SoundTurned -/
def law10_SoundTurned.cx : Cx := ⟨tys, [33, 34], [(7, [1, 3, 4]), (14, [1, 3, 5, 6, 7])], [(11, [1, 3])], [(22, law10_awake), (16, ref9_Sound), (15, sound_Sound), (14, law0_CopyTree), (17, sound_Height)], noDyn, [.tmp 2]⟩
def law10_SoundTurned : Sm := fun xs H Q => ∃ k, callK (law10_SoundTurned.cx) Go.Proofs.Try.f4 k xs H Q
def law10_SoundTurned.l7 (k : Nat) (xx0 : Pl) (nx1 : Nat) (xx2 : Pl) (nx3 : Nat) (ix4 : Int) (H : Hp) (Q : Post) : Prop := loopK (law10_SoundTurned.cx) Go.Proofs.Try.f4 7 k (.bad :: (.bx [(.sl xx0 nx1 5)]) :: .bad :: (.bx [(.sl xx2 nx3 5)]) :: (.g (.int .i64 ix4)) :: B 83 ([])) H Q
def law10_SoundTurned.l11 (k : Nat) (xx0 : Pl) (nx1 : Nat) (xx2 : Pl) (nx3 : Nat) (H : Hp) (Q : Post) : Prop := loopK (law10_SoundTurned.cx) Go.Proofs.Try.f4 11 k (.bad :: (.bx [(.sl xx0 nx1 5)]) :: .bad :: (.bx [(.sl xx2 nx3 5)]) :: B 84 ([])) H Q
def law10_SoundTurned.l14 (k : Nat) (xx0 : Pl) (nx1 : Nat) (xx2 : Pl) (nx3 : Nat) (xx4 : Pl) (nx5 : Nat) (bx6 : Bool) (ix7 : Int) (H : Hp) (Q : Post) : Prop := loopK (law10_SoundTurned.cx) Go.Proofs.Try.f4 14 k (.bad :: (.bx [(.sl xx0 nx1 5)]) :: .bad :: (.bx [(.sl xx2 nx3 5)]) :: .bad :: (.bx [(.sl xx4 nx5 5)]) :: (.g (.bool bx6)) :: (.g (.int .i64 ix7)) :: B 80 ([])) H Q
theorem law10_SoundTurned_eq (k : Nat) (z0 : Pl) (z0n : Nat) (H : Hp) (Q : Post) : callK (law10_SoundTurned.cx) Go.Proofs.Try.f4 (k + 1) [.agg [.sl z0 z0n 5]] H Q = (
 cl law10_awake [] H fun r0 H1 =>
 rG r0 fun v2 =>
 dB v2 fun b3 =>
 bite (!b3)
 (Q (.g (.bool false)) H1)
 (cl ref9_Sound [(.agg [(.sl z0 z0n 5)])] H1 fun r4 H5 =>
  rG r4 fun v6 =>
  dB v6 fun b7 =>
  bite (!b7)
  (cl sound_Sound [(.agg [(.sl z0 z0n 5)])] H5 fun r8 H9 =>
   rG r8 fun v10 =>
   dB v10 fun b11 =>
   Q (.g (.bool (!b11))) H9)
  (cl law0_CopyTree [(.agg [(.sl z0 z0n 5)])] H5 fun r12 H13 =>
   rA r12 fun c14 =>
   uC c14 fun v15 c16 =>
   dL 5 v15 fun x17 n18 =>
   uN c16 (law10_SoundTurned.l7 k z0 z0n x17 n18 47 H13 Q)))) := by kernel_rfl
theorem law10_SoundTurned.l7_eq (k : Nat) (xx0 : Pl) (nx1 : Nat) (xx2 : Pl) (nx3 : Nat) (ix4 : Int) (H : Hp) (Q : Post) : law10_SoundTurned.l7 (k + 1) xx0 nx1 xx2 nx3 ix4 H Q = (
 bite (ltI 0 ix4)
 (chk true (chk ((leI 0 ix4) && (ltI ix4 (nI nx3))) (pS xx2 fun n0 n1 =>
  rd H n0 ((n1 + ((tN ix4) * 5)) + 0) fun v2 =>
  dB v2 fun b3 =>
  bite (!b3)
  (chk true (chk ((leI 0 ix4) && (ltI ix4 (nI nx3))) (pS xx2 fun n4 n5 =>
   wr (pu (pu H (.row true 9 [(.str (mkS [97])), (.str (mkS [98]))])) (.row true 9 [(.str (mkS [])), (.str (mkS []))])) n4 (n5 + ((tN ix4) * 5)) (.bool true) fun H6 =>
   wr H6 n4 ((n5 + ((tN ix4) * 5)) + 1) (.bool true) fun H7 =>
   wr H7 n4 (((n5 + ((tN ix4) * 5)) + 1) + 1) (.sl (some ((ln H), 0)) 2 1) fun H8 =>
   wr H8 n4 ((((n5 + ((tN ix4) * 5)) + 1) + 1) + 1) (.sl (some ((ln (pu H (.row true 9 [(.str (mkS [97])), (.str (mkS [98]))]))), 0)) 2 1) fun H9 =>
   wr H9 n4 (((((n5 + ((tN ix4) * 5)) + 1) + 1) + 1) + 1) (.sl none 0 1) fun H10 =>
   law10_SoundTurned.l11 k xx0 nx1 xx2 nx3 H10 Q)))
  (law10_SoundTurned.l7 k xx0 nx1 xx2 nx3 (wrapI .i64 (ix4 - 1)) H Q))))
 (law10_SoundTurned.l11 k xx0 nx1 xx2 nx3 H Q)) := by kernel_rfl
theorem law10_SoundTurned.l11_eq (k : Nat) (xx0 : Pl) (nx1 : Nat) (xx2 : Pl) (nx3 : Nat) (H : Hp) (Q : Post) : law10_SoundTurned.l11 (k + 1) xx0 nx1 xx2 nx3 H Q = (
 cl law0_CopyTree [(.agg [(.sl xx0 nx1 5)])] H fun r0 H1 =>
 rA r0 fun c2 =>
 uC c2 fun v3 c4 =>
 dL 5 v3 fun x5 n6 =>
 uN c4 (law10_SoundTurned.l14 k xx0 nx1 xx2 nx3 x5 n6 false 1 H1 Q)) := by kernel_rfl
theorem law10_SoundTurned.l14_eq (k : Nat) (xx0 : Pl) (nx1 : Nat) (xx2 : Pl) (nx3 : Nat) (xx4 : Pl) (nx5 : Nat) (bx6 : Bool) (ix7 : Int) (H : Hp) (Q : Post) : law10_SoundTurned.l14 (k + 1) xx0 nx1 xx2 nx3 xx4 nx5 bx6 ix7 H Q = (
 bite (ltI ix7 48)
 (bite (!bx6)
  (chk true (chk ((leI 0 ix7) && (ltI ix7 (nI nx5))) (pS xx4 fun n0 n1 =>
   rd H n0 (n1 + ((tN ix7) * 5)) fun v2 =>
   dB v2 fun b3 =>
   rd H n0 ((n1 + ((tN ix7) * 5)) + 1) fun v4 =>
   dB v4 fun b5 =>
   rd H n0 (((n1 + ((tN ix7) * 5)) + 1) + 1) fun v6 =>
   dL 1 v6 fun x7 n8 =>
   rd H n0 ((((n1 + ((tN ix7) * 5)) + 1) + 1) + 1) fun v9 =>
   dL 1 v9 fun x10 n11 =>
   rd H n0 (((((n1 + ((tN ix7) * 5)) + 1) + 1) + 1) + 1) fun v12 =>
   dL 1 v12 fun x13 n14 =>
   bite b3
   (bite b5
    (chk true (chk ((leN 0 (tN 1)) && ((leN (tN 1) n8) || (room H x7 ((tN 1) * 1)))) (chk true (chk ((leI 0 ix7) && (ltI ix7 (nI nx5))) (pS xx4 fun n15 n16 =>
     wr H n15 ((n16 + ((tN ix7) * 5)) + 2) (.sl (shf x7 0) ((tN 1) - 0) 1) fun H17 =>
     chk true (chk ((leN 0 (tN 1)) && ((leN (tN 1) n11) || (room H17 x10 ((tN 1) * 1)))) (chk true (chk ((leI 0 ix7) && (ltI ix7 (nI nx5))) (pS xx4 fun n18 n19 =>
     wr H17 n18 ((n19 + ((tN ix7) * 5)) + 3) (.sl (shf x10 0) ((tN 1) - 0) 1) fun H20 =>
     law10_SoundTurned.l14 k xx0 nx1 xx2 nx3 xx4 nx5 true (wrapI .i64 (ix7 + 1)) H20 Q)))))))))
    (law10_SoundTurned.l14 k xx0 nx1 xx2 nx3 xx4 nx5 bx6 (wrapI .i64 (ix7 + 1)) H Q))
   (law10_SoundTurned.l14 k xx0 nx1 xx2 nx3 xx4 nx5 bx6 (wrapI .i64 (ix7 + 1)) H Q))))
  (cl sound_Sound [(.agg [(.sl xx2 nx3 5)])] H fun r21 H22 =>
   rG r21 fun v23 =>
   dB v23 fun b24 =>
   bite (!b24)
   (cl sound_Sound [(.agg [(.sl xx4 nx5 5)])] H22 fun r25 H26 =>
    rG r25 fun v27 =>
    dB v27 fun b28 =>
    bite (!(eqB b28 bx6))
    (cl sound_Height [(.agg [(.sl xx0 nx1 5)])] H26 fun r29 H30 =>
     rG r29 fun v31 =>
     dI .i64 v31 fun i32 =>
     Q (.g (.bool (leI 1 i32))) H30)
    (Q (.g (.bool false)) H26))
   (Q (.g (.bool false)) H22)))
 (cl sound_Sound [(.agg [(.sl xx2 nx3 5)])] H fun r33 H34 =>
  rG r33 fun v35 =>
  dB v35 fun b36 =>
  bite (!b36)
  (cl sound_Sound [(.agg [(.sl xx4 nx5 5)])] H34 fun r37 H38 =>
   rG r37 fun v39 =>
   dB v39 fun b40 =>
   bite (!(eqB b40 bx6))
   (cl sound_Height [(.agg [(.sl xx0 nx1 5)])] H38 fun r41 H42 =>
    rG r41 fun v43 =>
    dI .i64 v43 fun i44 =>
    Q (.g (.bool (leI 1 i44))) H42)
   (Q (.g (.bool false)) H38))
  (Q (.g (.bool false)) H34))) := by kernel_rfl
theorem law10_SoundTurned_ok : Sound Go.Proofs.Try.prog 4 (law10_SoundTurned) := prog_ok.sound (cx := law10_SoundTurned.cx) rfl (EnvOK.cons ((law10_awake_ok).c ⟨_, Go.Proofs.Try.func22, by kernel_rfl, by kernel_rfl⟩) (EnvOK.cons ((ref9_Sound_ok).c ⟨_, Go.Proofs.Try.func16, by kernel_rfl, by kernel_rfl⟩) (EnvOK.cons ((sound_Sound_ok).c ⟨_, Go.Proofs.Try.func15, by kernel_rfl, by kernel_rfl⟩) (EnvOK.cons ((law0_CopyTree_ok).c ⟨_, Go.Proofs.Try.func14, by kernel_rfl, by kernel_rfl⟩) (EnvOK.cons ((sound_Height_ok).c ⟨_, Go.Proofs.Try.func17, by kernel_rfl, by kernel_rfl⟩) (EnvOK.nil _)))))) (noDyn_ok _) Go.Proofs.Try.func4 rfl

/-! 23: cryostat/cryostatlaw10.letters -/
def law10_letters.cx : Cx := ⟨tys, [12], [], [], [], noDyn, [.tmp 2]⟩
def law10_letters : Sm := fun xs H Q => ∃ k, callK (law10_letters.cx) Go.Proofs.Try.f23 k xs H Q
theorem law10_letters_eq (k : Nat) (z0 : Int) (H : Hp) (Q : Post) : callK (law10_letters.cx) Go.Proofs.Try.f23 (k + 1) [.g (.int .i64 z0)] H Q = (
 rdN (pu H (.row true 5 [(.int .u8 (wrapI .u8 (wrapI .i64 (97 + (bitsI .and .i64 (shrI .i64 z0 4) 15))))), (.int .u8 (wrapI .u8 (wrapI .i64 (97 + (bitsI .and .i64 z0 15)))))])) (some ((ln H), 0)) 2 fun c0 =>
 txt c0 fun s1 =>
 Q (.g (.str s1)) (pu H (.row true 5 [(.int .u8 (wrapI .u8 (wrapI .i64 (97 + (bitsI .and .i64 (shrI .i64 z0 4) 15))))), (.int .u8 (wrapI .u8 (wrapI .i64 (97 + (bitsI .and .i64 z0 15)))))]))) := by kernel_rfl
theorem law10_letters_ok : Sound Go.Proofs.Try.prog 23 (law10_letters) := prog_ok.sound (cx := law10_letters.cx) rfl (EnvOK.nil _) (noDyn_ok _) Go.Proofs.Try.func23 rfl

/-! 5: cryostat/cryostatlaw10.SoundForms -/
def law10_SoundForms.cx : Cx := ⟨tys, [135, 143, 145], [(5, [0, 3, 4])], [(36, [5, 6])], [(22, law10_awake), (23, law10_letters), (24, ref9_Build), (14, law0_CopyTree), (15, sound_Sound), (17, sound_Height)], noDyn, [.tmp 2]⟩
def law10_SoundForms : Sm := fun xs H Q => ∃ k, callK (law10_SoundForms.cx) Go.Proofs.Try.f5 k xs H Q
def law10_SoundForms.l5 (k : Nat) (ix0 : Int) (ax1 : Pl) (nx2 : Nat) (ix3 : Int) (H : Hp) (Q : Post) : Prop := loopK (law10_SoundForms.cx) Go.Proofs.Try.f5 5 k ((.g (.int .i64 ix0)) :: .bad :: .bad :: (.g (.sl ax1 nx2 2)) :: (.g (.int .i64 ix3)) :: B 160 ([])) H Q
def law10_SoundForms.l36 (k : Nat) (xx0 : Pl) (nx1 : Nat) (xx2 : Pl) (nx3 : Nat) (H : Hp) (Q : Post) : Prop := loopK (law10_SoundForms.cx) Go.Proofs.Try.f5 36 k (B 5 ((.bx [(.sl xx0 nx1 5)]) :: (.bx [(.sl xx2 nx3 5)]) :: B 158 ([]))) H Q
theorem law10_SoundForms_eq (k : Nat) (z0 : Int) (H : Hp) (Q : Post) : callK (law10_SoundForms.cx) Go.Proofs.Try.f5 (k + 1) [.g (.int .i64 z0)] H Q = (
 cl law10_awake [] H fun r0 H1 =>
 rG r0 fun v2 =>
 dB v2 fun b3 =>
 bite (!b3)
 (Q (.g (.bool false)) H1)
 (law10_SoundForms.l5 k z0 none 0 0 H1 Q)) := by kernel_rfl
theorem law10_SoundForms.l5_eq (k : Nat) (ix0 : Int) (ax1 : Pl) (nx2 : Nat) (ix3 : Int) (H : Hp) (Q : Post) : law10_SoundForms.l5 (k + 1) ix0 ax1 nx2 ix3 H Q = (
 bite (ltI ix3 20)
 (cl law10_letters [(.g (.int .i64 (wrapI .i64 (2 * ix3))))] H fun r0 H1 =>
  rG r0 fun v2 =>
  dS v2 fun s3 =>
  chk true (ap H1 38 2 32 ax1 nx2 [(.str s3), (.str (mkS []))] 1 fun x4 n5 H6 =>
  law10_SoundForms.l5 k ix0 x4 n5 (wrapI .i64 (ix3 + 1)) H6 Q))
 (cl ref9_Build [(.g (.sl ax1 nx2 2))] H fun r7 H8 =>
  rA r7 fun c9 =>
  uC c9 fun v10 c11 =>
  dL 5 v10 fun x12 n13 =>
  uN c11 (cl law0_CopyTree [(.agg [(.sl x12 n13 5)])] H8 fun r14 H15 =>
  rA r14 fun c16 =>
  uC c16 fun v17 c18 =>
  dL 5 v17 fun x19 n20 =>
  uN c18 (chk true (chk ((leI 0 0) && (ltI 0 (nI n20))) (pS x19 fun n21 n22 =>
  rd H15 n21 ((n22 + ((tN 0) * 5)) + 4) fun v23 =>
  dL 1 v23 fun x24 n25 =>
  chk true (chk ((leI 0 0) && (ltI 0 (nI n25))) (pS x24 fun n26 n27 =>
  rd H15 n26 (n27 + ((tN 0) * 1)) fun v28 =>
  dI .i64 v28 fun i29 =>
  chk true (chk ((leI 0 0) && (ltI 0 (nI n20))) (pS x19 fun n30 n31 =>
  rd H15 n30 ((n31 + ((tN 0) * 5)) + 4) fun v32 =>
  dL 1 v32 fun x33 n34 =>
  chk true (chk ((leI 0 0) && (ltI 0 (nI n20))) (pS x19 fun n35 n36 =>
  rd H15 n35 ((n36 + ((tN 0) * 5)) + 4) fun v37 =>
  dL 1 v37 fun x38 n39 =>
  chk true (chk ((leI 0 (wrapI .i64 ((nI n39) - 1))) && (ltI (wrapI .i64 ((nI n39) - 1)) (nI n34))) (pS x33 fun n40 n41 =>
  rd H15 n40 (n41 + ((tN (wrapI .i64 ((nI n39) - 1))) * 1)) fun v42 =>
  dI .i64 v42 fun i43 =>
  bite (eqI (Int.tmod (wrapI .u64 ix0) 12) 0)
  (chk true (chk ((leN 0 (tN 47)) && ((leN (tN 47) n20) || (room H15 x19 ((tN 47) * 5)))) (law10_SoundForms.l36 k x12 n13 (shf x19 0) ((tN 47) - 0) H15 Q)))
  (bite (eqI (Int.tmod (wrapI .u64 ix0) 12) 1)
   (chk true (ap H15 34 5 80 x19 n20 [(.bool false), (.bool false), (.sl none 0 1), (.sl none 0 1), (.sl none 0 1)] 1 fun x44 n45 H46 =>
    law10_SoundForms.l36 k x12 n13 x44 n45 H46 Q))
   (bite (eqI (Int.tmod (wrapI .u64 ix0) 12) 2)
    (chk true (chk ((leI 0 i29) && (ltI i29 (nI n20))) (pS x19 fun n47 n48 =>
     wr H15 n47 ((n48 + ((tN i29) * 5)) + 0) (.bool false) fun H49 =>
     law10_SoundForms.l36 k x12 n13 x19 n20 H49 Q)))
    (bite (eqI (Int.tmod (wrapI .u64 ix0) 12) 3)
     (chk true (chk ((leI 0 0) && (ltI 0 (nI n20))) (pS x19 fun n50 n51 =>
      rd H15 n50 ((n51 + ((tN 0) * 5)) + 4) fun v52 =>
      dL 1 v52 fun x53 n54 =>
      chk true (chk ((leI 0 0) && (ltI 0 (nI n54))) (pS x53 fun n55 n56 =>
      wr H15 n55 (n56 + ((tN 0) * 1)) (.int .i64 i43) fun H57 =>
      law10_SoundForms.l36 k x12 n13 x19 n20 H57 Q)))))
     (bite (eqI (Int.tmod (wrapI .u64 ix0) 12) 4)
      (chk true (chk ((leI 0 i29) && (ltI i29 (nI n20))) (pS x19 fun n58 n59 =>
       rd H15 n58 ((n59 + ((tN i29) * 5)) + 2) fun v60 =>
       dL 1 v60 fun x61 n62 =>
       chk true (chk ((leI 0 0) && (ltI 0 (nI n62))) (pS x61 fun n63 n64 =>
       wr H15 n63 (n64 + ((tN 0) * 1)) (.str (mkS [122, 122])) fun H65 =>
       law10_SoundForms.l36 k x12 n13 x19 n20 H65 Q)))))
      (bite (eqI (Int.tmod (wrapI .u64 ix0) 12) 5)
       (chk true (chk ((leI 0 i43) && (ltI i43 (nI n20))) (pS x19 fun n66 n67 =>
        rd H15 n66 ((n67 + ((tN i43) * 5)) + 2) fun v68 =>
        dL 1 v68 fun x69 n70 =>
        chk true (chk ((leI 0 0) && (ltI 0 (nI n70))) (pS x69 fun n71 n72 =>
        wr H15 n71 (n72 + ((tN 0) * 1)) (.str (mkS [97])) fun H73 =>
        law10_SoundForms.l36 k x12 n13 x19 n20 H73 Q)))))
       (bite (eqI (Int.tmod (wrapI .u64 ix0) 12) 6)
        (chk true (chk ((leI 0 0) && (ltI 0 (nI n20))) (pS x19 fun n74 n75 =>
         wr H15 n74 (n75 + ((tN 0) * 5)) (.bool false) fun H76 =>
         wr H76 n74 ((n75 + ((tN 0) * 5)) + 1) (.bool false) fun H77 =>
         wr H77 n74 (((n75 + ((tN 0) * 5)) + 1) + 1) (.sl none 0 1) fun H78 =>
         wr H78 n74 ((((n75 + ((tN 0) * 5)) + 1) + 1) + 1) (.sl none 0 1) fun H79 =>
         wr H79 n74 (((((n75 + ((tN 0) * 5)) + 1) + 1) + 1) + 1) (.sl none 0 1) fun H80 =>
         law10_SoundForms.l36 k x12 n13 x19 n20 H80 Q)))
        (bite (eqI (Int.tmod (wrapI .u64 ix0) 12) 7)
         (chk true (chk ((leI 0 0) && (ltI 0 (nI n20))) (pS x19 fun n81 n82 =>
          rd H15 n81 ((n82 + ((tN 0) * 5)) + 4) fun v83 =>
          dL 1 v83 fun x84 n85 =>
          chk true (chk ((leI 0 0) && (ltI 0 (nI n85))) (pS x84 fun n86 n87 =>
          wr H15 n86 (n87 + ((tN 0) * 1)) (.int .i64 47) fun H88 =>
          law10_SoundForms.l36 k x12 n13 x19 n20 H88 Q)))))
         (bite (eqI (Int.tmod (wrapI .u64 ix0) 12) 8)
          (chk true (chk ((leI 0 47) && (ltI 47 (nI n20))) (pS x19 fun n89 n90 =>
           wr H15 n89 ((n90 + ((tN 47) * 5)) + 1) (.bool true) fun H91 =>
           law10_SoundForms.l36 k x12 n13 x19 n20 H91 Q)))
          (bite (eqI (Int.tmod (wrapI .u64 ix0) 12) 9)
           (chk true (chk ((leI 0 47) && (ltI 47 (nI n20))) (pS x19 fun n92 n93 =>
            wr (pu H15 (.row true 9 [(.str (mkS [97]))])) n92 ((n93 + ((tN 47) * 5)) + 2) (.sl (some ((ln H15), 0)) 1 1) fun H94 =>
            law10_SoundForms.l36 k x12 n13 x19 n20 H94 Q)))
           (bite (eqI (Int.tmod (wrapI .u64 ix0) 12) 10)
            (chk true (chk ((leI 0 i29) && (ltI i29 (nI n20))) (pS x19 fun n95 n96 =>
             wr (pu (pu H15 (.row true 9 [(.str (mkS [97, 98])), (.str (mkS [97, 99]))])) (.row true 3 [(.int .i64 i29), (.int .i64 40), (.int .i64 41)])) n95 (n96 + ((tN i29) * 5)) (.bool true) fun H97 =>
             wr H97 n95 ((n96 + ((tN i29) * 5)) + 1) (.bool false) fun H98 =>
             wr H98 n95 (((n96 + ((tN i29) * 5)) + 1) + 1) (.sl (some ((ln H15), 0)) 2 1) fun H99 =>
             wr H99 n95 ((((n96 + ((tN i29) * 5)) + 1) + 1) + 1) (.sl none 0 1) fun H100 =>
             wr H100 n95 (((((n96 + ((tN i29) * 5)) + 1) + 1) + 1) + 1) (.sl (some ((ln (pu H15 (.row true 9 [(.str (mkS [97, 98])), (.str (mkS [97, 99]))]))), 0)) 3 1) fun H101 =>
             law10_SoundForms.l36 k x12 n13 x19 n20 H101 Q)))
            (chk true (chk ((leI 0 0) && (ltI 0 (nI n20))) (pS x19 fun n102 n103 =>
             rd H15 n102 ((n103 + ((tN 0) * 5)) + 2) fun v104 =>
             dL 1 v104 fun x105 n106 =>
             chk true (chk ((leI 0 0) && (ltI 0 (nI n20))) (pS x19 fun n107 n108 =>
             rd H15 n107 ((n108 + ((tN 0) * 5)) + 2) fun v109 =>
             dL 1 v109 fun x110 n111 =>
             chk true (chk ((leI 0 1) && (ltI 1 (nI n111))) (pS x110 fun n112 n113 =>
             rd H15 n112 (n113 + ((tN 1) * 1)) fun v114 =>
             dS v114 fun s115 =>
             chk true (chk ((leI 0 0) && (ltI 0 (nI n106))) (pS x105 fun n116 n117 =>
             wr H15 n116 (n117 + ((tN 0) * 1)) (.str s115) fun H118 =>
             law10_SoundForms.l36 k x12 n13 x19 n20 H118 Q))))))))))))))))))))))))))))))))) := by kernel_rfl
theorem law10_SoundForms.l36_eq (k : Nat) (xx0 : Pl) (nx1 : Nat) (xx2 : Pl) (nx3 : Nat) (H : Hp) (Q : Post) : law10_SoundForms.l36 (k + 1) xx0 nx1 xx2 nx3 H Q = (
 cl sound_Sound [(.agg [(.sl xx0 nx1 5)])] H fun r0 H1 =>
 rG r0 fun v2 =>
 dB v2 fun b3 =>
 bite b3
 (cl sound_Height [(.agg [(.sl xx0 nx1 5)])] H1 fun r4 H5 =>
  rG r4 fun v6 =>
  dI .i64 v6 fun i7 =>
  bite (eqI i7 2)
  (cl sound_Sound [(.agg [(.sl xx2 nx3 5)])] H5 fun r8 H9 =>
   rG r8 fun v10 =>
   dB v10 fun b11 =>
   bite (!b11)
   (cl sound_Height [(.agg [(.sl xx2 nx3 5)])] H9 fun r12 H13 =>
    rG r12 fun v14 =>
    dI .i64 v14 fun i15 =>
    Q (.g (.bool (eqI i15 0))) H13)
   (Q (.g (.bool false)) H9))
  (Q (.g (.bool false)) H5))
 (Q (.g (.bool false)) H1)) := by kernel_rfl
theorem law10_SoundForms_ok : Sound Go.Proofs.Try.prog 5 (law10_SoundForms) := prog_ok.sound (cx := law10_SoundForms.cx) rfl (EnvOK.cons ((law10_awake_ok).c ⟨_, Go.Proofs.Try.func22, by kernel_rfl, by kernel_rfl⟩) (EnvOK.cons ((law10_letters_ok).c ⟨_, Go.Proofs.Try.func23, by kernel_rfl, by kernel_rfl⟩) (EnvOK.cons ((ref9_Build_ok).c ⟨_, Go.Proofs.Try.func24, by kernel_rfl, by kernel_rfl⟩) (EnvOK.cons ((law0_CopyTree_ok).c ⟨_, Go.Proofs.Try.func14, by kernel_rfl, by kernel_rfl⟩) (EnvOK.cons ((sound_Sound_ok).c ⟨_, Go.Proofs.Try.func15, by kernel_rfl, by kernel_rfl⟩) (EnvOK.cons ((sound_Height_ok).c ⟨_, Go.Proofs.Try.func17, by kernel_rfl, by kernel_rfl⟩) (EnvOK.nil _))))))) (noDyn_ok _) Go.Proofs.Try.func5 rfl

/-! 6: cryostat/cryostatlaw10.SoundFull -/
def law10_SoundFull.cx : Cx := ⟨tys, [], [(5, [0, 3, 4])], [], [(22, law10_awake), (23, law10_letters), (24, ref9_Build), (25, law0_Num), (15, sound_Sound), (17, sound_Height)], noDyn, [.tmp 2]⟩
def law10_SoundFull : Sm := fun xs H Q => ∃ k, callK (law10_SoundFull.cx) Go.Proofs.Try.f6 k xs H Q
def law10_SoundFull.l5 (k : Nat) (ix0 : Int) (ax1 : Pl) (nx2 : Nat) (ix3 : Int) (H : Hp) (Q : Post) : Prop := loopK (law10_SoundFull.cx) Go.Proofs.Try.f6 5 k ((.g (.int .i64 ix0)) :: .bad :: .bad :: (.g (.sl ax1 nx2 2)) :: (.g (.int .i64 ix3)) :: B 38 ([])) H Q
theorem law10_SoundFull_eq (k : Nat) (z0 : Int) (H : Hp) (Q : Post) : callK (law10_SoundFull.cx) Go.Proofs.Try.f6 (k + 1) [.g (.int .i64 z0)] H Q = (
 cl law10_awake [] H fun r0 H1 =>
 rG r0 fun v2 =>
 dB v2 fun b3 =>
 bite (!b3)
 (Q (.g (.bool false)) H1)
 (law10_SoundFull.l5 k z0 none 0 0 H1 Q)) := by kernel_rfl
theorem law10_SoundFull.l5_eq (k : Nat) (ix0 : Int) (ax1 : Pl) (nx2 : Nat) (ix3 : Int) (H : Hp) (Q : Post) : law10_SoundFull.l5 (k + 1) ix0 ax1 nx2 ix3 H Q = (
 bite (ltI ix3 (wrapI .i64 (56 + (bitsI .and .i64 ix0 7))))
 (cl law10_letters [(.g (.int .i64 ix3))] H fun r0 H1 =>
  rG r0 fun v2 =>
  dS v2 fun s3 =>
  chk true (ap H1 38 2 32 ax1 nx2 [(.str s3), (.str (mkS []))] 1 fun x4 n5 H6 =>
  law10_SoundFull.l5 k ix0 x4 n5 (wrapI .i64 (ix3 + 1)) H6 Q))
 (cl ref9_Build [(.g (.sl ax1 nx2 2))] H fun r7 H8 =>
  rA r7 fun c9 =>
  uC c9 fun v10 c11 =>
  dL 5 v10 fun x12 n13 =>
  uN c11 (cl law0_Num [(.g (.int .i64 0))] H8 fun r14 H15 =>
  rG r14 fun v16 =>
  dI .i64 v16 fun i17 =>
  bite (eqI i17 0)
  (cl sound_Sound [(.agg [(.sl x12 n13 5)])] H15 fun r18 H19 =>
   rG r18 fun v20 =>
   dB v20 fun b21 =>
   bite (eqB b21 (leI (nI nx2) 60))
   (bite (ltI 60 (nI nx2))
    (Q (.g (.bool true)) H19)
    (cl sound_Height [(.agg [(.sl x12 n13 5)])] H19 fun r22 H23 =>
     rG r22 fun v24 =>
     dI .i64 v24 fun i25 =>
     Q (.g (.bool (eqI i25 3))) H23))
   (Q (.g (.bool false)) H19))
  (Q (.g (.bool false)) H15)))) := by kernel_rfl
theorem law10_SoundFull_ok : Sound Go.Proofs.Try.prog 6 (law10_SoundFull) := prog_ok.sound (cx := law10_SoundFull.cx) rfl (EnvOK.cons ((law10_awake_ok).c ⟨_, Go.Proofs.Try.func22, by kernel_rfl, by kernel_rfl⟩) (EnvOK.cons ((law10_letters_ok).c ⟨_, Go.Proofs.Try.func23, by kernel_rfl, by kernel_rfl⟩) (EnvOK.cons ((ref9_Build_ok).c ⟨_, Go.Proofs.Try.func24, by kernel_rfl, by kernel_rfl⟩) (EnvOK.cons ((law0_Num_ok).c ⟨_, Go.Proofs.Try.func25, by kernel_rfl, by kernel_rfl⟩) (EnvOK.cons ((sound_Sound_ok).c ⟨_, Go.Proofs.Try.func15, by kernel_rfl, by kernel_rfl⟩) (EnvOK.cons ((sound_Height_ok).c ⟨_, Go.Proofs.Try.func17, by kernel_rfl, by kernel_rfl⟩) (EnvOK.nil _))))))) (noDyn_ok _) Go.Proofs.Try.func6 rfl

/-! 45: cryostat/cryostatref9.all -/
def ref9_all.cx (S : Sm) : Cx := ⟨tys, [], [(3, [2, 3, 7, 8]), (7, [2, 3, 7, 9])], [], [(45, S)], noDyn, [.tmp 6]⟩
def ref9_all.st (S : Sm) : Sm := fun xs H Q => ∃ k, callK (ref9_all.cx S) Go.Proofs.Try.f45 k xs H Q
def ref9_all.l3 (S : Sm) (k : Nat) (xx0 : Pl) (nx1 : Nat) (xx2 : Pl) (nx3 : Nat) (bx4 : Bool) (bx5 : Bool) (xx6 : Pl) (nx7 : Nat) (xx8 : Pl) (nx9 : Nat) (xx10 : Pl) (nx11 : Nat) (ix12 : Int) (H : Hp) (Q : Post) : Prop := loopK (ref9_all.cx S) Go.Proofs.Try.f45 3 k (.bad :: .bad :: (.g (.sl xx0 nx1 2)) :: (.bx [(.sl xx2 nx3 5)]) :: B 3 ((.bx [(.bool bx4), (.bool bx5), (.sl xx6 nx7 1), (.sl xx8 nx9 1), (.sl xx10 nx11 1)]) :: (.g (.int .i64 ix12)) :: B 43 ([]))) H Q
def ref9_all.l7 (S : Sm) (k : Nat) (xx0 : Pl) (nx1 : Nat) (xx2 : Pl) (nx3 : Nat) (bx4 : Bool) (bx5 : Bool) (xx6 : Pl) (nx7 : Nat) (xx8 : Pl) (nx9 : Nat) (xx10 : Pl) (nx11 : Nat) (ix12 : Int) (H : Hp) (Q : Post) : Prop := loopK (ref9_all.cx S) Go.Proofs.Try.f45 7 k (.bad :: .bad :: (.g (.sl xx0 nx1 2)) :: (.bx [(.sl xx2 nx3 5)]) :: B 3 ((.bx [(.bool bx4), (.bool bx5), (.sl xx6 nx7 1), (.sl xx8 nx9 1), (.sl xx10 nx11 1)]) :: .bad :: (.g (.int .i64 ix12)) :: B 42 ([]))) H Q
theorem ref9_all_eq (S : Sm) (k : Nat) (z0 : Pl) (z0n : Nat) (z1 : Int) (z2 : Pl) (z2n : Nat) (H : Hp) (Q : Post) : callK (ref9_all.cx S) Go.Proofs.Try.f45 (k + 1) [.agg [.sl z0 z0n 5], .g (.int .i64 z1), .g (.sl z2 z2n 2)] H Q = (
 chk true (chk ((leI 0 z1) && (ltI z1 (nI z0n))) (pS z0 fun n0 n1 =>
 rd H n0 (n1 + ((tN z1) * 5)) fun v2 =>
 dB v2 fun b3 =>
 rd H n0 ((n1 + ((tN z1) * 5)) + 1) fun v4 =>
 dB v4 fun b5 =>
 rd H n0 (((n1 + ((tN z1) * 5)) + 1) + 1) fun v6 =>
 dL 1 v6 fun x7 n8 =>
 rd H n0 ((((n1 + ((tN z1) * 5)) + 1) + 1) + 1) fun v9 =>
 dL 1 v9 fun x10 n11 =>
 rd H n0 (((((n1 + ((tN z1) * 5)) + 1) + 1) + 1) + 1) fun v12 =>
 dL 1 v12 fun x13 n14 =>
 ref9_all.l3 S k z2 z2n z0 z0n b3 b5 x7 n8 x10 n11 x13 n14 0 H Q))) := by kernel_rfl
theorem ref9_all.l3_eq (S : Sm) (k : Nat) (xx0 : Pl) (nx1 : Nat) (xx2 : Pl) (nx3 : Nat) (bx4 : Bool) (bx5 : Bool) (xx6 : Pl) (nx7 : Nat) (xx8 : Pl) (nx9 : Nat) (xx10 : Pl) (nx11 : Nat) (ix12 : Int) (H : Hp) (Q : Post) : ref9_all.l3 S (k + 1) xx0 nx1 xx2 nx3 bx4 bx5 xx6 nx7 xx8 nx9 xx10 nx11 ix12 H Q = (
 bite (ltI ix12 (nI nx9))
 (chk true (chk ((leI 0 ix12) && (ltI ix12 (nI nx7))) (pS xx6 fun n0 n1 =>
  rd H n0 (n1 + ((tN ix12) * 1)) fun v2 =>
  dS v2 fun s3 =>
  chk true (chk ((leI 0 ix12) && (ltI ix12 (nI nx9))) (pS xx8 fun n4 n5 =>
  rd H n4 (n5 + ((tN ix12) * 1)) fun v6 =>
  dS v6 fun s7 =>
  chk true (ap H 38 2 32 xx0 nx1 [(.str s3), (.str s7)] 1 fun x8 n9 H10 =>
  ref9_all.l3 S k x8 n9 xx2 nx3 bx4 bx5 xx6 nx7 xx8 nx9 xx10 nx11 (wrapI .i64 (ix12 + 1)) H10 Q))))))
 (ref9_all.l7 S k xx0 nx1 xx2 nx3 bx4 bx5 xx6 nx7 xx8 nx9 xx10 nx11 0 H Q)) := by kernel_rfl
theorem ref9_all.l7_eq (S : Sm) (k : Nat) (xx0 : Pl) (nx1 : Nat) (xx2 : Pl) (nx3 : Nat) (bx4 : Bool) (bx5 : Bool) (xx6 : Pl) (nx7 : Nat) (xx8 : Pl) (nx9 : Nat) (xx10 : Pl) (nx11 : Nat) (ix12 : Int) (H : Hp) (Q : Post) : ref9_all.l7 S (k + 1) xx0 nx1 xx2 nx3 bx4 bx5 xx6 nx7 xx8 nx9 xx10 nx11 ix12 H Q = (
 bite (ltI ix12 (nI nx11))
 (chk true (chk ((leI 0 ix12) && (ltI ix12 (nI nx11))) (pS xx10 fun n0 n1 =>
  rd H n0 (n1 + ((tN ix12) * 1)) fun v2 =>
  dI .i64 v2 fun i3 =>
  cl S [(.agg [(.sl xx2 nx3 5)]), (.g (.int .i64 i3)), (.g (.sl xx0 nx1 2))] H fun r4 H5 =>
  rG r4 fun v6 =>
  dL 2 v6 fun x7 n8 =>
  ref9_all.l7 S k x7 n8 xx2 nx3 bx4 bx5 xx6 nx7 xx8 nx9 xx10 nx11 (wrapI .i64 (ix12 + 1)) H5 Q)))
 (Q (.g (.sl xx0 nx1 2)) H)) := by kernel_rfl
theorem ref9_all.st_ok (S : Sm) (hS : SoundC Go.Proofs.Try.prog 45 S) : Sound Go.Proofs.Try.prog 45 (ref9_all.st S) := prog_ok.sound (cx := ref9_all.cx S) rfl (EnvOK.cons hS (EnvOK.nil _)) (noDyn_ok _) Go.Proofs.Try.func45 rfl
def ref9_all.at : Nat → Sm
  | 0 => fun _ _ _ => False
  | n + 1 => ref9_all.st (ref9_all.at n)
def ref9_all : Sm := fun xs H Q => ∃ n, ref9_all.at n xs H Q
theorem ref9_all.at_ok : ∀ n, Sound Go.Proofs.Try.prog 45 (ref9_all.at n)
  | 0 => fun _ _ _ h => h.elim
  | n + 1 => ref9_all.st_ok _ ((ref9_all.at_ok n).c ⟨_, Go.Proofs.Try.func45, by kernel_rfl, by kernel_rfl⟩)
theorem ref9_all_ok : Sound Go.Proofs.Try.prog 45 (ref9_all) := Sound.ex (ref9_all.at_ok)

/-! 26: cryostat/cryostatref9.All -/
def ref9_All.cx : Cx := ⟨tys, [], [], [], [(16, ref9_Sound), (45, ref9_all)], noDyn, [.tmp 2, .tmp 3]⟩
def ref9_All : Sm := fun xs H Q => ∃ k, callK (ref9_All.cx) Go.Proofs.Try.f26 k xs H Q
theorem ref9_All_eq (k : Nat) (z0 : Pl) (z0n : Nat) (H : Hp) (Q : Post) : callK (ref9_All.cx) Go.Proofs.Try.f26 (k + 1) [.agg [.sl z0 z0n 5]] H Q = (
 cl ref9_Sound [(.agg [(.sl z0 z0n 5)])] H fun r0 H1 =>
 rG r0 fun v2 =>
 dB v2 fun b3 =>
 bite (!b3)
 (Q (.tup [(.s (.sl none 0 2)), (.s (.int .i64 1400))]) H1)
 (cl ref9_all [(.agg [(.sl z0 z0n 5)]), (.g (.int .i64 0)), (.g (.sl none 0 0))] H1 fun r4 H5 =>
  rG r4 fun v6 =>
  dL 2 v6 fun x7 n8 =>
  Q (.tup [(.s (.sl x7 n8 2)), (.s (.int .i64 0))]) H5)) := by kernel_rfl
theorem ref9_All_ok : Sound Go.Proofs.Try.prog 26 (ref9_All) := prog_ok.sound (cx := ref9_All.cx) rfl (EnvOK.cons ((ref9_Sound_ok).c ⟨_, Go.Proofs.Try.func16, by kernel_rfl, by kernel_rfl⟩) (EnvOK.cons ((ref9_all_ok).c ⟨_, Go.Proofs.Try.func45, by kernel_rfl, by kernel_rfl⟩) (EnvOK.nil _))) (noDyn_ok _) Go.Proofs.Try.func26 rfl

/-! 7: cryostat/cryostatlaw10.SoundPages -/
def law10_SoundPages.cx : Cx := ⟨tys, [], [(8, [1, 3, 4, 5, 6, 7])], [], [(22, law10_awake), (15, sound_Sound), (17, sound_Height), (26, ref9_All), (27, ref1_PageMay)], noDyn, [.tmp 2]⟩
def law10_SoundPages : Sm := fun xs H Q => ∃ k, callK (law10_SoundPages.cx) Go.Proofs.Try.f7 k xs H Q
def law10_SoundPages.l8 (k : Nat) (xx0 : Pl) (nx1 : Nat) (xx2 : Pl) (nx3 : Nat) (ix4 : Int) (ix5 : Int) (ix6 : Int) (ix7 : Int) (H : Hp) (Q : Post) : Prop := loopK (law10_SoundPages.cx) Go.Proofs.Try.f7 8 k (.bad :: (.bx [(.sl xx0 nx1 5)]) :: .bad :: (.g (.sl xx2 nx3 2)) :: (.g (.int .i64 ix4)) :: (.g (.int .i64 ix5)) :: (.g (.int .i64 ix6)) :: (.g (.int .i64 ix7)) :: B 86 ([])) H Q
theorem law10_SoundPages_eq (k : Nat) (z0 : Pl) (z0n : Nat) (H : Hp) (Q : Post) : callK (law10_SoundPages.cx) Go.Proofs.Try.f7 (k + 1) [.agg [.sl z0 z0n 5]] H Q = (
 cl law10_awake [] H fun r0 H1 =>
 rG r0 fun v2 =>
 dB v2 fun b3 =>
 bite (!b3)
 (Q (.g (.bool false)) H1)
 (cl sound_Sound [(.agg [(.sl z0 z0n 5)])] H1 fun r4 H5 =>
  rG r4 fun v6 =>
  dB v6 fun b7 =>
  bite (!b7)
  (cl sound_Height [(.agg [(.sl z0 z0n 5)])] H5 fun r8 H9 =>
   rG r8 fun v10 =>
   dI .i64 v10 fun i11 =>
   Q (.g (.bool (eqI i11 0))) H9)
  (cl ref9_All [(.agg [(.sl z0 z0n 5)])] H5 fun r12 H13 =>
   rT r12 fun c14 =>
   uR c14 fun q15 c16 =>
   rS q15 fun v17 =>
   dL 2 v17 fun x18 n19 =>
   uR c16 fun q20 c21 =>
   rS q20 fun v22 =>
   dI .i64 v22 fun i23 =>
   uE c21 (law10_SoundPages.l8 k z0 z0n x18 n19 i23 0 0 0 H13 Q)))) := by kernel_rfl
theorem law10_SoundPages.l8_eq (k : Nat) (xx0 : Pl) (nx1 : Nat) (xx2 : Pl) (nx3 : Nat) (ix4 : Int) (ix5 : Int) (ix6 : Int) (ix7 : Int) (H : Hp) (Q : Post) : law10_SoundPages.l8 (k + 1) xx0 nx1 xx2 nx3 ix4 ix5 ix6 ix7 H Q = (
 bite (ltI ix7 (nI nx1))
 (chk true (chk ((leI 0 ix7) && (ltI ix7 (nI nx1))) (pS xx0 fun n0 n1 =>
  rd H n0 (n1 + ((tN ix7) * 5)) fun v2 =>
  dB v2 fun b3 =>
  rd H n0 ((n1 + ((tN ix7) * 5)) + 1) fun v4 =>
  dB v4 fun b5 =>
  rd H n0 (((n1 + ((tN ix7) * 5)) + 1) + 1) fun v6 =>
  dL 1 v6 fun x7 n8 =>
  rd H n0 ((((n1 + ((tN ix7) * 5)) + 1) + 1) + 1) fun v9 =>
  dL 1 v9 fun x10 n11 =>
  rd H n0 (((((n1 + ((tN ix7) * 5)) + 1) + 1) + 1) + 1) fun v12 =>
  dL 1 v12 fun x13 n14 =>
  bite b3
  (cl ref1_PageMay [(.agg [(.bool b3), (.bool b5), (.sl x7 n8 1), (.sl x10 n11 1), (.sl x13 n14 1)])] H fun r15 H16 =>
   rG r15 fun v17 =>
   dB v17 fun b18 =>
   bite (!b18)
   (Q (.g (.bool false)) H16)
   (bite (ltI 0 ix7)
    (bite (ltI (nI n8) 2)
     (Q (.g (.bool false)) H16)
     (bite b3
      (bite b5
       (law10_SoundPages.l8 k xx0 nx1 xx2 nx3 ix4 (wrapI .i64 (ix5 + (nI n8))) (wrapI .i64 (ix6 + 1)) (wrapI .i64 (ix7 + 1)) H16 Q)
       (law10_SoundPages.l8 k xx0 nx1 xx2 nx3 ix4 ix5 ix6 (wrapI .i64 (ix7 + 1)) H16 Q))
      (law10_SoundPages.l8 k xx0 nx1 xx2 nx3 ix4 ix5 ix6 (wrapI .i64 (ix7 + 1)) H16 Q)))
    (bite b3
     (bite b5
      (law10_SoundPages.l8 k xx0 nx1 xx2 nx3 ix4 (wrapI .i64 (ix5 + (nI n8))) (wrapI .i64 (ix6 + 1)) (wrapI .i64 (ix7 + 1)) H16 Q)
      (law10_SoundPages.l8 k xx0 nx1 xx2 nx3 ix4 ix5 ix6 (wrapI .i64 (ix7 + 1)) H16 Q))
     (law10_SoundPages.l8 k xx0 nx1 xx2 nx3 ix4 ix5 ix6 (wrapI .i64 (ix7 + 1)) H16 Q))))
  (bite b3
   (bite b5
    (law10_SoundPages.l8 k xx0 nx1 xx2 nx3 ix4 (wrapI .i64 (ix5 + (nI n8))) (wrapI .i64 (ix6 + 1)) (wrapI .i64 (ix7 + 1)) H Q)
    (law10_SoundPages.l8 k xx0 nx1 xx2 nx3 ix4 ix5 ix6 (wrapI .i64 (ix7 + 1)) H Q))
   (law10_SoundPages.l8 k xx0 nx1 xx2 nx3 ix4 ix5 ix6 (wrapI .i64 (ix7 + 1)) H Q)))))
 (cl sound_Height [(.agg [(.sl xx0 nx1 5)])] H fun r19 H20 =>
  rG r19 fun v21 =>
  dI .i64 v21 fun i22 =>
  bite (eqI ix4 0)
  (bite (eqI (nI nx3) ix5)
   (bite (leI ix5 60)
    (bite (leI 1 i22)
     (bite (eqB (eqI i22 1) (eqI ix6 1))
      (Q (.g (.bool (leI i22 5))) H20)
      (Q (.g (.bool false)) H20))
     (Q (.g (.bool false)) H20))
    (Q (.g (.bool false)) H20))
   (Q (.g (.bool false)) H20))
  (Q (.g (.bool false)) H20))) := by kernel_rfl
theorem law10_SoundPages_ok : Sound Go.Proofs.Try.prog 7 (law10_SoundPages) := prog_ok.sound (cx := law10_SoundPages.cx) rfl (EnvOK.cons ((law10_awake_ok).c ⟨_, Go.Proofs.Try.func22, by kernel_rfl, by kernel_rfl⟩) (EnvOK.cons ((sound_Sound_ok).c ⟨_, Go.Proofs.Try.func15, by kernel_rfl, by kernel_rfl⟩) (EnvOK.cons ((sound_Height_ok).c ⟨_, Go.Proofs.Try.func17, by kernel_rfl, by kernel_rfl⟩) (EnvOK.cons ((ref9_All_ok).c ⟨_, Go.Proofs.Try.func26, by kernel_rfl, by kernel_rfl⟩) (EnvOK.cons ((ref1_PageMay_ok).c ⟨_, Go.Proofs.Try.func27, by kernel_rfl, by kernel_rfl⟩) (EnvOK.nil _)))))) (noDyn_ok _) Go.Proofs.Try.func7 rfl


end Go.Am
namespace Go.Am

theorem and_mask {k m : Nat} (hk : k < 2 ^ 63) (hm : m ≤ 30) {j : Int} (hj : j = ((2 ^ m - 1 : Nat) : Int)) : bitsI .and .i64 (k : Int) j = ((k % 2 ^ m : Nat) : Int) := by
  subst hj
  have h1 : (BitVec.ofInt 64 (k : Int)).toNat = k := by
    rw [BitVec.ofInt_natCast, BitVec.toNat_ofNat, Nat.mod_eq_of_lt (by omega)]
  have h30 : 2 ^ m ≤ 2 ^ 30 := Nat.pow_le_pow_right (by omega) hm
  have h2 : (BitVec.ofInt 64 ((2 ^ m - 1 : Nat) : Int)).toNat = 2 ^ m - 1 := by
    rw [BitVec.ofInt_natCast, BitVec.toNat_ofNat, Nat.mod_eq_of_lt (by omega)]
  have h3 : (BitVec.ofInt 64 (k : Int) &&& BitVec.ofInt 64 ((2 ^ m - 1 : Nat) : Int)).toNat = k % 2 ^ m := by
    rw [BitVec.toNat_and, h1, h2, Nat.and_two_pow_sub_one_eq_mod]
  have hlt : k % 2 ^ m < 2 ^ m := Nat.mod_lt _ (Nat.pos_of_ne_zero (by simp))
  show IntKind.i64.wrap (((BitVec.ofInt 64 (k : Int) &&& BitVec.ofInt 64 ((2 ^ m - 1 : Nat) : Int)).toNat : Nat) : Int) = _
  rw [h3]
  exact wrap64 (by omega) (by omega)
theorem and_le (x : Int) {m : Nat} (hm : m ≤ 1000000) {j : Int} (hj : j = (m : Int)) : ∃ r : Nat, r ≤ m ∧ bitsI .and .i64 x j = (r : Int) := by
  subst hj
  have h2 : (BitVec.ofInt 64 (m : Int)).toNat = m := by
    rw [BitVec.ofInt_natCast, BitVec.toNat_ofNat, Nat.mod_eq_of_lt (by omega)]
  have h : ((BitVec.ofInt 64 x &&& BitVec.ofInt 64 (m : Int)).toNat) ≤ m := by
    rw [BitVec.toNat_and, h2]
    exact Nat.and_le_right
  refine ⟨_, h, ?_⟩
  show IntKind.i64.wrap (((BitVec.ofInt 64 x &&& BitVec.ofInt 64 (m : Int)).toNat : Nat) : Int) = _
  exact wrap64 (by omega) (by omega)
theorem shr4 (k : Nat) : shrI .i64 (k : Int) 4 = ((k / 16 : Nat) : Int) := by
  show Int.fdiv (k : Int) (2 ^ (min 4 64)) = _
  rw [show ((2 : Int) ^ (min 4 64)) = ((16 : Nat) : Int) from rfl, Int.fdiv_eq_ediv_of_nonneg _ (by omega)]
  rfl
def lettersD (k : Nat) : ByteArray := mkS [bof ((97 + k / 16 % 16 : Nat) : Int), bof ((97 + k % 16 : Nat) : Int)]
section
variable {H : Hp} {Q : Post}
theorem letters_word {k : Nat} (hk : k ≤ 100000) : (wrapI .u8 (wrapI .i64 (97 + (bitsI .and .i64 (shrI .i64 (k : Int) 4) 15)))) = ((bof ((97 + k / 16 % 16 : Nat) : Int)).toNat : Int) ∧ (wrapI .u8 (wrapI .i64 (97 + (bitsI .and .i64 (k : Int) 15)))) = ((bof ((97 + k % 16 : Nat) : Int)).toNat : Int) := by
  have e1 := and_mask (k := k / 16) (m := 4) (j := 15) (by omega) (by omega) rfl
  have e2 := and_mask (k := k) (m := 4) (j := 15) (by omega) (by omega) rfl
  rw [shr4, e1, e2]
  have h : ∀ r : Nat, r < 16 → wrapI .u8 (wrapI .i64 (97 + (r : Int))) = ((bof ((97 + r : Nat) : Int)).toNat : Int) := by
    intro r hr
    rw [wrap64 (by omega) (by omega)]
    have := u8_eq (n := ((97 + r : Nat) : Int)) (by omega) (by omega)
    have e : (97 + (r : Int)) = ((97 + r : Nat) : Int) := by omega
    rw [e]
    injection this
  exact ⟨h _ (Nat.mod_lt _ (by omega)), h _ (Nat.mod_lt _ (by omega))⟩
theorem law10_letters_spec {k : Nat} (hk : k ≤ 100000) (hQ : ∀ H', H <+: H' → Q (.g (.str (lettersD k))) H') : law10_letters [.g (.int .i64 (k : Int))] H Q := by
  refine ⟨1, ?_⟩
  obtain ⟨e1, e2⟩ := letters_word hk
  rw [law10_letters_eq, e1, e2]
  simp only [pu_def, ln_def]
  rw [rdN_of (cs := u8s [bof ((97 + k / 16 % 16 : Nat) : Int), bof ((97 + k % 16 : Nat) : Int)]) (by simp [cells?, u8s]), txt_u8s]
  exact hQ _ (pre_pu _ _)
end
/-- pairs in a row of one's own -/
theorem ap_kv {H0 H : Hp} {t : TypeId} {a : Pl} {n : Nat} {ps : KV} {K : Pl → Nat → Hp → Prop} (h0 : H0 <+: H) (h : Own H H0.length t a (n * 2) (kvCells ps)) (x y : ByteArray) (hn : n ≤ 100000)
    (hK : ∀ a' H', Own H' H0.length t a' ((n + 1) * 2) (kvCells (ps ++ [(x, y)])) → H0 <+: H' → K a' (n + 1) H') : ap H t 2 32 a n [.str x, .str y] 1 K :=
  ap_z (by omega) h0 h rfl (by unfold Lim; omega) fun a' H' o e f => hK a' H' (by unfold kvCells at *; rw [List.flatMap_append]; simpa using o) e.pre
theorem Own.kv {H : Hp} {b : Nat} {t : TypeId} {a : Pl} {n : Nat} {ps : KV} (h : Own H b t a (n * 2) (kvCells ps)) (hl : ps.length = n) : Kv H a n ps := ⟨h.cells, hl⟩

/-! SoundFull -/
def kvL (n : Nat) : KV := (List.range n).map fun i => (lettersD i, mkS [])
theorem kvL_length (n : Nat) : (kvL n).length = n := by simp [kvL]
theorem kvL_succ (n : Nat) : kvL (n + 1) = kvL n ++ [(lettersD n, mkS [])] := by simp [kvL, List.range_succ]
theorem full_heights : ∀ j : Fin 8, heightD (buildD (kvL (56 + j.1))) = if 56 + j.1 ≤ 60 then 3 else 0 := by decide +kernel
section
variable {H : Hp} {Q : Post}
theorem law10_SoundFull_spec {w : Int} (hQ : ∀ H', Q (.g (.bool true)) H') : law10_SoundFull [.g (.int .i64 w)] H Q := by
  refine ⟨70, ?_⟩
  rw [law10_SoundFull_eq]
  refine law10_awake_spec fun H1 p1 => ?_
  simp only [rG_g, dB_bool]
  rw [bite_f (by decide)]
  obtain ⟨r, hr, er⟩ := and_le w (m := 7) (j := 7) (by omega) rfl
  have loop : ∀ (f i : Nat) (a : Pl) (H : Hp), 56 + r - i < f → i ≤ 56 + r → H1 <+: H → Own H H1.length 38 a (i * 2) (kvCells (kvL i)) → law10_SoundFull.l5 f w a i (i : Int) H Q := by
    intro f
    induction f with
    | zero => intro i _ _ h; omega
    | succ f ih =>
      intro i a H hf hi hp ho
      have w1 : wrapI .i64 (56 + (r : Int)) = ((56 + r : Nat) : Int) := by rw [wrap64 (by omega) (by omega)]; omega
      rw [law10_SoundFull.l5_eq, er, w1]
      by_cases hik : i < 56 + r
      · rw [bite_t (by simp; omega)]
        refine law10_letters_spec (by omega) fun H2 p2 => ?_
        simp only [rG_g, dS_str]
        rw [chk_true]
        refine ap_kv (hp.trans p2) (ho.mono p2) _ _ (by omega) fun a' H3 o3 p3 => ?_
        rw [wrap_succ (by omega)]
        exact ih (i + 1) a' H3 (by omega) (by omega) p3 (by rw [kvL_succ]; exact o3)
      · obtain rfl : i = 56 + r := by omega
        rw [bite_f (by simp)]
        refine ref9_Build_spec (ho.kv (kvL_length _)) (by omega) fun H2 tp cs p2 o2 => ?_
        simp only [rA_agg, uC_cons, dL_sl, uN_nil]
        refine law0_Num_spec ?_
        simp only [rG_g, dI_int]
        rw [bite_t (by decide)]
        have hh := full_heights ⟨r, by omega⟩
        dsimp only at hh
        refine sound_Sound_spec o2.tr fun H3 p3 => ?_
        simp only [rG_g, dB_bool]
        by_cases e60 : 56 + r ≤ 60
        · rw [if_pos e60] at hh
          rw [bite_t (by rw [hh]; simp; omega), bite_f (by simp; omega)]
          refine sound_Height_spec (o2.tr.mono p3) fun H4 p4 => ?_
          simp only [rG_g, dI_int]
          rw [hh]
          exact hQ _
        · rw [if_neg e60] at hh
          rw [bite_t (by rw [hh]; simp; omega), bite_t (by simp; omega)]
          exact hQ _
  exact loop 69 0 none H1 (by omega) (by omega) (List.prefix_refl _) (.inl ⟨rfl, rfl, rfl⟩)
end
end Go.Am
namespace Go.Am

/-! a tree's outer row, cell by cell -/
theorem cells_part {H : Hp} {a : Pl} {n : Nat} {cs : List GV} (h : cells? H a n = some cs) (k m : Nat) (hm : k + m ≤ n) : cells? H (shf a k) m = some ((cs.drop k).take m) := by
  cases a with
  | none => simp [cells?] at h; obtain ⟨rfl, rfl⟩ := h; simp [cells?]; omega
  | some p =>
    obtain ⟨l, o⟩ := p
    unfold cells? at h
    simp only at h
    cases hr : H[l]? with
    | none => rw [hr] at h; cases h
    | some x =>
      rw [hr] at h
      cases x with
      | row own t ds =>
        simp only at h
        split at h
        · rename_i hle
          cases h
          simp only [shf_some, cells?, hr]
          rw [if_pos (by omega), List.drop_take, List.take_take, List.drop_drop, Nat.min_eq_left (by omega)]
        · cases h
      | _ => cases h
theorem Ss.part {H : Hp} {a : Pl} {n : Nat} {xs : List ByteArray} (h : Ss H a n xs) (k m : Nat) (hm : k + m ≤ n) : Ss H (shf a k) m ((xs.drop k).take m) := by
  have hn := h.len
  have hl := h.lim
  refine ⟨?_, by simp; omega, by omega⟩
  rw [cells_part h.cells k m hm, List.map_take, List.map_drop]
theorem pcells_set1 (cs : List PC) (i j : Nat) (v : GV) (c : PC) (hi : i < cs.length) (hj : j < 5) (hc : c.cells = (cs[i].cells).set j v) : (pcells cs).set (i * 5 + j) v = pcells (cs.set i c) := by
  induction cs generalizing i with
  | nil => simp at hi
  | cons d cs ih =>
    have e : pcells (d :: cs) = d.cells ++ pcells cs := rfl
    cases i with
    | zero =>
      rw [e, Nat.zero_mul, Nat.zero_add, List.set_append_left _ _ (by simpa using hj)]
      show _ = c.cells ++ pcells cs
      rw [hc]; rfl
    | succ i =>
      rw [e, List.set_append_right _ _ (by simp; omega)]
      show _ = d.cells ++ pcells (cs.set i c)
      rw [← ih i (by simpa using hi) (by simpa using hc)]
      congr 2
      simp; omega
section
variable {B H : Hp} {t : TypeId} {tp : Nat} {n : Nat} {cs : List PC} {T : List Pg} {i : Nat} {c : PC} {p : Pg}
theorem OT.at_row (h : OT H B.length t (some (tp, 0)) n cs T) : B.length ≤ tp ∧ H[tp]? = some (.row true t (pcells cs)) := by
  rcases h.own with ⟨e, _⟩ | ⟨l, e, hb, hr, hl⟩
  · cases e
  cases e
  exact ⟨hb, hr⟩
theorem OT.gt (h : OT H B.length t (some (tp, 0)) n cs T) (hi : i < cs.length) {j : Nat} (hj : j < 5) : Am.gt H tp (i * 5 + j) = (cs[i].cells)[j]? := by
  rw [gt_some h.at_row.2, pcells_get hi hj]
/-- one cell of a page written -/
theorem OT.cell (h : OT H B.length t (some (tp, 0)) n cs T) (hi : i < n) (hi' : i < cs.length) {j : Nat} (hj : j < 5) {v : GV} (hcell : c.cells = (cs[i].cells).set j v) (hc : c.at H p) (hoff : ∀ l, c.on l → l ≠ tp) {K : Hp → Prop}
    (hK : ∀ H', (∀ B', B' <+: H → B'.length ≤ tp → B' <+: H') → OT H' B.length t (some (tp, 0)) n (cs.set i c) (T.set i p) → K H') : wr H tp (i * 5 + j) v K := by
  obtain ⟨hb, hr⟩ := h.at_row
  refine wr_row hr (by rw [pcells_length]; omega) ?_
  rw [pcells_set1 cs i j v c hi' hj hcell]
  exact hK _ (fun B' hp hl => pre_set hp hl _) (h.place hi hc hoff)
theorem OT.page5 (h : OT H B.length t (some (tp, 0)) n cs T) (hi : i < n) (hc : c.at H p) (hoff : ∀ l, c.on l → l ≠ tp) {K : Hp → Prop}
    (hK : ∀ H', (∀ B', B' <+: H → B'.length ≤ tp → B' <+: H') → OT H' B.length t (some (tp, 0)) n (cs.set i c) (T.set i p) → K H') :
    wr H tp (i * 5) (.bool c.u) fun H1 => wr H1 tp (i * 5 + 1) (.bool c.l) fun H2 => wr H2 tp (i * 5 + 1 + 1) (.sl c.a1 c.n1 1) fun H3 => wr H3 tp (i * 5 + 1 + 1 + 1) (.sl c.a2 c.n2 1) fun H4 => wr H4 tp (i * 5 + 1 + 1 + 1 + 1) (.sl c.a3 c.n3 1) K := by
  obtain ⟨hb, hr⟩ := h.at_row
  exact wr5 hr (by have := h.len; omega) (hK _ (fun B' hp hl => pre_set hp hl _) (h.place hi hc hoff))
theorem Tr.take {H : Hp} {a : Pl} {n : Nat} {cs : List PC} {T : List Pg} (h : Tr H a n cs T) {m : Nat} (hm : m ≤ n) : Tr H (shf a 0) m (cs.take m) (T.take m) := by
  have q1 := h.len
  have q2 := h.lenT
  refine ⟨?_, by simp [q1]; omega, by simp [q2]; omega, fun i h1 h2 => ?_⟩
  · have e : pcells (cs.take m) = (pcells cs).take (m * 5) := by
      have := pcells_append (cs.take m) (cs.drop m)
      rw [List.take_append_drop] at this
      rw [this, List.take_left' (by rw [pcells_length]; simp [q1]; omega)]
    rw [e, cells_part h.cells 0 (m * 5) (by omega), List.drop_zero]
  · simp at h1 h2
    rw [List.getElem_take, List.getElem_take]
    exact h.all i (by omega) (by omega)
end

/-! SoundForms -/
def kvE (n : Nat) : KV := (List.range n).map fun i => (lettersD (2 * i), mkS [])
theorem kvE_length (n : Nat) : (kvE n).length = n := by simp [kvE]
theorem kvE_succ (n : Nat) : kvE (n + 1) = kvE n ++ [(lettersD (2 * n), mkS [])] := by simp [kvE, List.range_succ]
def g20 : List Pg := buildD (kvE 20)
def gp (i : Nat) : Pg := g20[i]?.getD noPg
theorem g20_len : g20.length = 48 := by decide +kernel
theorem g20_0 : (gp 0).kids = [1, 2, 3, 4, 5] ∧ (gp 0).keys.length = 4 := by decide +kernel
theorem g20_1 : (gp 1).keys.length = 4 ∧ (gp 5).keys.length = 4 ∧ (gp 1).kids = [] ∧ gp 47 = noPg := by
  refine ⟨by decide +kernel, by decide +kernel, by decide +kernel, rfl⟩
theorem gp_get {i : Nat} (h : i < g20.length) : g20[i] = gp i := by unfold gp; rw [List.getElem?_eq_getElem h]; rfl
theorem g20_h : heightD g20 = 2 := by decide +kernel
section
variable {H : Hp} {Q : Post}
theorem forms_l36 {x a : Pl} {m n : Nat} {gcs cs : List PC} {T : List Pg} (hG : Tr H x m gcs g20) (hT : Tr H a n cs T) (h0 : heightD T = 0) (hQ : ∀ H', Q (.g (.bool true)) H') (f : Nat) : law10_SoundForms.l36 (f + 1) x m a n H Q := by
  rw [law10_SoundForms.l36_eq]
  refine sound_Sound_spec hG fun H1 p1 => ?_
  simp only [rG_g, dB_bool]
  rw [bite_t (by rw [g20_h]; decide)]
  refine sound_Height_spec (hG.mono p1) fun H2 p2 => ?_
  simp only [rG_g, dI_int]
  rw [bite_t (by rw [g20_h]; decide)]
  refine sound_Sound_spec (hT.mono (p1.trans p2)) fun H3 p3 => ?_
  simp only [rG_g, dB_bool]
  rw [bite_t (by rw [h0]; decide)]
  refine sound_Height_spec (hT.mono (p1.trans (p2.trans p3))) fun H4 p4 => ?_
  simp only [rG_g, dI_int]
  rw [h0]
  exact hQ _
end
end Go.Am
namespace Go.Am

theorem f0 : heightD (g20.take 47) = 0 := by decide +kernel
theorem f1 : heightD (g20 ++ [noPg]) = 0 := by decide +kernel
theorem f2 : heightD (g20.set 1 { gp 1 with used := false }) = 0 := by decide +kernel
theorem f3 : heightD (g20.set 0 { gp 0 with kids := (gp 0).kids.set 0 5 }) = 0 := by decide +kernel
theorem f4 : heightD (g20.set 1 { gp 1 with keys := (gp 1).keys.set 0 (mkS [122, 122]) }) = 0 := by decide +kernel
theorem f5 : heightD (g20.set 5 { gp 5 with keys := (gp 5).keys.set 0 (mkS [97]) }) = 0 := by decide +kernel
theorem f6 : heightD (g20.set 0 noPg) = 0 := by decide +kernel
theorem f7 : heightD (g20.set 0 { gp 0 with kids := (gp 0).kids.set 0 47 }) = 0 := by decide +kernel
theorem f8 : heightD (g20.set 47 { gp 47 with leaf := true }) = 0 := by decide +kernel
theorem f9 : heightD (g20.set 47 { gp 47 with keys := [mkS [97]] }) = 0 := by decide +kernel
theorem f10 : heightD (g20.set 1 ⟨true, false, [mkS [97, 98], mkS [97, 99]], [], [1, 40, 41]⟩) = 0 := by decide +kernel
theorem f11 : heightD (g20.set 0 { gp 0 with keys := (gp 0).keys.set 0 ((gp 0).keys[1]?.getD (mkS [])) }) = 0 := by decide +kernel

section
variable {H : Hp} {Q : Post}
set_option maxRecDepth 100000 in
theorem law10_SoundForms_spec {w : Int} (hQ : ∀ H', Q (.g (.bool true)) H') : law10_SoundForms [.g (.int .i64 w)] H Q := by
  refine ⟨26, ?_⟩
  rw [law10_SoundForms_eq]
  refine law10_awake_spec fun H1 p1 => ?_
  simp only [rG_g, dB_bool]
  rw [bite_f (by decide)]
  have loop : ∀ (f i : Nat) (a : Pl) (H : Hp), 20 - i + 2 < f → i ≤ 20 → H1 <+: H → Own H H1.length 38 a (i * 2) (kvCells (kvE i)) → law10_SoundForms.l5 f w a i (i : Int) H Q := by
    intro f
    induction f with
    | zero => intro i _ _ h; omega
    | succ f ih =>
      intro i a H hf hi hp ho
      rw [law10_SoundForms.l5_eq]
      by_cases hik : i < 20
      · rw [bite_t (by simp; omega)]
        have w2 : wrapI .i64 (2 * (i : Int)) = ((2 * i : Nat) : Int) := by rw [wrap64 (by omega) (by omega)]; omega
        rw [w2]
        refine law10_letters_spec (by omega) fun H2 p2 => ?_
        simp only [rG_g, dS_str]
        rw [chk_true]
        refine ap_kv (hp.trans p2) (ho.mono p2) _ _ (by omega) fun a' H3 o3 p3 => ?_
        rw [wrap_succ (by omega)]
        exact ih (i + 1) a' H3 (by omega) (by omega) p3 (by rw [kvE_succ]; exact o3)
      · obtain rfl : i = 20 := by omega
        obtain ⟨f, rfl⟩ : ∃ f', f = f' + 1 := ⟨f - 1, by omega⟩
        rw [bite_f (by simp)]
        refine ref9_Build_spec (ho.kv (kvE_length _)) (by omega) fun H2 tp gcs p2 o2 => ?_
        simp only [rA_agg, uC_cons, dL_sl, uN_nil]
        have oG : Tr H2 (some (tp, 0)) 48 gcs g20 := o2.tr
        refine law0_CopyTree_ct oG (by omega) fun a' ds H3 g => ?_
        simp only [rA_agg, uC_cons, dL_sl, uN_nil]
        have hlD := g.ot.len
        have hlT := g20_len
        obtain ⟨tq, rfl⟩ : ∃ tq, a' = some (tq, 0) := by
          rcases g.ot.own with ⟨_, h, _⟩ | ⟨l, e, _⟩
          · omega
          · exact ⟨l, e⟩
        have hbq := g.ot.at_row.1
        have hqlt : tq < H3.length := g.ot.own.ltAny rfl
        have at0 := g.ot.all 0 (by omega) (by omega)
        have at1 := g.ot.all 1 (by omega) (by omega)
        have at5 := g.ot.all 5 (by omega) (by omega)
        have at47 := g.ot.all 47 (by omega) (by omega)
        have e0 : g20[0]'(by omega) = gp 0 := gp_get _
        have e1 : g20[1]'(by omega) = gp 1 := gp_get _
        have e5 : g20[5]'(by omega) = gp 5 := gp_get _
        have e47 : g20[47]'(by omega) = gp 47 := gp_get _
        rw [e0] at at0
        rw [e1] at at1
        rw [e5] at at5
        rw [e47] at at47
        obtain ⟨k0, k0n⟩ := g20_0
        obtain ⟨k1, k5, k1k, _⟩ := g20_1
        have n3 : (ds[0]'(by omega)).n3 = 5 := by rw [at0.kids.len, k0]; rfl
        have n1 : (ds[0]'(by omega)).n1 = 4 := by rw [at0.keys.len, k0n]
        have n11 : (ds[1]'(by omega)).n1 = 4 := by rw [at1.keys.len, k1]
        have n51 : (ds[5]'(by omega)).n1 = 4 := by rw [at5.keys.len, k5]
        have offQ : ∀ i (h : i < ds.length), ∀ l, (ds[i]).on l → l ≠ tq := fun i h l hl e => g.ot.off _ (List.getElem_mem h) l hl (by rw [e])
        have r04 : gt H3 tq (0 + tN 0 * 5 + 4) = some (.sl (ds[0]'(by omega)).a3 (ds[0]'(by omega)).n3 1) := g.ot.gt (i := 0) (j := 4) (by omega) (by omega)
        have r02 : gt H3 tq (0 + tN 0 * 5 + 2) = some (.sl (ds[0]'(by omega)).a1 (ds[0]'(by omega)).n1 1) := g.ot.gt (i := 0) (j := 2) (by omega) (by omega)
        have r12 : gt H3 tq (0 + tN 1 * 5 + 2) = some (.sl (ds[1]'(by omega)).a1 (ds[1]'(by omega)).n1 1) := g.ot.gt (i := 1) (j := 2) (by omega) (by omega)
        have r52 : gt H3 tq (0 + tN 5 * 5 + 2) = some (.sl (ds[5]'(by omega)).a1 (ds[5]'(by omega)).n1 1) := g.ot.gt (i := 5) (j := 2) (by omega) (by omega)
        have c0 : (leI 0 0 && ltI 0 (nI 48)) = true := by decide
        have c1 : (leI 0 1 && ltI 1 (nI 48)) = true := by decide
        have c5 : (leI 0 5 && ltI 5 (nI 48)) = true := by decide
        have c47 : (leI 0 47 && ltI 47 (nI 48)) = true := by decide
        have w4 : wrapI .i64 (nI (ds[0]'(by omega)).n3 - 1) = 4 := by rw [n3]; decide
        have rk0 := fun K => at0.kids.rd 0 (i := 0) rfl (by rw [k0]; decide) K
        have rk4 := fun K => at0.kids.rd 4 (i := 4) rfl (by rw [k0]; decide) K
        have v0 : (gp 0).kids[0]'(by rw [k0]; decide) = 1 := by simp [k0]
        have v4 : (gp 0).kids[4]'(by rw [k0]; decide) = 5 := by simp [k0]
        rw [v0] at rk0
        rw [v4] at rk4
        rw [chk_true, c0, chk_true, pS_some, rd_of r04, dL_sl, chk_true, rk0, chk_true, chk_true, pS_some, rd_of r04, dL_sl, chk_true, chk_true, pS_some, rd_of r04, dL_sl, chk_true, w4, rk4]
        refine bite_of (fun _ => ?_) (fun _ => ?_)
        · rw [chk_true]
          refine chk_of (by simp) ?_
          exact forms_l36 (oG.mono g.pre) (g.ot.tr.take (m := 47) (by omega)) f0 hQ f
        refine bite_of (fun _ => ?_) (fun _ => ?_)
        · rw [chk_true]
          refine g.ot.add (c := ⟨false, false, none, 0, none, 0, none, 0⟩) (p := noPg) g.pre (noPg_at _) (fun l ⟨o, hl⟩ => by simp at hl) (by unfold Lim; omega) fun a2 H4 o4 x4 _ => ?_
          exact forms_l36 (oG.mono x4.pre) o4.tr f1 hQ f
        refine bite_of (fun _ => ?_) (fun _ => ?_)
        · rw [chk_true, c1, chk_true, pS_some]
          refine g.ot.cell (i := 1) (j := 0) (c := { ds[1]'(by omega) with u := false }) (p := { gp 1 with used := false }) (by omega) (by omega) (by omega) rfl ⟨rfl, at1.leaf, at1.keys, at1.vals, at1.kids⟩ (offQ 1 (by omega)) fun H4 hp4 o4 => ?_
          exact forms_l36 (oG.mono (hp4 _ g.pre hbq)) o4.tr f2 hQ f
        refine bite_of (fun _ => ?_) (fun _ => ?_)
        · rw [chk_true, chk_true, pS_some, rd_of r04, dL_sl, chk_true]
          refine chk_of (by rw [n3]; decide) ?_
          refine g.kidW (i := 0) (j := 0) (by omega) (by omega) (by rw [e0, k0]; decide) 5 fun H4 g4 => ?_
          rw [e0] at g4
          exact forms_l36 (oG.mono g4.pre) g4.ot.tr f3 hQ f
        refine bite_of (fun _ => ?_) (fun _ => ?_)
        · rw [chk_true, c1, chk_true, pS_some, rd_of r12, dL_sl, chk_true]
          refine chk_of (by rw [n11]; decide) ?_
          refine g.keyW (i := 1) (j := 0) (by omega) (by omega) (by rw [e1, k1]; decide) (mkS [122, 122]) fun H4 g4 => ?_
          rw [e1] at g4
          exact forms_l36 (oG.mono g4.pre) g4.ot.tr f4 hQ f
        refine bite_of (fun _ => ?_) (fun _ => ?_)
        · rw [chk_true, c5, chk_true, pS_some, rd_of r52, dL_sl, chk_true]
          refine chk_of (by rw [n51]; decide) ?_
          refine g.keyW (i := 5) (j := 0) (by omega) (by omega) (by rw [e5, k5]; decide) (mkS [97]) fun H4 g4 => ?_
          rw [e5] at g4
          exact forms_l36 (oG.mono g4.pre) g4.ot.tr f5 hQ f
        refine bite_of (fun _ => ?_) (fun _ => ?_)
        · rw [chk_true, chk_true, pS_some]
          refine g.ot.page5 (i := 0) (c := ⟨false, false, none, 0, none, 0, none, 0⟩) (p := noPg) (by omega) (noPg_at _) (fun l ⟨o, hl⟩ => by simp at hl) fun H4 hp4 o4 => ?_
          exact forms_l36 (oG.mono (hp4 _ g.pre hbq)) o4.tr f6 hQ f
        refine bite_of (fun _ => ?_) (fun _ => ?_)
        · rw [chk_true, chk_true, pS_some, rd_of r04, dL_sl, chk_true]
          refine chk_of (by rw [n3]; decide) ?_
          refine g.kidW (i := 0) (j := 0) (by omega) (by omega) (by rw [e0, k0]; decide) 47 fun H4 g4 => ?_
          rw [e0] at g4
          exact forms_l36 (oG.mono g4.pre) g4.ot.tr f7 hQ f
        refine bite_of (fun _ => ?_) (fun _ => ?_)
        · rw [chk_true, c47, chk_true, pS_some]
          refine g.ot.cell (i := 47) (j := 1) (c := { ds[47]'(by omega) with l := true }) (p := { gp 47 with leaf := true }) (by omega) (by omega) (by omega) rfl ⟨at47.used, rfl, at47.keys, at47.vals, at47.kids⟩ (offQ 47 (by omega)) fun H4 hp4 o4 => ?_
          exact forms_l36 (oG.mono (hp4 _ g.pre hbq)) o4.tr f8 hQ f
        refine bite_of (fun _ => ?_) (fun _ => ?_)
        · rw [chk_true, c47, chk_true, pS_some]
          simp only [pu_def, ln_def]
          have q := pre_pu H3 (.row true 9 [(.str (mkS [97]))])
          have hr : cells? (H3 ++ [.row true 9 [(.str (mkS [97]))]]) (some (H3.length, 0)) 1 = some [.str (mkS [97])] := by simp [cells?]
          refine (g.ot.mono q).cell (i := 47) (j := 2) (c := { ds[47]'(by omega) with a1 := some (H3.length, 0), n1 := 1 }) (p := { gp 47 with keys := [mkS [97]] }) (by omega) (by omega) (by omega) rfl
            ⟨at47.used, at47.leaf, ⟨hr, rfl, by show 1 * 16 ≤ _; omega⟩, at47.vals.mono q, at47.kids.mono q⟩ (fun l hon => ?_) fun H4 hp4 o4 => ?_
          · obtain ⟨o, hl | hl | hl⟩ := hon
            · simp at hl; omega
            · exact offQ 47 (by omega) l ⟨o, .inr (.inl hl)⟩
            · exact offQ 47 (by omega) l ⟨o, .inr (.inr hl)⟩
          · exact forms_l36 (oG.mono (hp4 _ (g.pre.trans q) hbq)) o4.tr f9 hQ f
        refine bite_of (fun _ => ?_) (fun _ => ?_)
        · rw [chk_true, c1, chk_true, pS_some]
          simp only [pu_def, ln_def]
          have q := (pre_pu H3 (.row true 9 [(.str (mkS [97, 98])), (.str (mkS [97, 99]))])).trans (pre_pu _ (.row true 3 [(.int .i64 1), (.int .i64 40), (.int .i64 41)]))
          refine (g.ot.mono q).page5 (i := 1) (c := ⟨true, false, some (H3.length, 0), 2, none, 0, some ((H3 ++ [Obj.row true 9 [(.str (mkS [97, 98])), (.str (mkS [97, 99]))]]).length, 0), 3⟩) (p := ⟨true, false, [mkS [97, 98], mkS [97, 99]], [], [1, 40, 41]⟩) (by omega)
            ⟨rfl, rfl, ⟨by simp [cells?], rfl, by show 2 * 16 ≤ _; omega⟩, .nil _, ⟨by simp [cells?], rfl, by show 3 * 8 ≤ _; omega⟩⟩ (fun l ⟨o, hl⟩ => by rcases hl with hl | hl | hl <;> simp at hl <;> omega) fun H4 hp4 o4 => ?_
          exact forms_l36 (oG.mono (hp4 _ (g.pre.trans q) hbq)) o4.tr f10 hQ f
        · have r1 := fun K => at0.keys.rd 1 (i := 1) rfl (by omega) K
          rw [chk_true, chk_true, pS_some, rd_of r02, dL_sl, chk_true, chk_true, pS_some, rd_of r02, dL_sl, chk_true, r1, chk_true]
          refine chk_of (by rw [n1]; decide) ?_
          refine g.keyW (i := 0) (j := 0) (by omega) (by omega) (by rw [e0, k0n]; decide) _ fun H4 g4 => ?_
          rw [e0] at g4
          refine forms_l36 (oG.mono g4.pre) g4.ot.tr ?_ hQ f
          have := f11
          rw [List.getElem?_eq_getElem (by omega)] at this
          exact this
  exact loop 25 0 none H1 (by omega) (by omega) (List.prefix_refl _) (.inl ⟨rfl, rfl, rfl⟩)
end
end Go.Am
namespace Go.Am

theorem sound_facts {T : List Pg} (h : 0 < heightD T) : ∃ st, T.length = 48 ∧ walkD T 49 0 1 (mkS []) (mkS []) ws0 = some st ∧ restD T st.met = true ∧ st.count ≤ 60 ∧ heightD T = st.deep := by
  unfold heightD at h ⊢
  by_cases hl : T.length = 48
  · rw [decide_eq_true hl] at h ⊢
    dsimp only at h ⊢
    cases hw : walkD T 49 0 1 (mkS []) (mkS []) ws0 with
    | none => rw [hw] at h; simp at h
    | some st =>
      rw [hw] at h
      dsimp only at h ⊢
      cases hr : restD T st.met && decide (st.count ≤ 60) with
      | false => rw [hr] at h; simp at h
      | true =>
        rw [Bool.and_eq_true, decide_eq_true_eq] at hr
        exact ⟨st, hl, rfl, hr.1, hr.2, rfl⟩
  · rw [decide_eq_false hl] at h; simp at h
theorem height_none {T : List Pg} (h : walkD T 49 0 1 (mkS []) (mkS []) ws0 = none) : heightD T = 0 := by
  unfold heightD
  cases decide (T.length = 48) with
  | false => rfl
  | true => dsimp only; rw [h]
theorem height_rest {T : List Pg} {st : WS} (h : walkD T 49 0 1 (mkS []) (mkS []) ws0 = some st) (hr : restD T st.met = false) : heightD T = 0 := by
  unfold heightD
  cases decide (T.length = 48) with
  | false => rfl
  | true => dsimp only; rw [h]; dsimp only; rw [hr]; rfl
theorem ws0_met (i : Nat) (h : i < 48) : ws0.met[i]? = some false := by
  show (List.replicate 48 false)[i]? = some false
  rw [List.getElem?_replicate, if_pos h]

theorem okD_met {p : Pg} {a : Nat} {lo hi : ByteArray} {st : WS} (h : okD p a lo hi st = true) : st.met[a]? = some false ∧ mayB_ p = true ∧ (0 < a → 2 ≤ p.keys.length) ∧ holdB lo hi p.keys = true := by
  unfold okD at h
  simp only [Bool.and_eq_true] at h
  obtain ⟨h1, h2, h3, h4⟩ := h
  refine ⟨?_, h2, fun ha => ?_, h4⟩
  · cases hq : st.met[a]? with
    | none => rw [hq] at h1; simp at h1
    | some b => rw [hq] at h1; simp at h1; rw [h1]
  · have : decide (0 < a) = true := decide_eq_true ha
    rw [this, Bool.true_and] at h3
    simp at h3; omega
theorem leafD_some {p : Pg} {deep : Nat} {st st' : WS} (h : leafD p deep st = some st') : st'.met = st.met ∧ st'.count = st.count + p.keys.length ∧ st'.deep = deep ∧ (st.deep = 0 ∨ st.deep = deep) := by
  unfold leafD at h
  split at h
  · rename_i e; cases h; exact ⟨rfl, rfl, rfl, .inl (of_decide_eq_true e)⟩
  · split at h
    · rename_i e; cases h; exact ⟨rfl, rfl, rfl, .inr (of_decide_eq_true e)⟩
    · cases h
/-- one step of a walk that goes well -/
theorem walkD_step {T : List Pg} {f a deep : Nat} {lo hi : ByteArray} {st st' : WS} (h : walkD T (f + 1) a deep lo hi st = some st') : ∃ p, T[a]? = some p ∧ okD p a lo hi st = true ∧
    ((p.leaf = true ∧ leafD p deep ⟨st.met.set a true, st.deep, st.count⟩ = some st') ∨ (p.leaf = false ∧ kidsD (fun k i s => walkD T f k.toNat (deep + 1) (loK p lo i) (hiK p hi i) s) p.kids 0 ⟨st.met.set a true, st.deep, st.count⟩ = some st')) := by
  cases hp : T[a]? with
  | none => unfold walkD at h; rw [hp] at h; cases h
  | some p =>
    rw [walkD_eq T f a deep lo hi st hp] at h
    refine ⟨p, rfl, ?_⟩
    cases hok : okD p a lo hi st with
    | false => rw [hok] at h; cases h
    | true =>
      rw [hok] at h
      dsimp only at h
      cases hl : p.leaf with
      | true => rw [hl] at h; exact ⟨rfl, .inl ⟨rfl, h⟩⟩
      | false => rw [hl] at h; exact ⟨rfl, .inr ⟨rfl, h⟩⟩
/-- kids that all go well -/
theorem kidsD_ind {rec : Int → Nat → WS → Option WS} {R : WS → WS → Prop} {P : List Int → WS → WS → Prop} (hnil : ∀ s, P [] s s) (hcons : ∀ k ks i s s1 s', rec k i s = some s1 → kidsD rec ks (i + 1) s1 = some s' → P ks s1 s' → P (k :: ks) s s') :
    ∀ (ks : List Int) (i : Nat) (s s' : WS), kidsD rec ks i s = some s' → P ks s s' := by
  intro ks
  induction ks with
  | nil => intro i s s' h; cases h; exact hnil s
  | cons k ks ih =>
    intro i s s' h
    rw [kidsD_cons] at h
    cases hr : rec k i s with
    | none => rw [hr] at h; cases h
    | some s1 => rw [hr] at h; exact hcons k ks i s s1 s' hr h (ih (i + 1) s1 s' h)
theorem kidsD_ind' {rec : Int → Nat → WS → Option WS} {P : List Int → WS → WS → Prop} (hnil : ∀ s, P [] s s) (hcons : ∀ k ks i s s1 s', rec k i s = some s1 → P ks s1 s' → P (k :: ks) s s') :
    ∀ (ks : List Int) (i : Nat) (s s' : WS), kidsD rec ks i s = some s' → P ks s s' :=
  kidsD_ind (R := fun _ _ => True) hnil fun k ks i s s1 s' h _ hp => hcons k ks i s s1 s' h hp

/-- pages that are met -/
theorem walkD_met (T : List Pg) : ∀ (f a deep : Nat) (lo hi : ByteArray) (st st' : WS), walkD T f a deep lo hi st = some st' → (∀ j : Nat, st.met[j]? = some true → st'.met[j]? = some true) ∧ st'.met[a]? = some true ∧
    (∀ j, st'.met[j]? = some true → st.met[j]? = some true ∨ ∃ p, T[j]? = some p ∧ mayB_ p = true ∧ (0 < j → 2 ≤ p.keys.length)) := by
  intro f
  induction f with
  | zero => intro _ _ _ _ _ _ h; cases h
  | succ f ih =>
    intro a deep lo hi st st' h
    obtain ⟨p, hp, hok, hcase⟩ := walkD_step h
    obtain ⟨hm, hmay, h2, _⟩ := okD_met hok
    have hlt : a < st.met.length := (List.getElem?_eq_some_iff.1 hm).1
    have set1 : ∀ j, st.met[j]? = some true → (st.met.set a true)[j]? = some true := fun j hj => by
      by_cases e : a = j
      · subst e; exact List.getElem?_set_self hlt
      · rw [List.getElem?_set_ne e]; exact hj
    have set2 : (st.met.set a true)[a]? = some true := List.getElem?_set_self hlt
    have set3 : ∀ j, (st.met.set a true)[j]? = some true → st.met[j]? = some true ∨ ∃ p, T[j]? = some p ∧ mayB_ p = true ∧ (0 < j → 2 ≤ p.keys.length) := fun j hj => by
      by_cases e : a = j
      · subst e; exact .inr ⟨p, hp, hmay, h2⟩
      · rw [List.getElem?_set_ne e] at hj; exact .inl hj
    rcases hcase with ⟨hl, hlf⟩ | ⟨hl, hk⟩
    · obtain ⟨e1, _⟩ := leafD_some hlf
      rw [e1]
      exact ⟨set1, set2, set3⟩
    · have key := kidsD_ind' (P := fun _ s s' => (∀ j, s.met[j]? = some true → s'.met[j]? = some true) ∧ (∀ j, s'.met[j]? = some true → s.met[j]? = some true ∨ ∃ p, T[j]? = some p ∧ mayB_ p = true ∧ (0 < j → 2 ≤ p.keys.length)))
        (fun s => ⟨fun j hj => hj, fun j hj => .inl hj⟩) (fun k ks i s s1 s' hr hP => by
          obtain ⟨q1, _, q3⟩ := ih _ _ _ _ _ _ hr
          refine ⟨fun j hj => hP.1 j (q1 j hj), fun j hj => ?_⟩
          rcases hP.2 j hj with q | q
          · exact q3 j q
          · exact .inr q) _ _ _ _ hk
      dsimp only at key
      refine ⟨fun j hj => key.1 j (set1 j hj), key.1 a set2, fun j hj => ?_⟩
      rcases key.2 j hj with q | q
      · exact set3 j q
      · exact .inr q

/-- a page that is not met may be another one -/
theorem walkD_same (T T' : List Pg) (i : Nat) (hT : ∀ j, j ≠ i → T'[j]? = T[j]?) : ∀ (f a deep : Nat) (lo hi : ByteArray) (st st' : WS), walkD T f a deep lo hi st = some st' → st'.met[i]? ≠ some true → walkD T' f a deep lo hi st = some st' := by
  intro f
  induction f with
  | zero => intro _ _ _ _ _ _ h; cases h
  | succ f ih =>
    intro a deep lo hi st st' h hi'
    obtain ⟨m1, m2, _⟩ := walkD_met T _ _ _ _ _ _ _ h
    obtain ⟨p, hp, hok, hcase⟩ := walkD_step h
    have ha : a ≠ i := fun e => hi' (by rw [← e]; exact m2)
    rw [walkD_eq T' f a deep lo hi st (by rw [hT a ha]; exact hp), hok]
    dsimp only
    rcases hcase with ⟨hl, hlf⟩ | ⟨hl, hk⟩
    · rw [hl]; exact hlf
    · rw [hl]
      dsimp only
      have key : ∀ (ks : List Int) (n : Nat) (s s' : WS), kidsD (fun k i s => walkD T f k.toNat (deep + 1) (loK p lo i) (hiK p hi i) s) ks n s = some s' → s'.met[i]? ≠ some true → kidsD (fun k i s => walkD T' f k.toNat (deep + 1) (loK p lo i) (hiK p hi i) s) ks n s = some s' := by
        intro ks
        induction ks with
        | nil => intro n s s' h _; exact h
        | cons k ks ihk =>
          intro n s s' h hne
          rw [kidsD_cons] at h ⊢
          cases hr : walkD T f k.toNat (deep + 1) (loK p lo n) (hiK p hi n) s with
          | none => rw [hr] at h; cases h
          | some s1 =>
            rw [hr] at h
            dsimp only at h
            have mono : ∀ j, s1.met[j]? = some true → s'.met[j]? = some true :=
              kidsD_ind' (rec := fun k i s => walkD T f k.toNat (deep + 1) (loK p lo i) (hiK p hi i) s) (P := fun _ s s' => ∀ j, s.met[j]? = some true → s'.met[j]? = some true) (fun s j hj => hj) (fun k ks i s s1 s' hr hP j hj => hP j ((walkD_met T _ _ _ _ _ _ _ hr).1 j hj)) _ _ _ _ h
            rw [ih _ _ _ _ _ _ hr (fun e => hne (mono i e))]
            exact ihk (n + 1) s1 s' h hne
      exact key _ _ _ _ hk hi'
/-- a page that is met, turned so that it may not be -/
theorem walkD_bad (T T' : List Pg) (i : Nat) {q : Pg} (hT : ∀ j, j ≠ i → T'[j]? = T[j]?) (hq : T'[i]? = some q) (hbad : ∀ lo hi st, okD q i lo hi st = false) : ∀ (f a deep : Nat) (lo hi : ByteArray) (st st' : WS), walkD T f a deep lo hi st = some st' → st.met[i]? ≠ some true → st'.met[i]? = some true → walkD T' f a deep lo hi st = none := by
  intro f
  induction f with
  | zero => intro _ _ _ _ _ _ h; cases h
  | succ f ih =>
    intro a deep lo hi st st' h h1 h2
    by_cases ha : a = i
    · subst ha
      rw [walkD_eq T' f a deep lo hi st hq, hbad]
    obtain ⟨p, hp, hok, hcase⟩ := walkD_step h
    rw [walkD_eq T' f a deep lo hi st (by rw [hT a ha]; exact hp), hok]
    dsimp only
    have hs : (st.met.set a true)[i]? ≠ some true := by rw [List.getElem?_set_ne ha]; exact h1
    rcases hcase with ⟨hl, hlf⟩ | ⟨hl, hk⟩
    · rw [hl]
      obtain ⟨e1, _⟩ := leafD_some hlf
      rw [e1] at h2
      exact (hs h2).elim
    · rw [hl]
      dsimp only
      have key : ∀ (ks : List Int) (n : Nat) (s s' : WS), kidsD (fun k i s => walkD T f k.toNat (deep + 1) (loK p lo i) (hiK p hi i) s) ks n s = some s' → s.met[i]? ≠ some true → s'.met[i]? = some true → kidsD (fun k i s => walkD T' f k.toNat (deep + 1) (loK p lo i) (hiK p hi i) s) ks n s = none := by
        intro ks
        induction ks with
        | nil => intro n s s' h q1 q2; cases h; exact (q1 q2).elim
        | cons k ks ihk =>
          intro n s s' h q1 q2
          rw [kidsD_cons] at h ⊢
          cases hr : walkD T f k.toNat (deep + 1) (loK p lo n) (hiK p hi n) s with
          | none => rw [hr] at h; cases h
          | some s1 =>
            rw [hr] at h
            dsimp only at h
            by_cases e : s1.met[i]? = some true
            · rw [ih _ _ _ _ _ _ hr q1 e]
            · rw [walkD_same T T' i hT _ _ _ _ _ _ _ hr e]
              exact ihk (n + 1) s1 s' h e q2
      exact key _ _ _ _ hk hs h2
/-- how many pages there are, to so many entries -/
theorem walkD_many (T : List Pg) : ∀ (f a deep : Nat) (lo hi : ByteArray) (st st' : WS), walkD T f a deep lo hi st = some st' → 4 * unmet st.met + 3 * st.count ≤ 4 * unmet st'.met + 3 * st'.count + 4 ∧ (0 < a → 4 * unmet st.met + 3 * st.count + 2 ≤ 4 * unmet st'.met + 3 * st'.count) := by
  intro f
  induction f with
  | zero => intro _ _ _ _ _ _ h; cases h
  | succ f ih =>
    intro a deep lo hi st st' h
    obtain ⟨p, hp, hok, hcase⟩ := walkD_step h
    obtain ⟨hm, hmay, h2, _⟩ := okD_met hok
    have hus := unmet_set hm
    rcases hcase with ⟨hl, hlf⟩ | ⟨hl, hk⟩
    · obtain ⟨e1, e2, _⟩ := leafD_some hlf
      rw [e1, e2]
      dsimp only
      exact ⟨by omega, fun ha => by have := h2 ha; omega⟩
    · obtain ⟨k1, k2, k3, k4, k5⟩ := ((mayB_iff p).1 hmay).2.inner hl
      have key : ∀ (ks : List Int), (∀ k ∈ ks, 1 ≤ k) → ∀ (n : Nat) (s s' : WS), kidsD (fun k i s => walkD T f k.toNat (deep + 1) (loK p lo i) (hiK p hi i) s) ks n s = some s' → 4 * unmet s.met + 3 * s.count + 2 * ks.length ≤ 4 * unmet s'.met + 3 * s'.count := by
        intro ks
        induction ks with
        | nil => intro _ n s s' h; cases h; simp
        | cons k ks ihk =>
          intro hks n s s' h
          rw [kidsD_cons] at h
          cases hr : walkD T f k.toNat (deep + 1) (loK p lo n) (hiK p hi n) s with
          | none => rw [hr] at h; cases h
          | some s1 =>
            rw [hr] at h
            dsimp only at h
            have := (ih _ _ _ _ _ _ hr).2 (by have := hks k (by simp); omega)
            have := ihk (fun k' hk' => hks k' (by simp [hk'])) (n + 1) s1 s' h
            simp only [List.length_cons]
            omega
      have := key p.kids (fun k hk => (k4 k hk).1) _ _ _ hk
      dsimp only at this
      exact ⟨by omega, fun ha => by have := h2 ha; omega⟩
end Go.Am
namespace Go.Am

theorem rest_at {T : List Pg} {met : List Bool} (h : restD T met = true) {i : Nat} (hi : i < T.length) {p : Pg} (hp : T[i]? = some p) : met[i]?.getD true = true ∨ nothingB p = true := by
  unfold restD at h
  rw [List.all_eq_true] at h
  have := h i (List.mem_range.2 hi)
  rw [hp, Option.getD_some, Bool.or_eq_true] at this
  exact this
theorem rest_false {T : List Pg} {met : List Bool} {i : Nat} (hi : i < T.length) {p : Pg} (hp : T[i]? = some p) (hm : met[i]? = some false) (hn : nothingB p = false) : restD T met = false := by
  unfold restD
  rw [List.all_eq_false]
  exact ⟨i, List.mem_range.2 hi, by rw [hm, hp, Option.getD_some, Option.getD_some, hn]; simp⟩
/-- a sound tree's pages -/
structure SF (T : List Pg) (st : WS) : Prop where
  len : T.length = 48
  walk : walkD T 49 0 1 (mkS []) (mkS []) ws0 = some st
  rest : restD T st.met = true
  count : st.count ≤ 60
  height : heightD T = st.deep
  metlen : st.met.length = 48
theorem SF.of {T : List Pg} (h : 0 < heightD T) : ∃ st, SF T st := by
  obtain ⟨st, h1, h2, h3, h4, h5⟩ := sound_facts h
  exact ⟨st, h1, h2, h3, h4, h5, (walkD_unmet T _ _ _ _ _ _ _ h2).2.1⟩
section
variable {T : List Pg} {st : WS}
theorem SF.used (s : SF T st) {i : Nat} {p : Pg} (hp : T[i]? = some p) (hu : p.used = true) : st.met[i]? = some true ∧ mayB_ p = true ∧ (0 < i → 2 ≤ p.keys.length) := by
  have hi : i < 48 := by have := (List.getElem?_eq_some_iff.1 hp).1; have := s.len; omega
  have hm : st.met[i]? = some true := by
    rcases rest_at s.rest (by rw [s.len]; exact hi) hp with h | h
    · rw [List.getElem?_eq_getElem (by rw [s.metlen]; exact hi)] at h ⊢
      simpa using h
    · unfold nothingB at h; rw [hu] at h; simp at h
  refine ⟨hm, ?_⟩
  rcases (walkD_met T _ _ _ _ _ _ _ s.walk).2.2 i hm with h | ⟨q, hq, h1, h2⟩
  · rw [ws0_met i hi] at h; cases h
  · rw [hp] at hq; cases hq; exact ⟨h1, h2⟩
theorem SF.unused (s : SF T st) : ∃ i, 0 < i ∧ i < 48 ∧ st.met[i]? = some false := by
  have hm := (walkD_many T _ _ _ _ _ _ _ s.walk).1
  have h0 : unmet ws0.met = 48 := unmet_rep 48
  rw [h0] at hm
  have hc := s.count
  have h00 : ws0.count = 0 := rfl
  have hu : 2 ≤ unmet st.met := by omega
  -- two that are not met
  obtain ⟨b, tl, hb⟩ : ∃ b tl, st.met = b :: tl := by
    cases hq : st.met with
    | nil => have := s.metlen; rw [hq] at this; simp at this
    | cons b tl => exact ⟨b, tl, rfl⟩
  rw [hb] at hu
  have ht : 1 ≤ (tl.filter (! ·)).length := by
    unfold unmet at hu
    cases b <;> simp at hu <;> omega
  obtain ⟨x, hx⟩ := List.exists_mem_of_length_pos (by omega : 0 < (tl.filter (! ·)).length)
  rw [List.mem_filter] at hx
  obtain ⟨j, hj, e⟩ := List.getElem_of_mem hx.1
  have hxf : x = false := by simpa using hx.2
  refine ⟨j + 1, by omega, ?_, ?_⟩
  · have := s.metlen; rw [hb] at this; simp at this; omega
  · rw [hb, List.getElem?_cons_succ, List.getElem?_eq_getElem hj, e, hxf]
theorem SF.free (s : SF T st) {i : Nat} {p : Pg} (hp : T[i]? = some p) (hm : st.met[i]? = some false) : p.used = false := by
  cases hu : p.used with
  | false => rfl
  | true => rw [(s.used hp hu).1] at hm; cases hm
/-- another page where none was met -/
theorem SF.more (s : SF T st) {i : Nat} (hi : i < 48) {p q : Pg} (hp : T[i]? = some p) (hu : p.used = false) (hq : nothingB q = false) : heightD (T.set i q) = 0 := by
  have hm : st.met[i]? = some false := by
    rw [List.getElem?_eq_getElem (by rw [s.metlen]; exact hi)]
    cases e : st.met[i]'(by rw [s.metlen]; exact hi) with
    | false => rfl
    | true =>
      have hm : st.met[i]? = some true := by rw [List.getElem?_eq_getElem (by rw [s.metlen]; exact hi), e]
      rcases (walkD_met T _ _ _ _ _ _ _ s.walk).2.2 i hm with h | ⟨q, hq, h1, _⟩
      · rw [ws0_met i hi] at h; cases h
      · rw [hp] at hq; cases hq
        have := ((mayB_iff p).1 h1).2.used
        rw [hu] at this; cases this
  refine height_rest (walkD_same T _ i (fun j hj => List.getElem?_set_ne (Ne.symm hj)) _ _ _ _ _ _ _ s.walk (by rw [hm]; simp)) ?_
  exact rest_false (p := q) (by simp [s.len]; exact hi) (List.getElem?_set_self (by rw [s.len]; exact hi)) hm hq
/-- a page with too few keys -/
theorem SF.less (s : SF T st) {i : Nat} (h0 : 0 < i) {p q : Pg} (hp : T[i]? = some p) (hu : p.used = true) (hq : q.keys.length < 2) : heightD (T.set i q) = 0 := by
  have hi : i < 48 := by have := (List.getElem?_eq_some_iff.1 hp).1; have := s.len; omega
  refine height_none (walkD_bad T _ i (q := q) (fun j hj => List.getElem?_set_ne (Ne.symm hj)) (List.getElem?_set_self (by rw [s.len]; exact hi)) (fun lo hi st => ?_) _ _ _ _ _ _ _ s.walk (by rw [ws0_met i hi]; simp) (s.used hp hu).1)
  unfold okD
  rw [decide_eq_true h0, decide_eq_true hq]
  simp
end

section
variable {H : Hp} {Q : Post} {T : List Pg} {st : WS}
theorem turned_fin {z x y : Pl} {zcs xcs ycs : List PC} {T1 T2 : List Pg} {b : Bool} (hz : Tr H z 48 zcs T) (hx : Tr H x 48 xcs T1) (hy : Tr H y 48 ycs T2) (h0 : 0 < heightD T) (h1 : heightD T1 = 0) (h2 : decide (0 < heightD T2) = !b) (hQ : ∀ H', Q (.g (.bool true)) H') :
    cl sound_Sound [(.agg [(.sl x 48 5)])] H fun r21 H22 => rG r21 fun v23 => dB v23 fun b24 => bite (!b24)
     (cl sound_Sound [(.agg [(.sl y 48 5)])] H22 fun r25 H26 => rG r25 fun v27 => dB v27 fun b28 => bite (!(eqB b28 b))
      (cl sound_Height [(.agg [(.sl z 48 5)])] H26 fun r29 H30 => rG r29 fun v31 => dI .i64 v31 fun i32 => Q (.g (.bool (leI 1 i32))) H30)
      (Q (.g (.bool false)) H26))
     (Q (.g (.bool false)) H22) := by
  refine sound_Sound_spec hx fun H1 p1 => ?_
  simp only [rG_g, dB_bool]
  rw [bite_t (by rw [h1]; decide)]
  refine sound_Sound_spec (hy.mono p1) fun H2 p2 => ?_
  simp only [rG_g, dB_bool]
  rw [bite_t (by rw [h2]; cases b <;> rfl)]
  refine sound_Height_spec (hz.mono (p1.trans p2)) fun H3 p3 => ?_
  simp only [rG_g, dI_int]
  rw [leI_def, decide_eq_true (by omega)]
  exact hQ _
set_option maxRecDepth 100000 in
theorem law10_SoundTurned_spec {a : Pl} {n : Nat} {cs : List PC} (hT : Tr H a n cs T) (hn : n * 80 ≤ 140737488351232) (hQ : ∀ H', Q (.g (.bool true)) H') : law10_SoundTurned [.agg [.sl a n 5]] H Q := by
  refine ⟨120, ?_⟩
  rw [law10_SoundTurned_eq]
  refine law10_awake_spec fun H1 p1 => ?_
  simp only [rG_g, dB_bool]
  rw [bite_f (by decide)]
  refine ref9_Sound_spec (hT.mono p1) fun H2 p2 => ?_
  simp only [rG_g, dB_bool]
  have hT2 := hT.mono (p1.trans p2)
  by_cases h0 : 0 < heightD T
  rotate_left
  · rw [decide_eq_false h0, bite_t (by decide)]
    refine sound_Sound_spec hT2 fun H3 p3 => ?_
    simp only [rG_g, dB_bool]
    rw [decide_eq_false h0]
    exact hQ _
  rw [decide_eq_true h0, bite_f (by decide)]
  obtain ⟨st, s⟩ := SF.of h0
  have hn48 : n = 48 := by have := hT.lenT; have := s.len; omega
  subst hn48
  refine law0_CopyTree_ct hT2 hn fun x ds H3 g => ?_
  simp only [rA_agg, uC_cons, dL_sl, uN_nil]
  obtain ⟨tx, rfl⟩ : ∃ tx, x = some (tx, 0) := by
    rcases g.ot.own with ⟨_, h, _⟩ | ⟨l, e, _⟩
    · omega
    · exact ⟨l, e⟩
  have hbx := g.ot.at_row.1
  -- y: one key too few
  have l14 : ∀ (F i : Nat) (B H : Hp) (T1 : List Pg) (xcs : List PC) (ty : Nat) (ycs : List PC), 48 - i < F → 1 ≤ i → i ≤ 48 → H2 <+: B → Tr B (some (tx, 0)) 48 xcs T1 → heightD T1 = 0 → B <+: H → OT H B.length 34 (some (ty, 0)) 48 ycs T →
      law10_SoundTurned.l14 F a 48 (some (tx, 0)) 48 (some (ty, 0)) 48 false (i : Int) H Q := by
    intro F
    induction F with
    | zero => intro i _ _ _ _ _ _ h; omega
    | succ F ih =>
      intro i B H T1 xcs ty ycs hF h1 hi hB hX hh hp hY
      rw [law10_SoundTurned.l14_eq]
      have hXH := hX.mono hp
      have hZH := hT2.mono (hB.trans hp)
      by_cases hik : i < 48
      · rw [bite_t (by simp; omega), bite_t (by decide), chk_true]
        refine chk_of (by simp; omega) ?_
        obtain ⟨l, o, c, p, ex, hc, hpp, hpc, g0, g1, g2, g3, g4⟩ := hY.tr.get hik
        cases ex
        have hlY := hY.len
        have hci : ycs[i]'(by omega) = c := by rw [List.getElem?_eq_getElem (by omega)] at hc; exact Option.some.inj hc
        have etN : tN (i : Int) = i := rfl
        rw [pS_some, etN, rdPage_of g0 g1 g2 g3 g4, wrap_succ (by omega)]
        refine bite_of (fun eu => ?_) (fun eu => ih (i + 1) B H T1 xcs ty ycs (by omega) (by omega) (by omega) hB hX hh hp hY)
        refine bite_of (fun el => ?_) (fun el => ih (i + 1) B H T1 xcs ty ycs (by omega) (by omega) (by omega) hB hX hh hp hY)
        have hu : p.used = true := by rw [hpc.used, eu]
        have hlf : p.leaf = true := by rw [hpc.leaf, el]
        obtain ⟨_, hmay, h2k⟩ := s.used hpp hu
        have h2 := h2k (by omega)
        have hv := (((mayB_iff p).1 hmay).2.leaf hlf).1
        have hn1 := hpc.keys.len
        have hn2 := hpc.vals.len
        have hoff : ∀ l, c.on l → l ≠ ty := fun l hl e => hY.off c (by rw [← hci]; exact List.getElem_mem _) l hl (by rw [e])
        rw [chk_true]
        refine chk_of (by simp; omega) ?_
        rw [chk_true]
        refine chk_of (by simp; omega) ?_
        have e2 : 0 + i * 5 + 2 = i * 5 + 2 := by omega
        have e3 : 0 + i * 5 + 3 = i * 5 + 3 := by omega
        rw [pS_some, e2]
        have sh : ∀ x : Pl, shf x 0 = x := fun x => by cases x <;> rfl
        have t1 : tN 1 - 0 = 1 := rfl
        rw [sh, sh, t1]
        have k1 : Ss H c.a1 1 (p.keys.take 1) := by have := hpc.keys.part 0 1 (by omega); rw [sh, List.drop_zero] at this; exact this
        refine hY.cell (i := i) (j := 2) (c := { c with a1 := c.a1, n1 := 1 }) (p := { p with keys := p.keys.take 1 }) hik (by omega) (by omega) (by rw [hci]; rfl) ⟨hpc.used, hpc.leaf, k1, hpc.vals, hpc.kids⟩ hoff fun H4 hp4 o4 => ?_
        have hlen4 := o4.len
        have c1 := o4.all i (by rw [hlen4]; exact hik) (by rw [o4.lenT]; exact hik)
        rw [List.getElem_set_self, List.getElem_set_self] at c1
        rw [chk_true]
        refine chk_of (by simp; omega) ?_
        rw [chk_true]
        refine chk_of (by simp; omega) ?_
        rw [pS_some, e3]
        have v1 : Ss H4 c.a2 1 (p.vals.take 1) := by have := c1.vals.part 0 1 (by show 0 + 1 ≤ c.n2; omega); rw [sh, List.drop_zero] at this; exact this
        refine o4.cell (i := i) (j := 3) (c := { c with a1 := c.a1, n1 := 1, a2 := c.a2, n2 := 1 }) (p := { p with keys := p.keys.take 1, vals := p.vals.take 1 }) hik (by rw [hlen4]; exact hik) (by omega) (by rw [List.getElem_set_self]; rfl) ⟨hpc.used, hpc.leaf, c1.keys, v1, c1.kids⟩ hoff fun H5 hp5 o5 => ?_
        obtain ⟨F, rfl⟩ : ∃ F', F = F' + 1 := ⟨F - 1, by omega⟩
        have hby := hY.at_row.1
        have q5 := hp5 B (hp4 B hp hby) hby
        rw [List.set_set, List.set_set] at o5
        have hless := s.less (i := i) (by omega) hpp hu (q := { p with keys := p.keys.take 1, vals := p.vals.take 1 }) (by simp; omega)
        have hfin := turned_fin (Q := Q) (b := true) (hT2.mono (hB.trans q5)) (hX.mono q5) o5.tr h0 hh (by rw [hless]; rfl) hQ
        rw [law10_SoundTurned.l14_eq]
        refine bite_of (fun _ => ?_) (fun _ => ?_)
        · rw [bite_f (by decide)]; exact hfin
        · exact hfin
      · rw [bite_f (by simp; omega)]
        exact turned_fin (b := false) hZH hXH hY.tr h0 hh (by rw [decide_eq_true h0]; rfl) hQ
  obtain ⟨j0, j1, j2, j3⟩ := s.unused
  have hj0 : ∃ p, T[j0]? = some p := ⟨T[j0]'(by rw [s.len]; exact j2), List.getElem?_eq_getElem _⟩
  obtain ⟨p0, hp0⟩ := hj0
  have hu0 := s.free hp0 j3
  -- x: a page more
  have l7 : ∀ (F i : Nat), i + 60 < F → i < 48 → (∀ j p, i < j → T[j]? = some p → p.used = true) → law10_SoundTurned.l7 F a 48 (some (tx, 0)) 48 (i : Int) H3 Q := by
    intro F
    induction F with
    | zero => intro i h; omega
    | succ F ih =>
      intro i hF hi hab
      have hij : j0 ≤ i := by
        rcases Nat.lt_or_ge i j0 with h | h
        · have := hab j0 p0 h hp0; rw [hu0] at this; cases this
        · exact h
      rw [law10_SoundTurned.l7_eq, bite_t (by simp; omega), chk_true]
      refine chk_of (by simp; omega) ?_
      obtain ⟨l, o, c, p, ex, hc, hpp, hpc, g0, g1, g2, g3, g4⟩ := g.ot.tr.get hi
      cases ex
      have etN : tN (i : Int) = i := rfl
      rw [pS_some, etN, Nat.add_zero, rd_of g0, dB_bool]
      refine bite_of (fun eu => ?_) (fun eu => ?_)
      · have hu : p.used = false := by rw [hpc.used]; simpa using eu
        rw [chk_true]
        refine chk_of (by simp; omega) ?_
        have e5 : 0 + i * 5 = i * 5 := by omega
        rw [pS_some, e5]
        simp only [pu_def, ln_def]
        have q := (pre_pu H3 (.row true 9 [(.str (mkS [97])), (.str (mkS [98]))])).trans (pre_pu _ (.row true 9 [(.str (mkS [])), (.str (mkS []))]))
        have hqlt : tx < H3.length := g.ot.own.ltAny rfl
        refine (g.ot.mono q).page5 (i := i) (c := ⟨true, true, some (H3.length, 0), 2, some ((H3 ++ [Obj.row true 9 [(.str (mkS [97])), (.str (mkS [98]))]]).length, 0), 2, none, 0⟩) (p := ⟨true, true, [mkS [97], mkS [98]], [mkS [], mkS []], []⟩) hi
          ⟨rfl, rfl, ⟨by simp [cells?], rfl, by show 2 * 16 ≤ _; omega⟩, ⟨by simp [cells?], rfl, by show 2 * 16 ≤ _; omega⟩, .nil _⟩ (fun l ⟨o, hl⟩ => by rcases hl with hl | hl | hl <;> simp at hl <;> omega) fun H4 hp4 o4 => ?_
        obtain ⟨F, rfl⟩ : ∃ F', F = F' + 1 := ⟨F - 1, by omega⟩
        have q4 := hp4 H2 (g.pre.trans q) hbx
        rw [law10_SoundTurned.l11_eq]
        refine law0_CopyTree_ct (hT2.mono q4) hn fun y ycs H5 gy => ?_
        simp only [rA_agg, uC_cons, dL_sl, uN_nil]
        obtain ⟨ty, rfl⟩ : ∃ ty, y = some (ty, 0) := by
          rcases gy.ot.own with ⟨_, h, _⟩ | ⟨l, e, _⟩
          · omega
          · exact ⟨l, e⟩
        exact l14 F 1 H4 H5 _ _ ty ycs (by omega) (by omega) (by omega) q4 o4.tr (s.more hi hpp hu rfl) gy.pre gy.ot
      · have hu : p.used = true := by rw [hpc.used]; simpa using eu
        obtain ⟨i, rfl⟩ : ∃ i', i = i' + 1 := ⟨i - 1, by omega⟩
        rw [wrap_pred (by omega)]
        refine ih i (by omega) (by omega) fun j p' hj hp' => ?_
        by_cases e : j = i + 1
        · subst e; rw [hpp] at hp'; cases hp'; exact hu
        · exact hab j p' (by omega) hp'
  exact l7 119 47 (by omega) (by omega) fun j p hj hp => by have := (List.getElem?_eq_some_iff.1 hp).1; have := s.len; omega
end
end Go.Am
