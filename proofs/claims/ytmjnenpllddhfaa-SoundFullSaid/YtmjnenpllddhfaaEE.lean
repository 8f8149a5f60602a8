import Derived.Test.YtmjnenpllddhfaaED
set_option linter.unusedVariables false
set_option linter.unusedSimpArgs false
namespace Go.Am

theorem Own.base {H : Hp} {b b' : Nat} {t : TypeId} {a : Pl} {n : Nat} {cs : List GV} (h : Own H b t a n cs) (hb : b' ≤ b) : Own H b' t a n cs := by
  rcases h with h | ⟨l, h1, h2, h3⟩
  · exact .inl h
  · exact .inr ⟨l, h1, by omega, h3⟩
theorem Own.above {H : Hp} {b : Nat} {t : TypeId} {a : Pl} {n : Nat} {cs : List GV} (h : Own H b t a n cs) {l o : Nat} (e : a = some (l, o)) : b ≤ l := by
  rcases h with ⟨h, _⟩ | ⟨l', h1, h2, _⟩
  · rw [h] at e; cases e
  · rw [h1] at e; cases e; exact h2
/-- a level done -/
structure BS (B H : Hp) (tp : Nat) (tcs : List PC) (T : List Pg) (x : Pl) (n : Nat) (xcs : List PC) (xT : List Pg) (y : Pl) (yls : List ByteArray) : Prop where
  pre : B <+: H
  TP : OT H B.length 34 (some (tp, 0)) 48 tcs T
  X : OT H B.length 34 x n xcs xT
  Y : Own H B.length 9 y n (yls.map GV.str)
  sp : Sp H [some (tp, 0)] [x, y] (tcs ++ xcs)
section
variable {B H H' : Hp} {tp : Nat} {tcs : List PC} {T : List Pg} {x : Pl} {n : Nat} {xcs : List PC} {xT : List Pg} {y : Pl} {yls : List ByteArray} {sa : Pl} {k : Nat} {ss : List Int}
    {up : Pl} {m : Nat} {ucs : List PC} {uT : List Pg} {ul : Pl} {uls : List ByteArray}
theorem BS.start (g : BS B H tp tcs T x n xcs xT y yls) (hp : H <+: H') (hS : Own H' H.length 3 sa k (ss.map (GV.int .i64))) : BJ B H' tp tcs T x n xcs xT y yls sa k ss none 0 [] [] none 0 [] none [] none [] := by
  have hBl := g.pre.length_le
  have hl := hp.length_le
  refine ⟨g.pre.trans hp, g.TP.mono hp, g.X.mono hp, g.Y.mono hp, hS.base hBl, OT.nil _ _ _, .inl ⟨rfl, rfl, rfl⟩, .inl ⟨rfl, rfl, rfl⟩, .inl ⟨rfl, rfl, rfl⟩, ?_⟩
  have hM : ∀ i l o, ([some (tp, 0), none, none, none, none] : List Pl).getD i none = some (l, o) → i = 0 ∧ l = tp ∧ o = 0 := by
    intro i l o e
    match i, e with
    | 0, e => cases e; exact ⟨rfl, rfl, rfl⟩
    | 1, e => cases e
    | 2, e => cases e
    | 3, e => cases e
    | 4, e => cases e
    | i + 5, e => simp at e
  have htp : tp < H.length := g.sp.lm 0 tp 0 rfl
  refine ⟨fun i j hne l e1 e2 => ?_, fun i b hb l e1 e2 => ?_, fun i c hc l hl' e => ?_, fun i l o e => ?_, fun b hb l o e => ?_, fun c hc l hl' => ?_⟩
  · exact hne ((hM i l 0 e1).1.trans (hM j l 0 e2).1.symm)
  · obtain ⟨_, rfl, _⟩ := hM i l 0 e1
    simp only [List.mem_cons, List.not_mem_nil, or_false] at hb
    rcases hb with rfl | rfl | rfl
    · exact g.sp.mf 0 _ (by simp) l rfl e2
    · exact g.sp.mf 0 _ (by simp) l rfl e2
    · have := hS.above e2; omega
  · obtain ⟨_, rfl, _⟩ := hM i l 0 e
    exact g.sp.mp 0 c (by simpa using hc) l hl' rfl
  · obtain ⟨_, rfl, _⟩ := hM i l o e; omega
  · simp only [List.mem_cons, List.not_mem_nil, or_false] at hb
    rcases hb with rfl | rfl | rfl
    · have := g.sp.lf _ (by simp) l o e; omega
    · have := g.sp.lf _ (by simp) l o e; omega
    · exact hS.ltAny e
  · have := g.sp.lp c (by simpa using hc) l hl'; omega
theorem BJ.done (g : BJ B H tp tcs T x n xcs xT y yls sa k ss up m ucs uT ul m uls none [] none []) : BS B H tp tcs T up m ucs uT ul uls := by
  have hM : ∀ i l o, ([some (tp, 0)] : List Pl).getD i none = some (l, o) → i = 0 ∧ l = tp ∧ o = 0 := by
    intro i l o e
    match i, e with
    | 0, e => cases e; exact ⟨rfl, rfl, rfl⟩
    | i + 1, e => simp at e
  refine ⟨g.pre, g.TP, g.UP, g.UL, fun i j hne l e1 e2 => ?_, fun i b hb l e1 e2 => ?_, fun i c hc l hl' e => ?_, fun i l o e => ?_, fun b hb l o e => ?_, fun c hc l hl' => ?_⟩
  · exact hne ((hM i l 0 e1).1.trans (hM j l 0 e2).1.symm)
  · obtain ⟨_, rfl, _⟩ := hM i l 0 e1
    simp only [List.mem_cons, List.not_mem_nil, or_false] at hb
    rcases hb with rfl | rfl
    · exact g.sp.mm 0 1 (by decide) l rfl e2
    · exact g.sp.mm 0 2 (by decide) l rfl e2
  · obtain ⟨_, rfl, _⟩ := hM i l 0 e
    refine g.sp.mp 0 c ?_ l hl' rfl
    simp only [List.mem_append] at hc ⊢
    rcases hc with q | q
    · exact .inl (.inl q)
    · exact .inr q
  · obtain ⟨_, rfl, _⟩ := hM i l o e
    exact g.sp.lm 0 l 0 rfl
  · simp only [List.mem_cons, List.not_mem_nil, or_false] at hb
    rcases hb with rfl | rfl
    · exact g.sp.lm 1 l o e
    · exact g.sp.lm 2 l o e
  · refine g.sp.lp c ?_ l hl'
    simp only [List.mem_append] at hc ⊢
    rcases hc with q | q
    · exact .inl (.inl q)
    · exact .inr q
end

section
variable {B : Hp} {Q : Post} {tp : Nat}
theorem build_l9 {xs : Lvl} {next0 : Nat} {T0 : List Pg} {x y : Pl} {xcs : List PC} {sa : Pl} {REST : Nat} (hn2 : 2 ≤ xs.length) (hb : next0 + xs.length ≤ 48)
    (hK : ∀ (F : Nat) (H : Hp) (tcs : List PC) (up : Pl) (ucs : List PC) (ul : Pl), REST ≤ F → BS B H tp tcs (placeD T0 xs next0 xs.length) up (upD xs next0).length ucs ((upD xs next0).map (·.1)) ul ((upD xs next0).map (·.2)) →
      ref9_Build.l4 F none 0 (some (tp, 0)) 48 up (upD xs next0).length ul (upD xs next0).length ((next0 + xs.length : Nat) : Int) H Q) :
    ∀ (F i : Nat) (H : Hp) (tcs : List PC) (up : Pl) (ucs : List PC) (ul : Pl), xs.length + 3 * (kOf xs.length 5 - i) + REST < F + cutN xs.length (kOf xs.length 5) i → i ≤ kOf xs.length 5 →
      BJ B H tp tcs (placeD T0 xs next0 (cutN xs.length (kOf xs.length 5) i)) x xs.length xcs (xs.map (·.1)) y (xs.map (·.2)) sa (kOf xs.length 5) ((sizesD xs.length 5).map fun (x : Nat) => (x : Int)) up i ucs (((List.range i).map (upAt xs next0 (kOf xs.length 5))).map (·.1)) ul i (((List.range i).map (upAt xs next0 (kOf xs.length 5))).map (·.2)) none [] none [] →
      ref9_Build.l9 F none 0 (some (tp, 0)) 48 x xs.length y xs.length ((next0 + cutN xs.length (kOf xs.length 5) i : Nat) : Int) up i ul i sa (kOf xs.length 5) ((cutN xs.length (kOf xs.length 5) i : Nat) : Int) (i : Int) H Q := by
  have hk := kOf_pos xs.length 5
  have hSD : sizesD xs.length 5 = (List.range (kOf xs.length 5)).map fun i => cutN xs.length (kOf xs.length 5) (i + 1) - cutN xs.length (kOf xs.length 5) i := rfl
  have hUD : upD xs next0 = (List.range (kOf xs.length 5)).map (upAt xs next0 (kOf xs.length 5)) := rfl
  have hk2 : kOf xs.length 5 ≤ 48 := by
    unfold kOf
    have : (xs.length + 5 - 1) / 5 ≤ xs.length := by omega
    omega
  generalize kOf xs.length 5 = k at *
  have hUl : (upD xs next0).length = k := by rw [hUD]; simp
  rw [hUl] at hK
  have hsl : ((sizesD xs.length 5).map fun (x : Nat) => (x : Int)).length = k := by rw [hSD]; simp
  have hsg : ∀ i (h : i < ((sizesD xs.length 5).map fun (x : Nat) => (x : Int)).length), ((sizesD xs.length 5).map fun (x : Nat) => (x : Int))[i] = ((cutN xs.length k (i + 1) - cutN xs.length k i : Nat) : Int) := fun i h => by
    simp only [hSD, List.getElem_map, List.getElem_range]
  intro F
  induction F using Nat.strongRecOn with
  | _ F ihF =>
    intro i H tcs up ucs ul hF hi g
    have hci := cutN_le (n := xs.length) (k := k) (i := i) hi hk
    obtain ⟨F, rfl⟩ : ∃ F', F = F' + 1 := ⟨F - 1, by omega⟩
    rw [ref9_Build.l9_eq]
    by_cases hik : i < k
    · rw [bite_t (by simp; omega)]
      have hmono := cutN_mono xs.length k i
      have hci1 := cutN_le (n := xs.length) (k := k) (i := i + 1) (by omega) hk
      have hclt := cutN_lt (n := xs.length) hik (by omega)
      have isS : ∀ {H tcs T up m ucs uT ul m2 uls kk ks ii is}, BJ B H tp tcs T x xs.length xcs (xs.map (·.1)) y (xs.map (·.2)) sa k ((sizesD xs.length 5).map fun (x : Nat) => (x : Int)) up m ucs uT ul m2 uls kk ks ii is → Is H sa k ((sizesD xs.length 5).map fun (x : Nat) => (x : Int)) := fun g => ⟨g.S.cells, hsl.symm, by omega⟩
      have isY : ∀ {H tcs T up m ucs uT ul m2 uls kk ks ii is}, BJ B H tp tcs T x xs.length xcs (xs.map (·.1)) y (xs.map (·.2)) sa k ((sizesD xs.length 5).map fun (x : Nat) => (x : Int)) up m ucs uT ul m2 uls kk ks ii is → Ss H y xs.length (xs.map (·.2)) := fun g => ⟨g.Y.cells, by simp, by omega⟩
      have w1 : wrapI .i64 (((cutN xs.length k i : Nat) : Int) + ((cutN xs.length k (i + 1) - cutN xs.length k i : Nat) : Int)) = ((cutN xs.length k (i + 1) : Nat) : Int) := by rw [wrap64 (by omega) (by omega)]; omega
      have inner : ∀ (d G j : Nat) (H : Hp) (tcs : List PC) (kk ii : Pl), cutN xs.length k (i + 1) - j = d → cutN xs.length k i ≤ j → j ≤ cutN xs.length k (i + 1) → xs.length + 3 * (k - i) + REST < G + j + 1 → G ≤ F →
          BJ B H tp tcs (placeD T0 xs next0 j) x xs.length xcs (xs.map (·.1)) y (xs.map (·.2)) sa k ((sizesD xs.length 5).map fun (x : Nat) => (x : Int)) up i ucs (((List.range i).map (upAt xs next0 k)).map (·.1)) ul i (((List.range i).map (upAt xs next0 k)).map (·.2))
            kk (((xs.drop (cutN xs.length k i + 1)).take (j - (cutN xs.length k i + 1))).map (·.2)) ii ((List.range (j - cutN xs.length k i)).map fun r => ((next0 + (cutN xs.length k i + r) : Nat) : Int)) →
          ref9_Build.l13 G none 0 (some (tp, 0)) 48 x xs.length y xs.length ((next0 + j : Nat) : Int) up i ul i sa k ((cutN xs.length k i : Nat) : Int) (i : Int) true false kk (((xs.drop (cutN xs.length k i + 1)).take (j - (cutN xs.length k i + 1))).map (·.2)).length none 0 ii ((List.range (j - cutN xs.length k i)).map fun r => ((next0 + (cutN xs.length k i + r) : Nat) : Int)).length (j : Int) H Q := by
        intro d
        induction d with
        | zero =>
          intro G j H tcs kk ii hd hj1 hj2 hG hGF g
          obtain rfl : j = cutN xs.length k (i + 1) := by omega
          obtain ⟨G, rfl⟩ : ∃ G', G = G' + 1 := ⟨G - 1, by omega⟩
          rw [ref9_Build.l13_eq, chk_true, (isS g).rd i rfl (by rw [hsl]; exact hik), hsg, w1, bite_f (by simp), chk_true]
          refine g.page (by simp; omega) (by simp; omega) (by omega) fun u' H1 c g1 => ?_
          rw [chk_true, (isY g1).rd (cutN xs.length k i) rfl (by simp; omega), chk_true]
          refine g1.least _ (by omega) fun ul' H2 g2 => ?_
          rw [chk_true, (isS g2).rd i rfl (by rw [hsl]; exact hik), hsg, w1, wrap_succ (by omega)]
          refine ihF G (by omega) (i + 1) H2 tcs u' (ucs ++ [c]) ul' (by omega) (by omega) ?_
          rw [List.range_succ, List.map_append, List.map_append, List.map_append]
          have e2 : (upAt xs next0 k i).2 = (xs.map (·.2))[cutN xs.length k i]'(by simp; omega) := by
            unfold upAt
            dsimp only
            rw [List.getElem?_eq_getElem hclt, List.getElem_map]
            rfl
          show BJ B H2 tp tcs (placeD T0 xs next0 (cutN xs.length k (i + 1))) x xs.length xcs (xs.map (·.1)) y (xs.map (·.2)) sa k _ u' (i + 1) (ucs ++ [c]) (_ ++ [(upAt xs next0 k i).1]) ul' (i + 1) (_ ++ [(upAt xs next0 k i).2]) none [] none []
          rw [e2]
          exact g2
        | succ d ihd =>
          intro G j H tcs kk ii hd hj1 hj2 hG hGF g
          obtain ⟨G, rfl⟩ : ∃ G', G = G' + 1 := ⟨G - 1, by omega⟩
          have hjl : j < xs.length := by omega
          rw [ref9_Build.l13_eq, chk_true, (isS g).rd i rfl (by rw [hsl]; exact hik), hsg, w1, bite_t (by simp; omega), chk_true]
          refine chk_of (by simp; omega) ?_
          obtain ⟨l, o, c, p, ex, hc, hp, hpc, g0, g1, g2, g3, g4⟩ := g.X.tr.get hjl
          have etN : tN (j : Int) = j := rfl
          have etN2 : 0 + tN ((next0 + j : Nat) : Int) * 5 = (next0 + j) * 5 := by rw [Nat.zero_add]; rfl
          have px : ∀ K : Nat → Nat → Prop, pS x K = K l o := fun K => by rw [ex]; rfl
          rw [px, etN, rdPage_of g0 g1 g2 g3 g4, chk_true]
          refine chk_of (by simp; omega) ?_
          rw [pS_some, etN2]
          refine g.place (i := next0 + j) (by omega) hc hp fun H1 tcs1 h1 => ?_
          have hpl : placeD T0 xs next0 (j + 1) = (placeD T0 xs next0 j).set (next0 + j) p := by
            show (placeD T0 xs next0 j).set (next0 + j) _ = _
            have : ((xs[j]?.map (·.1)).getD noPg) = p := by
              rw [List.getElem?_map] at hp
              rw [hp]; rfl
            rw [this]
          rw [← hpl] at h1
          rw [chk_true]
          refine h1.kid _ (by simp; omega) fun ii' H2 h2 => ?_
          have hr : (List.range (j + 1 - cutN xs.length k i)).map (fun r => ((next0 + (cutN xs.length k i + r) : Nat) : Int)) = (List.range (j - cutN xs.length k i)).map (fun r => ((next0 + (cutN xs.length k i + r) : Nat) : Int)) ++ [((next0 + j : Nat) : Int)] := by
            rw [show j + 1 - cutN xs.length k i = (j - cutN xs.length k i) + 1 by omega, List.range_succ, List.map_append]
            simp
            omega
          rw [← hr] at h2
          have hrl : ((List.range (j - cutN xs.length k i)).map (fun r => ((next0 + (cutN xs.length k i + r) : Nat) : Int))).length + 1 = ((List.range (j + 1 - cutN xs.length k i)).map (fun r => ((next0 + (cutN xs.length k i + r) : Nat) : Int))).length := by simp; omega
          rw [hrl]
          have wn : wrapI .i64 (((next0 + j : Nat) : Int) + 1) = ((next0 + (j + 1) : Nat) : Int) := by rw [wrap64 (by omega) (by omega)]; omega
          rw [wn, wrap_succ (by omega)]
          refine bite_of (fun e => ?_) (fun e => ?_)
          · have hlj : cutN xs.length k i < j := by simpa using e
            have r := fun K => (isY h2).rd j (i := (j : Int)) rfl (by simp; omega) K
            rw [etN] at r
            rw [chk_true, r, chk_true]
            refine h2.key _ (by simp; omega) fun kk' H3 h3 => ?_
            have hks : ((xs.drop (cutN xs.length k i + 1)).take (j + 1 - (cutN xs.length k i + 1))).map (·.2) = ((xs.drop (cutN xs.length k i + 1)).take (j - (cutN xs.length k i + 1))).map (·.2) ++ [(xs.map (·.2))[j]'(by simp; omega)] := by
              rw [show j + 1 - (cutN xs.length k i + 1) = (j - (cutN xs.length k i + 1)) + 1 by omega, List.take_succ_eq_append_getElem (by simp; omega), List.map_append]
              congr 1
              simp
              congr 2
              omega
            rw [← hks] at h3
            have hkl : (((xs.drop (cutN xs.length k i + 1)).take (j - (cutN xs.length k i + 1))).map (·.2)).length + 1 = (((xs.drop (cutN xs.length k i + 1)).take (j + 1 - (cutN xs.length k i + 1))).map (·.2)).length := by rw [hks, List.length_append]; rfl
            rw [hkl]
            exact ihd G (j + 1) H3 tcs1 kk' ii' (by omega) (by omega) (by omega) (by omega) (by omega) h3
          · have hlj : cutN xs.length k i = j := by simp at e; omega
            have hks : ((xs.drop (cutN xs.length k i + 1)).take (j + 1 - (cutN xs.length k i + 1))).map (·.2) = ((xs.drop (cutN xs.length k i + 1)).take (j - (cutN xs.length k i + 1))).map (·.2) := by
              rw [show j + 1 - (cutN xs.length k i + 1) = 0 by omega, show j - (cutN xs.length k i + 1) = 0 by omega]
            rw [← hks] at h2
            rw [← hks]
            exact ihd G (j + 1) H2 tcs1 kk ii' (by omega) (by omega) (by omega) (by omega) (by omega) h2
      have hstart := inner _ F (cutN xs.length k i) H tcs none none rfl (Nat.le_refl _) hmono (by omega) (Nat.le_refl _) (by
        rw [show cutN xs.length k i - (cutN xs.length k i + 1) = 0 by omega, show cutN xs.length k i - cutN xs.length k i = 0 by omega]
        exact g)
      rw [show cutN xs.length k i - (cutN xs.length k i + 1) = 0 by omega, show cutN xs.length k i - cutN xs.length k i = 0 by omega] at hstart
      exact hstart
    · obtain rfl : i = k := by omega
      rw [bite_f (by simp)]
      rw [cutN_all hk] at g hF ⊢
      have hd := g.done
      rw [← hUD] at hd
      exact hK F H tcs up ucs ul (by omega) hd
end
end Go.Am
