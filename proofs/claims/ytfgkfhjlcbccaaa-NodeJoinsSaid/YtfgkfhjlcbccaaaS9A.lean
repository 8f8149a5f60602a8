import Derived.Test.YtfgkfhjlcbccaaaS99
set_option linter.unusedVariables false
set_option linter.unusedSimpArgs false
namespace Go.Am
open Classical
set_option maxRecDepth 100000

section
variable {H0 : Hp} {Q : Post} {K : Int} {xa : Pl} {na : Nat} {xb : Pl} {nb : Nat} {ya yb : List ByteArray}
def JK (K : Int) (ya yb : List ByteArray) : Prop := (K = 0 ∧ ya = [mkS [97]] ∧ yb = [mkS [120], mkS [121]]) ∨ (K = 1 ∧ ya = [mkS [97], mkS [98]] ∧ yb = [mkS [120]])
theorem Own.ss' {H : Hp} {b : Nat} {a : Pl} {n : Nat} {xs : List ByteArray} (h : Own H b 9 a n (xs.map GV.str)) (hn : xs.length ≤ 1000) : Ss H a n xs := h.ss hn rfl
theorem joins_t (hA : Ss H0 xa na ya) (hB : Ss H0 xb nb yb) (hk : JK K ya yb) (hQ : ∀ H', Q (.g (.bool true)) H') :
    law9_NodeJoins.l8 40 true K true true xa na none 0 none 0 true true xb nb none 0 none 0 true true none 0 none 0 none 0 0 H0 Q := by
  have ha := hA.len
  have hb := hB.len
  have ka : wrapI .i64 (1 + K) = (na : Int) := by rcases hk with ⟨rfl, rfl, rfl⟩ | ⟨rfl, rfl, rfl⟩ <;> rw [ha] <;> decide
  have kb : wrapI .i64 (2 - K) = (nb : Int) := by rcases hk with ⟨rfl, rfl, rfl⟩ | ⟨rfl, rfl, rfl⟩ <;> rw [hb] <;> decide
  have n2 : na ≤ 2 := by rcases hk with ⟨rfl, rfl, rfl⟩ | ⟨rfl, rfl, rfl⟩ <;> simp at ha <;> omega
  have m2 : nb ≤ 2 := by rcases hk with ⟨rfl, rfl, rfl⟩ | ⟨rfl, rfl, rfl⟩ <;> simp at hb <;> omega
  refine joins_l8 (lf := true) (ks := []) (vs := []) (is := []) hA (by omega) ka 30 ?_ 40 0 H0 none 0 (by omega) (by omega) (by omega) (List.prefix_refl _) ⟨rfl, rfl, .inl ⟨rfl, rfl, rfl⟩, .inl ⟨rfl, rfl, rfl⟩, .inl ⟨rfl, rfl, rfl⟩, fun _ e => (by cases e), fun _ e => (by cases e), fun _ e => (by cases e), by omega⟩
  intro f H w1 c1 hf hc h0 o
  obtain ⟨f, rfl⟩ : ∃ f', f = f' + 1 := ⟨f - 1, by omega⟩
  rw [law9_NodeJoins.l13_eq]
  refine joins_l14 (lf := true) (ks := ya) (vs := []) (is := []) hB (by omega) kb 20 ?_ f 0 H w1 c1 (by omega) (by omega) (by omega) h0 (by simpa using o)
  intro f H w1 c1 hf hc h0 o
  refine joins_l18t (ks := ya ++ yb) (vs := []) (is := []) (c2 := 0) (by omega) 10 ?_ f 0 H none 0 (by omega) (by omega) (by omega) h0 o
  intro f H w2 c2 hf h0 o
  obtain ⟨f, rfl⟩ : ∃ f', f = f' + 2 := ⟨f - 2, by omega⟩
  have W := o.at
  have hc2 := W.vals.len
  simp at hc2
  rw [law9_NodeJoins.l22_eq, ka, bite_t (by decide), bite_f (by decide), bite_true, chk_true]
  refine chk_of (by simp) (chk_of (by simp; omega) ?_)
  rw [chk_true]
  refine chk_of (by simp) (chk_of (by simp; omega) ?_)
  have e1 := W.vals.part 0 na (by omega)
  have e2 := W.vals.part na (c2 - na) (by omega)
  have hA' := hA.mono h0
  have hB' := hB.mono h0
  refine joins_l30 (pa := ⟨true, true, ya, _, []⟩) (pb := ⟨true, true, yb, _, []⟩) ⟨rfl, rfl, hA', e1, .nil _⟩ ⟨rfl, rfl, hB', by simpa using e2, .nil _⟩ W ?_ ?_ hQ _
  · rcases hk with ⟨rfl, rfl, rfl⟩ | ⟨rfl, rfl, rfl⟩ <;> rw [ha, hc2] <;> decide +kernel
  · rcases hk with ⟨rfl, rfl, rfl⟩ | ⟨rfl, rfl, rfl⟩ <;> rw [ha, hc2] <;> rfl
theorem joins_f (hA : Ss H0 xa na ya) (hB : Ss H0 xb nb yb) (hk : JK K ya yb) (hQ : ∀ H', Q (.g (.bool true)) H') :
    law9_NodeJoins.l8 40 false K true false xa na none 0 none 0 true false xb nb none 0 none 0 true false none 0 none 0 none 0 0 H0 Q := by
  have ha := hA.len
  have hb := hB.len
  have ka : wrapI .i64 (1 + K) = (na : Int) := by rcases hk with ⟨rfl, rfl, rfl⟩ | ⟨rfl, rfl, rfl⟩ <;> rw [ha] <;> decide
  have ka2 : wrapI .i64 (2 + K) = ((na + 1 : Nat) : Int) := by rcases hk with ⟨rfl, rfl, rfl⟩ | ⟨rfl, rfl, rfl⟩ <;> rw [ha] <;> decide
  have kb : wrapI .i64 (2 - K) = (nb : Int) := by rcases hk with ⟨rfl, rfl, rfl⟩ | ⟨rfl, rfl, rfl⟩ <;> rw [hb] <;> decide
  have n2 : na ≤ 2 := by rcases hk with ⟨rfl, rfl, rfl⟩ | ⟨rfl, rfl, rfl⟩ <;> simp at ha <;> omega
  have m2 : nb ≤ 2 := by rcases hk with ⟨rfl, rfl, rfl⟩ | ⟨rfl, rfl, rfl⟩ <;> simp at hb <;> omega
  refine joins_l8 (lf := false) (ks := []) (vs := []) (is := []) hA (by omega) ka 30 ?_ 40 0 H0 none 0 (by omega) (by omega) (by omega) (List.prefix_refl _) ⟨rfl, rfl, .inl ⟨rfl, rfl, rfl⟩, .inl ⟨rfl, rfl, rfl⟩, .inl ⟨rfl, rfl, rfl⟩, fun _ e => (by cases e), fun _ e => (by cases e), fun _ e => (by cases e), by omega⟩
  intro f H w1 c1 hf hc h0 o
  obtain ⟨f, rfl⟩ : ∃ f', f = f' + 1 := ⟨f - 1, by omega⟩
  rw [law9_NodeJoins.l13_eq]
  refine joins_l14 (lf := false) (ks := ya ++ [mkS [109]]) (vs := []) (is := []) hB (by omega) kb 20 ?_ f 0 H w1 c1 (by omega) (by omega) (by omega) h0 (by simpa using o)
  intro f H w1 c1 hf hc h0 o
  obtain ⟨f, rfl⟩ : ∃ f', f = f' + 1 := ⟨f - 1, by omega⟩
  rw [law9_NodeJoins.l18_eq, bite_t (by decide), bite_false]
  refine joins_l22f (ks := ya ++ [mkS [109]] ++ yb) (vs := []) (is := []) (c3 := 0) (by omega) 10 ?_ f 0 H none 0 (by omega) (by omega) (by omega) h0 o
  intro f H w3 c3 hf h0 o
  obtain ⟨f, rfl⟩ : ∃ f', f = f' + 2 := ⟨f - 2, by omega⟩
  have W := o.at
  have hc2 := W.kids.len
  simp at hc2
  rw [law9_NodeJoins.l22_eq, ka2, bite_f (by decide), bite_false, chk_true]
  refine chk_of (by simp; omega) (chk_of (by simp; omega) ?_)
  rw [chk_true]
  refine chk_of (by simp; omega) (chk_of (by simp; omega) ?_)
  have e1 := W.kids.part 0 (na + 1) (by omega)
  have e2 := W.kids.part (na + 1) (c3 - (na + 1)) (by omega)
  have hA' := hA.mono h0
  have hB' := hB.mono h0
  refine joins_l30 (pa := ⟨true, false, ya, [], _⟩) (pb := ⟨true, false, yb, [], _⟩) ⟨rfl, rfl, hA', .nil _, e1⟩ ⟨rfl, rfl, hB', .nil _, by simpa using e2⟩ W ?_ ?_ hQ _
  · rcases hk with ⟨rfl, rfl, rfl⟩ | ⟨rfl, rfl, rfl⟩ <;> rw [ha, hc2] <;> decide +kernel
  · rcases hk with ⟨rfl, rfl, rfl⟩ | ⟨rfl, rfl, rfl⟩ <;> rw [ha, hc2] <;> rfl
theorem law9_NodeJoins_spec {H : Hp} {w : Int} {lf : Bool} (hQ : ∀ H', Q (.g (.bool true)) H') : law9_NodeJoins [.g (.int .i64 w), .g (.bool lf)] H Q := by
  refine ⟨41, ?_⟩
  rw [law9_NodeJoins_eq]
  refine law9_awake_spec fun H1 p1 => ?_
  simp only [rG_g, dB_bool]
  rw [bite_f (by decide)]
  simp only [pu_def, ln_def, List.append_assoc, List.cons_append, List.nil_append, List.length_append, List.length_cons, List.length_nil, Nat.zero_add, Nat.reduceAdd]
  have hA : ∀ n, n ≤ 2 → Ss (H1 ++ [.row true 9 [(.str (mkS [97])), (.str (mkS [98]))], .row true 9 [(.str (mkS [120])), (.str (mkS [121]))]]) (some (H1.length, 0)) n ([mkS [97], mkS [98]].take n) := fun n hn => ⟨by simp [cells?, hn], by simp; omega, by omega⟩
  have hB : ∀ n, n ≤ 2 → Ss (H1 ++ [.row true 9 [(.str (mkS [97])), (.str (mkS [98]))], .row true 9 [(.str (mkS [120])), (.str (mkS [121]))]]) (some (H1.length + 1, 0)) n ([mkS [120], mkS [121]].take n) := fun n hn => ⟨by simp [cells?, hn], by simp; omega, by omega⟩
  rcases and1 w with e | e
  · rw [e, chk_true]
    refine chk_of (by decide) (chk_of (by rw [show wrapI .i64 (1 + 0) = 1 from by decide]; simp) ?_)
    rw [chk_true]
    refine chk_of (by decide) (chk_of (by rw [show wrapI .i64 (2 - 0) = 2 from by decide]; simp) ?_)
    cases lf with
    | true => exact joins_t (hA 1 (by omega)) (hB 2 (by omega)) (.inl ⟨rfl, rfl, rfl⟩) hQ
    | false => exact joins_f (hA 1 (by omega)) (hB 2 (by omega)) (.inl ⟨rfl, rfl, rfl⟩) hQ
  · rw [e, chk_true]
    refine chk_of (by decide) (chk_of (by rw [show wrapI .i64 (1 + 1) = 2 from by decide]; simp) ?_)
    rw [chk_true]
    refine chk_of (by decide) (chk_of (by rw [show wrapI .i64 (2 - 1) = 1 from by decide]; simp) ?_)
    cases lf with
    | true => exact joins_t (hA 2 (by omega)) (hB 1 (by omega)) (.inr ⟨rfl, rfl, rfl⟩) hQ
    | false => exact joins_f (hA 2 (by omega)) (hB 1 (by omega)) (.inr ⟨rfl, rfl, rfl⟩) hQ
end
end Go.Am
