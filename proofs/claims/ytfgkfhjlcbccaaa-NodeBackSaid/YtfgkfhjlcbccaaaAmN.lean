import Derived.Test.YtfgkfhjlcbccaaaAmL
import Derived.Test.YtfgkfhjlcbccaaaAmM
import Derived.SliceStrings
import Derived.ChangeSlices
import Derived.ChangeArms
import Derived.WideShapes
import Derived.Carry
import Derived.Below
import Derived.SizedLaws
set_option linter.unusedVariables false
set_option linter.unusedSimpArgs false
namespace Go.Am
open Go.RowKit Go.ChangeShapes Go.WideShapes

/-- no row may be written -/
def NoOwn (H : Hp) : Prop := ∀ (l : Nat) (t : TypeId) (cs : List GV), H[l]? ≠ some (.row true t cs)

/-- the slice values among these: where they have no cells, their place is one all the same -/
def Zc (W : World) (v : Value) : Prop := ∀ a n c, v = .slice (some a) n c → a.spot = none ∧ a.block < W.heap.size
theorem zc_of_ok {P : Program} {W : World} {r : Reach} {b : Nat} {t : TypeId} {v : Value} (h : Cell.okWide P W r b t v) : Zc W v := by
  intro a n c e
  subst e
  have key : W.has P r b a (match P.underlying t with | some (.slice e) => e | _ => 0) c := by
    unfold Cell.okWide Cell.ok at h
    cases hu : P.underlying t with
    | none => rw [hu] at h; exact h.elim
    | some d =>
      rw [hu] at h
      cases d <;> first | exact h.elim | exact h.2.2
  obtain ⟨_, hs, row, cells, hsh, _⟩ := key
  refine ⟨hs, ?_⟩
  unfold World.shape? at hsh
  rcases Nat.lt_or_ge a.block W.heap.size with h1 | h1
  · exact h1
  · simp [Array.getElem?_eq_none h1] at hsh

theorem Is2.one_inv {φ : List LI} {c : GV} {xs : List Value} (h : Is2 φ [c] xs) : ∃ x, xs = [x] ∧ c.is φ x := by
  obtain ⟨x, r, rfl, h1, h2⟩ := h.cons_inv
  rw [h2.nil_inv]; exact ⟨x, rfl, h1⟩

section
variable {Hh : Type} {enc : TypeId × Value → Hh} {P : Program} {W : World} {held : Bool}

/-- a slice whose cells are told, as a row that one may not write -/
theorem open_row {φ : List LI} {H : Hp} (hr : RepH φ H W) (hn : NoOwn H) {a : Addr} {len cap : Nat} (hl : len ≤ cap) (hz : Zc W (.slice (some a) len cap)) (cs : List GV) (hc : cs.length = len)
    (hcell : ∀ j v, cs[j]? = some v → ∃ x, W.cell? (a.add j) = some x ∧ v.is φ x) :
    ∃ φ' H' p, φ <+: φ' ∧ H <+: H' ∧ RepH φ' H' W ∧ NoOwn H' ∧ GV.is φ' (.sl p len 1) (.slice (some a) len cap) ∧ cells? H' p len = some cs := by
  obtain ⟨hs, hb⟩ := hz a len cap rfl
  have ha : ∀ j, a.add j = ⟨a.block, a.off + j, none⟩ := fun j => by
    unfold Addr.add
    split
    · rename_i e; subst e; obtain ⟨b, o, s⟩ := a; simp only at hs; subst hs; rfl
    · rfl
  have hno : ∀ b, ¬ ownB φ H b := fun b ⟨l, t, cs, i, h1, _⟩ => hn l t cs h1
  obtain ⟨R, _, _⟩ := hr.snoc (w' := W) (own := false) (t := 0) (cs := cs) (i := ⟨a.block, a.off, false, cs.length, 0⟩) (Nat.le_refl _) (fun _ _ => rfl)
    ⟨rfl, rfl, hb, fun j v hj => by
      obtain ⟨x, h1, h2⟩ := hcell j v hj
      exact ⟨x, by rw [← ha j]; exact h1, GV.is.mono (List.prefix_append _ _) h2⟩⟩ (fun q => by cases q) (hno _)
  refine ⟨_, _, some (H.length, 0), List.prefix_append _ _, List.prefix_append _ _, R, ?_, ?_, ?_⟩
  · intro l t cs' h
    rcases get_snoc h with ⟨_, h⟩ | ⟨_, h⟩
    · exact hn l t cs' h
    · cases h
  · refine ⟨⟨a.block, a.off, false, cs.length, 0⟩, a.off, cap, ?_, ?_, .inl rfl, hl, by show cs.length ≤ _; omega, fun q => by cases q⟩
    · rw [← hr.len]; simp
    · obtain ⟨b, o, s⟩ := a; simp only at hs; subst hs; rfl
  · simp [cells?, hc]
    rw [← hc, List.take_length]

/-- a slice of texts -/
theorem open_texts {t e : TypeId} (ht : P.underlying t = some (.slice e)) (he : P.underlying e = some .string) (hc : P.cellsOf e = 1) (hb : P.bytesOf e = 16) {fuel : Nat} {cs : List Value} {x : DataW Hh × List MemPlace}
    (h : DataW.trod enc P W 0 (fun _ => true) held fuel t cs = some x) (hz : ∀ v ∈ cs, Zc W v) (hw : (DataW.weights P t x.1).all (· ≤ reachBytes) = true) {φ : List LI} {H : Hp} (hr : RepH φ H W) (hn : NoOwn H) :
    ∃ φ' H' p n xs v, cs = [v] ∧ φ <+: φ' ∧ H <+: H' ∧ RepH φ' H' W ∧ NoOwn H' ∧ GV.is φ' (.sl p n 1) v ∧ Ss H' p n xs := by
  rcases open_strings ht he hc h with ⟨rfl, rfl⟩ | ⟨a, len, cap, ss, rfl, _, hl, _, hlen, rfl, hcell, _⟩
  · exact ⟨φ, H, none, 0, [], _, rfl, List.prefix_refl _, List.prefix_refl _, hr, hn, ⟨rfl, rfl⟩, Ss.nil H⟩
  · simp only [if_true] at hlen
    obtain ⟨φ', H', p, h1, h2, h3, h4, h5, h6⟩ := open_row hr hn hl (hz (.slice (some a) len cap) (List.mem_singleton.2 rfl)) ((ss.take len).map GV.str) (by simp; omega) (fun j v hj => by
      rw [List.getElem?_map] at hj
      cases hg : (ss.take len)[j]? with
      | none => rw [hg] at hj; cases hj
      | some s =>
        rw [hg] at hj
        simp at hj
        subst hj
        have hjl : j < ss.length := by have := (List.getElem?_eq_some_iff.1 hg).1; simp at this; omega
        have := hcell j hjl
        rw [List.getElem?_take] at hg
        split at hg
        · rw [List.getD_eq_getElem?_getD, hg] at this
          exact ⟨_, this, rfl⟩
        · cases hg)
    refine ⟨φ', H', p, len, ss.take len, _, rfl, h1, h2, h3, h4, h5, h6, by simp; omega, ?_⟩
    simp only [DataW.weights, ht] at hw
    rw [List.all_cons, Bool.and_eq_true] at hw
    have := hw.1
    simp only [decide_eq_true_eq, strs, List.length_map, List.length_take, List.length_drop, hb] at this
    unfold reachBytes at this
    omega
/-- a slice of numbers -/
theorem open_nums {t e : TypeId} (ht : P.underlying t = some (.slice e)) (he : P.underlying e = some (.int .i64)) (hc : P.cellsOf e = 1) (hb : P.bytesOf e = 8) {fuel : Nat} {cs : List Value} {x : DataW Hh × List MemPlace}
    (h : DataW.trod enc P W 0 (fun _ => true) held fuel t cs = some x) (hz : ∀ v ∈ cs, Zc W v) (hw : (DataW.weights P t x.1).all (· ≤ reachBytes) = true) {φ : List LI} {H : Hp} (hr : RepH φ H W) (hn : NoOwn H) :
    ∃ φ' H' p n xs v, cs = [v] ∧ φ <+: φ' ∧ H <+: H' ∧ RepH φ' H' W ∧ NoOwn H' ∧ GV.is φ' (.sl p n 1) v ∧ Is H' p n xs := by
  rcases open_ints ht he hc h with ⟨rfl, rfl⟩ | ⟨a, len, cap, ss, rfl, _, hl, _, hlen, rfl, hcell, _⟩
  · exact ⟨φ, H, none, 0, [], _, rfl, List.prefix_refl _, List.prefix_refl _, hr, hn, ⟨rfl, rfl⟩, Is.nil H⟩
  · simp only [if_true] at hlen
    obtain ⟨φ', H', p, h1, h2, h3, h4, h5, h6⟩ := open_row hr hn hl (hz (.slice (some a) len cap) (List.mem_singleton.2 rfl)) ((ss.take len).map (GV.int .i64)) (by simp; omega) (fun j v hj => by
      rw [List.getElem?_map] at hj
      cases hg : (ss.take len)[j]? with
      | none => rw [hg] at hj; cases hj
      | some s =>
        rw [hg] at hj
        simp at hj
        subst hj
        have hjl : j < ss.length := by have := (List.getElem?_eq_some_iff.1 hg).1; simp at this; omega
        have := hcell j hjl
        rw [List.getElem?_take] at hg
        split at hg
        · rw [List.getD_eq_getElem?_getD, hg] at this
          exact ⟨_, this, rfl⟩
        · cases hg)
    refine ⟨φ', H', p, len, ss.take len, _, rfl, h1, h2, h3, h4, h5, h6, by simp; omega, ?_⟩
    simp only [DataW.weights, ht] at hw
    rw [List.all_cons, Bool.and_eq_true] at hw
    have := hw.1
    simp only [decide_eq_true_eq, lits, List.length_map, List.length_take, List.length_drop, hb] at this
    unfold reachBytes at this
    omega

theorem all_each {ts : List TypeId} {ds : List (DataW Hh)} (h : (DataW.weightsEach P ts ds).all (· ≤ reachBytes) = true) {j : Nat} {t : TypeId} {d : DataW Hh} (ht : ts[j]? = some t) (hd : ds[j]? = some d) : (DataW.weights P t d).all (· ≤ reachBytes) = true :=
  List.all_eq_true.2 fun n hn => List.all_eq_true.1 h n (DataW.weights_mem_each ht hd n hn)

/-- what stands behind a call that wrote no row -/
theorem below_of {φ φ' : List LI} {H H' : Hp} {W' : World} (hn : NoOwn H) (B : Back φ H W φ' H' W') : Below W.heap.size W W' :=
  ⟨B.keeps.os, B.keeps.tape, B.keeps.output, B.keeps.size, fun k hk => B.keeps.block k hk fun ⟨l, t, cs, i, h1, _⟩ => hn l t cs h1⟩

/-- a law that answers true -/
theorem law_calls {f : FuncId} {s : Sm} (hS : Sound P f s) {φ : List LI} {H : Hp} (hr : RepH φ H W) (hn : NoOwn H) {args : List FV} {vs : List Value} (ha : All2 (FV.is φ) args vs) (h : s args H fun r _ => r = .g (.bool true)) :
    Calls P f vs.toArray W fun e W' => e = .returned (.bool true) ∧ Below W.heap.size W W' := by
  refine (hS args H _ h φ W vs hr ha).mono ?_
  rintro e W' ⟨r, H', φ', x, rfl, rfl, hx, B⟩
  exact ⟨by rw [show x = .bool true from hx], below_of hn B⟩

theorem rep_nil (W : World) : RepH [] [] W := ⟨rfl, fun l _ _ _ h => by simp at h, fun l _ _ _ _ _ _ _ _ h => by simp at h⟩
theorem noOwn_nil : NoOwn [] := fun l t cs h => by simp at h
end
end Go.Am
