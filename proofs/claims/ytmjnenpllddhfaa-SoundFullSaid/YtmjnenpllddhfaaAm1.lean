import Derived.Test.YtmjnenpllddhfaaAm0
import Derived.Calls
import Derived.Laws.Append
import Derived.Laws.CopyRow
import Derived.Laws.Rows
import Derived.Laws.Strings
import Derived.Laws.BytesString
import Derived.Laws.MakeOwn
set_option linter.unusedVariables false
set_option linter.unusedSimpArgs false
namespace Go.Am

/-- where a row lies: block, first cell, may it be written, cells told, cells of the block -/
structure LI where
  b : Nat
  p : Nat
  own : Bool
  u : Nat
  s : Nat

def capIs (φ : List LI) (p : Nat × Nat) (x : Value) : Prop := ∃ i, φ[p.1]? = some i ∧ x = .pointer (some ⟨i.b, i.p + p.2, none⟩)

inductive All2 {α β : Type} (R : α → β → Prop) : List α → List β → Prop
  | nil : All2 R [] []
  | cons {a b as bs} : R a b → All2 R as bs → All2 R (a :: as) (b :: bs)

def GV.is (φ : List LI) : GV → Value → Prop
  | .bool b, x => x = .bool b
  | .int k n, x => x = .int k n
  | .str s, x => x = .string s
  | .ptr none, x => x = .pointer none
  | .ptr (some p), x => capIs φ p x
  | .sl none n _, x => n = 0 ∧ x = .slice none 0 0
  | .sl (some (l, o)) n z, x => ∃ i ad c, φ[l]? = some i ∧ x = .slice (some ad) n c ∧ (ad = ⟨i.b, i.p + o, none⟩ ∨ c = 0) ∧ n ≤ c ∧ i.u ≤ o + c * z ∧ (i.own = true → i.p = 0 ∧ o + c * z ≤ i.s)
  | .map none, x => x = .map none
  | .map (some _), _ => False
  | .fn f caps, x => ∃ xs : List Value, x = .func (.func f) #[] xs.toArray ∧ All2 (capIs φ) caps xs
  | .nilfn, x => x = .nilFunc
  | .iface t v, x => ∃ y, x = .iface t y ∧ v.is φ y
  | .nilif, x => x = .nilIface

abbrev Is2 (φ : List LI) := All2 (GV.is φ)

def RV.is (φ : List LI) : RV → Value → Prop
  | .s v, x => v.is φ x
  | .a cs, x => ∃ us : Array Value, x = .agg us ∧ Is2 φ cs us.toList

def FV.is (φ : List LI) : FV → Value → Prop
  | .g v, x => v.is φ x
  | .agg cs, x => ∃ us : Array Value, x = .agg us ∧ Is2 φ cs us.toList
  | .tup vs, x => ∃ us : Array Value, x = .tuple us ∧ All2 (RV.is φ) vs us.toList
  | _, _ => False

section All2
variable {α β : Type} {R S : α → β → Prop}
theorem All2.length {as : List α} {bs : List β} (h : All2 R as bs) : as.length = bs.length := by
  induction h with
  | nil => rfl
  | cons _ _ ih => simp [ih]
theorem All2.imp (hRS : ∀ a b, R a b → S a b) {as : List α} {bs : List β} (h : All2 R as bs) : All2 S as bs := by
  induction h with
  | nil => exact .nil
  | cons h _ ih => exact .cons (hRS _ _ h) ih
theorem All2.get {as : List α} {bs : List β} (h : All2 R as bs) : ∀ {j : Nat} {a : α}, as[j]? = some a → ∃ b, bs[j]? = some b ∧ R a b := by
  induction h with
  | nil => intro j a h; simp at h
  | cons h _ ih =>
    intro j a hj
    cases j with
    | zero => simp at hj; subst hj; exact ⟨_, by simp, h⟩
    | succ j => simp at hj ⊢; exact ih hj
theorem All2.append {as as' : List α} {bs bs' : List β} (h : All2 R as bs) (h' : All2 R as' bs') : All2 R (as ++ as') (bs ++ bs') := by
  induction h with
  | nil => exact h'
  | cons h _ ih => exact .cons h ih
theorem All2.take {as : List α} {bs : List β} (h : All2 R as bs) : ∀ n, All2 R (as.take n) (bs.take n) := by
  induction h with
  | nil => intro n; simp; exact .nil
  | cons h _ ih => intro n; cases n with
    | zero => exact .nil
    | succ n => exact .cons h (ih n)
theorem All2.drop {as : List α} {bs : List β} (h : All2 R as bs) : ∀ n, All2 R (as.drop n) (bs.drop n) := by
  induction h with
  | nil => intro n; simp; exact .nil
  | cons h h' ih => intro n; cases n with
    | zero => exact .cons h h'
    | succ n => exact ih n
theorem All2.set {as : List α} {bs : List β} (h : All2 R as bs) {a : α} {b : β} (hab : R a b) : ∀ n, All2 R (as.set n a) (bs.set n b) := by
  induction h with
  | nil => intro n; simp; exact .nil
  | cons h h' ih => intro n; cases n with
    | zero => exact .cons hab h'
    | succ n => exact .cons h (ih n)
theorem All2.replicate {a : α} {b : β} (h : R a b) : ∀ n, All2 R (List.replicate n a) (List.replicate n b)
  | 0 => .nil
  | n + 1 => .cons h (All2.replicate h n)
theorem All2.cons_inv {a : α} {as : List α} {bs : List β} (h : All2 R (a :: as) bs) : ∃ b bs', bs = b :: bs' ∧ R a b ∧ All2 R as bs' := by
  cases h with
  | cons h h' => exact ⟨_, _, rfl, h, h'⟩
theorem All2.nil_inv {bs : List β} (h : All2 R [] bs) : bs = [] := by cases h; rfl
theorem All2.of_get {as : List α} : ∀ {bs : List β}, as.length = bs.length → (∀ (j : Nat) (a : α) (b : β), as[j]? = some a → bs[j]? = some b → R a b) → All2 R as bs := by
  induction as with
  | nil => intro bs h _; cases bs with
    | nil => exact .nil
    | cons => simp at h
  | cons a as ih => intro bs h hh; cases bs with
    | nil => simp at h
    | cons b bs => exact .cons (hh 0 a b (by simp) (by simp)) (ih (by simpa using h) (fun j a b h1 h2 => hh (j + 1) a b (by simpa using h1) (by simpa using h2)))
end All2

theorem pre_get {φ φ' : List LI} (h : φ <+: φ') {l : Nat} {i : LI} (hl : φ[l]? = some i) : φ'[l]? = some i := by
  obtain ⟨r, rfl⟩ := h
  rw [List.getElem?_append_left (by
    rcases Nat.lt_or_ge l φ.length with h | h
    · exact h
    · simp [List.getElem?_eq_none h] at hl)]
  exact hl
theorem capIs.mono {φ φ' : List LI} (h : φ <+: φ') {p : Nat × Nat} {x : Value} : capIs φ p x → capIs φ' p x
  | ⟨i, hi, hx⟩ => ⟨i, pre_get h hi, hx⟩
theorem GV.is.mono {φ φ' : List LI} (h : φ <+: φ') : ∀ {v : GV} {x : Value}, v.is φ x → v.is φ' x
  | .bool _, _, hv | .int _ _, _, hv | .str _, _, hv | .ptr none, _, hv | .sl none _ _, _, hv | .nilfn, _, hv | .nilif, _, hv | .map none, _, hv => hv
  | .ptr (some _), _, hv => capIs.mono h hv
  | .sl (some (_, _)) _ _, _, ⟨i, q, c, hi, r⟩ => ⟨i, q, c, pre_get h hi, r⟩
  | .map (some _), _, hv => hv.elim
  | .fn _ _, _, ⟨xs, hx, hc⟩ => ⟨xs, hx, hc.imp fun _ _ => capIs.mono h⟩
  | .iface _ _, _, ⟨y, hx, hy⟩ => ⟨y, hx, GV.is.mono h hy⟩
theorem Is2.mono {φ φ' : List LI} (h : φ <+: φ') {cs : List GV} {xs : List Value} (hh : Is2 φ cs xs) : Is2 φ' cs xs := hh.imp fun _ _ => GV.is.mono h
theorem RV.is.mono {φ φ' : List LI} (h : φ <+: φ') {v : RV} {x : Value} (hv : v.is φ x) : v.is φ' x := by
  cases v with
  | s v => exact GV.is.mono h hv
  | a cs => obtain ⟨us, hx, hc⟩ := hv; exact ⟨us, hx, Is2.mono h hc⟩

/-! ## the heap -/
def RowOK (φ : List LI) (w : World) (own : Bool) (t : TypeId) (cs : List GV) (i : LI) : Prop :=
  i.own = own ∧ i.u = cs.length ∧ i.b < w.heap.size ∧
  match own with
  | true => i.p = 0 ∧ ∃ c t' fz, w.heap[i.b]? = some (.cells c t' fz) ∧ (0 < i.s → t' = t) ∧ c.size = i.s ∧ (∀ j, fz.1 ≤ j → j < fz.2 → i.s ≤ j) ∧ cs.length ≤ c.size ∧ Is2 φ cs (c.toList.take cs.length)
  | false => ∀ j v, cs[j]? = some v → ∃ x, w.cell? ⟨i.b, i.p + j, none⟩ = some x ∧ v.is φ x

structure RepH (φ : List LI) (H : Hp) (w : World) : Prop where
  len : φ.length = H.length
  row : ∀ (l : Nat) (own : Bool) (t : TypeId) (cs : List GV), H[l]? = some (Obj.row own t cs) → ∃ i, φ[l]? = some i ∧ RowOK φ w own t cs i
  apart : ∀ (l l' : Nat) (t : TypeId) (cs : List GV) (own' : Bool) (t' : TypeId) (cs' : List GV) (i i' : LI), H[l]? = some (Obj.row true t cs) → H[l']? = some (Obj.row own' t' cs') → l ≠ l' → φ[l]? = some i → φ[l']? = some i' → 0 < i.s → i.b ≠ i'.b

/-- blocks that may be written; blocks that rows lie in -/
def ownB (φ : List LI) (H : Hp) (b : Nat) : Prop := ∃ (l : Nat) (t : TypeId) (cs : List GV) (i : LI), H[l]? = some (Obj.row true t cs) ∧ φ[l]? = some i ∧ i.b = b ∧ 0 < i.s
def rowB (φ : List LI) (H : Hp) (b : Nat) : Prop := ∃ (l : Nat) (own : Bool) (t : TypeId) (cs : List GV) (i : LI), H[l]? = some (Obj.row own t cs) ∧ φ[l]? = some i ∧ i.b = b
theorem ownB.row {φ : List LI} {H : Hp} {b : Nat} : ownB φ H b → rowB φ H b | ⟨l, t, cs, i, h1, h2, h3, _⟩ => ⟨l, true, t, cs, i, h1, h2, h3⟩

structure Keeps (own : Nat → Prop) (w w' : World) : Prop where
  os : w'.os = w.os
  tape : w'.tape = w.tape
  output : w'.output = w.output
  size : w.heap.size ≤ w'.heap.size
  block : ∀ b, b < w.heap.size → ¬ own b → w'.heap[b]? = w.heap[b]?

theorem Keeps.refl (own : Nat → Prop) (w : World) : Keeps own w w := ⟨rfl, rfl, rfl, Nat.le_refl _, fun _ _ _ => rfl⟩
theorem Keeps.trans {own own' : Nat → Prop} {w w' w'' : World} (h : Keeps own w w') (h' : Keeps own' w' w'') (ho : ∀ b, own' b → own b ∨ w.heap.size ≤ b) : Keeps own w w'' :=
  ⟨h'.os.trans h.os, h'.tape.trans h.tape, h'.output.trans h.output, Nat.le_trans h.size h'.size, fun b hb hn => by
    refine (h'.block b (Nat.lt_of_lt_of_le hb h.size) fun hb' => ?_).trans (h.block b hb hn)
    rcases ho b hb' with h1 | h1
    · exact hn h1
    · omega⟩

/-- what a call may answer with -/
structure Back (φ : List LI) (H : Hp) (w : World) (φ' : List LI) (H' : Hp) (w' : World) : Prop where
  pre : φ <+: φ'
  rep : RepH φ' H' w'
  keeps : Keeps (ownB φ H) w w'
  own : ∀ b, ownB φ' H' b → ownB φ H b ∨ w.heap.size ≤ b
  row : ∀ b, rowB φ' H' b → rowB φ H b ∨ w.heap.size ≤ b

theorem Back.refl {φ : List LI} {H : Hp} {w : World} (h : RepH φ H w) : Back φ H w φ H w := ⟨List.prefix_refl _, h, Keeps.refl _ _, fun _ h => .inl h, fun _ h => .inl h⟩
theorem Back.trans {φ φ' φ'' : List LI} {H H' H'' : Hp} {w w' w'' : World} (h : Back φ H w φ' H' w') (h' : Back φ' H' w' φ'' H'' w'') : Back φ H w φ'' H'' w'' where
  pre := h.pre.trans h'.pre
  rep := h'.rep
  keeps := h.keeps.trans h'.keeps h.own
  own b hb := by
    rcases h'.own b hb with h1 | h1
    · exact h.own b h1
    · exact .inr (Nat.le_trans h.keeps.size h1)
  row b hb := by
    rcases h'.row b hb with h1 | h1
    · exact h.row b h1
    · exact .inr (Nat.le_trans h.keeps.size h1)

/-- A FUNCTION IS AS IT IS TOLD -/
def Sound (P : Program) (f : FuncId) (s : Sm) : Prop :=
  ∀ as H Q, s as H Q → ∀ φ w vs, RepH φ H w → All2 (FV.is φ) as vs →
    Calls P f vs.toArray w fun e w' => ∃ r H' φ' x, Q r H' ∧ e = .returned x ∧ r.is φ' x ∧ Back φ H w φ' H' w'

end Go.Am
