import Derived.Test.YtmjnenpllddhfaaAm3
import Derived.Laws.Small
set_option linter.unusedVariables false
set_option linter.unusedSimpArgs false
namespace Go.Am

/-! ## types -/
def zV : LK → Value
  | .bool => .bool false | .int k => .int k 0 | .str => .string ⟨#[]⟩ | .ptr => .pointer none | .sl _ => .slice none 0 0 | .map => .map none | .fn => .nilFunc | .iface => .nilIface

def isLv (x : TI) (k : LK) : Bool := match x.lv with | [k'] => decide (k' = k) | _ => false
def isSlLv (x : TI) : Bool := match x.lv with | [.sl _] => true | _ => false
def fsEq : List (Nat × Nat) → List Field → Bool
  | [], [] => true
  | (a, b) :: l, f :: fs => Nat.beq a f.offset && Nat.beq b f.type && fsEq l fs
  | _, _ => false
def descOK (x : TI) : TypeDesc → Bool
  | .bool => Nat.beq x.k 0 && !x.agg && isLv x .bool
  | .int k => Nat.beq x.k 0 && !x.agg && isLv x (.int k)
  | .string => Nat.beq x.k 3 && !x.agg && isLv x .str
  | .pointer e => Nat.beq x.k 2 && !x.agg && isLv x .ptr && Nat.beq x.el e
  | .slice e => Nat.beq x.k 1 && !x.agg && isSlLv x && Nat.beq x.el e
  | .map _ e => Nat.beq x.k 5 && !x.agg && isLv x .map
  | .struct fs => Nat.beq x.k 0 && x.agg && fsEq x.fs fs.toList
  | .array _ _ => Nat.beq x.k 6 && x.agg && (match x.fs with | [] => true | _ => false)
  | .func _ _ _ => Nat.beq x.k 0 && !x.agg && isLv x .fn
  | .interface _ => Nat.beq x.k 0 && !x.agg && isLv x .iface
  | _ => false

def TyOK (P : Program) (x : TI) (t : Nat) : Prop :=
  x.ok = true → ∃ i z d, P.info? t = some i ∧ i.size = x.lv.length ∧ i.zero = some z ∧ z.cells.toList = x.lv.map zV ∧ i.bytes = x.by_ ∧ P.underlying t = some d ∧ descOK x d = true
def TysOK (P : Program) (tys : List TI) : Prop := ∀ t, TyOK P (tys.getD t default) t

theorem beq_eq {a b : Nat} (h : Nat.beq a b = true) : a = b := Nat.eq_of_beq_eq_true h
theorem isLv_eq {x : TI} {k : LK} (h : isLv x k = true) : x.lv = [k] := by
  unfold isLv at h
  split at h
  · rename_i k' e; rw [e]; simpa using h
  · cases h
theorem isA_iff {x : TI} {k : Nat} (h : x.isA k = true) : x.ok = true ∧ x.k = k := by
  unfold TI.isA at h
  split at h
  · rename_i e; exact ⟨e, beq_eq h⟩
  · cases h

section ty
variable {P : Program} {cx : Cx}
theorem desc_slice (hT : TysOK P cx.tys) {t : Nat} (h : (cx.ty t).isA 1 = true) : P.underlying t = some (.slice (cx.ty t).el) := by
  obtain ⟨h0, hk⟩ := isA_iff h
  obtain ⟨i, z, d, _, _, _, _, _, hd, hok⟩ := hT t h0
  rw [hd]
  change descOK (cx.ty t) d = true at hok
  generalize cx.ty t = x at *
  cases d <;> simp [descOK, hk] at hok
  · rw [hok.2]
theorem desc_pointer (hT : TysOK P cx.tys) {t : Nat} (h : (cx.ty t).isA 2 = true) : P.underlying t = some (.pointer (cx.ty t).el) := by
  obtain ⟨h0, hk⟩ := isA_iff h
  obtain ⟨i, z, d, _, _, _, _, _, hd, hok⟩ := hT t h0
  rw [hd]
  change descOK (cx.ty t) d = true at hok
  generalize cx.ty t = x at *
  cases d <;> simp [descOK, hk] at hok
  · rw [hok.2]
theorem desc_string (hT : TysOK P cx.tys) {t : Nat} (h : (cx.ty t).isA 3 = true) : P.underlying t = some .string := by
  obtain ⟨h0, hk⟩ := isA_iff h
  obtain ⟨i, z, d, _, _, _, _, _, hd, hok⟩ := hT t h0
  rw [hd]
  change descOK (cx.ty t) d = true at hok
  generalize cx.ty t = x at *
  cases d <;> simp [descOK, hk] at hok
  rfl
theorem run_sizeOf (hT : TysOK P cx.tys) {t : Nat} (h : cx.okT t = true) (w : World) : (sizeOf t).run P w = .ok (cx.ty t).lv.length w := by
  obtain ⟨i, z, d, hi, hs, _⟩ := hT t h
  simp [sizeOf, typeInfo, hi, hs]; rfl
theorem run_info (hT : TysOK P cx.tys) {t : Nat} (h : cx.okT t = true) : ∃ i z, P.info? t = some i ∧ i.size = (cx.ty t).lv.length ∧ i.zero = some z ∧ z.cells.toList = (cx.ty t).lv.map zV ∧ i.bytes = (cx.ty t).by_ := by
  obtain ⟨i, z, d, h1, h2, h3, h4, h5, _⟩ := hT t h
  exact ⟨i, z, h1, h2, h3, h4, h5⟩
theorem run_isAgg (hT : TysOK P cx.tys) {t : Nat} (h : cx.okT t = true) (w : World) : (isAgg t).run P w = .ok (cx.ty t).agg w := by
  obtain ⟨i, z, d, _, _, _, _, _, hd, hok⟩ := hT t h
  change descOK (cx.ty t) d = true at hok
  cases d <;> simp [descOK] at hok <;> simp [isAgg, run_underlying hd, hok]
theorem run_under (hT : TysOK P cx.tys) {t : Nat} (h : cx.okT t = true) : ∃ d, P.underlying t = some d ∧ descOK (cx.ty t) d = true := by
  obtain ⟨i, z, d, _, _, _, _, _, hd, hok⟩ := hT t h
  exact ⟨d, hd, hok⟩
end ty

theorem zero_is (φ : List LI) : ∀ k, (zeroLK k).is φ (zV k)
  | .bool | .int _ | .str | .ptr | .map | .fn | .iface => rfl
  | .sl _ => ⟨rfl, rfl⟩
theorem zeros_is (φ : List LI) : ∀ ks : List LK, Is2 φ (zerosK ks) (ks.map zV)
  | [] => .nil
  | k :: ks => .cons (zero_is φ k) (zeros_is φ ks)

/-! ## values -/
theorem GV.is.one {φ : List LI} {v : GV} {x : Value} (h : v.is φ x) : x.cells = #[x] ∧ x.oneCell' = true := by
  cases v with
  | bool b => cases h; exact ⟨rfl, rfl⟩
  | int k n => cases h; exact ⟨rfl, rfl⟩
  | str s => cases h; exact ⟨rfl, rfl⟩
  | ptr a => cases a with
    | none => cases h; exact ⟨rfl, rfl⟩
    | some p => obtain ⟨_, _, rfl⟩ := h; exact ⟨rfl, rfl⟩
  | sl a n z => cases a with
    | none => obtain ⟨_, rfl⟩ := h; exact ⟨rfl, rfl⟩
    | some p => obtain ⟨l, o⟩ := p; obtain ⟨_, _, _, _, rfl, _⟩ := h; exact ⟨rfl, rfl⟩
  | map m => cases m with
    | none => cases h; exact ⟨rfl, rfl⟩
    | some p => exact h.elim
  | fn f caps => obtain ⟨_, rfl, _⟩ := h; exact ⟨rfl, rfl⟩
  | nilfn => cases h; exact ⟨rfl, rfl⟩
  | iface t v => obtain ⟨_, rfl, _⟩ := h; exact ⟨rfl, rfl⟩
  | nilif => cases h; exact ⟨rfl, rfl⟩
theorem Is2.one {φ : List LI} {cs : List GV} {xs : List Value} (h : Is2 φ cs xs) : ∀ x ∈ xs, x.oneCell' = true := by
  induction h with
  | nil => intro x hx; cases hx
  | cons h _ ih =>
    intro x hx
    cases hx with
    | head => exact h.one.2
    | tail _ hx => exact ih x hx

section vals
variable {n0 : Nat} {φ : List LI} {H : Hp} {lam : Nat → Nat} {fr : List FV} {w : World}
theorem cellsK_ok {x : FV} {K : List GV → Prop} {u : Value} (h : cellsK x K) (hv : VOK n0 φ H lam fr w x u) : ∃ cs, K cs ∧ Is2 φ cs u.cells.toList := by
  cases x with
  | g v => exact ⟨[v], h, by rw [(GV.is.one hv).1]; exact .cons hv .nil⟩
  | agg cs => obtain ⟨us, rfl, hu⟩ := hv; exact ⟨cs, h, hu⟩
  | _ => exact h.elim
end vals

theorem ck_iff {b : Bool} {x : Prop} : ck b x ↔ b = true ∧ x := by cases b <;> simp [ck]
theorem chk_iff {b : Bool} {x : Prop} : chk b x ↔ b = true ∧ x := by cases b <;> simp [chk]
theorem bite_iff {b : Bool} {x y : Prop} : bite b x y ↔ if b = true then x else y := by cases b <;> simp [bite]
theorem setK_eq {R : Type} : ∀ (fr : List FV) (d : Nat) (v : FV) (K : List FV → R), setK fr d v K = K (fr.set d v)
  | [], d, v, K => by simp [setK]
  | x :: xs, 0, v, K => by simp [setK]
  | x :: xs, d + 1, v, K => by simp [setK, setK_eq xs d v]
theorem frc_eq {R : Type} (v : FV) (K : FV → R) : frc v K = K v := by cases v <;> rfl
theorem leN_iff {a b : Nat} : leN a b = true ↔ a ≤ b := by simp [leN]
theorem leI_iff {a b : Int} : leI a b = true ↔ a ≤ b := by simp [leI]
theorem ltI_iff {a b : Int} : ltI a b = true ↔ a < b := by simp [ltI]
theorem eqI_iff {a b : Int} : eqI a b = true ↔ a = b := by simp [eqI]

theorem fillK_ok : ∀ {zs : List GV} {p : Nat} {cs : List GV} {K : List GV → Prop}, fillK zs p cs K → ∃ zs', K zs' ∧ zs'.length = zs.length ∧ p + cs.length ≤ zs.length + (if cs = [] then p else 0) ∧ zs' = zs.take p ++ cs ++ zs.drop (p + cs.length)
  | zs, p, [], K, h => by
    refine ⟨zs, ?_, rfl, by simp, by simp⟩
    cases zs <;> cases p <;> exact h
  | [], p, c :: cs, K, h => by cases p <;> exact h.elim
  | z :: zs, p + 1, c :: cs, K, h => by
    have h' : fillK zs p (c :: cs) fun r => K (z :: r) := h
    obtain ⟨zs', hk, hl, hle, e⟩ := fillK_ok h'
    refine ⟨z :: zs', hk, by simp [hl], by simp at hle ⊢; omega, ?_⟩
    rw [e]; simp
    rw [show p + 1 + (cs.length + 1) = (p + (cs.length + 1)) + 1 by omega, List.drop_succ_cons]
  | _ :: zs, 0, c :: cs, K, h => by
    have h' : fillK zs 0 cs fun r => K (c :: r) := h
    obtain ⟨zs', hk, hl, hle, e⟩ := fillK_ok h'
    refine ⟨c :: zs', hk, by simp [hl], ?_, ?_⟩
    · cases cs <;> simp at hle ⊢; omega
    · rw [e]; simp

theorem list_set_append {α : Type} (l : List α) (p : Nat) (c : α) (cs : List α) (h : p + (cs.length + 1) ≤ l.length) :
    l.take p ++ (c :: cs) ++ l.drop (p + (cs.length + 1)) = (l.set p c).take (p + 1) ++ cs ++ (l.set p c).drop (p + 1 + cs.length) := by
  have h1 : (l.set p c).take (p + 1) = l.take p ++ [c] := by
    apply List.ext_getElem?
    intro j
    by_cases h1 : j < p
    · rw [List.getElem?_take_of_lt (by omega), List.getElem?_set_ne (by omega), List.getElem?_append_left (by simp; omega), List.getElem?_take_of_lt h1]
    · by_cases h2 : j = p
      · subst h2
        rw [List.getElem?_take_of_lt (by omega), List.getElem?_set_self (by omega), List.getElem?_append_right (by simp; omega)]
        simp [Nat.min_eq_left (show j ≤ l.length by omega)]
      · rw [List.getElem?_eq_none (by simp; omega), List.getElem?_eq_none (by simp; omega)]
  have h2 : (l.set p c).drop (p + 1 + cs.length) = l.drop (p + (cs.length + 1)) := by
    apply List.ext_getElem?
    intro j
    rw [List.getElem?_drop, List.getElem?_drop, List.getElem?_set_ne (by omega)]
    congr 1; omega
  rw [h1, h2]; simp

end Go.Am
