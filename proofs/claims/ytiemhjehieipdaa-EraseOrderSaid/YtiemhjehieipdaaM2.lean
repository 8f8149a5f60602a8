import Derived.Test.YtiemhjehieipdaaM1
import Derived.Lib.Strings
import Derived.SliceStrings
import Derived.ChangeSlices
import Derived.ChangeArms
import Derived.WideShapes
import Derived.Carry
import Derived.Below
import Derived.SizedLaws
set_option linter.unusedVariables false
set_option linter.unusedSimpArgs false
namespace Go.Am

/-! the words, at what is known -/
@[simp] theorem bite_true (x y : Prop) : bite true x y = x := propext Iff.rfl
@[simp] theorem bite_false (x y : Prop) : bite false x y = y := propext Iff.rfl
theorem bite_t {b : Bool} {x y : Prop} (h : b = true) : bite b x y = x := by subst h; rfl
theorem bite_f {b : Bool} {x y : Prop} (h : b = false) : bite b x y = y := by subst h; rfl
theorem bite_of {b : Bool} {x y : Prop} (h1 : b = true → x) (h2 : b = false → y) : bite b x y := by cases b <;> simp_all [bite]
@[simp] theorem chk_true (x : Prop) : chk true x = x := propext Iff.rfl
theorem chk_of {b : Bool} {x : Prop} (h1 : b = true) (h2 : x) : chk b x := by subst h1; exact h2
@[simp] theorem dB_bool (b : Bool) (K : Bool → Prop) : dB (.bool b) K = K b := propext Iff.rfl
@[simp] theorem dI_int (k : IntKind) (n : Int) (K : Int → Prop) : dI k (.int k n) K = K n := by simp [dI]
@[simp] theorem dS_str (s : ByteArray) (K : ByteArray → Prop) : dS (.str s) K = K s := propext Iff.rfl
@[simp] theorem dP_ptr (a : Pl) (K : Pl → Prop) : dP (.ptr a) K = K a := propext Iff.rfl
@[simp] theorem dL_sl (z : Nat) (a : Pl) (n : Nat) (K : Pl → Nat → Prop) : dL z (.sl a n z) K = K a n := by simp [dL]
@[simp] theorem dL_nil (z n z' : Nat) (K : Pl → Nat → Prop) : dL z (.sl none n z') K = K none n := by simp [dL]
@[simp] theorem dM_map (m : Option Nat) (K : Option Nat → Prop) : dM (.map m) K = K m := propext Iff.rfl
@[simp] theorem dF_fn (f : Nat) (c : List (Nat × Nat)) (K : Nat → List (Nat × Nat) → Prop) : dF (.fn f c) K = K f c := propext Iff.rfl
@[simp] theorem pS_some (l o : Nat) (K : Nat → Nat → Prop) : pS (some (l, o)) K = K l o := propext Iff.rfl
@[simp] theorem uC_cons (c : GV) (cs : List GV) (K : GV → List GV → Prop) : uC (c :: cs) K = K c cs := propext Iff.rfl
@[simp] theorem uN_nil (x : Prop) : uN [] x = x := propext Iff.rfl
@[simp] theorem rG_g (v : GV) (K : GV → Prop) : rG (.g v) K = K v := propext Iff.rfl
@[simp] theorem rA_agg (cs : List GV) (K : List GV → Prop) : rA (.agg cs) K = K cs := propext Iff.rfl
@[simp] theorem rT_tup (vs : List RV) (K : List RV → Prop) : rT (.tup vs) K = K vs := propext Iff.rfl
@[simp] theorem uR_cons (v : RV) (vs : List RV) (K : RV → List RV → Prop) : uR (v :: vs) K = K v vs := propext Iff.rfl
@[simp] theorem uE_nil (x : Prop) : uE [] x = x := propext Iff.rfl
@[simp] theorem rS_s (v : GV) (K : GV → Prop) : rS (.s v) K = K v := propext Iff.rfl
@[simp] theorem rC_a (cs : List GV) (K : List GV → Prop) : rC (.a cs) K = K cs := propext Iff.rfl
@[simp] theorem nI_def (n : Nat) : nI n = (n : Int) := rfl
@[simp] theorem tN_def (n : Int) : tN n = n.toNat := rfl
@[simp] theorem eqI_def (a b : Int) : eqI a b = decide (a = b) := by unfold eqI; rw [Bool.eq_iff_iff]; simp
@[simp] theorem ltI_def (a b : Int) : ltI a b = decide (a < b) := rfl
@[simp] theorem leI_def (a b : Int) : leI a b = decide (a ≤ b) := rfl
@[simp] theorem leN_def (a b : Nat) : leN a b = decide (a ≤ b) := rfl
@[simp] theorem eqB_def (a b : Bool) : eqB a b = (a == b) := rfl
@[simp] theorem sz_def (s : ByteArray) : sz s = (s.size : Int) := rfl
@[simp] theorem szN_def (s : ByteArray) : szN s = s.size := rfl
@[simp] theorem ln_def (H : Hp) : ln H = H.length := rfl
@[simp] theorem pu_def (H : Hp) (x : Obj) : pu H x = H ++ [x] := rfl
@[simp] theorem shf_none (m : Nat) : shf none m = none := rfl
@[simp] theorem shf_some (l o m : Nat) : shf (some (l, o)) m = some (l, o + m) := rfl
@[simp] theorem isNone_none : isNone (none : Pl) = true := rfl
@[simp] theorem isNone_some (p : Nat × Nat) : isNone (some p : Pl) = false := rfl

/-! texts -/
def bs (s : ByteArray) : List UInt8 := s.data.toList
theorem toList_bs (s : ByteArray) : s.toList = bs s := Lib.toList_data s
theorem bs_inj {a b : ByteArray} (h : bs a = bs b) : a = b := by
  obtain ⟨⟨x⟩⟩ := a
  obtain ⟨⟨y⟩⟩ := b
  simp [bs] at h
  rw [h]
@[simp] theorem bs_mkS (l : List UInt8) : bs (mkS l) = l := rfl
@[simp] theorem mkS_bs (s : ByteArray) : mkS (bs s) = s := bs_inj rfl
@[simp] theorem bs_length (s : ByteArray) : (bs s).length = s.size := by simp [bs]
@[simp] theorem size_mkS (l : List UInt8) : (mkS l).size = l.length := by rw [← bs_length]; rfl
theorem mkS_inj {a b : List UInt8} (h : mkS a = mkS b) : a = b := by rw [← bs_mkS a, h]; rfl
@[simp] theorem strEq_def (a b : ByteArray) : strEq a b = decide (a = b) := by
  unfold strEq
  rw [toList_bs, toList_bs, Bool.eq_iff_iff]
  simp only [beq_iff_eq, decide_eq_true_eq]
  exact ⟨bs_inj, fun h => by rw [h]⟩
theorem strLt_bs (a b : ByteArray) : strLt a b = Op.bytesLess (bs a) (bs b) := by unfold strLt; rw [toList_bs, toList_bs]
theorem less_tri : ∀ x y : List UInt8, (Op.bytesLess x y = true ∧ x ≠ y ∧ Op.bytesLess y x = false) ∨ (x = y ∧ Op.bytesLess x y = false ∧ Op.bytesLess y x = false) ∨ (Op.bytesLess y x = true ∧ x ≠ y ∧ Op.bytesLess x y = false)
  | [], [] => .inr (.inl ⟨rfl, rfl, rfl⟩)
  | [], _ :: _ => .inl ⟨rfl, by simp, rfl⟩
  | _ :: _, [] => .inr (.inr ⟨rfl, by simp, rfl⟩)
  | a :: x, b :: y => by
    simp only [Op.bytesLess]
    rcases Nat.lt_trichotomy a.toNat b.toNat with h | h | h
    · have h1 : a < b := h
      have h2 : ¬ b < a := fun q => by have : b.toNat < a.toNat := q; omega
      have h3 : a ≠ b := fun q => by subst q; omega
      left
      simp [h1, h2, h3, Ne.symm h3]
    · have h3 : a = b := UInt8.toNat_inj.1 h
      subst h3
      have h2 : ¬ a < a := fun q => by have : a.toNat < a.toNat := q; omega
      simp only [h2, decide_false, Bool.false_or, beq_self_eq_true, Bool.true_and, List.cons.injEq, true_and, ne_eq]
      exact less_tri x y
    · have h1 : b < a := h
      have h2 : ¬ a < b := fun q => by have : a.toNat < b.toNat := q; omega
      have h3 : a ≠ b := fun q => by subst q; omega
      right; right
      simp [h1, h2, h3, Ne.symm h3]
theorem strLt_not (a b : ByteArray) : strLt a b = !(strLt b a || decide (b = a)) := by
  rw [strLt_bs, strLt_bs]
  rcases less_tri (bs a) (bs b) with ⟨h1, h2, h3⟩ | ⟨h1, h2, h3⟩ | ⟨h1, h2, h3⟩
  · rw [h1, h3]; simp; intro e; exact h2 (by rw [e])
  · rw [h2, h3]; simp; exact (bs_inj h1).symm
  · rw [h1, h3]; simp

/-! numbers -/
theorem wrap64 {n : Int} (h1 : -9223372036854775808 ≤ n) (h2 : n ≤ 9223372036854775807) : wrapI .i64 n = n := by
  show (if (true && decide (n % (18446744073709551616 : Int) ≥ 9223372036854775808)) = true then n % (18446744073709551616 : Int) - 18446744073709551616 else n % (18446744073709551616 : Int)) = n
  rw [Bool.true_and]
  by_cases h : n % (18446744073709551616 : Int) ≥ 9223372036854775808
  · rw [if_pos (decide_eq_true h)]; omega
  · rw [if_neg (by simpa using h)]; omega
theorem wrap_succ {k : Nat} (h : k ≤ 4611686018427387904) : wrapI .i64 ((k : Int) + 1) = ((k + 1 : Nat) : Int) := by
  rw [wrap64 (by omega) (by omega)]; rfl
theorem wrap_pred {k : Nat} (h : k ≤ 4611686018427387904) : wrapI .i64 (((k + 1 : Nat) : Int) - 1) = (k : Int) := by
  rw [wrap64 (by omega) (by omega)]; omega
theorem wrap8 {n : Int} : wrapI .u8 n = n % 256 := by
  simp [wrapI, IntKind.wrap, IntKind.bits, IntKind.signed]
theorem wrap8_of {n : Int} (h1 : 0 ≤ n) (h2 : n ≤ 255) : wrapI .u8 n = n := by rw [wrap8]; omega

/-! rows -/
theorem gt_some {H : Hp} {l o : Nat} {own : Bool} {t : TypeId} {cs : List GV} (h : H[l]? = some (.row own t cs)) : gt H l o = cs[o]? := by unfold gt; rw [h]
theorem cells_get {H : Hp} {l o n : Nat} {cs : List GV} (h : cells? H (some (l, o)) n = some cs) {j : Nat} (hj : j < n) : gt H l (o + j) = cs[j]? := by
  unfold cells? at h
  simp only at h
  split at h
  · rename_i own t ds hl
    split at h
    · cases h
      rw [gt_some hl, List.getElem?_take, if_pos hj, List.getElem?_drop]
    · cases h
  · cases h
theorem cells_len {H : Hp} {a : Pl} {n : Nat} {cs : List GV} (h : cells? H a n = some cs) : cs.length = n := by
  unfold cells? at h
  split at h
  · split at h
    · cases h; simp_all
    · cases h
  · split at h
    · split at h
      · cases h; simp; omega
      · cases h
    · cases h
theorem cells_lt {H : Hp} {l o n : Nat} {cs : List GV} (h : cells? H (some (l, o)) n = some cs) : l < H.length := by
  unfold cells? at h
  simp only at h
  split at h
  · rename_i own t ds hl
    exact (List.getElem?_eq_some_iff.1 hl).1
  · cases h
theorem cells_at {H H' : Hp} {a : Pl} {n : Nat} (h : ∀ l o, a = some (l, o) → H'[l]? = H[l]?) : cells? H' a n = cells? H a n := by
  unfold cells?
  cases a with
  | none => rfl
  | some p => obtain ⟨l, o⟩ := p; simp only [h l o rfl]
theorem cells_mono {H H' : Hp} (hp : H <+: H') {a : Pl} {n : Nat} {cs : List GV} (h : cells? H a n = some cs) : cells? H' a n = some cs := by
  cases a with
  | none => exact h
  | some p =>
    obtain ⟨l, o⟩ := p
    have hl := cells_lt h
    rw [← h]
    refine cells_at fun l' o' e => ?_
    cases e
    obtain ⟨E, rfl⟩ := hp
    rw [List.getElem?_append_left hl]
theorem pre_at {H H' : Hp} (hp : H <+: H') {l : Nat} (hl : l < H.length) : H'[l]? = H[l]? := by
  obtain ⟨E, rfl⟩ := hp
  rw [List.getElem?_append_left hl]
theorem pre_len {H H' : Hp} (hp : H <+: H') : H.length ≤ H'.length := hp.length_le
theorem pre_pu (H : Hp) (x : Obj) : H <+: H ++ [x] := List.prefix_append _ _
theorem pre_set {H0 H : Hp} (hp : H0 <+: H) {l : Nat} (hl : H0.length ≤ l) (x : Obj) : H0 <+: H.set l x := by
  obtain ⟨E, rfl⟩ := hp
  exact ⟨E.set (l - H0.length) x, by rw [List.set_append_right _ _ hl]⟩
theorem rd_of {H : Hp} {l o : Nat} {v : GV} {K : GV → Prop} (h : gt H l o = some v) : rd H l o K = K v := by unfold rd; rw [h]

/-- a slice of texts; of numbers -/
structure Ss (H : Hp) (a : Pl) (n : Nat) (xs : List ByteArray) : Prop where
  cells : cells? H a n = some (xs.map GV.str)
  len : n = xs.length
  lim : n * 16 ≤ 140737488351232
structure Is (H : Hp) (a : Pl) (n : Nat) (xs : List Int) : Prop where
  cells : cells? H a n = some (xs.map (GV.int .i64))
  len : n = xs.length
  lim : n * 8 ≤ 140737488351232
theorem Ss.mono {H H' : Hp} (hp : H <+: H') {a : Pl} {n : Nat} {xs : List ByteArray} (h : Ss H a n xs) : Ss H' a n xs := ⟨cells_mono hp h.cells, h.len, h.lim⟩
theorem Is.mono {H H' : Hp} (hp : H <+: H') {a : Pl} {n : Nat} {xs : List Int} (h : Is H a n xs) : Is H' a n xs := ⟨cells_mono hp h.cells, h.len, h.lim⟩
theorem Ss.nil (H : Hp) : Ss H none 0 [] := ⟨rfl, rfl, by omega⟩
theorem Is.nil (H : Hp) : Is H none 0 [] := ⟨rfl, rfl, by omega⟩

section
variable {H : Hp} {a : Pl} {n : Nat}
theorem Ss.rd {xs : List ByteArray} (h : Ss H a n xs) (k : Nat) {i : Int} (hi : i = k) (hk : k < xs.length) (K : ByteArray → Prop) :
    (chk (leI 0 i && ltI i (nI n)) (pS a fun n0 n1 => Am.rd H n0 (n1 + tN i * 1) fun v => dS v K)) = K xs[k] := by
  subst hi
  have hn := h.len
  have hkn : k < n := by omega
  simp only [leI_def, ltI_def, nI_def, tN_def, Int.toNat_natCast, Nat.mul_one]
  rw [decide_eq_true (show (0 : Int) ≤ k by omega), decide_eq_true (show (k : Int) < n by omega)]
  cases a with
  | none => have := cells_len h.cells; have h2 := h.cells; simp [cells?] at h2; omega
  | some p =>
    obtain ⟨l, o⟩ := p
    simp only [Bool.and_self, chk_true, pS_some]
    rw [rd_of (v := .str xs[k]) (by rw [cells_get h.cells hkn]; simp [hk]), dS_str]
theorem Is.rd {xs : List Int} (h : Is H a n xs) (k : Nat) {i : Int} (hi : i = k) (hk : k < xs.length) (K : Int → Prop) :
    (chk (leI 0 i && ltI i (nI n)) (pS a fun n0 n1 => Am.rd H n0 (n1 + tN i * 1) fun v => dI .i64 v K)) = K xs[k] := by
  subst hi
  have hn := h.len
  have hkn : k < n := by omega
  simp only [leI_def, ltI_def, nI_def, tN_def, Int.toNat_natCast, Nat.mul_one]
  rw [decide_eq_true (show (0 : Int) ≤ k by omega), decide_eq_true (show (k : Int) < n by omega)]
  cases a with
  | none => have := cells_len h.cells; have h2 := h.cells; simp [cells?] at h2; omega
  | some p =>
    obtain ⟨l, o⟩ := p
    simp only [Bool.and_self, chk_true, pS_some]
    rw [rd_of (v := .int .i64 xs[k]) (by rw [cells_get h.cells hkn]; simp [hk]), dI_int]
end

/-! rows that one may write -/
/-- a slice whose row is one's own, from its first cell to its last; its number is b at least -/
def Own (H : Hp) (b : Nat) (t : TypeId) (a : Pl) (n : Nat) (cs : List GV) : Prop :=
  (a = none ∧ n = 0 ∧ cs = []) ∨ ∃ l, a = some (l, 0) ∧ b ≤ l ∧ H[l]? = some (.row true t cs) ∧ cs.length = n
theorem Own.len {H : Hp} {b : Nat} {t : TypeId} {a : Pl} {n : Nat} {cs : List GV} (h : Own H b t a n cs) : cs.length = n := by
  rcases h with ⟨_, rfl, rfl⟩ | ⟨_, _, _, _, h⟩
  · rfl
  · exact h
theorem Own.cells {H : Hp} {b : Nat} {t : TypeId} {a : Pl} {n : Nat} {cs : List GV} (h : Own H b t a n cs) : cells? H a n = some cs := by
  rcases h with ⟨rfl, rfl, rfl⟩ | ⟨l, rfl, _, hl, rfl⟩
  · rfl
  · simp [cells?, hl]
theorem Own.keep {H H' : Hp} {b : Nat} {t : TypeId} {a : Pl} {n : Nat} {cs : List GV} (h : Own H b t a n cs) (hk : ∀ l, a = some (l, 0) → H'[l]? = H[l]?) : Own H' b t a n cs := by
  rcases h with h | ⟨l, rfl, hb, hl, hn⟩
  · exact .inl h
  · exact .inr ⟨l, rfl, hb, by rw [hk l rfl]; exact hl, hn⟩
theorem Own.lt {H : Hp} {b : Nat} {t : TypeId} {l : Nat} {n : Nat} {cs : List GV} (h : Own H b t (some (l, 0)) n cs) : l < H.length := by
  rcases h with ⟨h, _⟩ | ⟨l', e, _, hl, _⟩
  · cases h
  · cases e; exact (List.getElem?_eq_some_iff.1 hl).1
/-- the heap goes on: of what was there the row of a alone has turned -/
structure Ex (H0 : Hp) (a : Pl) (H H' : Hp) : Prop where
  pre : H0 <+: H'
  len : H.length ≤ H'.length
  row : ∀ l, l < H.length → a ≠ some (l, 0) → H'[l]? = H[l]?

/-- append: a new row -/
theorem ap_own {H0 H : Hp} {t by_ : Nat} {a : Pl} {n m : Nat} {cs ds : List GV} {K : Pl → Nat → Hp → Prop} (h0 : H0 <+: H) (h : Own H H0.length t a n cs) (hm : ds.length = m) (hl : (n + m) * by_ ≤ Lim)
    (hK : ∀ a' H', Own H' H0.length t a' (n + m) (cs ++ ds) → Ex H0 a H H' → (∀ l o, a' = some (l, o) → H.length ≤ l) → K a' (n + m) H') : ap H t 1 by_ a n ds m K := by
  unfold ap app?
  rw [if_pos ⟨hl, by omega⟩]
  rcases h with ⟨rfl, rfl, rfl⟩ | ⟨l, rfl, hb, hrow, rfl⟩
  · simp only [Nat.zero_add] at hK ⊢
    by_cases hm0 : m = 0
    · subst hm0
      obtain rfl : ds = [] := List.eq_nil_of_length_eq_zero hm
      simp only [if_pos]
      exact hK none H (.inl ⟨rfl, rfl, rfl⟩) ⟨h0, Nat.le_refl _, fun _ _ _ => rfl⟩ (fun _ _ e => by cases e)
    · simp only [if_pos, if_neg hm0]
      refine hK _ _ (.inr ⟨H.length, rfl, pre_len h0, by simp, by simpa using hm⟩) ⟨h0.trans (List.prefix_append _ _), by simp, fun l hl _ => by rw [List.getElem?_append_left hl]⟩ (fun _ _ e => by cases e; exact Nat.le_refl _)
  · simp only [hrow]
    rw [if_pos (by simp)]
    have hlt := (List.getElem?_eq_some_iff.1 hrow).1
    refine hK _ _ (.inr ⟨H.length, rfl, pre_len h0, by simp, by simp [hm]⟩) ⟨(pre_set h0 hb .dead).trans (List.prefix_append _ _), by simp, fun l' hl' hne => ?_⟩ (fun _ _ e => by cases e; exact Nat.le_refl _)
    have hll : l ≠ l' := fun e => hne (by rw [e])
    rw [List.getElem?_append_left (by simpa using hl'), List.getElem?_set_ne hll]
theorem ap0_of {H : Hp} {t by_ : Nat} {cs : List GV} {m : Nat} {K : Hp → Prop} (hl : m * by_ ≤ Lim) (hm : cs.length = m) (hK : K (H ++ [.row true t cs])) : ap0 H t 1 by_ cs m K := ⟨⟨hl, by omega⟩, hK⟩
theorem rdN_of {H : Hp} {a : Pl} {n : Nat} {cs : List GV} {K : List GV → Prop} (h : cells? H a n = some cs) : rdN H a n K = K cs := by unfold rdN; rw [h]
theorem st_of {H : Hp} {l o : Nat} {t : TypeId} {cs : List GV} (v : GV) (h : H[l]? = some (.row true t cs)) (ho : o < cs.length) : st? H l o v = some (H.set l (.row true t (cs.set o v))) := by
  unfold st?; rw [h]; simp [ho]
theorem wr_of {H : Hp} {l o : Nat} {t : TypeId} {cs : List GV} {v : GV} {K : Hp → Prop} (h : H[l]? = some (.row true t cs)) (ho : o < cs.length) : wr H l o v K = K (H.set l (.row true t (cs.set o v))) := by
  unfold wr; rw [st_of v h ho]

/-- a row of bytes, as a text -/
def u8s (l : List UInt8) : List GV := l.map fun b => .int .u8 b.toNat
theorem u8s_append (x y : List UInt8) : u8s (x ++ y) = u8s x ++ u8s y := by simp [u8s]
theorem bytesOf_eq (s : ByteArray) : bytesOf s = u8s (bs s) := rfl
theorem bytesK_u8s {K : List UInt8 → Prop} : ∀ l : List UInt8, bytesK (u8s l) K = K l := by
  intro l
  induction l generalizing K with
  | nil => rfl
  | cons b l ih =>
    show (dI .u8 (.int .u8 b.toNat) fun n => bytesK (u8s l) fun r => K (bof n :: r)) = _
    rw [dI_int, ih]
    simp [bof]
theorem txt_u8s (l : List UInt8) (K : ByteArray → Prop) : txt (u8s l) K = K (mkS l) := by unfold txt; rw [bytesK_u8s]
theorem u8_eq {n : Int} (h1 : 0 ≤ n) (h2 : n ≤ 255) : GV.int .u8 (wrapI .u8 n) = .int .u8 ((bof n).toNat : Int) := by
  rw [wrap8_of h1 h2]
  congr 1
  simp [bof]
  omega
end Go.Am
namespace Go.Am
open Go.RowKit Go.ChangeShapes Go.WideShapes

/-- no row may be written -/
def NoOwn (H : Hp) : Prop := ∀ (l : Nat) (t : TypeId) (cs : List GV), H[l]? ≠ some (.row true t cs)

/-- where a slice value stands, there are blocks -/
def Zc (W : World) (v : Value) : Prop := ∀ a n c, v = .slice (some a) n c → 0 < W.heap.size
theorem zc_of_ok {P : Program} {W : World} {r : Reach} {b : Nat} {t : TypeId} {v : Value} (h : Cell.okWide P W r b t v) : Zc W v := by
  intro a n c e
  subst e
  have key : W.has P r b a (match P.underlying t with | some (.slice e) => e | _ => 0) c := by
    unfold Cell.okWide Cell.ok at h
    cases hu : P.underlying t with
    | none => rw [hu] at h; exact h.elim
    | some d =>
      rw [hu] at h
      cases d <;> first | exact h.elim | exact h.2.2
  obtain ⟨_, hs, row, cells, hsh, _⟩ := key
  unfold World.shape? at hsh
  rcases Nat.lt_or_ge a.block W.heap.size with h1 | h1
  · omega
  · simp [Array.getElem?_eq_none h1] at hsh
theorem cell_lt {W : World} {a : Addr} {v : Value} (h : W.cell? a = some v) : a.spot = none ∧ a.block < W.heap.size := by
  unfold World.cell? at h
  rcases Nat.lt_or_ge a.block W.heap.size with h1 | h1
  · refine ⟨?_, h1⟩
    split at h
    · split at h
      · cases h
      · rename_i q; simpa using q
    · cases h
  · simp [Array.getElem?_eq_none h1] at h
theorem add_none {a : Addr} (hs : a.spot = none) (j : Nat) : a.add j = ⟨a.block, a.off + j, none⟩ := by
  unfold Addr.add
  split
  · rename_i e; subst e; obtain ⟨b, o, s⟩ := a; simp only at hs; subst hs; rfl
  · rfl

theorem Is2.one_inv {φ : List LI} {c : GV} {xs : List Value} (h : Is2 φ [c] xs) : ∃ x, xs = [x] ∧ c.is φ x := by
  obtain ⟨x, r, rfl, h1, h2⟩ := h.cons_inv
  rw [h2.nil_inv]; exact ⟨x, rfl, h1⟩

section
variable {Hh : Type} {enc : TypeId × Value → Hh} {P : Program} {W : World} {held : Bool}

/-- a slice whose cells are told, as a row that one may not write -/
theorem open_row {φ : List LI} {H : Hp} (hr : RepH φ H W) (hn : NoOwn H) {a : Addr} {len cap z : Nat} (hl : len ≤ cap) (hz : 0 < W.heap.size) (hsp : 0 < cap → a.spot = none ∧ a.block < W.heap.size) (cs : List GV) (hc : cs.length = len * z)
    (hcell : ∀ j v, cs[j]? = some v → ∃ x, W.cell? (a.add j) = some x ∧ v.is φ x) :
    ∃ φ' H' p, φ <+: φ' ∧ H <+: H' ∧ RepH φ' H' W ∧ NoOwn H' ∧ GV.is φ' (.sl p len z) (.slice (some a) len cap) ∧ cells? H' p (len * z) = some cs := by
  have hno : ∀ b, ¬ ownB φ H b := fun b ⟨l, t, cs, i, h1, _⟩ => hn l t cs h1
  have hN : ∀ cs : List GV, NoOwn (H ++ [.row false 0 cs]) := fun cs l t cs' h => by
    rcases get_snoc h with ⟨_, h⟩ | ⟨_, h⟩
    · exact hn l t cs' h
    · cases h
  rcases Nat.eq_zero_or_pos cap with h0 | h0
  · obtain rfl : len = 0 := by omega
    rw [Nat.zero_mul] at hc
    obtain rfl : cs = [] := List.eq_nil_of_length_eq_zero hc
    subst h0
    obtain ⟨R, _, _⟩ := hr.snoc (w' := W) (own := false) (t := 0) (cs := []) (i := ⟨0, 0, false, 0, 0⟩) (Nat.le_refl _) (fun _ _ => rfl)
      ⟨rfl, rfl, hz, fun j v hj => by simp at hj⟩ (fun q => by cases q) (hno _)
    refine ⟨_, _, some (H.length, 0), List.prefix_append _ _, List.prefix_append _ _, R, hN _, ?_, ?_⟩
    · refine ⟨⟨0, 0, false, 0, 0⟩, a, 0, ?_, rfl, .inr rfl, Nat.le_refl _, by simp, fun q => by cases q⟩
      rw [← hr.len]; simp
    · simp [cells?]
  · obtain ⟨hs, hb⟩ := hsp h0
    obtain ⟨R, _, _⟩ := hr.snoc (w' := W) (own := false) (t := 0) (cs := cs) (i := ⟨a.block, a.off, false, cs.length, 0⟩) (Nat.le_refl _) (fun _ _ => rfl)
      ⟨rfl, rfl, hb, fun j v hj => by
        obtain ⟨x, h1, h2⟩ := hcell j v hj
        exact ⟨x, by rw [← add_none hs j]; exact h1, GV.is.mono (List.prefix_append _ _) h2⟩⟩ (fun q => by cases q) (hno _)
    refine ⟨_, _, some (H.length, 0), List.prefix_append _ _, List.prefix_append _ _, R, hN _, ?_, ?_⟩
    · refine ⟨⟨a.block, a.off, false, cs.length, 0⟩, a, cap, ?_, rfl, .inl ?_, hl, ?_, fun q => by cases q⟩
      · rw [← hr.len]; simp
      · have := add_none hs 0; simpa [Addr.add] using this
      · show cs.length ≤ _; rw [hc]; have := Nat.mul_le_mul_right z hl; omega
    · simp [cells?, hc]
      rw [← hc, List.take_length]

/-- a slice of texts -/
theorem open_texts {t e : TypeId} (ht : P.underlying t = some (.slice e)) (he : P.underlying e = some .string) (hc : P.cellsOf e = 1) (hb : P.bytesOf e = 16) {fuel : Nat} {cs : List Value} {x : DataW Hh × List MemPlace}
    (h : DataW.trod enc P W 0 (fun _ => true) held fuel t cs = some x) (hz : ∀ v ∈ cs, Zc W v) (hw : (DataW.weights P t x.1).all (· ≤ reachBytes) = true) {φ : List LI} {H : Hp} (hr : RepH φ H W) (hn : NoOwn H) :
    ∃ φ' H' p n xs v, cs = [v] ∧ φ <+: φ' ∧ H <+: H' ∧ RepH φ' H' W ∧ NoOwn H' ∧ GV.is φ' (.sl p n 1) v ∧ Ss H' p n xs := by
  rcases open_strings ht he hc h with ⟨rfl, rfl⟩ | ⟨a, len, cap, ss, rfl, _, hl, _, hlen, rfl, hcell, _⟩
  · exact ⟨φ, H, none, 0, [], _, rfl, List.prefix_refl _, List.prefix_refl _, hr, hn, ⟨rfl, rfl⟩, Ss.nil H⟩
  · simp only [if_true] at hlen
    obtain ⟨φ', H', p, h1, h2, h3, h4, h5, h6⟩ := open_row (z := 1) hr hn hl (hz (.slice (some a) len cap) (List.mem_singleton.2 rfl) _ _ _ rfl) (fun h0 => by have := hcell 0 (by omega); exact cell_lt (a := a.add 0) this) ((ss.take len).map GV.str) (by simp; omega) (fun j v hj => by
      rw [List.getElem?_map] at hj
      cases hg : (ss.take len)[j]? with
      | none => rw [hg] at hj; cases hj
      | some s =>
        rw [hg] at hj
        simp at hj
        subst hj
        have hjl : j < ss.length := by have := (List.getElem?_eq_some_iff.1 hg).1; simp at this; omega
        have := hcell j hjl
        rw [List.getElem?_take] at hg
        split at hg
        · rw [List.getD_eq_getElem?_getD, hg] at this
          exact ⟨_, this, rfl⟩
        · cases hg)
    rw [Nat.mul_one] at h6
    refine ⟨φ', H', p, len, ss.take len, _, rfl, h1, h2, h3, h4, h5, h6, by simp; omega, ?_⟩
    simp only [DataW.weights, ht] at hw
    rw [List.all_cons, Bool.and_eq_true] at hw
    have := hw.1
    simp only [decide_eq_true_eq, strs, List.length_map, List.length_take, List.length_drop, hb] at this
    unfold reachBytes at this
    omega
/-- a slice of numbers -/
theorem open_nums {t e : TypeId} (ht : P.underlying t = some (.slice e)) (he : P.underlying e = some (.int .i64)) (hc : P.cellsOf e = 1) (hb : P.bytesOf e = 8) {fuel : Nat} {cs : List Value} {x : DataW Hh × List MemPlace}
    (h : DataW.trod enc P W 0 (fun _ => true) held fuel t cs = some x) (hz : ∀ v ∈ cs, Zc W v) (hw : (DataW.weights P t x.1).all (· ≤ reachBytes) = true) {φ : List LI} {H : Hp} (hr : RepH φ H W) (hn : NoOwn H) :
    ∃ φ' H' p n xs v, cs = [v] ∧ φ <+: φ' ∧ H <+: H' ∧ RepH φ' H' W ∧ NoOwn H' ∧ GV.is φ' (.sl p n 1) v ∧ Is H' p n xs := by
  rcases open_ints ht he hc h with ⟨rfl, rfl⟩ | ⟨a, len, cap, ss, rfl, _, hl, _, hlen, rfl, hcell, _⟩
  · exact ⟨φ, H, none, 0, [], _, rfl, List.prefix_refl _, List.prefix_refl _, hr, hn, ⟨rfl, rfl⟩, Is.nil H⟩
  · simp only [if_true] at hlen
    obtain ⟨φ', H', p, h1, h2, h3, h4, h5, h6⟩ := open_row (z := 1) hr hn hl (hz (.slice (some a) len cap) (List.mem_singleton.2 rfl) _ _ _ rfl) (fun h0 => by have := hcell 0 (by omega); exact cell_lt (a := a.add 0) this) ((ss.take len).map (GV.int .i64)) (by simp; omega) (fun j v hj => by
      rw [List.getElem?_map] at hj
      cases hg : (ss.take len)[j]? with
      | none => rw [hg] at hj; cases hj
      | some s =>
        rw [hg] at hj
        simp at hj
        subst hj
        have hjl : j < ss.length := by have := (List.getElem?_eq_some_iff.1 hg).1; simp at this; omega
        have := hcell j hjl
        rw [List.getElem?_take] at hg
        split at hg
        · rw [List.getD_eq_getElem?_getD, hg] at this
          exact ⟨_, this, rfl⟩
        · cases hg)
    rw [Nat.mul_one] at h6
    refine ⟨φ', H', p, len, ss.take len, _, rfl, h1, h2, h3, h4, h5, h6, by simp; omega, ?_⟩
    simp only [DataW.weights, ht] at hw
    rw [List.all_cons, Bool.and_eq_true] at hw
    have := hw.1
    simp only [decide_eq_true_eq, lits, List.length_map, List.length_take, List.length_drop, hb] at this
    unfold reachBytes at this
    omega

theorem all_each {ts : List TypeId} {ds : List (DataW Hh)} (h : (DataW.weightsEach P ts ds).all (· ≤ reachBytes) = true) {j : Nat} {t : TypeId} {d : DataW Hh} (ht : ts[j]? = some t) (hd : ds[j]? = some d) : (DataW.weights P t d).all (· ≤ reachBytes) = true :=
  List.all_eq_true.2 fun n hn => List.all_eq_true.1 h n (DataW.weights_mem_each ht hd n hn)

/-- what stands behind a call that wrote no row -/
theorem below_of {φ φ' : List LI} {H H' : Hp} {W' : World} (hn : NoOwn H) (B : Back φ H W φ' H' W') : Below W.heap.size W W' :=
  ⟨B.keeps.os, B.keeps.tape, B.keeps.output, B.keeps.size, fun k hk => B.keeps.block k hk fun ⟨l, t, cs, i, h1, _⟩ => hn l t cs h1⟩

/-- a law that answers true -/
theorem law_calls {f : FuncId} {s : Sm} (hS : Sound P f s) {φ : List LI} {H : Hp} (hr : RepH φ H W) (hn : NoOwn H) {args : List FV} {vs : List Value} (ha : All2 (FV.is φ) args vs) (h : s args H fun r _ => r = .g (.bool true)) :
    Calls P f vs.toArray W fun e W' => e = .returned (.bool true) ∧ Below W.heap.size W W' := by
  refine (hS args H _ h φ W vs hr ha).mono ?_
  rintro e W' ⟨r, H', φ', x, rfl, rfl, hx, B⟩
  exact ⟨by rw [show x = .bool true from hx], below_of hn B⟩

theorem rep_nil (W : World) : RepH [] [] W := ⟨rfl, fun l _ _ _ h => by simp at h, fun l _ _ _ _ _ _ _ _ h => by simp at h⟩
theorem noOwn_nil : NoOwn [] := fun l t cs h => by simp at h
end
end Go.Am
