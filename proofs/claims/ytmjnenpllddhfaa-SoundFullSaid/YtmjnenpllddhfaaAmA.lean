import Derived.Test.YtmjnenpllddhfaaAm9
import Derived.Laws.NewFold
set_option linter.unusedVariables false
set_option linter.unusedSimpArgs false
namespace Go.Am

section
variable {P : Program} {cx : Cx} {φ : List LI} {H : Hp} {lam : Nat → Nat} {fr : List FV} {w : World} {φ0 : List LI} {H0 : Hp} {w0 : World} {tmps : Array Value}

/-- what stands behind an operation -/
def Res (φ0 : List LI) (H0 : Hp) (w0 : World) (dst : Option Tmp) (v : FV) (fr : List FV) (H : Hp) (tmps : Array Value) (u : Value) (w : World) : Prop :=
  ∃ φ lam, match dst with
    | some d => Inv φ0 H0 w0 φ H lam (fr.set d v) (tmps.setIfInBounds d u) w
    | none => Inv φ0 H0 w0 φ H lam fr tmps w
theorem Res.of (I : Inv φ0 H0 w0 φ H lam fr tmps w) {v : FV} {u : Value} (hv : VOK w0.heap.size φ H lam fr w v u) (dst : Option Tmp) : Res φ0 H0 w0 dst v fr H tmps u w := by
  refine ⟨φ, lam, ?_⟩
  cases dst with
  | none => exact I
  | some d => exact I.put hv

/-! ### boxes -/
theorem newRow_is (I : Inv φ0 H0 w0 φ H lam fr tmps w) {t : TypeId} {cs : List GV} {c : Array Value} (his : Is2 φ cs c.toList) (dst : Option Tmp) :
    Res φ0 H0 w0 dst (.g (.ptr (some (ln H, 0)))) fr (pu H (.row true t cs)) tmps (.pointer (some ⟨w.heap.size, 0, none⟩)) (w.alloc (.cells c t)) := by
  have hl := his.length
  have B := Back.new I.rep t cs c (0, 0) (by simpa using Nat.le_of_eq hl) (by rw [List.take_of_length_le (by omega)]; exact his) (fun j _ h => by omega)
  refine Res.of (I.back B) ?_ dst
  exact ⟨⟨w.heap.size, 0, true, cs.length, c.size⟩, by simp [ln, ← I.rep.len], rfl⟩

theorem mkK_ok (I : Inv φ0 H0 w0 φ H lam fr tmps w) {o : Oper} {t : TypeId} {cs : List GV} {c : Array Value} {K : FV → List FV → Hp → Prop} (his : Is2 φ cs c.toList) (h : mkK cx o fr H t cs K) :
    ∃ v fr' H', K v fr' H' ∧ Res φ0 H0 w0 o.dst v fr' H' tmps (.pointer (some ⟨w.heap.size, 0, none⟩)) (w.alloc (.cells c t)) := by
  unfold mkK at h
  split at h
  · exact ⟨_, _, _, h, newRow_is I his o.dst⟩
  · split at h
    · rename_i d hd
      obtain ⟨h1, h⟩ := ck_iff.1 h
      obtain ⟨h2, h⟩ := ck_iff.1 h
      have h2 : d + 1 ≤ fr.length := by simpa [Nat.blt] using h2
      refine ⟨_, _, _, h, φ, (fun s => if s = d then w.heap.size else lam s), ?_⟩
      rw [hd]
      exact I.box h1 h2 his
    · exact h.elim

theorem storeVar_run (hT : TysOK P cx.tys) {t : TypeId} (ht : cx.okT t = true) {a : Addr} {x : Value} (hl : x.cells.size = (cx.ty t).lv.length) : (storeVar t a x).run P w = (storeCells a x.cells.toList).run P w := by
  simp [storeVar, run_sizeOf hT ht, hl]

theorem keeps_setRow (w : World) (b : Nat) (c : Array Value) : Keeps (fun b' => b' = b) w (w.setRow b c) :=
  ⟨rfl, rfl, rfl, by simp, fun b' _ hn => setRow_other w b b' c hn⟩

theorem storeK_ok (hT : TysOK P cx.tys) (I : Inv φ0 H0 w0 φ H lam fr tmps w) {t : TypeId} {x : FV} {ux u : Value} {ns : List GV} {K : List FV → Hp → Prop} (ht : cx.okT t = true) (hl : ns.length = (cx.ty t).lv.length) (h : storeK x ns fr H K)
    (hx : VOK w0.heap.size φ H lam fr w x ux) (his : Is2 φ ns u.cells.toList) : ∃ fr' H' w', K fr' H' ∧ (Instr.storeAt t ux u).run P w = .ok () w' ∧ Inv φ0 H0 w0 φ H' lam fr' tmps w' := by
  have hsz : u.cells.size = (cx.ty t).lv.length := by rw [← hl, his.length]; simp
  unfold storeK at h
  split at h
  · rename_i s p
    split at h
    · rename_i cs hcs
      have hs := getD_of hcs (by simp)
      obtain ⟨e, h2, h3, c, t', hb, hc⟩ := I.slot s _ hs
      cases hx
      obtain ⟨cs', hk, hlen, hle, rfl⟩ := fillK_ok h
      rw [setK_eq] at hk
      rw [run_storeAt, storeVar_run hT ht hsz]
      by_cases hn : ns = []
      · subst hn
        have : u.cells.toList = [] := by have := his.length; simpa using this.symm
        refine ⟨_, _, w, hk, by simp [this, storeCells], ?_⟩
        exact I.boxTurn hs (Keeps.refl _ _) hb (by simpa using hc)
      · have hle : p + ns.length ≤ cs.length := by simpa [hn] using hle
        have hcl := hc.length
        have hnl := his.length
        refine ⟨_, _, w.setRow (lam s) (c.toList.take (p + 0) ++ u.cells.toList ++ c.toList.drop (p + 0 + u.cells.toList.length)).toArray, hk, run_storeCells_at P (lam s) p t' u.cells.toList 0 c w hb (by simp at hcl hnl ⊢; omega) his.one, ?_⟩
        refine I.boxTurn hs (keeps_setRow _ _ _) (setRow_heap w _ _ _ _ _ hb) ?_
        have := Is2.fill hc his p (p + ns.length)
        simpa [hnl] using this
    · exact h.elim
  · rename_i l p
    obtain ⟨i, hi, rfl⟩ := hx
    obtain ⟨H', w', hk, hr, B⟩ := stCells_ok (P := P) ns u.cells.toList 0 (p0 := p) h I.rep hi his
    refine ⟨fr, H', w', hk, ?_, I.back B⟩
    rw [run_storeAt, storeVar_run hT ht hsz]
    exact hr
  · exact h.elim

theorem mkslK_ok (hT : TysOK P cx.tys) (I : Inv φ0 H0 w0 φ H lam fr tmps w) {t : TypeId} {l c : FV} {ul uc : Value} {K : FV → Hp → Prop} (h : mkslK cx t l c H K) (hl : VOK w0.heap.size φ H lam fr w l ul) (hc : VOK w0.heap.size φ H lam fr w c uc) (dst : Option Tmp) :
    ∃ v H' u w', K v H' ∧ (Instr.makeSlice t ul uc).run P w = .ok u w' ∧ Res φ0 H0 w0 dst v fr H' tmps u w' := by
  unfold mkslK at h
  split at h
  · rename_i k1 l k2 c
    cases hl; cases hc
    obtain ⟨ht, h⟩ := ck_iff.1 h
    obtain ⟨hf, h⟩ := ck_iff.1 h
    obtain ⟨hb, hK⟩ := chk_iff.1 h
    simp only [Bool.and_eq_true] at hb
    obtain ⟨⟨e, h0⟩, hL⟩ := hb
    have e := eqI_iff.1 e
    have h0 := leI_iff.1 h0
    have hL : l * ((cx.ty (cx.ty t).el).by_ : Int) ≤ 140737488355328 := leI_iff.1 hL
    subst e
    have ht := isSl_iff ht
    have hd := desc_slice hT ht.1
    obtain ⟨i, z, hi, hs', hz', hzc, hby⟩ := run_info hT ht.2
    have hf1 : 1 ≤ (cx.ty (cx.ty t).el).by_ := by
      unfold Cx.full at hf; split at hf
      · rename_i q; exact Nat.le_of_ble_eq_true q
      · cases hf
    have hb1 : (i.bytes : Int) * l ≤ 281474976710656 := by
      rw [hby, Int.mul_comm]; omega
    have hl63 : l ≤ 9223372036854775807 := by
      have : l * 1 ≤ l * ((cx.ty (cx.ty t).el).by_ : Int) := Int.mul_le_mul_of_nonneg_left (by omega) h0
      omega
    have hr := run_make (P := P) w t _ i z hd hi hz' k1 k2 l l h0 (Int.le_refl _) hb1 hl63
    have hsz : (madeCells z.cells (l.toNat * i.size)).size = l.toNat * (cx.ty (cx.ty t).el).lv.length := by rw [size_madeCells, hs']
    have his : Is2 φ (repN (tN l) (zerosK (cx.ty (cx.ty t).el).lv)) (madeCells z.cells (l.toNat * i.size)).toList := rep_is φ _ z.cells hzc (tN l) _ (by rw [hs']; rfl)
    have hlen := his.length
    have B := Back.new I.rep (cx.ty t).el _ _ (0, 0) (Nat.le_of_eq (by simpa using hlen)) (by rw [List.take_of_length_le (by omega)]; exact his) (fun j _ h => by omega)
    refine ⟨_, _, _, _, hK, hr, Res.of (I.back B) ?_ dst⟩
    refine ⟨_, _, l.toNat, by simp only [ln, ← I.rep.len]; exact List.getElem?_concat_length, rfl, .inl rfl, Nat.le_refl _, ?_, fun _ => ⟨rfl, ?_⟩⟩
    · show (repN (tN l) (zerosK (cx.ty (cx.ty t).el).lv)).length ≤ _
      rw [hlen, Array.length_toList, hsz]; omega
    · show 0 + _ ≤ (madeCells z.cells (l.toNat * i.size)).size
      rw [hsz]; omega
  · exact h.elim

theorem bytesK_ok : ∀ {cs : List GV} {xs : List Value} {K : List UInt8 → Prop}, bytesK cs K → Is2 φ cs xs → ∃ ns : List Int, xs = ns.map (Value.int .u8) ∧ K (ns.map bof)
  | [], xs, K, h, his => ⟨[], by cases his.nil_inv; rfl, h⟩
  | c :: cs, xs, K, h, his => by
    obtain ⟨x, xs, rfl, hx, his'⟩ := his.cons_inv
    have h' : dI .u8 c fun n => bytesK cs fun r => K (bof n :: r) := h
    unfold dI at h'
    split at h'
    · rename_i k n
      obtain ⟨e, h'⟩ := h'
      subst e
      obtain ⟨ns, rfl, hk⟩ := bytesK_ok h' his'
      cases hx
      exact ⟨n :: ns, rfl, hk⟩
    · exact h'.elim

theorem foldl_push : ∀ (ns : List Int) (s : ByteArray), ns.foldl (fun r n => r.push (UInt8.ofNat n.toNat)) s = ⟨s.data ++ (ns.map bof).toArray⟩
  | [], s => by simp
  | n :: ns, s => by
    rw [List.foldl_cons, foldl_push ns]
    congr 1
    show (s.data.push _) ++ _ = _
    apply Array.ext'
    simp [bof]

/-- a slice that is read: where its cells stand -/
theorem slice_cells (hr : RepH φ H w) {a : Pl} {n z m : Nat} {cs : List GV} {x : Value} (hx : (GV.sl a n z).is φ x) (hc : cells? H a m = some cs) (hm : n = 0 → m = 0) :
    ∃ xs, Is2 φ cs xs ∧ cs.length = m ∧ ((a = none ∧ n = 0 ∧ x = .slice none 0 0 ∧ cs = []) ∨ ∃ ad c, x = .slice (some ad) n c ∧ ∀ j y, xs[j]? = some y → w.cell? (ad.add j) = some y) := by
  cases a with
  | none =>
    obtain ⟨rfl, rfl⟩ := hx
    have : m = 0 := hm rfl
    subst this
    simp [cells?] at hc
    subst hc
    exact ⟨[], .nil, rfl, .inl ⟨rfl, rfl, rfl, rfl⟩⟩
  | some p =>
    obtain ⟨l, o⟩ := p
    obtain ⟨i, ad, c, hi, rfl, hq, hnc, _⟩ := hx
    obtain ⟨i', hi', hlen, xs, his, hxs⟩ := hr.cells hc
    rw [hi] at hi'; cases hi'
    refine ⟨xs, his, hlen, .inr ⟨_, _, rfl, fun j y hj => ?_⟩⟩
    rcases hq with hq | hq
    · rw [hq, add_at]; exact hxs j y hj
    · have : m = 0 := hm (by omega)
      have := his.length
      have : xs = [] := by apply List.eq_nil_of_length_eq_zero; omega
      subst this; simp at hj

theorem txt_ok {cs : List GV} {xs : List Value} {K : ByteArray → Prop} (h : txt cs K) (his : Is2 φ cs xs) {ad : Addr} {n c : Nat} (hl : cs.length = n) (hx : ∀ j y, xs[j]? = some y → w.cell? (ad.add j) = some y) :
    ∃ s, K s ∧ (Conv.bytesToString (.slice (some ad) n c)).run P w = .ok (.string s) w := by
  obtain ⟨ns, rfl, hk⟩ := bytesK_ok h his
  have hlen := his.length
  simp at hlen
  refine ⟨_, hk, ?_⟩
  have h1 := run_loadCells_list (P := P) w ad _ (fun j v hv => hx j v hv)
  rw [List.length_map, ← hlen, hl] at h1
  rw [run_bytesToString w _ n c ns h1, foldl_push]
  simp [mkS, ByteArray.empty, ByteArray.emptyWithCapacity]
  rfl

end
end Go.Am
