import Derived.Test.YtiemhjehieipdaaGreatM0
set_option linter.unusedVariables false
set_option linter.unusedSimpArgs false
namespace Go.Am

section
variable {P : Program} {cx : Cx} {φ : List LI} {H : Hp} {lam : Nat → Nat} {fr : List FV} {w : World} {φ0 : List LI} {H0 : Hp} {w0 : World} {tmps : Array Value}

theorem desc_u8 (hT : TysOK P cx.tys) {t : TypeId} (ht : (cx.ty t).isU8 = true) : P.underlying t = some (.int .u8) := by
  have h0 : (cx.ty t).ok = true ∧ (cx.ty t).lv = [.int .u8] ∧ (cx.ty t).agg = false := by
    unfold TI.isU8 at ht
    split at ht
    · rename_i e1 e2; simp [TI.ok, e1, e2]
    · cases ht
  obtain ⟨d, hd, hok⟩ := run_under hT h0.1
  rw [hd]
  cases d <;> simp [descOK, isLv, h0.2.1, h0.2.2, isSlLv] at hok ⊢
  exact hok.2.symm

theorem freeze_at {w : World} {b n : Nat} {c : Array Value} {t : TypeId} (h : w.heap[b]? = some (.cells c t (0, 0))) : (w.freeze ⟨b, n, none⟩ 1).heap[b]? = some (.cells c t (n, n + 1)) := by
  simp [World.freeze, Array.getElem?_modify, h]
theorem freeze_other {w : World} {b b' n : Nat} (h : b' ≠ b) : (w.freeze ⟨b, n, none⟩ 1).heap[b']? = w.heap[b']? := by
  simp [World.freeze, Array.getElem?_modify, Ne.symm h]

theorem bytesOf_is (φ : List LI) (s : ByteArray) : Is2 φ (bytesOf s) (s.data.map fun b => Value.int .u8 b.toNat).toList := by
  rw [Array.toList_map]
  unfold bytesOf
  induction s.data.toList with
  | nil => exact .nil
  | cons a l ih => exact .cons rfl ih

theorem run_stringToBytes (I : Inv φ0 H0 w0 φ H lam fr tmps w) (e : TypeId) (hbyte : byteT e = true) (s : ByteArray) (hsl : s.size ≤ Lim) (dst : Option Tmp) : ∃ u w', (Conv.stringToBytes e s).run P w = .ok u w' ∧ Res φ0 H0 w0 dst (.g (.sl (some (ln H, 0)) s.size 1)) fr (pu H (.row true e (bytesOf s))) tmps u w' := by
  let cap := grownCap w s.size 0 e
  have hcap : s.size ≤ cap := by simp [cap, grownCap, Question.cut]
  let cells : Array Value := (s.data.map fun b => Value.int .u8 b.toNat) ++ Array.replicate (cap - s.size) (.int .u8 0)
  have hcells : cells.size = cap := by
    have : s.data.size = s.size := rfl
    simp [cells, this]; omega
  let w1 := w.drew.alloc (.cells cells e)
  have hn : w1.heap[w.heap.size]? = some (.cells cells e (0, 0)) := heap_alloc_new w.drew _
  let w2 := w1.freeze ⟨w.heap.size, cells.size, none⟩ 1
  have hrun : (Conv.stringToBytes e s).run P w = .ok (.slice (some ⟨w.heap.size, 0, none⟩) s.size cap) w2 := by
    have hsh : w1.shape? w.heap.size = some (e, cells.size) := by simp [World.shape?, hn]
    have hm : (markStringish ⟨w.heap.size, 0, none⟩).run P w1 = .ok () w2 := by
      simp [markStringish, hsh, w2]
    simp only [Conv.stringToBytes, Sem.run_bind, run_choose_drew, Question.forced, if_false, Bool.false_eq_true, Result.andThen_ok, newRow, run_newObj_alloc, Sem.run_pure]
    show ((markStringish ⟨w.heap.size, 0, none⟩).run P w1).andThen _ = _
    rw [hm]
    rfl
  have hb : (bytesOf s).length = s.size := by simp [bytesOf]
  have hk : Keeps (ownB φ H) w w2 := by
    have hs : w2.heap.size = w.heap.size + 1 := by
      show (w1.freeze _ 1).heap.size = _
      simp [World.freeze, w1]
    refine ⟨rfl, rfl, rfl, by omega, fun b hb _ => ?_⟩
    rw [show w2.heap[b]? = w1.heap[b]? from freeze_other (by omega)]
    exact heap_alloc_old w.drew _ b hb
  have hrow : RowOK (φ ++ [⟨w.heap.size, 0, true, (bytesOf s).length, cap⟩]) w2 true e (bytesOf s) ⟨w.heap.size, 0, true, (bytesOf s).length, cap⟩ := by
    refine ⟨rfl, rfl, ?_, rfl, cells, e, (cells.size, cells.size + 1), freeze_at hn, fun _ => rfl, hcells, ?_, by omega, ?_⟩
    · show w.heap.size < w2.heap.size
      show _ < (w1.freeze _ 1).heap.size
      simp [World.freeze, w1]
    · intro j h1 h2
      simp at h1
      exact ⟨(by omega : cap ≤ j), fun q => by rw [hbyte] at q; cases q⟩
    · rw [hb]
      have : (cells.toList.take s.size) = (s.data.map fun b => Value.int .u8 b.toNat).toList := by
        simp only [cells, Array.toList_append]
        rw [List.take_left' (by simp)]
      rw [this]
      exact bytesOf_is _ s
  have B := Back.snoc I.rep hk (fun b hb' => by
    have := I.rep.blockLt hb'
    rw [show w2.heap[b]? = w1.heap[b]? from freeze_other (by omega)]
    exact heap_alloc_old w.drew _ b this) hrow (Nat.le_refl _)
  refine ⟨_, w2, hrun, Res.of (I.back B) ?_ dst⟩
  refine ⟨_, _, cap, by simp only [ln, ← I.rep.len]; exact List.getElem?_concat_length, rfl, .inl rfl, hcap, ?_, fun _ => ⟨rfl, ?_, ?_⟩⟩
  · show (bytesOf s).length ≤ _; omega
  · show 0 + cap * 1 ≤ cap; omega
  · exact grownCap_le_maxLen w s.size 0 e (by unfold maxLen; unfold Lim at hsl; omega)

theorem convK_ok (hT : TysOK P cx.tys) (I : Inv φ0 H0 w0 φ H lam fr tmps w) {s d : TypeId} {x : FV} {ux : Value} {K : FV → Hp → Prop} (h : convK cx s d x H K) (hx : VOK w0.heap.size φ H lam fr w x ux) (dst : Option Tmp) :
    ∃ v H' u w', K v H' ∧ (convert s d ux).run P w = .ok u w' ∧ Res φ0 H0 w0 dst v fr H' tmps u w' := by
  unfold convK at h
  rw [ck_iff, ck_iff] at h
  obtain ⟨hs, hd, h⟩ := h
  obtain ⟨ds, hds, _⟩ := run_under hT hs
  split at h
  · rename_i k k' n e1 e2
    cases hx
    obtain ⟨ha, h⟩ := ck_iff.1 h
    obtain ⟨dd, hdd, hok⟩ := run_under hT hd
    have hdd' : dd = .int k := by
      have ha : (cx.ty d).agg = false := by simpa using ha
      cases dd <;> simp [descOK, isLv, e2, ha, isSlLv, e1] at hok
      rw [hok]
    subst hdd'
    exact ⟨_, _, _, w, h, by simp [convert, run_underlying hds, run_underlying hdd, Conv.intToInt]; rfl, Res.of I (v := .g (.int _ _)) rfl dst⟩
  · rename_i e1
    cases hx
    have hdd := desc_string hT (show (cx.ty d).isA 3 = true by unfold TI.isA; rw [show (cx.ty d).ok = true from hd]; simp [e1])
    exact ⟨_, _, _, w, h, by cases ds <;> simp [convert, run_underlying hds, run_underlying hdd] <;> rfl, Res.of I (v := .g (.str _)) rfl dst⟩
  · rename_i e1
    have hdd := desc_string hT (show (cx.ty d).isA 3 = true by unfold TI.isA; rw [show (cx.ty d).ok = true from hd]; simp [e1])
    obtain ⟨ht, h⟩ := ck_iff.1 h
    obtain ⟨h8, h⟩ := ck_iff.1 h
    have hsd := desc_slice hT (isSl_iff ht).1
    have h8 := desc_u8 hT h8
    unfold rdN at h
    split at h
    · rename_i cs hc
      obtain ⟨xs, his, hl, hcase⟩ := slice_cells I.rep hx hc (fun q => q)
      rcases hcase with ⟨rfl, rfl, rfl, rfl⟩ | ⟨ad, c, rfl, hxs⟩
      · refine ⟨_, _, _, w, h, ?_, Res.of I (v := .g (.str _)) rfl dst⟩
        rw [run_convert_bytes_string w s d _ none 0 0 hsd h8 hdd]
        simp [Conv.bytesToString]; rfl
      · obtain ⟨str, hk, hr⟩ := txt_ok (P := P) (c := c) h his hl hxs
        refine ⟨_, _, _, w, hk, ?_, Res.of I (v := .g (.str _)) rfl dst⟩
        rw [run_convert_bytes_string w s d _ _ _ _ hsd h8 hdd, hr]
    · exact h.elim
  · rename_i cs n z e1
    have hdd := desc_string hT (show (cx.ty d).isA 3 = true by unfold TI.isA; rw [show (cx.ty d).ok = true from hd]; simp [e1])
    obtain ⟨ht, h⟩ := ck_iff.1 h
    obtain ⟨h8, h⟩ := ck_iff.1 h
    obtain ⟨hn, h⟩ := ck_iff.1 h
    have hsd := desc_slice hT (isSl_iff ht).1
    have h8 := desc_u8 hT h8
    obtain ⟨b, c, t, fz, rfl, _, hb, his, _⟩ := hx
    obtain ⟨str, hk, hr⟩ := txt_ok (P := P) (ad := ⟨b, 0, none⟩) (c := n) h his (beq_eq hn) (fun j y hj => by rw [add_at, Nat.zero_add, cell_of hb]; simpa using hj)
    refine ⟨_, _, _, w, hk, ?_, Res.of I (v := .g (.str _)) rfl dst⟩
    rw [run_convert_bytes_string w s d _ _ _ _ hsd h8 hdd, hr]
  · rename_i str e1
    cases hx
    obtain ⟨h8, h⟩ := ck_iff.1 h
    have hdd := desc_slice hT (show (cx.ty d).isA 1 = true by unfold TI.isA; rw [show (cx.ty d).ok = true from hd]; simp [e1])
    have h8 := desc_u8 hT h8
    obtain ⟨hbt, h⟩ := ck_iff.1 h
    obtain ⟨hsl, hK⟩ := chk_iff.1 h
    obtain ⟨u, w', hr, hres⟩ := run_stringToBytes (P := P) I (cx.ty d).el hbt str (leN_iff.1 hsl) dst
    refine ⟨_, _, u, w', hK, ?_, hres⟩
    cases ds <;> simp [convert, run_underlying hds, run_underlying hdd, run_underlying h8, hr]
  · exact h.elim


/-! ### append -/
/-- a source of cells -/
def Src (P : Program) (w : World) (size : Nat) (ux : Value) (m : Nat) (xs : List Value) : Prop :=
  (∀ w', (Builtin.lenOf ux).run P w' = .ok m w') ∧ ∀ w', w'.heap = w.heap → (Builtin.firstCells size m ux).run P w' = .ok xs.toArray w'

theorem srcK_ok (I : Inv φ0 H0 w0 φ H lam fr tmps w) {z : Nat} {y : FV} {uy : Value} {K : List GV → Nat → Prop} (h : srcK H z y K) (hz : 1 ≤ z) (hy : VOK w0.heap.size φ H lam fr w y uy) :
    ∃ cs m xs, K cs m ∧ Is2 φ cs xs ∧ (cs.length = m * z → Src P w z uy m xs) := by
  unfold srcK at h
  split at h
  · rename_i a m z'
    rw [chk_iff] at h
    obtain ⟨hzz, h⟩ := h
    unfold rdN at h
    split at h
    · rename_i cs hc
      obtain ⟨xs, his, hl, hcase⟩ := slice_cells I.rep hy hc (fun q => by rw [q]; simp)
      refine ⟨cs, m, xs, h, his, fun hm => ?_⟩
      rcases hcase with ⟨rfl, rfl, rfl, rfl⟩ | ⟨ad, c, rfl, hxs⟩
      · cases his.nil_inv
        exact ⟨fun w' => by simp [Builtin.lenOf], fun w' _ => by simp [Builtin.firstCells]⟩
      · refine ⟨fun w' => by simp [Builtin.lenOf], fun w' hw => ?_⟩
        have h1 := run_loadCells_list (P := P) w' ad xs (fun j v hv => by
          rw [World.cell?_of_block (w := w) (w' := w') (by rw [hw])]; exact hxs j v hv)
        rw [← his.length, hl] at h1
        simpa [Builtin.firstCells] using h1
    · exact h.elim
  · rename_i cs m z'
    rw [ck_iff] at h
    obtain ⟨_, h⟩ := h
    obtain ⟨b, c, t, fz, rfl, _, hb, his, _⟩ := hy
    refine ⟨cs, m, c.toList, h, his, fun hm => ⟨fun w' => by simp [Builtin.lenOf], fun w' hw => ?_⟩⟩
    have h1 := run_loadCells_list (P := P) w' ⟨b, 0, none⟩ c.toList (fun j v hv => by
      rw [add_at, Nat.zero_add, cell_of (by rw [hw]; exact hb)]; simpa using hv)
    rw [← his.length, hm] at h1
    simpa [Builtin.firstCells] using h1
  · rename_i s
    cases hy
    have hb : (bytesOf s).length = s.size := by simp [bytesOf]
    refine ⟨_, _, _, h, bytesOf_is φ s, fun hm => ?_⟩
    refine ⟨fun w' => by simp [Builtin.lenOf, szN], fun w' _ => ?_⟩
    simp only [Builtin.firstCells, Sem.run_pure, szN, Array.toArray_toList]
    have : (s.extract 0 s.size).data = s.data := by simp
    rw [this]
  · exact h.elim

section run
variable {t t' ty e : TypeId} {d' : TypeDesc} {i : TypeInfo} {zv : Value}
theorem run_append_in (ht : P.underlying t = some (.slice e)) (ht' : P.underlying t' = some d') (hd' : (∃ x, d' = .slice x) ∨ d' = .string) (hi : P.info? e = some i) (hz : i.zero = some zv) {b : Addr} {n c m : Nat} {ux : Value} {xs : List Value} (hs : Src P w i.size ux m xs) (hle : n + m ≤ c) :
    (Builtin.append_ #[t, t'] ty #[.slice (some b) n c, ux]).run P w = ((storeCells (b.add (n * i.size)) xs).run P w).andThen fun _ w' => .ok (.slice (some b) (n + m) c) w' := by
  have h1 := hs.1 w
  have h2 := hs.2 w rfl
  rcases hd' with ⟨x, rfl⟩ | rfl <;> simp [Builtin.append_, run_underlying ht, run_underlying ht', sizeOf, typeInfo, hi, h1, h2, hle]
theorem run_append_nn (ht : P.underlying t = some (.slice e)) (ht' : P.underlying t' = some d') (hd' : (∃ x, d' = .slice x) ∨ d' = .string) (hi : P.info? e = some i) (hz : i.zero = some zv) {m : Nat} {ux : Value} {xs : List Value} (hs : Src P w i.size ux m xs) (hm : m = 0) :
    (Builtin.append_ #[t, t'] ty #[.slice none 0 0, ux]).run P w = .ok (.slice none 0 0) w := by
  subst hm
  have h1 := hs.1 w
  have h2 := hs.2 w rfl
  rcases hd' with ⟨x, rfl⟩ | rfl <;> simp [Builtin.append_, run_underlying ht, run_underlying ht', sizeOf, typeInfo, hi, h1, h2]
theorem run_append_up (ht : P.underlying t = some (.slice e)) (ht' : P.underlying t' = some d') (hd' : (∃ x, d' = .slice x) ∨ d' = .string) (hi : P.info? e = some i) (hz : i.zero = some zv) {base : Option Addr} {n c m : Nat} {ux : Value} {xs olds : List Value} (hs : Src P w i.size ux m xs) (ho : (Builtin.firstCells i.size n (.slice base n c)).run P w.drew = .ok olds.toArray w.drew) (hg : c < n + m)
    (h63 : ((n + m : Nat) : Int) ≤ 9223372036854775807) (hfit : Builtin.nextslicecap (n + m) c * i.bytes ≤ 281474976710656) :
    (Builtin.append_ #[t, t'] ty #[.slice base n c, ux]).run P w = .ok (.slice (some ⟨w.heap.size, 0, none⟩) (n + m) (grownCap w (n + m) c e))
      (w.drew.alloc (.cells (olds.toArray ++ xs.toArray ++ Builtin.zeroCells zv.cells (grownCap w (n + m) c e - (n + m))) e)) := by
  have h1 := hs.1 w
  have h2 := hs.2 w.drew rfl
  have hn : ¬ (n + m ≤ c) := by omega
  have h63' : ¬ (9223372036854775807 < ((n : Int) + (m : Int))) := by omega
  have h48' : ¬ (281474976710656 < Builtin.nextslicecap (n + m) c * i.bytes) := by omega
  rcases hd' with ⟨x, rfl⟩ | rfl <;> simp [Builtin.append_, run_underlying ht, run_underlying ht', sizeOf, typeInfo, zeroValue, hi, hz, h1, h2, hn, h63', h48', Question.forced, ho, newRow, grownCap] <;>
    (congr 2; apply Array.ext'; simp [List.append_assoc])
end run


/-- a block with a told row, new -/
theorem newSl (I : Inv φ0 H0 w0 φ H lam fr tmps w) {e n cap z : Nat} {cs : List GV} {c : Array Value} (hl : cs.length = n * z) (hn : n ≤ cap) (hm : cap ≤ 9223372036854775807) (hc : c.size = cap * z) (his : Is2 φ cs (c.toList.take cs.length)) :
    ∃ φ', Back φ H w φ' (H ++ [.row true e cs]) (w.drew.alloc (.cells c e)) ∧ (GV.sl (some (ln H, 0)) n z).is φ' (.slice (some ⟨w.heap.size, 0, none⟩) n cap) := by
  have hle : n * z ≤ cap * z := Nat.mul_le_mul_right _ hn
  have B := (Back.drew I.rep).trans (Back.new (Back.drew I.rep).rep e cs c (0, 0) (by omega) his (fun j _ h => by omega))
  refine ⟨_, B, _, _, cap, by simp only [ln, ← I.rep.len]; exact List.getElem?_concat_length, rfl, .inl rfl, hn, ?_, fun _ => ⟨rfl, ?_, hm⟩⟩
  · show cs.length ≤ _; omega
  · show 0 + cap * z ≤ c.size; omega

theorem run_store_row (b o : Nat) (t : TypeId) (fz : Nat × Nat) : ∀ (vs : List Value) (k : Nat) (c : Array Value) (w : World), w.heap[b]? = some (.cells c t fz) → o + k + vs.length ≤ c.size → (∀ j, fz.1 ≤ j → j < fz.2 → c.size ≤ j) → (∀ v ∈ vs, v.oneCell' = true) →
    ∃ w' c', (storeCells ⟨b, o, none⟩ vs k).run P w = .ok () w' ∧ Keeps (fun b' => b' = b) w w' ∧ w'.heap[b]? = some (.cells c' t fz) ∧ c'.toList = c.toList.take (o + k) ++ vs ++ c.toList.drop (o + k + vs.length)
  | [], k, c, w, hb, _, _, _ => ⟨w, c, by simp [storeCells], Keeps.refl _ _, hb, by simp⟩
  | v :: vs, k, c, w, hb, hl, hf, h1 => by
    have hlt : o + k < c.size := by simp at hl; omega
    have hcell : w.cell? ⟨b, o + k, none⟩ = some c[o + k] := by rw [cell_of hb, Array.getElem?_eq_getElem hlt]
    have hfr : w.frozen? ⟨b, o + k, none⟩ = false := by
      obtain ⟨f1, f2⟩ := fz
      simp only [World.frozen?, hb]
      by_cases q : f1 ≤ o + k ∧ o + k < f2
      · have := hf _ q.1 q.2; omega
      · simp; omega
    have hst : (store ((⟨b, o, none⟩ : Addr).add k) v).run P w = .ok () (w.setCell ⟨b, o + k, none⟩ v) := by
      rw [add_at, run_store P w _ v _ (h1 v (by simp)), hcell]
      simp [hfr]
    obtain ⟨w', c', hr, hk, hb', hc'⟩ := run_store_row b o t fz vs (k + 1) (c.setIfInBounds (o + k) v) (w.setCell ⟨b, o + k, none⟩ v) (heap_setCell_at hb) (by simp at hl ⊢; omega) (fun j a b => by simpa using hf j a b) (fun x hx => h1 x (by simp [hx]))
    refine ⟨w', c', ?_, (keeps_setCell w b (o + k) v).trans hk (fun b h => .inl h), hb', ?_⟩
    · simp only [storeCells, Sem.run_bind, hst, Result.andThen_ok, hr]
    · rw [hc', Array.toList_setIfInBounds]
      have := list_set_append c.toList (o + k) v vs (by simp at hl ⊢; omega)
      rw [show o + (k + 1) = o + k + 1 by omega, ← this]
      simp


theorem grow_ok (hT : TysOK P cx.tys) (I : Inv φ0 H0 w0 φ H lam fr tmps w) {t t' ty e : TypeId} {d' : TypeDesc} (ht : P.underlying t = some (.slice e)) (ht' : P.underlying t' = some d') (hd' : (∃ x, d' = .slice x) ∨ d' = .string)
    (he : cx.okT e = true) (hz : 1 ≤ (cx.ty e).lv.length) (hb : 1 ≤ (cx.ty e).by_) {base : Option Addr} {n c m : Nat} {ux : Value} {olds xs : List Value} {ocs cs : List GV}
    (hs : Src P w (cx.ty e).lv.length ux m xs) (ho : (Builtin.firstCells (cx.ty e).lv.length n (.slice base n c)).run P w.drew = .ok olds.toArray w.drew) (hg : c < n + m) (hlim : (n + m) * (cx.ty e).by_ ≤ Lim)
    (hol : ocs.length = n * (cx.ty e).lv.length) (hcl : cs.length = m * (cx.ty e).lv.length) (hois : Is2 φ ocs olds) (his : Is2 φ cs xs) :
    ∃ φ' u w', (Builtin.append_ #[t, t'] ty #[.slice base n c, ux]).run P w = .ok u w' ∧ Back φ H w φ' (H ++ [.row true e (ocs ++ cs)]) w' ∧ (GV.sl (some (ln H, 0)) (n + m) (cx.ty e).lv.length).is φ' u := by
  obtain ⟨i, zv, hi, hsz, hzv, hzc, hby⟩ := run_info hT he
  have hlim' : (n + m) * i.bytes ≤ 140737488355328 := by rw [hby]; exact hlim
  have h63 : ((n + m : Nat) : Int) ≤ 9223372036854775807 := by
    have : (n + m) * 1 ≤ (n + m) * (cx.ty e).by_ := Nat.mul_le_mul_left _ hb
    rw [hby] at hlim'; omega
  have hr := run_append_up (P := P) (w := w) (ty := ty) ht ht' hd' hi hzv (by rw [hsz]; exact hs) (by rw [hsz]; exact ho) hg h63 (growslice_fits hg hlim')
  have hcap : n + m ≤ grownCap w (n + m) c e := by simp [grownCap, Question.cut]
  have l1 := hois.length
  have l2 := his.length
  have hzs : zv.cells.size = (cx.ty e).lv.length := by rw [← Array.length_toList, hzc]; simp
  have hzsz : (Builtin.zeroCells zv.cells (grownCap w (n + m) c e - (n + m))).size = (grownCap w (n + m) c e - (n + m)) * (cx.ty e).lv.length := by simp [Builtin.zeroCells, hzs]
  have e1 : (grownCap w (n + m) c e - (n + m)) * (cx.ty e).lv.length = grownCap w (n + m) c e * (cx.ty e).lv.length - (n + m) * (cx.ty e).lv.length := Nat.sub_mul _ _ _
  have e2 : (n + m) * (cx.ty e).lv.length ≤ grownCap w (n + m) c e * (cx.ty e).lv.length := Nat.mul_le_mul_right _ hcap
  have e3 : (n + m) * (cx.ty e).lv.length = n * (cx.ty e).lv.length + m * (cx.ty e).lv.length := Nat.add_mul _ _ _
  obtain ⟨φ', B, hv⟩ := newSl I (e := e) (n := n + m) (cap := grownCap w (n + m) c e) (z := (cx.ty e).lv.length) (cs := ocs ++ cs)
    (c := olds.toArray ++ xs.toArray ++ Builtin.zeroCells zv.cells (grownCap w (n + m) c e - (n + m)))
    (by rw [List.length_append, hol, hcl, e3]) hcap (grownCap_le_maxLen w (n + m) c e (by unfold maxLen; omega)) (by simp only [Array.size_append, List.size_toArray, hzsz]; omega)
    (by
      simp only [Array.toList_append]
      rw [List.take_left' (by simp; omega)]
      exact hois.append his)
  exact ⟨φ', _, _, hr, B, hv⟩

theorem take_seg {α : Type} (l zs : List α) (q n : Nat) (h : q + zs.length ≤ n) (hn : n ≤ l.length) : (l.take q ++ zs ++ l.drop (q + zs.length)).take n = (l.take n).take q ++ zs ++ (l.take n).drop (q + zs.length) := by
  have h1 : (l.take q ++ zs).length = q + zs.length := by simp; omega
  rw [List.take_append, List.take_of_length_le (by omega), h1, List.drop_take, List.take_take, Nat.min_eq_left (by omega)]

theorem appK_ok (hT : TysOK P cx.tys) (I : Inv φ0 H0 w0 φ H lam fr tmps w) {t t' ty : TypeId} {x y : FV} {ux uy : Value} {K : FV → Hp → Prop} (ht : cx.isSl t = true) (hf : cx.full (cx.ty t).el = true) (ht' : ((cx.ty t').isA 1 || (cx.ty t').isA 3) = true)
    (h : appK cx (cx.ty t).el x y H K) (hx : VOK w0.heap.size φ H lam fr w x ux) (hy : VOK w0.heap.size φ H lam fr w y uy) (dst : Option Tmp) :
    ∃ v H' u w', K v H' ∧ (Builtin.append_ #[t, t'] ty #[ux, uy]).run P w = .ok u w' ∧ Res φ0 H0 w0 dst v fr H' tmps u w' := by
  have ht := isSl_iff ht
  have hd := desc_slice hT ht.1
  have hd' : ∃ d', P.underlying t' = some d' ∧ ((∃ x, d' = .slice x) ∨ d' = .string) := by
    rw [Bool.or_eq_true] at ht'
    rcases ht' with q | q
    · exact ⟨_, desc_slice hT q, .inl ⟨_, rfl⟩⟩
    · exact ⟨_, desc_string hT q, .inr rfl⟩
  obtain ⟨d', hd1, hd2⟩ := hd'
  have hfull : 1 ≤ (cx.ty (cx.ty t).el).lv.length ∧ 1 ≤ (cx.ty (cx.ty t).el).by_ := by
    unfold Cx.full at hf; split at hf
    · rename_i q1 q2; exact ⟨Nat.le_of_ble_eq_true q1, Nat.le_of_ble_eq_true q2⟩
    · cases hf
  obtain ⟨hz, hb⟩ := hfull
  unfold appK at h
  obtain ⟨cs, m, xs, hK, his, hsrc⟩ := srcK_ok (P := P) I h hz hy
  replace h := hK
  clear hK
  have hxl := his.length
  split at h
  · rename_i a n z'
    rw [chk_iff] at h
    obtain ⟨hzz, h⟩ := h
    unfold ap at h
    split at h
    · rename_i a' n' H' he
      unfold app? at he
      split at he
      · rename_i hc
        obtain ⟨hlim, hcl⟩ := hc
        have hS := hsrc hcl
        split at he
        · split at he
          · rename_i e0
            subst e0
            obtain ⟨_, rfl⟩ := hx
            split at he
            · rename_i e0
              cases he
              obtain ⟨i, zv, hi, hsz, hzv, _⟩ := run_info hT ht.2
              exact ⟨_, _, _, w, h, run_append_nn hd hd1 hd2 hi hzv (by rw [hsz]; exact hS) e0, Res.of (v := .g (.sl none 0 _)) I ⟨rfl, rfl⟩ dst⟩
            · cases he
              obtain ⟨φ', u, w', hr, B, hv⟩ := grow_ok (ty := ty) hT I hd hd1 hd2 ht.2 hz hb (base := none) (n := 0) (c := 0) (olds := []) (ocs := []) hS (by simp [Builtin.firstCells]) (by omega) hlim (by simp) hcl .nil his
              rw [Nat.zero_add] at hv
              exact ⟨_, _, u, w', h, hr, Res.of (v := .g (.sl (some (ln H, 0)) _ (cx.ty (cx.ty t).el).lv.length)) (u := u) (I.back B) hv dst⟩
          · cases he
        · rename_i l o
          split at he
          · rename_i t1 cs1 hl
            split at he
            · rename_i hc1
              obtain ⟨rfl, rfl, hl1⟩ := hc1
              cases he
              obtain ⟨i, ad, c, hi, rfl, hq, hnc, hu, hown⟩ := hx
              have hz' : z' = (cx.ty (cx.ty t).el).lv.length := by rcases okz_or hzz with q | q; exact q; cases q
              rw [hz'] at hu hown
              obtain ⟨i', hi', r1, r2, r3, hp, c0, t0, fz, hblk, ht0, hs0, hfz, hle, hisr⟩ := I.rep.row l true _ cs1 hl
              rw [hi] at hi'; cases hi'
              obtain ⟨_, hcap, hc63⟩ := hown r1
              have hlt : l < φ.length := I.rep.lt hl
              by_cases hin : n + m ≤ c
              · -- in place
                obtain ⟨ii, zv, hii, hsz, hzv, _⟩ := run_info hT ht.2
                have hr := run_append_in (P := P) (w := w) (ty := ty) (b := ad) (n := n) (c := c) hd hd1 hd2 hii hzv (by rw [hsz]; exact hS) hin
                rw [hsz] at hr
                have hnm : (n + m) * (cx.ty (cx.ty t).el).lv.length ≤ c * (cx.ty (cx.ty t).el).lv.length := Nat.mul_le_mul_right _ hin
                have e3 : (n + m) * (cx.ty (cx.ty t).el).lv.length = n * (cx.ty (cx.ty t).el).lv.length + m * (cx.ty (cx.ty t).el).lv.length := Nat.add_mul _ _ _
                by_cases hs1 : i.s = 0
                · have hc0 : c = 0 := by
                    rcases Nat.eq_zero_or_pos c with q | q
                    · exact q
                    · have : 1 * 1 ≤ c * (cx.ty (cx.ty t).el).lv.length := Nat.mul_le_mul q hz
                      omega
                  have hm0 : m = 0 := by omega
                  have hn0 : n = 0 := by omega
                  subst hm0; subst hn0
                  have hcs : cs = [] := by apply List.eq_nil_of_length_eq_zero; omega
                  have hcs1 : cs1 = [] := by apply List.eq_nil_of_length_eq_zero; omega
                  subst hcs; subst hcs1
                  cases his.nil_inv
                  simp [storeCells] at hr
                  have Bd := Back.drop I.rep l
                  have hno : ¬ ownB φ (H.set l .dead) i.b := by
                    intro ⟨l2, o2, i2, g1, g2, g3, g4⟩
                    rcases set_get g1 with ⟨_, e⟩ | ⟨ne, g1⟩
                    · cases e; exact g4
                    · exact I.rep.apart l2 l o2 _ i2 i g1 hl rfl ne g2 hi g4 g3
                  obtain ⟨R, o1, o2⟩ := Bd.rep.snoc (w' := w) (own := true) (t := (cx.ty t).el) (cs := []) (i := ⟨i.b, 0, true, 0, 0⟩) (Nat.le_refl _) (fun _ _ => rfl)
                    ⟨rfl, rfl, r3, rfl, c0, t0, fz, hblk, fun q => by simp at q, by simp [hs0, hs1], fun j g1 g2 => ⟨Nat.zero_le _, fun q => by have := (hfz j g1 g2).2 q; show 0 < j; omega⟩, Nat.zero_le _, .nil⟩ (fun _ q => by simp at q) hno
                  have hrow : rowB φ H i.b := .of hl hi
                  refine ⟨_, _, _, w, h, hr, Res.of (I.go (List.prefix_append _ _) R (Keeps.refl _ _) (fun b q => ?_) (fun b q => ?_)) ?_ dst⟩
                  · rcases o1 b q with q | ⟨_, _, q⟩
                    · exact Bd.own b q
                    · simp at q
                  · rcases o2 b q with q | q
                    · rcases Bd.row b q with q | q
                      · exact .inl q
                      · obtain ⟨l2, o2, i2, g1, gv, g2, g3⟩ := ‹rowB φ (H.set l .dead) b›
                        rcases set_get g1 with ⟨_, e⟩ | ⟨_, g1⟩
                        · cases e; cases gv
                        · exact .inl ⟨l2, o2, i2, g1, gv, g2, g3⟩
                    · exact .inl (q ▸ hrow)
                  · refine ⟨⟨i.b, 0, true, 0, 0⟩, ad, c, by rw [← I.rep.len]; exact List.getElem?_concat_length, rfl, .inr hc0, by omega, by simp, fun _ => ⟨rfl, by simp [hc0], hc63⟩⟩
                · have hpos : 0 < i.s := by omega
                  have hst : ∃ w' c', (storeCells (ad.add (n * (cx.ty (cx.ty t).el).lv.length)) xs).run P w = .ok () w' ∧ Keeps (fun b' => b' = i.b) w w' ∧ w'.heap[i.b]? = some (.cells c' t0 fz) ∧ c'.toList = c0.toList.take (n * (cx.ty (cx.ty t).el).lv.length) ++ xs ++ c0.toList.drop (n * (cx.ty (cx.ty t).el).lv.length + xs.length) := by
                    rcases hq with hq | hq
                    · have := run_store_row (P := P) i.b (n * (cx.ty (cx.ty t).el).lv.length) t0 fz xs 0 c0 w hblk (by rw [hs0]; omega) (by rw [hs0]; exact fun j g1 g2 => (hfz j g1 g2).1) his.one
                      rw [hq, add_at, hp]
                      simpa using this
                    · have hm0 : m = 0 := by omega
                      subst hm0
                      have : xs = [] := by apply List.eq_nil_of_length_eq_zero; omega
                      subst this
                      exact ⟨w, c0, by simp [storeCells], Keeps.refl _ _, hblk, by simp⟩
                  obtain ⟨w', c', hsr, hk, hb', hc'⟩ := hst
                  rw [hsr] at hr
                  have hc0l : c0.toList.length = i.s := by simpa using hs0
                  have hc's : c'.size = i.s := by
                    rw [← Array.length_toList, hc']; simp; omega
                  have B := Back.pass (i' := ⟨i.b, 0, true, (cs1 ++ cs).length, i.s⟩) (cs' := cs1 ++ cs) (t' := (cx.ty t).el) I.rep hl hi hpos rfl hk
                    ⟨rfl, rfl, by have := hk.size; exact Nat.lt_of_lt_of_le r3 this, rfl, c', t0, fz, hb', ht0, hc's, hfz, by rw [hc's, List.length_append]; omega, by
                      have e4 : c'.toList.take (cs1 ++ cs).length = c0.toList.take cs1.length ++ xs := by
                        rw [hc', List.take_left' (by simp; omega), hl1]
                      rw [e4]
                      exact (Is2.mono (List.prefix_append _ _) hisr).append (Is2.mono (List.prefix_append _ _) his)⟩
                  refine ⟨_, _, _, w', h, hr, Res.of (I.back B) ?_ dst⟩
                  refine ⟨⟨i.b, 0, true, (cs1 ++ cs).length, i.s⟩, ad, c, by rw [← I.rep.len]; exact List.getElem?_concat_length, rfl, ?_, hin, ?_, fun _ => ⟨rfl, ?_, hc63⟩⟩
                  · rcases hq with hq | hq
                    · left; rw [hq, hp]
                    · exact .inr hq
                  · show (cs1 ++ cs).length ≤ _; rw [List.length_append]; omega
                  · show 0 + _ ≤ i.s; omega
              · -- a new block
                have hfc : (Builtin.firstCells (cx.ty (cx.ty t).el).lv.length n (.slice (some ad) n c)).run P w.drew = .ok (c0.toList.take cs1.length).toArray w.drew := by
                  have hlen : (c0.toList.take cs1.length).length = n * (cx.ty (cx.ty t).el).lv.length := by simp; omega
                  have h1 := run_loadCells_list (P := P) w.drew ad (c0.toList.take cs1.length) (fun j v hv => by
                    have hj := isSome_lt hv
                    rcases hq with hq | hq
                    · rw [hq, add_at, hp, Nat.zero_add]
                      rw [cell_of (w := w.drew) (b := i.b) hblk]
                      rw [List.getElem?_take] at hv
                      split at hv
                      · simpa using hv
                      · cases hv
                    · rw [hlen] at hj
                      have : n = 0 := by omega
                      subst this; omega)
                  rw [hlen] at h1
                  simpa [Builtin.firstCells] using h1
                obtain ⟨φ', u, w', hr, B, hv⟩ := grow_ok (ty := ty) hT I hd hd1 hd2 ht.2 hz hb (base := some ad) (n := n) (c := c) hS hfc (by omega) hlim hl1 hcl hisr his
                have B2 := B.trans (Back.drop B.rep l)
                rw [List.set_append_left _ _ (by rw [← I.rep.len]; exact hlt)] at B2
                exact ⟨_, _, u, w', h, hr, Res.of (v := .g (.sl (some (ln H, 0)) _ (cx.ty (cx.ty t).el).lv.length)) (u := u) (I.back B2) hv dst⟩
            · split at he
              · rename_i hc1 hle1
                cases he
                obtain ⟨i, ad, c, hi, rfl, hq, hnc, hu, hown⟩ := hx
                have hz' : z' = (cx.ty (cx.ty t).el).lv.length := by rcases okz_or hzz with q | q; exact q; cases q
                rw [hz'] at hu hown
                obtain ⟨i', hi', r1, r2, r3, hp, c0, t0, fz, hblk, ht0, hs0, hfz, hle, hisr⟩ := I.rep.row l true _ cs1 hl
                rw [hi] at hi'; cases hi'
                have e3 : (n + m) * (cx.ty (cx.ty t).el).lv.length = n * (cx.ty (cx.ty t).el).lv.length + m * (cx.ty (cx.ty t).el).lv.length := Nat.add_mul _ _ _
                have hin : n + m ≤ c := by
                  have h1 : (n + m) * (cx.ty (cx.ty t).el).lv.length ≤ c * (cx.ty (cx.ty t).el).lv.length := by omega
                  exact Nat.le_of_mul_le_mul_right h1 hz
                obtain ⟨ii, zv, hii, hsz, hzv, _⟩ := run_info hT ht.2
                have hr := run_append_in (P := P) (w := w) (ty := ty) (b := ad) (n := n) (c := c) hd hd1 hd2 hii hzv (by rw [hsz]; exact hS) hin
                rw [hsz] at hr
                have hus : i.u = cs1.length := r2
                by_cases hm0 : m = 0
                · subst hm0
                  have hcs : cs = [] := by apply List.eq_nil_of_length_eq_zero; omega
                  subst hcs
                  cases his.nil_inv
                  simp [storeCells] at hr
                  have hsame : H.set l (.row true t1 (cs1.take (o + n * (cx.ty (cx.ty t).el).lv.length) ++ [] ++ cs1.drop (o + (n + 0) * (cx.ty (cx.ty t).el).lv.length))) = H := by
                    rw [List.append_nil, Nat.add_zero, List.take_append_drop]
                    apply List.ext_getElem?
                    intro j
                    by_cases e : l = j
                    · subst e; rw [List.getElem?_set_self (List.getElem?_eq_some_iff.1 hl).1, hl]
                    · rw [List.getElem?_set_ne e]
                  rw [hsame] at h
                  exact ⟨_, _, _, w, h, hr, Res.of (v := .g (.sl (some (l, o)) _ (cx.ty (cx.ty t).el).lv.length)) I ⟨i, ad, c, hi, rfl, hq, by omega, hu, hown⟩ dst⟩
                · have hm1 : 1 * 1 ≤ m * (cx.ty (cx.ty t).el).lv.length := Nat.mul_le_mul (by omega) hz
                  have hq : ad = ⟨i.b, o, none⟩ := by
                    rcases hq with q | q
                    · rw [q, hp, Nat.zero_add]
                    · omega
                  subst hq
                  have hst := run_store_row (P := P) i.b (o + n * (cx.ty (cx.ty t).el).lv.length) t0 fz xs 0 c0 w hblk (by omega) (by rw [hs0]; exact fun j g1 g2 => (hfz j g1 g2).1) his.one
                  obtain ⟨w', c', hsr, hkp, hb', hc'⟩ := hst
                  rw [Nat.add_zero] at hc'
                  rw [add_at, hsr] at hr
                  have hc's : c'.size = i.s := by
                    rw [← Array.length_toList, hc']
                    have : c0.toList.length = i.s := by simpa using hs0
                    simp only [List.length_append, List.length_take, List.length_drop]
                    omega
                  have hcl' : (cs1.take (o + n * (cx.ty (cx.ty t).el).lv.length) ++ cs ++ cs1.drop (o + (n + m) * (cx.ty (cx.ty t).el).lv.length)).length = cs1.length := by
                    simp only [List.length_append, List.length_take, List.length_drop]
                    omega
                  have hxx : xs.length = m * (cx.ty (cx.ty t).el).lv.length := by omega
                  have hdr : o + (n + m) * (cx.ty (cx.ty t).el).lv.length = o + n * (cx.ty (cx.ty t).el).lv.length + xs.length := by omega
                  have B := Back.turn (cs' := cs1.take (o + n * (cx.ty (cx.ty t).el).lv.length) ++ cs ++ cs1.drop (o + (n + m) * (cx.ty (cx.ty t).el).lv.length)) I.rep hl hi (by omega) hkp
                    ⟨r1, by rw [hcl']; exact r2, by have := hkp.size; exact Nat.lt_of_lt_of_le r3 this, hp, c', t0, fz, hb', ht0, hc's, hfz, by rw [hcl']; omega, by
                      have hc0l : cs1.length ≤ c0.toList.length := by simpa using hle
                      have e4 := take_seg c0.toList xs (o + n * (cx.ty (cx.ty t).el).lv.length) cs1.length (by omega) hc0l
                      rw [hcl', hc', e4, hdr]
                      exact Is2.fill hisr his _ _⟩
                  exact ⟨_, _, _, w', h, hr, Res.of (v := .g (.sl (some (l, o)) _ (cx.ty (cx.ty t).el).lv.length)) (I.back B) ⟨i, _, c, hi, rfl, .inl (by rw [hp, Nat.zero_add]), hin, hu, hown⟩ dst⟩
              · cases he
          · cases he
      · cases he
    · exact h.elim
  · rename_i z0
    obtain ⟨⟨hlim, hcl⟩, h⟩ := h
    obtain ⟨b, c, t1, fz, rfl, hb0, hblk, hcis, ⟨_, hfz0⟩, hno, hnb⟩ := hx
    have hS := hsrc hcl
    by_cases hm : m = 0
    · subst hm
      have hcs : cs = [] := by apply List.eq_nil_of_length_eq_zero; omega
      subst hcs
      cases his.nil_inv
      have hc0 : c.size = 0 := by have := hcis.nil_inv; rw [← Array.length_toList, this]; rfl
      obtain ⟨ii, zv, hii, hsz, hzv, _⟩ := run_info hT ht.2
      have hr := run_append_in (P := P) (w := w) (ty := ty) (b := ⟨b, 0, none⟩) (n := 0) (c := 0) hd hd1 hd2 hii hzv (by rw [hsz]; exact hS) (by omega)
      simp [storeCells] at hr
      obtain ⟨R, o1, o2⟩ := I.rep.snoc (w' := w) (own := true) (t := (cx.ty t).el) (cs := []) (i := ⟨b, 0, true, 0, 0⟩) (Nat.le_refl _) (fun _ _ => rfl)
        ⟨rfl, rfl, (Array.getElem?_eq_some_iff.1 hblk).1, rfl, c, t1, fz, hblk, fun q => by simp at q, by simp [hc0], fun j _ g2 => (by rw [hfz0] at g2; simp at g2), Nat.zero_le _, .nil⟩ (fun _ q => by simp at q) hno
      refine ⟨_, _, _, w, h, hr, Res.of (I.go (List.prefix_append _ _) R (Keeps.refl _ _) (fun b' q => ?_) (fun b' q => ?_)) ?_ dst⟩
      · rcases o1 b' q with q | ⟨_, _, q⟩
        · exact .inl q
        · simp at q
      · rcases o2 b' q with q | q
        · exact .inl q
        · exact .inr (by rw [q]; exact ⟨hb0, hnb⟩)
      · exact ⟨⟨b, 0, true, 0, 0⟩, _, 0, by simp only [ln, ← I.rep.len]; exact List.getElem?_concat_length, rfl, .inl rfl, Nat.le_refl _, by simp, fun _ => ⟨rfl, by simp, by omega⟩⟩
    · obtain ⟨φ', u, w', hr, B, hv⟩ := grow_ok (ty := ty) hT I hd hd1 hd2 ht.2 hz hb (base := some ⟨b, 0, none⟩) (n := 0) (c := 0) (olds := []) (ocs := []) hS (by simp [Builtin.firstCells, loadCells, loadCellsFrom]) (by omega) (by simpa using hlim) (by simp) hcl .nil his
      rw [Nat.zero_add] at hv
      exact ⟨_, _, u, w', h, hr, Res.of (v := .g (.sl (some (ln H, 0)) _ (cx.ty (cx.ty t).el).lv.length)) (u := u) (I.back B) hv dst⟩
  · exact h.elim


theorem clrK_ok (hT : TysOK P cx.tys) (I : Inv φ0 H0 w0 φ H lam fr tmps w) {t ty : TypeId} {x : FV} {ux : Value} {K : FV → Hp → Prop} (h : clrK cx t x H K) (hx : VOK w0.heap.size φ H lam fr w x ux) (dst : Option Tmp) :
    ∃ v H' u w', K v H' ∧ (Builtin.clear_ #[t] ty #[ux]).run P w = .ok u w' ∧ Res φ0 H0 w0 dst v fr H' tmps u w' := by
  unfold clrK at h
  split at h
  · rename_i a n z'
    obtain ⟨ht, h⟩ := ck_iff.1 h
    obtain ⟨hf, h⟩ := ck_iff.1 h
    obtain ⟨hzz, h⟩ := chk_iff.1 h
    have ht := isSl_iff ht
    have hd := desc_slice hT ht.1
    obtain ⟨i0, zv, hi0, hsz, hzv, hzc, _⟩ := run_info hT ht.2
    have hzs : zv.cells.size = (cx.ty (cx.ty t).el).lv.length := by rw [← Array.length_toList, hzc]; simp
    cases n with
    | zero =>
      refine ⟨_, _, .tuple #[], w, h, ?_, Res.of (v := .bad) I trivial dst⟩
      cases a with
      | none => obtain ⟨_, rfl⟩ := hx; simp [Builtin.clear_, run_underlying hd]
      | some p => obtain ⟨l, o⟩ := p; obtain ⟨_, q, c, _, rfl, _⟩ := hx; simp [Builtin.clear_, run_underlying hd]
    | succ n' =>
      unfold clr at h
      dsimp only at h
      cases a with
      | none => exact h.elim
      | some p =>
        obtain ⟨l, o⟩ := p
        obtain ⟨i, ad, c, hi, rfl, hq, hnc, hu, hown⟩ := hx
        have hz' : z' = (cx.ty (cx.ty t).el).lv.length := by rcases okz_or hzz with q | q; exact q; cases q
        dsimp only at h
        split at h
        · rename_i t' cs hl
          obtain ⟨hle, hk⟩ := h
          have hzl : (zerosK (cx.ty (cx.ty t).el).lv).length = (cx.ty (cx.ty t).el).lv.length := by simp [zerosK]
          rw [hzl] at hle hk
          obtain ⟨i', hi', r1, r2, r3, hp, c0, t0, fz, hblk, ht0, hs0, hfz, hle0, his⟩ := I.rep.row l true t' cs hl
          rw [hi] at hi'; cases hi'
          have hfull : 1 ≤ (cx.ty (cx.ty t).el).lv.length := by
            unfold Cx.full at hf; split at hf
            · rename_i q1 q2; exact Nat.le_of_ble_eq_true q1
            · cases hf
          have hq : ad = ⟨i.b, o, none⟩ := by
            rcases hq with q | q
            · rw [q, hp, Nat.zero_add]
            · omega
          subst hq
          obtain ⟨q, hqo⟩ : ∃ q, q = o := ⟨_, rfl⟩
          subst hqo
          have hzis : Is2 φ ((List.replicate (n' + 1) (zerosK (cx.ty (cx.ty t).el).lv)).flatten) (Builtin.zeroCells zv.cells (n' + 1)).toList := rep_is φ _ zv.cells hzc (n' + 1) _ (by rw [hzs])
          have hzlen := hzis.length
          have hzlen2 : (Builtin.zeroCells zv.cells (n' + 1)).toList.length = (n' + 1) * (cx.ty (cx.ty t).el).lv.length := by simp [Builtin.zeroCells, hzs]
          have hpos : 1 * 1 ≤ (n' + 1) * (cx.ty (cx.ty t).el).lv.length := Nat.mul_le_mul (by omega) hfull
          obtain ⟨w', c', hr, hkp, hb', hc'⟩ := run_store_row (P := P) i.b q t0 fz (Builtin.zeroCells zv.cells (n' + 1)).toList 0 c0 w hblk (by omega) (by rw [hs0]; exact fun j g1 g2 => (hfz j g1 g2).1) hzis.one
          have hc's : c'.size = i.s := by
            rw [← Array.length_toList, hc']
            have : c0.toList.length = i.s := by simpa using hs0
            simp only [List.length_append, List.length_take, List.length_drop]
            omega
          have hcl : (cs.take q ++ (List.replicate (n' + 1) (zerosK (cx.ty (cx.ty t).el).lv)).flatten ++ cs.drop (q + (n' + 1) * (cx.ty (cx.ty t).el).lv.length)).length = cs.length := by
            simp only [List.length_append, List.length_take, List.length_drop]
            omega
          have B := Back.turn (cs' := cs.take q ++ (List.replicate (n' + 1) (zerosK (cx.ty (cx.ty t).el).lv)).flatten ++ cs.drop (q + (n' + 1) * (cx.ty (cx.ty t).el).lv.length)) I.rep hl hi (by omega) hkp
            ⟨r1, by rw [hcl]; exact r2, by have := hkp.size; exact Nat.lt_of_lt_of_le r3 this, hp, c', t0, fz, hb', ht0, hc's, hfz, by rw [hcl]; omega, by
              have e4 : c'.toList.take cs.length = ((c0.toList.take cs.length).take q) ++ (Builtin.zeroCells zv.cells (n' + 1)).toList ++ ((c0.toList.take cs.length).drop (q + (n' + 1) * (cx.ty (cx.ty t).el).lv.length)) := by
                rw [hc', hzlen2]
                have hc0l : cs.length ≤ c0.toList.length := by simpa using hle0
                have := take_seg c0.toList (Builtin.zeroCells zv.cells (n' + 1)).toList q cs.length (by omega) hc0l
                rw [hzlen2] at this
                exact this
              rw [hcl, e4]
              exact Is2.fill his hzis _ _⟩
          refine ⟨_, _, .tuple #[], w', hk, ?_, Res.of (v := .bad) (I.back B) trivial dst⟩
          have hrun : (storeCells ⟨i.b, q, none⟩ (Builtin.zeroCells zv.cells (n' + 1)).toList).run P w = .ok () w' := hr
          simp [Builtin.clear_, run_underlying hd, zeroValue, typeInfo, hi0, hzv, hrun]
        · exact h.elim
  · exact h.elim

end
end Go.Am
namespace Go.Am

theorem FV.is.mono {φ φ' : List LI} (h : φ <+: φ') {v : FV} {x : Value} (hv : v.is φ x) : v.is φ' x := by
  cases v with
  | g v => exact GV.is.mono h hv
  | agg cs => obtain ⟨us, h1, h2⟩ := hv; exact ⟨us, h1, Is2.mono h h2⟩
  | tup vs => obtain ⟨us, h1, h2⟩ := hv; exact ⟨us, h1, h2.imp fun _ _ => RV.is.mono h⟩
  | _ => exact hv.elim

/-- what a call comes back with -/
def PostOf (φ : List LI) (H : Hp) (w : World) (Q : Post) : Ending → World → Prop := fun e w' => ∃ r H' φ' x, Q r H' ∧ e = .returned x ∧ r.is φ' x ∧ Back φ H w φ' H' w'
/-- a call as an operation makes it -/
def CallsC (P : Program) (f : FuncId) (args : Array Value) (w : World) (R : Ending → World → Prop) : Prop :=
  ((callFunc f args).run P w = .ok (.enter f args) w ∧ Calls P f args w R) ∨ ∃ x w', (callFunc f args).run P w = .ok (.value x) w' ∧ R (.returned x) w'
def SoundC (P : Program) (f : FuncId) (s : Sm) : Prop :=
  ∀ as H Q, s as H Q → ∀ φ w vs, RepH φ H w → All2 (FV.is φ) as vs → CallsC P f vs.toArray w (PostOf φ H w Q)
/-- a function with a body of its own -/
def Bodied (P : Program) (f : FuncId) : Prop := ∃ fn, P.funcs[f]? = some fn ∧ (fn.name == "runtime.NumGoroutine") = false ∧ fn.body.isNone = false
theorem Sound.c {P : Program} {f : FuncId} {s : Sm} (h : Sound P f s) (hb : Bodied P f) : SoundC P f s := by
  intro as H Q hs φ w vs hr ha
  obtain ⟨fn, h1, h2, h3⟩ := hb
  have h2' : ¬ fn.name = "runtime.NumGoroutine" := by simpa using h2
  have h3' : ¬ fn.body = none := by intro e; rw [e] at h3; cases h3
  exact .inl ⟨by simp [callFunc, h1, h2', h3'], h as H Q hs φ w vs hr ha⟩

section
variable {P : Program} {cx : Cx} {φ : List LI} {H : Hp} {lam : Nat → Nat} {fr : List FV} {w : World} {φ0 : List LI} {H0 : Hp} {w0 : World} {tmps : Array Value}

theorem evT_ok (I : Inv φ0 H0 w0 φ H lam fr tmps w) (df : List Deferred) (t : Nat) (x : Operand) : VOK w0.heap.size φ H lam fr w (evT cx t (ev fr) x) (Act.eval ⟨tmps, df⟩ x) := by
  unfold evT
  split
  · exact ⟨rfl, rfl⟩
  · exact I.ev df x
theorem argsK_ok (df : List Deferred) : ∀ {xs : List Operand} {ts : List Nat} {φ : List LI} {H : Hp} {K : List FV → Hp → Prop}, Inv φ0 H0 w0 φ H lam fr tmps w → argsK cx (ev fr) xs ts H K →
    ∃ as H' φ', K as H' ∧ All2 (FV.is φ') as (xs.map (Act.eval ⟨tmps, df⟩)) ∧ Inv φ0 H0 w0 φ' H' lam fr tmps w ∧ φ <+: φ'
  | [], ts, φ, H, K, I, h => ⟨[], H, φ, h, .nil, I, List.prefix_refl _⟩
  | x :: xs, ts, φ, H, K, I, h => by
    have hv := evT_ok (cx := cx) I df (hdN ts) x
    have h' : (match evT cx (hdN ts) (ev fr) x with
      | .g v => argsK cx (ev fr) xs (tlN ts) H fun r H => K (.g v :: r) H
      | .agg cs => argsK cx (ev fr) xs (tlN ts) H fun r H => K (.agg cs :: r) H
      | .bs cs n z => argsK cx (ev fr) xs (tlN ts) (pu H (.row false lentT cs)) fun r H' => K (.g (.sl (some (ln H, 0)) n z) :: r) H'
      | _ => False) := h
    split at h'
    · rename_i v e
      rw [e] at hv
      obtain ⟨as, H', φ', h1, h2, h3, h4⟩ := argsK_ok df I h'
      exact ⟨_, H', φ', h1, .cons (FV.is.mono (v := .g v) h4 hv) h2, h3, h4⟩
    · rename_i v e
      rw [e] at hv
      obtain ⟨as, H', φ', h1, h2, h3, h4⟩ := argsK_ok df I h'
      exact ⟨_, H', φ', h1, .cons (FV.is.mono (v := .agg v) h4 hv) h2, h3, h4⟩
    · rename_i cs n z e
      rw [e] at hv
      obtain ⟨b, c, t, fz, e1, hb0, hblk, hcis, ⟨hl, rfl⟩, hno, hnb⟩ := hv
      obtain ⟨R, o1, o2⟩ := I.rep.snoc (w' := w) (own := false) (t := lentT) (cs := cs) (i := ⟨b, 0, false, cs.length, 0⟩) (Nat.le_refl _) (fun _ _ => rfl)
        ⟨rfl, rfl, (Array.getElem?_eq_some_iff.1 hblk).1, fun j v hj => by
          obtain ⟨x, hx, hvx⟩ := hcis.get hj
          exact ⟨x, by rw [Nat.zero_add, cell_of hblk]; simpa using hx, GV.is.mono (List.prefix_append _ _) hvx⟩, fun _ => ⟨rfl, _, _, hblk⟩⟩ (fun q => by cases q) hno
      have I2 := I.go (List.prefix_append _ _) R (Keeps.refl _ _) (fun b' q => (o1 b' q).imp_right fun q => by cases q.1) (fun b' q => (o2 b' q).imp_right fun q => by rw [q]; exact ⟨hb0, hnb⟩)
      obtain ⟨as, H', φ', h1, h2, h3, h4⟩ := argsK_ok df I2 h'
      refine ⟨_, H', φ', h1, .cons ?_ h2, h3, (List.prefix_append _ _).trans h4⟩
      rw [e1]
      exact ⟨⟨b, 0, false, cs.length, 0⟩, _, n, pre_get h4 (by simp only [ln, ← I.rep.len]; exact List.getElem?_concat_length), rfl, .inl rfl, Nat.le_refl _, by show cs.length ≤ _; omega, fun q => by cases q⟩
    · exact h'.elim

theorem wp_val {o : Oper} {a : Act} {next : Act → World → Prop} {Q : Exit → Act → World → Prop} {u : Value} {w' : World} (h : (execOp a.eval o).run P w = .ok (.value u) w') (hn : next (a.put o.dst u) w') : o.wp P a w next Q := by
  unfold Oper.wp; rw [h]; exact hn
theorem wp_unit {o : Oper} {a : Act} {next : Act → World → Prop} {Q : Exit → Act → World → Prop} {w' : World} (h : (execOp a.eval o).run P w = .ok .skip w') (hn : next (a.put o.dst undef) w') : o.wp P a w next Q := by
  unfold Oper.wp; rw [h]; exact hn

/-- a call -/
theorem call_ok (I : Inv φ0 H0 w0 φ H lam fr tmps w) {o : Oper} {df : List Deferred} {f : FuncId} {s : Sm} {as : List FV} {vs : List Value} {K : FV → Hp → Prop} (hS : SoundC P f s) (hs : cl s as H fun r H => dRes cx o.type r fun r => K r H)
    (ha : All2 (FV.is φ) as vs) (hx : (execOp (Act.eval ⟨tmps, df⟩) o).run P w = (callFunc f vs.toArray).run P w) {next : Act → World → Prop} {Q : Exit → Act → World → Prop}
    (hn : ∀ v H' u w', K v H' → Res φ0 H0 w0 o.dst v fr H' tmps u w' → next ((⟨tmps, df⟩ : Act).put o.dst u) w') : o.wp P ⟨tmps, df⟩ w next Q := by
  have fin : ∀ e w', PostOf φ H w (fun r H => dRes cx o.type r fun r => K r H) e w' → ∃ x, e = .returned x ∧ next ((⟨tmps, df⟩ : Act).put o.dst x) w' := by
    intro e w' ⟨r, H', φ', x, hq, he, hr, B⟩
    obtain ⟨r', hk, hr'⟩ := dRes_ok cx hq
    exact ⟨x, he, hn _ _ _ _ hk (Res.of (I.back B) (hr' _ _ _ _ _ _ _ hr) o.dst)⟩
  rcases hS as H _ hs φ w vs I.rep ha with ⟨h1, h2⟩ | ⟨x, w', h1, h2⟩
  · unfold Oper.wp
    rw [hx, h1, Oper.upon_enter]
    refine h2.mono fun e w' q => ?_
    obtain ⟨x, rfl, hq⟩ := fin e w' q
    exact hq
  · obtain ⟨x', e, hq⟩ := fin _ _ h2
    cases e
    exact wp_val (by rw [hx, h1]) hq


theorem caps_is {caps : List (Nat × Nat)} {xs : List Value} (h : All2 (capIs φ) caps xs) : All2 (FV.is φ) (caps.map capV) xs := by
  induction h with
  | nil => exact .nil
  | cons h _ ih => exact .cons h ih

theorem asBool_bool (b : Bool) : (asBool (.bool b)).run P w = .ok b w := rfl

theorem method_ptr {t : TypeId} {n : String} {i : TypeInfo} {m : Method} {e : TypeId} {f : FuncId} {u : Value} (hi : P.info? t = some i) (hf : i.methods.find? (·.name == n) = some m) (hp : m.path = #[]) (hm : m.func = some (f, true)) (hd : P.underlying t = some (.pointer e)) :
    (method (P.types.size + Made.depth) t u n).run P w = .ok (f, u) w := by
  show (method ((P.types.size + 99) + 1) t u n).run P w = _
  unfold method
  simp [typeInfo, hi, hf, hp, hm, follow, receiverAt, run_underlying hd, Place.get]
theorem wrapNil {xt t : TypeId} {ad : Addr} {a b : ByteArray} : (Builtin.ssaWrapNilChk_ #[xt] t #[.pointer (some ad), .string a, .string b]).run P w = .ok (.pointer (some ad)) w := rfl
theorem method_val {t : TypeId} {n : String} {i : TypeInfo} {m : Method} {e : TypeId} {f : FuncId} {ad : Addr} {x : Value} (hi : P.info? t = some i) (hf : i.methods.find? (·.name == n) = some m) (hp : m.path = #[]) (hm : m.func = some (f, false)) (hd : P.underlying t = some (.pointer e)) (hl : (loadVar e ad).run P w = .ok x w) :
    (method (P.types.size + Made.depth) t (.pointer (some ad)) n).run P w = .ok (f, x) w := by
  show (method ((P.types.size + 99) + 1) t (.pointer (some ad)) n).run P w = _
  unfold method
  simp [typeInfo, hi, hf, hp, hm, follow, receiverAt, run_underlying hd, Place.get, wrapNil, strVal, asAddr, hl]

theorem loadK_ptr {cx : Cx} {t : Nat} {v : GV} {B : Nat → FV} {H : Hp} {K : FV → Prop} (h : loadK cx t (.g v) B H K) : ∃ q, v = .ptr (some q) := by
  cases v with
  | ptr a => cases a with
    | none => exact h.elim
    | some q => exact ⟨q, rfl⟩
  | _ => exact h.elim
theorem invoke_run {t : TypeId} {n : String} {f : FuncId} {u x : Value} {args : Array Value} (hm : (method (P.types.size + Made.depth) t u n).run P w = .ok (f, x) w) :
    (invoke { target := .fn (.method n) #[], args := #[.iface t u] ++ args : Deferred }.target (#[.iface t u] ++ args)).run P w = (callFunc f (#[x] ++ args)).run P w := by
  have e0 : (#[Value.iface t u] ++ args)[0]? = some (.iface t u) := by simp [Array.getElem?_append]
  have e1 : (#[Value.iface t u] ++ args).extract 1 (#[Value.iface t u] ++ args).size = args := by
    apply Array.ext'
    simp
  simp only [invoke, e0, e1, callMethod, Sem.run_bind]
  simp [hm]

theorem opE_ok (hT : TysOK P cx.tys) (hE : ∀ f s, cx.env.lookup f = some s → SoundC P f s) (hD : ∀ f, SoundC P f (cx.dyn f)) (I : Inv φ0 H0 w0 φ H lam fr tmps w) (df : List Deferred) {o : Oper} {K : FV → Hp → Prop} (h : opE cx o (ev fr) (fun s => fr.getD s .bad) H K)
    {next : Act → World → Prop} {Q : Exit → Act → World → Prop} (hn : ∀ v H' u w', K v H' → Res φ0 H0 w0 o.dst v fr H' tmps u w' → next ((⟨tmps, df⟩ : Act).put o.dst u) w') : o.wp P ⟨tmps, df⟩ w next Q := by
  have pure1 : ∀ {v u}, K v H → (execOp (Act.eval ⟨tmps, df⟩) o).run P w = .ok (.value u) w → VOK w0.heap.size φ H lam fr w v u → o.wp P ⟨tmps, df⟩ w next Q := fun hk hr hv => wp_val hr (hn _ _ _ _ hk (Res.of I hv o.dst))
  unfold opE at h
  cases ho : o.op with
  | move x =>
    rw [ho] at h
    exact pure1 h (by simp [execOp, ho]) (evT_ok I df _ _)
  | assign x =>
    rw [ho] at h
    exact pure1 h (by simp [execOp, ho]) (evT_ok I df _ _)
  | pick c a b =>
    rw [ho] at h
    replace h : (match ev fr c with | .g (.bool t) => bite t (K (ev fr a) H) (K (ev fr b) H) | _ => False) := h
    have hc := I.ev df c
    split at h
    · rename_i t e
      rw [e] at hc
      have hc : Act.eval ⟨tmps, df⟩ c = .bool t := hc
      cases t with
      | true => exact pure1 h (by simp [execOp, ho, hc, asBool_bool]) (I.ev df a)
      | false => exact pure1 h (by simp [execOp, ho, hc, asBool_bool]) (I.ev df b)
    · exact h.elim
  | build t parts =>
    rw [ho] at h
    obtain ⟨ht, h⟩ := ck_iff.1 h
    obtain ⟨hk0, h⟩ := ck_iff.1 h
    obtain ⟨hfs, h⟩ := ck_iff.1 h
    obtain ⟨cs, u, hk, hr, hv⟩ := build_ok (P := P) hT I df ht (beq_eq hk0) hfs h
    exact pure1 hk (by simp [execOp, ho, hr]) hv
  | buildSlice t n parts =>
    rw [ho] at h
    obtain ⟨ht, h⟩ := ck_iff.1 h
    obtain ⟨hz, h⟩ := ck_iff.1 h
    obtain ⟨hn2, h⟩ := ck_iff.1 h
    obtain ⟨cs, cells, hk, hl, hl2, his, hr⟩ := run_buildSlice (P := P) hT I df ht (Nat.le_of_ble_eq_true hz) (Nat.le_of_ble_eq_true hn2) h
    have hw : (execOp (Act.eval ⟨tmps, df⟩) o).run P w = .ok (.value (.slice (some ⟨w.heap.size, 0, none⟩) n n)) (w.alloc (.cells cells (cx.ty t).el)) := by simp [execOp, ho, hr]
    split at hk
    · have B := Back.new I.rep (cx.ty t).el cs cells (0, 0) (by omega) (by rw [List.take_of_length_le (by simp; omega)]; exact his) (fun j _ h => by omega)
      refine wp_val hw (hn _ _ _ _ hk (Res.of (v := .g (.sl (some (ln H, 0)) n _)) (I.back B) ?_ o.dst))
      refine ⟨_, _, n, by simp only [ln, ← I.rep.len]; exact List.getElem?_concat_length, rfl, .inl rfl, Nat.le_refl _, ?_, fun _ => ⟨rfl, ?_, ?_⟩⟩
      · show cs.length ≤ _; omega
      · show 0 + _ ≤ cells.size; omega
      · have h1 := Nat.le_of_ble_eq_true hn2
        have h2 : n * 1 ≤ n * (cx.ty (cx.ty t).el).lv.length := Nat.mul_le_mul_left _ (Nat.le_of_ble_eq_true hz)
        omega
    · refine wp_val hw (hn _ _ _ _ hk (Res.of (I.alloc _) ?_ o.dst))
      refine ⟨w.heap.size, cells, (cx.ty t).el, (0, 0), rfl, I.keeps.size, heap_alloc_new w _, his, ⟨hl, rfl⟩, fun q => ?_, fun q => ?_⟩
      · have := I.rep.blockLt q.row; omega
      · have := (I.boxLt q).1; omega
  | load t a =>
    rw [ho] at h
    obtain ⟨ht, h⟩ := ck_iff.1 h
    obtain ⟨v, u, hk, hr, hv⟩ := loadK_ok (P := P) hT I ht h (I.ev df a)
    exact pure1 hk (by simp [execOp, ho, hr]) hv
  | nilCheck x =>
    rw [ho] at h
    replace h : (match ev fr x with
      | .lp s p => K (.lp s p) H
      | .g (.ptr a) => pS a fun l p => K (.g (.ptr (some (l, p)))) H
      | _ => False) := h
    have hv := I.ev df x
    split at h
    · rename_i s p e
      rw [e] at hv
      have hv' : Act.eval ⟨tmps, df⟩ x = .pointer (some ⟨lam s, p, none⟩) := hv
      exact pure1 h (u := Act.eval ⟨tmps, df⟩ x) (by simp [execOp, ho, hv']) hv
    · rename_i a e
      rw [e] at hv
      cases a with
      | none => exact h.elim
      | some p =>
        obtain ⟨i, hi, hv'⟩ := id hv
        exact pure1 h (u := Act.eval ⟨tmps, df⟩ x) (by simp [execOp, ho, hv']) hv
    · exact h.elim
  | binOp op t x y yt =>
    rw [ho] at h
    obtain ⟨v, u, hk, hr, hv⟩ := binK_ok (P := P) (ox := x) (oy := y) hT h (I.ev df x) (I.ev df y)
    refine pure1 hk ?_ hv
    simp only [execOp, ho]
    rw [Sem.run_bind, hr]; rfl
  | unOp op t x =>
    rw [ho] at h
    obtain ⟨v, u, hk, hr, hv⟩ := unK_ok (P := P) h (I.ev df x)
    exact pure1 hk (by simp [execOp, ho, hr]) hv
  | convert s d x =>
    rw [ho] at h
    obtain ⟨v, H', u, w', hk, hr, hres⟩ := convK_ok (P := P) hT I h (I.ev df x) o.dst
    exact wp_val (by simp [execOp, ho, hr]) (hn _ _ _ _ hk hres)
  | makeInterface t x =>
    rw [ho] at h
    obtain ⟨ht, h⟩ := ck_iff.1 h
    obtain ⟨hi, h⟩ := ck_iff.1 h
    have hv := I.ev df x
    split at h
    · rename_i v e
      rw [e] at hv
      obtain ⟨d, hd, hok⟩ := run_under hT ht
      refine pure1 h (u := .iface t (Act.eval ⟨tmps, df⟩ x)) ?_ ⟨_, rfl, hv⟩
      cases d with
      | interface ms =>
        simp [descOK] at hok
        have := isLv_eq hok.2
        simp [TI.isIface, this, hok.1] at hi
      | _ => simp [execOp, ho, Instr.makeInterface, run_underlying hd]
    · exact h.elim
  | makeFunc fn first caps =>
    rw [ho] at h
    dsimp only at h
    split at h
    · rename_i f e
      obtain ⟨cs, hk, hcs⟩ := capsK_ok I df h
      have e' : first = #[] := by simpa using e
      subst e'
      refine pure1 hk (u := .func (.func f) #[] (caps.map (Act.eval ⟨tmps, df⟩))) (by simp [execOp, ho, Instr.makeFunc]) ⟨_, ?_, hcs⟩
      congr 1
      apply Array.ext'
      simp
    · exact h.elim
  | makeSlice t l c =>
    rw [ho] at h
    dsimp only at h
    split at h
    · obtain ⟨v, H', u, w', hk, hr, hres⟩ := mkslK_ok (P := P) hT I h (I.ev df l) (I.ev df c) o.dst
      exact wp_val (by simp [execOp, ho, hr]) (hn _ _ _ _ hk hres)
    · obtain ⟨v, u, w', hk, hr, hres⟩ := mkslB_ok (P := P) hT I h (I.ev df l) (I.ev df c) o.dst
      exact wp_val (by simp [execOp, ho, hr]) (hn _ _ _ _ hk hres)
  | slice t x lo hi mx =>
    rw [ho] at h
    cases mx with
    | some m =>
      obtain ⟨v, u, hk, hr, hv⟩ := slice3K_ok (P := P) hT I df h (I.ev df x)
      refine pure1 hk ?_ hv
      simp only [execOp, ho]
      rw [Sem.run_bind, hr]; rfl
    | none =>
      obtain ⟨v, u, hk, hr, hv⟩ := sliceK_ok (P := P) hT I df h (I.ev df x)
      refine pure1 hk ?_ hv
      simp only [execOp, ho]
      rw [Sem.run_bind, Option.map_none, hr]; rfl
  | fieldAddr t x f =>
    rw [ho] at h
    replace h : (match (cx.ty t).fs[f]? with
      | some (p, e) => ck (cx.ty t).agg <| ck (cx.okT e) <| ck (Nat.ble 1 (cx.ty e).lv.length) <| fldK (ev fr x) p fun v => K v H
      | none => False) := h
    split at h
    · rename_i p e hf
      obtain ⟨ht, h⟩ := ck_iff.1 h
      obtain ⟨he, h⟩ := ck_iff.1 h
      obtain ⟨hp, h⟩ := ck_iff.1 h
      obtain ⟨v, u, hk, hr, hv⟩ := fldK_ok (P := P) hT ht he (Nat.le_of_ble_eq_true hp) hf h (I.ev df x)
      exact pure1 hk (by simp [execOp, ho, hr]) hv
    · exact h.elim
  | field t x f =>
    rw [ho] at h
    replace h : (match (cx.ty t).fs[f]?, ev fr x with
      | some (p, t'), .agg cs => ck (cx.ty t).agg <| ck (cx.okT t') <| cutK cs p (cx.ty t').lv.length (cx.ty t').agg fun v => K v H
      | _, _ => False) := h
    have hv := I.ev df x
    split at h
    · rename_i p t' cs hf e
      rw [e] at hv
      obtain ⟨ht, h⟩ := ck_iff.1 h
      obtain ⟨he, h⟩ := ck_iff.1 h
      obtain ⟨v, u, hk, hr, hv⟩ := field_ok (P := P) hT ht he hf h hv
      exact pure1 hk (by simp [execOp, ho, hr]) hv
    · exact h.elim
  | indexAddr t x i =>
    rw [ho] at h
    obtain ⟨v, u, hk, hr, hv⟩ := idxK_ok (P := P) hT h (I.ev df x) (I.ev df i)
    exact pure1 hk (by simp [execOp, ho, hr]) hv
  | index t x i =>
    rw [ho] at h
    replace h : (match ev fr x, ev fr i with
      | .g (.str s), .g (.int _ j) => ck ((cx.ty t).isA 3) <| chk (leI 0 j && ltI j (sz s)) (K (gi .u8 (byt s (tN j))) H)
      | _, _ => False) := h
    have hv := I.ev df x
    have hvi := I.ev df i
    split at h
    · rename_i s k j e1 e2
      rw [e1] at hv; rw [e2] at hvi
      have hv : Act.eval ⟨tmps, df⟩ x = .string s := hv
      have hvi : Act.eval ⟨tmps, df⟩ i = .int k j := hvi
      obtain ⟨ht, h⟩ := ck_iff.1 h
      obtain ⟨hj, h⟩ := chk_iff.1 h
      rw [Bool.and_eq_true] at hj
      have hr := index_ok (P := P) (w := w) (k := k) hT ht (leI_iff.1 hj.1) (ltI_iff.1 hj.2)
      exact pure1 h (by simp [execOp, ho, hv, hvi, hr]) rfl
    · exact h.elim
  | extract x i =>
    rw [ho] at h
    replace h : (match ev fr x with
      | .tup vs => match vs[i]? with | some (.s v) => K (.g v) H | some (.a cs) => K (.agg cs) H | none => False
      | _ => False) := h
    have hv := I.ev df x
    split at h
    · rename_i vs e
      rw [e] at hv
      obtain ⟨us, hu, hall⟩ := hv
      split at h
      · rename_i v hg
        obtain ⟨u, hr, hru⟩ := extract_ok (P := P) (w := w) hall hg
        exact pure1 h (by simp [execOp, ho, hu, hr]) hru
      · rename_i cs hg
        obtain ⟨u, hr, hru⟩ := extract_ok (P := P) (w := w) hall hg
        exact pure1 h (by simp [execOp, ho, hu, hr]) hru
      · exact h.elim
    · exact h.elim
  | call c =>
    rw [ho] at h
    dsimp only at h
    have dyn : ∀ f, c.callee = .value f → (match ev fr f with
        | .g v => dF v fun f caps => argsK cx (ev fr) c.args.toList c.argTypes.toList H fun as H => cl (cx.dyn f) (cpl as caps) H fun r H => dRes cx o.type r fun r => K r H
        | _ => False) → o.wp P ⟨tmps, df⟩ w next Q := by
      intro f hc h
      have hv := I.ev df f
      split at h
      · rename_i v e
        rw [e] at hv
        cases v <;> first | exact h.elim | skip
        rename_i g caps
        replace h : argsK cx (ev fr) c.args.toList c.argTypes.toList H fun as H => cl (cx.dyn g) (cpl as caps) H fun r H => dRes cx o.type r fun r => K r H := h
        obtain ⟨xs, hv, hcaps⟩ := hv
        obtain ⟨as, H', φ', hk, has, I', hpre⟩ := argsK_ok df I h
        refine call_ok (vs := c.args.toList.map (Act.eval ⟨tmps, df⟩) ++ xs) I' (hD g) hk (has.append (caps_is (hcaps.imp fun _ _ => capIs.mono hpre))) ?_ hn
        simp [execOp, ho, resolve, hc, hv, Deferred.ofValue, invoke]
        congr 2
        apply Array.ext'
        simp
      · exact h.elim
    cases hc : c.callee with
    | value f =>
      rw [hc] at h
      cases f with
      | func f =>
        replace h : (match cx.env.lookup f with
          | some sem => argsK cx (ev fr) c.args.toList c.argTypes.toList H fun as H => cl sem as H fun r H => dRes cx o.type r fun r => K r H
          | none => False) := h
        split at h
        · rename_i sem he
          obtain ⟨as, H', φ', hk, has, I', _⟩ := argsK_ok df I h
          refine call_ok I' (hE f sem he) hk has ?_ hn
          simp [execOp, ho, resolve, hc, Act.eval, Deferred.ofValue, invoke]
          congr 2
          apply Array.ext'
          simp
        · exact h.elim
      | tmp t => exact dyn _ hc h
      | const v => exact dyn _ hc h
      | global g => exact dyn _ hc h
    | builtin b =>
      rw [hc] at h
      dsimp only at h
      have arr : ∀ {α : Type} {xs : Array α} {l : List α}, xs.toList = l → xs = l.toArray := by
        intro α xs l e; rw [← e]
      split at h
      · rename_i x ha
        have ha := arr ha
        split at h
        · rename_i t e
          have e := arr e
          obtain ⟨v, u, hk, hr, hv⟩ := lenK_ok (P := P) (ty := o.type) hT h (I.ev df x)
          exact pure1 hk (by simp [execOp, ho, resolve, hc, ha, e, invoke, builtin, hr]) hv
        · exact h.elim
      · rename_i x ha
        have ha := arr ha
        split at h
        · rename_i t e
          have e := arr e
          obtain ⟨v, H', u, w', hk, hr, hres⟩ := clrK_ok (P := P) (ty := o.type) hT I h (I.ev df x) o.dst
          exact wp_val (by simp [execOp, ho, resolve, hc, ha, e, invoke, builtin, hr]) (hn _ _ _ _ hk hres)
        · exact h.elim
      · rename_i x y ha
        have ha := arr ha
        obtain ⟨v, u, hk, hr, hv⟩ := min2K_ok (P := P) h (I.ev df x) (I.ev df y)
        exact pure1 hk (by simp [execOp, ho, resolve, hc, ha, invoke, builtin, Builtin.min_, hr]) hv
      · rename_i x y ha
        have ha := arr ha
        obtain ⟨v, u, hk, hr, hv⟩ := min2K_ok (P := P) h (I.ev df x) (I.ev df y)
        exact pure1 hk (by simp [execOp, ho, resolve, hc, ha, invoke, builtin, Builtin.max_, hr]) hv
      · rename_i x y ha
        have ha := arr ha
        split at h
        · rename_i t t' e
          have e := arr e
          obtain ⟨h1, h⟩ := ck_iff.1 h
          obtain ⟨h2, h⟩ := ck_iff.1 h
          obtain ⟨h3, h⟩ := ck_iff.1 h
          obtain ⟨v, H', u, w', hk, hr, hres⟩ := appK_ok (P := P) (ty := o.type) hT I h1 h2 h3 h (I.ev df x) (I.ev df y) o.dst
          exact wp_val (by simp [execOp, ho, resolve, hc, ha, e, invoke, builtin, hr]) (hn _ _ _ _ hk hres)
        · exact h.elim
      · exact h.elim
    | invoke r n =>
      rw [hc] at h
      replace h : (match ev fr r with
        | .g (.iface t wv) => match mth (cx.ty t).ms n with
          | some (f, b) => match cx.env.lookup f with
            | some sem => argsK cx (ev fr) c.args.toList c.argTypes.toList H fun as H' => recvK cx t b wv (fun s => fr.getD s .bad) H fun x => cl sem (x :: as) H' fun r H => dRes cx o.type r fun r => K r H
            | none => False
          | none => False
        | _ => False) := h
      have hv := I.ev df r
      split at h
      · rename_i t wv e
        rw [e] at hv
        obtain ⟨u, hu, hw⟩ := hv
        split at h
        · rename_i f b hm
          split at h
          · rename_i sem he
            obtain ⟨as, H', φ', hk, has, I', hpre⟩ := argsK_ok df I h
            obtain ⟨i, m, hi, hfind, hpath, hfunc⟩ := hT.2.2 t n f b hm
            unfold recvK at hk
            split at hk
            · rename_i hptr
              have hd := desc_pointer hT hptr
              split at hk
              · refine call_ok (vs := u :: c.args.toList.map (Act.eval ⟨tmps, df⟩)) I' (hE f sem he) hk (.cons (GV.is.mono hpre hw) has) ?_ hn
                have e := invoke_run (args := c.args.map (Act.eval ⟨tmps, df⟩)) (method_ptr (w := w) (u := u) hi hfind hpath hfunc hd)
                simp only [execOp, ho, resolve, hc, hu, Sem.run_bind, Sem.run_pure, Result.andThen_ok]
                refine e.trans ?_
                congr 2
                apply Array.ext'
                simp
              · obtain ⟨ht, hk⟩ := ck_iff.1 hk
                have hk2 : ∃ pl, wv = .ptr (some pl) ∧ loadK cx (cx.ty t).el (.g (.ptr (some pl))) (fun s => fr.getD s .bad) H (fun x => match x with
                    | .g v => cl sem (.g v :: as) H' fun r H => dRes cx o.type r fun r => K r H
                    | .agg cs => cl sem (.agg cs :: as) H' fun r H => dRes cx o.type r fun r => K r H
                    | _ => False) := by
                  clear hw hu
                  revert hk
                  cases wv with
                  | ptr a =>
                    intro hk
                    cases a with
                    | none => exact hk.elim
                    | some q => obtain ⟨l, o'⟩ := q; exact ⟨(l, o'), rfl, hk⟩
                  | bool _ => intro hk; exact hk.elim
                  | int _ _ => intro hk; exact hk.elim
                  | str _ => intro hk; exact hk.elim
                  | sl _ _ _ => intro hk; exact hk.elim
                  | map _ => intro hk; exact hk.elim
                  | fn _ _ => intro hk; exact hk.elim
                  | nilfn => intro hk; exact hk.elim
                  | iface _ _ => intro hk; exact hk.elim
                  | nilif => intro hk; exact hk.elim
                obtain ⟨pl, rfl, hk3⟩ := hk2
                obtain ⟨x, xu, hk4, hr, hx⟩ := loadK_ok (P := P) hT I ht hk3 (show VOK _ _ _ _ _ _ (.g (.ptr (some pl))) u from hw)
                obtain ⟨li, hli, rfl⟩ := hw
                rw [run_loadAt] at hr
                have e := invoke_run (args := c.args.map (Act.eval ⟨tmps, df⟩)) (method_val (w := w) hi hfind hpath hfunc hd hr)
                cases x <;> first | exact hk4.elim | skip
                · refine call_ok (vs := xu :: c.args.toList.map (Act.eval ⟨tmps, df⟩)) I' (hE f sem he) hk4 (.cons (GV.is.mono hpre hx) has) ?_ hn
                  simp only [execOp, ho, resolve, hc, hu, Sem.run_bind, Sem.run_pure, Result.andThen_ok]
                  refine e.trans ?_
                  congr 2
                  apply Array.ext'
                  simp
                · obtain ⟨us, rfl, hx⟩ := hx
                  refine call_ok (vs := .agg us :: c.args.toList.map (Act.eval ⟨tmps, df⟩)) I' (hE f sem he) hk4 (.cons ⟨us, rfl, Is2.mono hpre hx⟩ has) ?_ hn
                  simp only [execOp, ho, resolve, hc, hu, Sem.run_bind, Sem.run_pure, Result.andThen_ok]
                  refine e.trans ?_
                  congr 2
                  apply Array.ext'
                  simp
            · exact hk.elim
          · exact h.elim
        · exact h.elim
      · exact h.elim
  | typeAssert x xt a ok =>
    rw [ho] at h
    dsimp only at h
    cases ok with
    | true => exact h.elim
    | false =>
      obtain ⟨ht, h⟩ := ck_iff.1 h
      obtain ⟨hi, h⟩ := ck_iff.1 h
      have hv := I.ev df x
      split at h
      · rename_i v e
        rw [e] at hv
        cases v <;> first | exact h.elim | skip
        rename_i t' wv
        change t' = a ∧ (match (cx.ty a).lv with | [k] => dLeaf k wv fun w => K (.g w) H | _ => False) at h
        obtain ⟨e1, h2⟩ := h
        subst e1
        obtain ⟨u, hu, hw⟩ := hv
        obtain ⟨d, hd, hok⟩ := run_under hT ht
        split at h2
        rotate_left
        · exact h2.elim
        obtain ⟨v', hk', hv'⟩ := dLeaf_ok h2
        refine pure1 hk' (u := u) ?_ (hv' _ _ hw)
        cases d with
        | interface ms =>
          simp [descOK] at hok
          have := isLv_eq hok.2
          simp [TI.isIface, this, hok.1] at hi
        | _ => simp [execOp, ho, hu, Instr.typeAssert, run_underlying hd]
      · exact h.elim
  | _ => rw [ho] at h; exact h.elim


theorem opK_ok (hT : TysOK P cx.tys) (hE : ∀ f s, cx.env.lookup f = some s → SoundC P f s) (hD : ∀ f, SoundC P f (cx.dyn f)) (I : Inv φ0 H0 w0 φ H lam fr tmps w) (df : List Deferred) {o : Oper} {K : FV → List FV → Hp → Prop} (h : opK cx o fr H K)
    {next : Act → World → Prop} {Q : Exit → Act → World → Prop} (hn : ∀ v fr' H' u w', K v fr' H' → Res φ0 H0 w0 o.dst v fr' H' tmps u w' → next ((⟨tmps, df⟩ : Act).put o.dst u) w') : o.wp P ⟨tmps, df⟩ w next Q := by
  unfold opK at h
  cases ho : o.op with
  | alloc t =>
    rw [ho] at h
    obtain ⟨ht, h⟩ := ck_iff.1 h
    obtain ⟨z, hz, hr⟩ := run_alloc (P := P) (w := w) hT ht
    obtain ⟨v, fr', H', hk, hres⟩ := mkK_ok (c := z.cells) I (by rw [hz]; exact zeros_is φ _) h
    exact wp_val (by simp [execOp, ho, hr]) (hn _ _ _ _ _ hk hres)
  | box t x =>
    rw [ho] at h
    obtain ⟨cs, hk, hcs⟩ := cellsK_ok h (I.ev df x)
    obtain ⟨v, fr', H', hk, hres⟩ := mkK_ok (t := t) I hcs hk
    exact wp_val (by simp [execOp, ho, run_box]) (hn _ _ _ _ _ hk hres)
  | store t a x =>
    rw [ho] at h
    obtain ⟨ns, h, his⟩ := cellsK_ok h (I.ev df x)
    obtain ⟨ht, h⟩ := ck_iff.1 h
    obtain ⟨hl, h⟩ := ck_iff.1 h
    obtain ⟨fr', H', w', hk, hr, I'⟩ := storeK_ok (P := P) hT I ht (beq_eq hl) h (I.ev df a) his
    exact wp_unit (by simp [execOp, ho, hr]) (hn _ _ _ _ _ hk (Res.of (v := .bad) I' trivial o.dst))
  | _ =>
    rw [ho] at h
    exact opE_ok hT hE hD I df h (fun v H' u w' hk hr => hn v fr H' u w' hk hr)

end
end Go.Am
namespace Go.Am

section
variable {P : Program} {cx : Cx} {φ : List LI} {H : Hp} {lam : Nat → Nat} {fr : List FV} {w : World} {φ0 : List LI} {H0 : Hp} {w0 : World} {tmps : Array Value}

theorem set_self {α : Type} {l : List α} {d : Nat} {v : α} (h : l[d]? = some v) : l.set d v = l := by
  apply List.ext_getElem?
  intro j
  rw [List.getElem?_set]
  split
  · rename_i e; subst e; split
    · exact h.symm
    · rename_i q; exact (q (isSome_lt h)).elim
  · rfl

theorem yielded_und {ops : Array Oper} {tmps : Array Value} {j d : Nat} (hd : (ops[j]?).bind (·.dst) = some d) (hl : d < tmps.size) (hv : tmps.getD d undef = undef) : yielded ops tmps j = none := by
  unfold yielded
  rw [hd]
  have : tmps[d]? = some undef := by
    rw [Array.getElem?_eq_getElem hl]
    simpa [Array.getD, hl] using hv
  simp [this, undef]

/-- what a guard asks -/
theorem wantK_ok (I : Inv φ0 H0 w0 φ H lam fr tmps w) {ops : Array Oper} {o : Oper} {yes no : List FV → Prop} (h : wantK ops fr o.guard yes no) :
    (Region.wanted o (yielded ops tmps) = true ∧ yes fr) ∨ (Region.wanted o (yielded ops tmps) = false ∧ no fr) := by
  unfold wantK at h
  unfold Region.wanted
  cases hg : o.guard with
  | none => rw [hg] at h; exact .inl ⟨rfl, h⟩
  | some jw =>
    obtain ⟨j, want⟩ := jw
    rw [hg] at h
    dsimp only at h ⊢
    split at h
    · rename_i d hd
      split at h
      · rename_i b hb
        have hs := getD_of hb (by simp)
        have hv := I.slot d _ hs
        have hlt := isSome_lt hs
        have hv : tmps.getD d undef = .bool b := hv
        have hy : yielded ops tmps j = some b := by
          unfold yielded
          rw [hd]
          have : tmps[d]? = some (.bool b) := by
            rw [Array.getElem?_eq_getElem (by rw [← I.size]; exact hlt)]
            simpa [Array.getD, show d < tmps.size by rw [← I.size]; exact hlt] using hv
          simp [this]
        rw [hy]
        cases b with
        | true =>
          rw [bite_iff, if_pos rfl, setK_eq, set_self hs] at h
          cases want with
          | true => exact .inl ⟨rfl, h⟩
          | false => exact .inr ⟨rfl, h⟩
        | false =>
          rw [bite_iff, if_neg (by simp), setK_eq, set_self hs] at h
          cases want with
          | true => exact .inr ⟨rfl, h⟩
          | false => exact .inl ⟨rfl, h⟩
      · rename_i hb
        have hs := getD_of hb (by simp)
        have hv : tmps.getD d undef = undef := I.slot d _ hs
        rw [yielded_und hd (by rw [← I.size]; exact isSome_lt hs) hv]
        exact .inr ⟨rfl, h⟩
      · exact h.elim
    · exact h.elim

def setO (fr : List FV) : Option Nat → FV → List FV
  | some d, v => fr.set d v
  | none, _ => fr
theorem putK_eq (fr : List FV) (d : Option Nat) (v : FV) (K : List FV → Prop) : putK fr d v K = K (setO fr d v) := by
  cases d with
  | none => rfl
  | some d => simp [putK, frc_eq, setK_eq, setO]

theorem Res.put {dst : Option Tmp} {v : FV} {u : Value} {df : List Deferred} (h : Res φ0 H0 w0 dst v fr H tmps u w) : ∃ φ lam tmps', (⟨tmps, df⟩ : Act).put dst u = ⟨tmps', df⟩ ∧ Inv φ0 H0 w0 φ H lam (setO fr dst v) tmps' w := by
  obtain ⟨φ, lam, h⟩ := h
  cases dst with
  | none => exact ⟨φ, lam, tmps, rfl, h⟩
  | some d => exact ⟨φ, lam, _, rfl, h⟩

/-- what a context must be -/
structure CxOK (P : Program) (cx : Cx) : Prop where
  tys : TysOK P cx.tys
  env : ∀ f s, cx.env.lookup f = some s → SoundC P f s
  dyn : ∀ f, SoundC P f (cx.dyn f)

theorem opsK_ok (hC : CxOK P cx) {ops : Array Oper} {Q : Exit → Act → World → Prop} {df : List Deferred} : ∀ {os : List Oper} {is : List Nat}, All2 (fun o i => ops[i]? = some o) os is → ∀ {φ : List LI} {H : Hp} {lam : Nat → Nat} {fr : List FV} {w : World} {tmps : Array Value} {K : List FV → Hp → Prop},
    opsK cx ops os fr H K → Inv φ0 H0 w0 φ H lam fr tmps w → (∀ fr' H' φ' lam' tmps' w', K fr' H' → Inv φ0 H0 w0 φ' H' lam' fr' tmps' w' → Q .normal ⟨tmps', df⟩ w') → wpOps P ops Q is ⟨tmps, df⟩ w
  | [], _, hal, φ, H, lam, fr, w, tmps, K, h, I, hQ => by
    cases hal.nil_inv
    exact hQ _ _ _ _ _ _ h I
  | o :: os, _, hal, φ, H, lam, fr, w, tmps, K, h, I, hQ => by
    obtain ⟨i, is, rfl, hi, hal⟩ := hal.cons_inv
    simp only [wpOps, hi]
    have h' : wantK ops fr o.guard
      (fun fr => opK cx o fr H fun v fr H => putK fr o.dst v fun fr => opsK cx ops os fr H K)
      (fun fr => putK fr o.dst .und fun fr => opsK cx ops os fr H K) := h
    rcases wantK_ok I h' with ⟨hw, h'⟩ | ⟨hw, h'⟩
    · rw [if_pos hw]
      refine .inl (opK_ok hC.tys hC.env hC.dyn I df h' fun v fr' H' u w' hk hres => ?_)
      rw [putK_eq] at hk
      obtain ⟨φ', lam', tmps', e, I'⟩ := hres.put (df := df)
      rw [e]
      exact opsK_ok hC hal hk I' hQ
    · rw [if_neg (by rw [hw]; simp)]
      rw [putK_eq] at h'
      obtain ⟨φ', lam', tmps', e, I'⟩ := (Res.of I (v := .und) (u := undef) rfl o.dst).put (df := df)
      rw [e]
      exact opsK_ok hC hal h' I' hQ

theorem range_all2 (ops : Array Oper) : All2 (fun (o : Oper) i => ops[i]? = some o) ops.toList (List.range ops.size) := by
  apply All2.of_get
  · simp
  · intro j a b h1 h2
    rw [List.getElem?_range (by have := isSome_lt h1; simpa using this)] at h2
    cases h2
    simpa using h1

/-- regions whose order is open -/
def DrOK (P : Program) (cx : Cx) : Prop :=
  ∀ (ops : Array Oper) (fr : List FV) (H : Hp) (K : List FV → Hp → Prop) φ0 H0 w0 φ lam tmps w (Q : Exit → Act → World → Prop), drK cx ops fr H K → Inv φ0 H0 w0 φ H lam fr tmps w →
    (∀ fr' H' φ' lam' tmps' w', K fr' H' → Inv φ0 H0 w0 φ' H' lam' fr' tmps' w' → Q .normal ⟨tmps', []⟩ w') → ∀ t, wpOps P ops Q (Region.schedule (P.follows .mixedOrders) ops t) ⟨tmps, []⟩ w

theorem regK_ok (hC : CxOK P cx) (hd : DrOK P cx) {id : Nat} {ops : Array Oper} {d : Bool} {K : List FV → Hp → Prop} (h : regK cx (drK cx) ops d fr H K) (I : Inv φ0 H0 w0 φ H lam fr tmps w) (b : Frame) (k : List Item) (cs : List Frame) :
    ∃ fr' H' φ' lam' tmps' w', K fr' H' ∧ Inv φ0 H0 w0 φ' H' lam' fr' tmps' w' ∧ Steps P (lone (b.at ⟨tmps, []⟩ (.code (.region id ops d) :: k)) cs w) (lone (b.at ⟨tmps', []⟩ k) cs w') := by
  let Q : Exit → Act → World → Prop := fun e a w => e = .normal ∧ ∃ fr' H' φ' lam' tmps', a = ⟨tmps', []⟩ ∧ K fr' H' ∧ Inv φ0 H0 w0 φ' H' lam' fr' tmps' w
  have fin : (Code.region id ops d).wp P Q ⟨tmps, []⟩ w → ∃ fr' H' φ' lam' tmps' w', K fr' H' ∧ Inv φ0 H0 w0 φ' H' lam' fr' tmps' w' ∧ Steps P (lone (b.at ⟨tmps, []⟩ (.code (.region id ops d) :: k)) cs w) (lone (b.at ⟨tmps', []⟩ k) cs w') := by
    intro hw
    obtain ⟨e, a', w', ⟨rfl, fr', H', φ', lam', tmps', rfl, hk, I'⟩, harr⟩ := hw b k cs
    exact ⟨fr', H', φ', lam', tmps', w', hk, I', harr⟩
  cases d with
  | false => exact fin (wp_region (opsK_ok hC (range_all2 ops) h I fun fr' H' φ' lam' tmps' w' hk I' => ⟨rfl, fr', H', φ', lam', tmps', rfl, hk, I'⟩))
  | true =>
    refine fin (wp_region_draw fun t => ?_)
    exact hd ops fr H K φ0 H0 w0 φ lam tmps w.drew Q h (I.back (Back.drew I.rep)) (fun fr' H' φ' lam' tmps' w' hk I' => ⟨rfl, fr', H', φ', lam', tmps', rfl, hk, I'⟩) t

/-- some temporaries forgotten -/
theorem Inv.weaken (I : Inv φ0 H0 w0 φ H lam fr tmps w) {fr' : List FV} (hl : fr'.length = fr.length) (hp : ∀ (t : Nat) v, fr'[t]? = some v → v = .bad ∨ fr[t]? = some v) : Inv φ0 H0 w0 φ H lam fr' tmps w where
  pre := I.pre
  rep := I.rep
  keeps := I.keeps
  own := I.own
  row := I.row
  size := by rw [hl, I.size]
  slot d v hd := by
    have hb : ∀ b, boxB fr' lam b → boxB fr lam b := fun b ⟨s, cs, hs, e⟩ => by
      rcases hp s _ hs with q | q
      · cases q
      · exact ⟨s, cs, q, e⟩
    rcases hp d v hd with q | q
    · subst q; trivial
    · have hs := I.slot d v q
      cases v with
      | bx cs => exact hs
      | _ => exact FOK.of (VOK.step (List.prefix_refl _) (fun _ _ _ => rfl) (fun b _ _ h1 h2 => ⟨rfl, h1, fun q => h2 (hb b q)⟩) hs)
  apart s s' cs cs' hs hs' hne := by
    rcases hp s _ hs with q | q
    · cases q
    rcases hp s' _ hs' with q' | q'
    · cases q'
    exact I.apart s s' cs cs' q q' hne

theorem keepK_ok : ∀ {fr : List FV} {i : Nat} {l : List Nat} {K : List FV → Prop}, keepK fr i l K → ∃ fr', K fr' ∧ fr'.length = fr.length ∧ ∀ (t : Nat) v, fr'[t]? = some v → v = .bad ∨ fr[t]? = some v
  | [], i, l, K, h => ⟨[], h, rfl, by simp⟩
  | x :: xs, i, l, K, h => by
    have h' : (match l.contains i with
      | true => keepK xs (i + 1) l fun ys => K (x :: ys)
      | false => keepK xs (i + 1) l fun ys => K (.bad :: ys)) := h
    split at h'
    · obtain ⟨ys, hk, hl, hp⟩ := keepK_ok h'
      refine ⟨_, hk, by simp [hl], fun t v ht => ?_⟩
      cases t with
      | zero => right; simpa using ht
      | succ t => simpa using hp t v (by simpa using ht)
    · obtain ⟨ys, hk, hl, hp⟩ := keepK_ok h'
      refine ⟨_, hk, by simp [hl], fun t v ht => ?_⟩
      cases t with
      | zero => left; simp at ht; exact ht.symm
      | succ t => simpa using hp t v (by simpa using ht)

theorem popTo_ok {id : Nat} : ∀ {k k' : List Item}, popTo id k = some k' → exitTo id k = some k'
  | [], k', h => by simp [popTo] at h
  | x :: k, k', h => by
    cases x <;> simp only [popTo] at h <;> first
      | (cases h; done)
      | (simp only [exitTo]
         split at h
         · rename_i e; rw [if_pos e]; exact h
         · rename_i e; rw [if_neg e]; exact popTo_ok h)
      | (simp only [exitTo]; exact popTo_ok h)

theorem step_scope {b : Frame} {a : Act} {k : List Item} {cs : List Frame} {c : Code} : Go.step P (lone (b.at a (.code (.scope c) :: k)) cs w) = .next (lone (b.at a (.code c :: .inScope c :: k)) cs w) :=
  step_lone_go (by simp [stepG, stepG.exec, Frame.at])
theorem step_inScope {b : Frame} {a : Act} {k : List Item} {cs : List Frame} {c : Code} : Go.step P (lone (b.at a (.inScope c :: k)) cs w) = .next (lone (b.at a k) cs w) :=
  step_lone_go (by simp [stepG, stepG.exec, Frame.at])

theorem knowK_ok (I : Inv φ0 H0 w0 φ H lam fr tmps w) {c : Operand} {b : Bool} {K : List FV → Prop} (he : ev fr c = .g (.bool b)) (h : knowK fr c b K) : K fr := by
  cases c with
  | tmp d =>
    rw [knowK, setK_eq] at h
    have : fr[d]? = some (.g (.bool b)) := by
      have he : atFr fr d = .g (.bool b) := he
      unfold atFr at he
      split at he
      · cases he
      · exact getD_of he (by simp)
    rwa [set_self this] at h
  | _ => exact h


/-! ## the walk -/
/-- the call ends as it should -/
def Ends (P : Program) (f : FuncId) (cs : List Frame) (m : Machine) (R : Ending → World → Prop) : Prop :=
  ∃ v w' fr, R (.returned v) w' ∧ Steps P m (lone fr cs w') ∧ fr.fn = f ∧ fr.leaving P w' (.returned v)
theorem Ends.of_steps {f : FuncId} {cs : List Frame} {m m' : Machine} {R : Ending → World → Prop} (h : Steps P m m') (h' : Ends P f cs m' R) : Ends P f cs m R := by
  obtain ⟨v, w', fr, h1, h2, h3⟩ := h'
  exact ⟨v, w', fr, h1, h.trans h2, h3⟩
theorem Ends.of_step {f : FuncId} {cs : List Frame} {m m' : Machine} {R : Ending → World → Prop} (h : Go.step P m = .next m') (h' : Ends P f cs m' R) : Ends P f cs m R := Ends.of_steps (.one h) h'

theorem Ends.skip {f : FuncId} {cs : List Frame} {b : Frame} {a : Act} {k : List Item} {m' : Machine} {R : Ending → World → Prop} (h : Go.step P (lone (b.at a k) cs w) = .next m') (h' : Ends P f cs (lone (b.at a k) cs w) R) : Ends P f cs m' R := by
  obtain ⟨v, w', fr, h1, ⟨n, hn⟩, h3, h4⟩ := h'
  refine ⟨v, w', fr, h1, ?_, h3, h4⟩
  cases n with
  | zero =>
    simp only [runN, Stepped.next.injEq] at hn
    have e : b.at a k = fr := by
      have := congrArg (fun m : Machine => m.gs.map (·.frame)) hn
      simpa [lone] using this
    have := h4.1
    rw [← e] at this
    simp [Frame.at] at this
  | succ n =>
    simp only [runN, h] at hn
    exact ⟨n, hn⟩

def resV (tmps : Array Value) : ResultVar → Sem Value
  | .tmp t => pure (tmps.getD t undef)
  | .cell a t => do loadVar t (← asAddr (tmps.getD a undef))

theorem resK_ok (hT : TysOK P cx.tys) (I : Inv φ0 H0 w0 φ H lam fr tmps w) : ∀ {rs : List ResultVar} {K : List RV → Prop}, resK cx fr rs K →
    ∃ vs us, K vs ∧ (rs.mapM (resV tmps)).run P w = .ok us w ∧ All2 (RV.is φ) vs us
  | [], K, h => ⟨[], [], h, by simp, .nil⟩
  | .tmp t :: rs, K, h => by
    have hv := I.at t
    have h' : (match atFr fr t with
      | .g v => resK cx fr rs fun vs => K (.s v :: vs)
      | .agg cs => resK cx fr rs fun vs => K (.a cs :: vs)
      | _ => False) := h
    split at h'
    · rename_i v e
      rw [e] at hv
      obtain ⟨vs, us, h1, h2, h3⟩ := resK_ok hT I h'
      exact ⟨_, _, h1, by simp [List.mapM_cons, resV, h2], .cons (a := .s v) hv h3⟩
    · rename_i v e
      rw [e] at hv
      obtain ⟨vs, us, h1, h2, h3⟩ := resK_ok hT I h'
      exact ⟨_, _, h1, by simp [List.mapM_cons, resV, h2], .cons (a := .a v) hv h3⟩
    · exact h'.elim
  | .cell a t :: rs, K, h => by
    have hv := I.at a
    have h' : (match atFr fr a with
      | .lp s p => match fr.getD s .bad with
        | .bx cs => ck (cx.okT t) <| cutK cs p (cx.ty t).lv.length (cx.ty t).agg fun v => match v with
          | .g v => resK cx fr rs fun vs => K (.s v :: vs)
          | .agg cs => resK cx fr rs fun vs => K (.a cs :: vs)
          | _ => False
        | _ => False
      | _ => False) := h
    split at h'
    · rename_i s p e
      rw [e] at hv
      have hv : tmps.getD a undef = .pointer (some ⟨lam s, p, none⟩) := hv
      split at h'
      · rename_i cs hcs
        obtain ⟨e2, _, _, c, t', hb, his⟩ := I.slot s _ (getD_of hcs (by simp))
        rw [ck_iff] at h'
        obtain ⟨ht, h'⟩ := h'
        obtain ⟨v, u, hk, hr, hvv⟩ := cut_load (P := P) (H := H) hT ht his (w := w) (b := lam s) (o := p) (fun j y hy => by rw [cell_of hb]; simpa using hy) h'
        have hres : (resV tmps (.cell a t)).run P w = .ok u w := by
          simp only [resV, hv, Sem.run_bind, asAddr, Sem.run_pure, Result.andThen_ok, hr]
        have hvv := hvv 0 lam fr w
        split at hk
        · obtain ⟨vs, us, h1, h2, h3⟩ := resK_ok hT I hk
          exact ⟨_, _, h1, by simp [List.mapM_cons, hres, h2], .cons (a := .s _) hvv h3⟩
        · obtain ⟨vs, us, h1, h2, h3⟩ := resK_ok hT I hk
          exact ⟨_, _, h1, by simp [List.mapM_cons, hres, h2], .cons (a := .a _) hvv h3⟩
        · exact hk.elim
      · exact h'.elim
    · exact h'.elim

theorem finK_ok (hT : TysOK P cx.tys) (I : Inv φ0 H0 w0 φ H lam fr tmps w) {fn : Func} (hres : fn.results = cx.res.toArray) {Q : Post} (h : finK cx fr H Q) :
    ∃ r u, Q r H ∧ (results fn tmps).run P w = .ok u w ∧ r.is φ u := by
  obtain ⟨vs, us, hk, hr, hall⟩ := resK_ok hT I h
  have hrun : (results fn tmps).run P w = .ok (if h : us.toArray.size = 1 then us.toArray[0] else .tuple us.toArray) w := by
    have e : results fn tmps = (do let vs ← fn.results.mapM (resV tmps); pure (if h : vs.size = 1 then vs[0] else .tuple vs)) := rfl
    rw [e, hres, Array.mapM_eq_mapM_toList]
    simp [hr]
  have hlen := hall.length
  split at hk
  · obtain ⟨u, us', rfl, hu, hn⟩ := hall.cons_inv
    cases hn.nil_inv
    exact ⟨_, u, hk, by simpa using hrun, hu⟩
  · obtain ⟨u, us', rfl, hu, hn⟩ := hall.cons_inv
    cases hn.nil_inv
    exact ⟨_, u, hk, by simpa using hrun, hu⟩
  · rename_i hn1 hn2
    refine ⟨_, .tuple us.toArray, hk, ?_, ⟨_, rfl, hall⟩⟩
    rw [hrun]
    have : us.length ≠ 1 := by
      intro e1
      rw [e1] at hlen
      match vs, hlen with
      | [.s v], _ => exact hn1 v rfl
      | [.a v], _ => exact hn2 v rfl
    simp [this]

section walk
variable {f : FuncId} {fn : Func} {Q : Post} {cs : List Frame} {b : Frame}

/-- what a part of the walk must do -/
def Good (P : Program) (f : FuncId) (b : Frame) (cs : List Frame) (φ0 : List LI) (H0 : Hp) (w0 : World) (Q : Post) (go : List Item → List FV → Hp → Prop) : Prop :=
  ∀ k fr H φ lam tmps w, go k fr H → Inv φ0 H0 w0 φ H lam fr tmps w → Ends P f cs (lone (b.at ⟨tmps, []⟩ k) cs w) (PostOf φ0 H0 w0 Q)

theorem fin_ok (hC : CxOK P cx) (hf : P.funcs[f]? = some fn) (hres : fn.results = cx.res.toArray) (hbf : b.fn = f) (hbk : b.kind = .normal) {fr : List FV} {H : Hp} {φ : List LI} {lam : Nat → Nat} {tmps : Array Value} {w : World} (k : List Item) (h : finK cx fr H Q) (I : Inv φ0 H0 w0 φ H lam fr tmps w) :
    Ends P f cs (lone { b.at ⟨tmps, []⟩ k with mode := .returning } cs w) (PostOf φ0 H0 w0 Q) := by
  obtain ⟨r, u, hq, hr, hru⟩ := finK_ok hC.tys I hres h
  exact ⟨u, w, _, ⟨r, H, φ, u, hq, rfl, hru, ⟨I.pre, I.rep, I.keeps, I.own, I.row⟩⟩, Steps.refl _ _, hbf, rfl, rfl, hbk, fn, by show P.funcs[b.fn]? = _; rw [hbf]; exact hf, hr⟩

theorem step_ok (hC : CxOK P cx) (hd : DrOK P cx) (hf : P.funcs[f]? = some fn) (hres : fn.results = cx.res.toArray) (hbf : b.fn = f) (hbk : b.kind = .normal) {rec go : List Item → List FV → Hp → Prop} (hrec : Good P f b cs φ0 H0 w0 Q rec) (hgo : Good P f b cs φ0 H0 w0 Q go) : Good P f b cs φ0 H0 w0 Q (step cx Q (drK cx) rec go) := by
  intro k fr H φ lam tmps w h I
  unfold step at h
  split at h
  · exact Ends.of_step step_end (fin_ok hC hf hres hbf hbk [] h I)
  · exact Ends.of_step step_ret (fin_ok hC hf hres hbf hbk _ h I)
  · exact Ends.of_step step_skip (hgo _ _ _ _ _ _ _ h I)
  · exact Ends.of_step step_label (hgo _ _ _ _ _ _ _ h I)
  · exact Ends.of_step step_inBlock (hgo _ _ _ _ _ _ _ h I)
  · exact Ends.of_step step_inScope (hgo _ _ _ _ _ _ _ h I)
  · exact Ends.of_step step_seq (hgo _ _ _ _ _ _ _ h I)
  · rename_i c x y k
    have hv := I.ev [] c
    split at h
    · rename_i t e
      rw [e] at hv
      refine Ends.of_step (step_cond (t := t) hv) ?_
      cases t with
      | true => exact hgo _ _ _ _ _ _ _ (knowK_ok I e h) I
      | false => exact hgo _ _ _ _ _ _ _ (knowK_ok I e h) I
    · exact h.elim
  · exact Ends.of_step step_block (hgo _ _ _ _ _ _ _ h I)
  · obtain ⟨fr', hk, hl, hp⟩ := keepK_ok h
    have := hrec _ _ _ _ _ _ _ hk (I.weaken hl hp)
    exact Ends.of_step step_loop (Ends.skip step_inLoop this)
  · obtain ⟨fr', hk, hl, hp⟩ := keepK_ok h
    exact hrec _ _ _ _ _ _ _ hk (I.weaken hl hp)
  · exact Ends.of_step step_scope (hgo _ _ _ _ _ _ _ h I)
  · split at h
    · rename_i k' e
      exact Ends.of_step (step_exit (popTo_ok e)) (hgo _ _ _ _ _ _ _ h I)
    · exact h.elim
  · split at h
    · obtain ⟨fr', hk, hl, hp⟩ := keepK_ok h
      exact hrec _ _ _ _ _ _ _ hk (I.weaken hl hp)
    · obtain ⟨fr', H', φ', lam', tmps', w', hk, I', hs⟩ := regK_ok hC hd h I b _ cs
      exact Ends.of_steps hs (hgo _ _ _ _ _ _ _ hk I')
  · exact h.elim

theorem walk_ok (hC : CxOK P cx) (hd : DrOK P cx) (hf : P.funcs[f]? = some fn) (hres : fn.results = cx.res.toArray) (hbf : b.fn = f) (hbk : b.kind = .normal) {rec : List Item → List FV → Hp → Prop} (hrec : Good P f b cs φ0 H0 w0 Q rec) : ∀ g, Good P f b cs φ0 H0 w0 Q (walk cx Q rec g)
  | 0 => fun k fr H φ lam tmps w h I => h.elim
  | g + 1 => step_ok hC hd hf hres hbf hbk hrec (walk_ok hC hd hf hres hbf hbk hrec g)

theorem runK_ok (hC : CxOK P cx) (hd : DrOK P cx) (hf : P.funcs[f]? = some fn) (hres : fn.results = cx.res.toArray) (hbf : b.fn = f) (hbk : b.kind = .normal) : ∀ n, Good P f b cs φ0 H0 w0 Q (runK cx Q n)
  | 0 => fun k fr H φ lam tmps w h I => h.elim
  | n + 1 => by
    have ih := walk_ok hC hd hf hres hbf hbk (runK_ok hC hd hf hres hbf hbk n) gas
    intro k fr H φ lam tmps w h I
    change runF cx Q (runK cx Q n) k fr H at h
    unfold runF at h
    split at h
    · exact Ends.of_step step_inLoop (ih _ _ _ _ _ _ _ h I)
    · obtain ⟨fr', H', φ', lam', tmps', w', hk, I', hs⟩ := regK_ok hC hd h I b _ cs
      exact Ends.of_steps hs (ih _ _ _ _ _ _ _ hk I')
    · exact ih _ _ _ _ _ _ _ h I
end walk


theorem start_inv {as : List FV} {vs : List Value} {n : Nat} (hr : RepH φ H w) (ha : All2 (FV.is φ) as vs) :
    Inv φ H w φ H (fun _ => 0) (as ++ List.replicate (n - as.length) .bad) (vs.toArray ++ Array.replicate (n - vs.toArray.size) undef) w where
  pre := List.prefix_refl _
  rep := hr
  keeps := Keeps.refl _ _
  own _ h := .inl h
  row _ h := .inl h
  size := by have := ha.length; simp [this]
  slot d v hd := by
    have hl := ha.length
    rcases Nat.lt_or_ge d as.length with q | q
    · rw [List.getElem?_append_left q] at hd
      obtain ⟨u, hu, hvu⟩ := ha.get hd
      have e : (vs.toArray ++ Array.replicate (n - vs.toArray.size) undef).getD d undef = u := by
        have : vs[d]? = some u := hu
        have hlt : d < vs.length := by omega
        have : vs[d] = u := by simpa [List.getElem?_eq_getElem hlt] using this
        simp [Array.getElem?_append, hlt, this]
      rw [e]
      cases v with
      | g v => exact hvu
      | agg cs => exact hvu
      | tup vs => exact hvu
      | _ => exact hvu.elim
    · rw [List.getElem?_append_right q, List.getElem?_replicate] at hd
      split at hd
      · cases hd; trivial
      · cases hd
  apart s s' cs cs' hs hs' hne := by
    have : ∀ {s : Nat} {cs : List GV}, (as ++ List.replicate (n - as.length) .bad)[s]? = some (FV.bx cs) → False := by
      intro s cs hs
      rcases Nat.lt_or_ge s as.length with q | q
      · rw [List.getElem?_append_left q] at hs
        obtain ⟨u, hu, hvu⟩ := ha.get hs
        exact hvu
      · rw [List.getElem?_append_right q, List.getElem?_replicate] at hs
        split at hs <;> cases hs
    exact (this hs).elim

/-- A FUNCTION TOLD BY THE MACHINE IS AS IT IS TOLD -/
theorem sound_of {f : FuncId} {fn : Func} (hC : CxOK P cx) (hd : DrOK P cx) (hf : P.funcs[f]? = some fn) (hres : fn.results = cx.res.toArray) (n : Nat) : Sound P f (callK cx fn n) := by
  intro as H Q h φ w vs hr ha cs
  unfold callK at h
  split at h
  · rename_i c hb
    let b : Frame := { (default : Frame) with fn := f, kind := .normal }
    have henter : Frame.enter P f vs.toArray .normal = b.at { tmps := vs.toArray ++ Array.replicate (fn.ntmps - vs.toArray.size) undef, defers := [] } [.code c] := by
      simp [Frame.enter, Frame.at, hf, hb, b]
    obtain ⟨v, w', fr, h1, h2, h3, h4⟩ := runK_ok (P := P) (cs := cs) (b := b) hC hd hf hres rfl rfl n _ _ _ _ _ _ _ h (start_inv hr ha)
    refine ⟨.returned v, w', fr, h1, ?_, h3, h4⟩
    rw [henter]
    exact h2
  · exact h.elim

theorem Sound.ex {f : FuncId} {s : Nat → Sm} (h : ∀ n, Sound P f (s n)) : Sound P f (fun xs H Q => ∃ k, s k xs H Q) := by
  intro as H Q ⟨k, hk⟩
  exact h k as H Q hk

end
end Go.Am
namespace Go.Am
/-! regions whose order is open -/

/-- what is handed on is one value -/
def One {α : Type} (X : (α → Prop) → Prop) (v : α) : Prop := ∀ K : α → Prop, K v → X K

theorem ck_det {α : Type} {b : Bool} {X : (α → Prop) → Prop} {K : α → Prop} (hX : ∀ {K}, X K → ∃ v, K v ∧ One X v) (h : ck b (X K)) : ∃ v, K v ∧ One (fun K => ck b (X K)) v := by
  obtain ⟨hb, h⟩ := ck_iff.1 h
  obtain ⟨v, h1, h2⟩ := hX h
  exact ⟨v, h1, fun K hK => ck_iff.2 ⟨hb, h2 K hK⟩⟩
theorem dLeaf_det {k : LK} {v : GV} {K : GV → Prop} (h : dLeaf k v K) : ∃ v', K v' ∧ One (dLeaf k v) v' := by
  cases k <;> cases v <;> first
    | exact h.elim
    | exact ⟨_, h, fun K hK => hK⟩
    | exact ⟨_, h.2, fun K hK => ⟨h.1, hK⟩⟩
theorem ldLeaves_det {H : Hp} {l : Nat} : ∀ {ks : List LK} {p : Nat} {K : List GV → Prop}, ldLeaves H l p ks K → ∃ cs, K cs ∧ One (ldLeaves H l p ks) cs
  | [], p, K, h => ⟨_, h, fun K hK => hK⟩
  | k :: ks, p, K, h => by
    have h' : rd H l p fun c => dLeaf k c fun c => ldLeaves H l (p + 1) ks fun r => K (c :: r) := h
    unfold rd at h'
    split at h'
    · rename_i v hv
      obtain ⟨c, h1, h2⟩ := dLeaf_det h'
      obtain ⟨cs, h3, h4⟩ := ldLeaves_det h1
      refine ⟨_, h3, fun K hK => ?_⟩
      show rd H l p fun c => dLeaf k c fun c => ldLeaves H l (p + 1) ks fun r => K (c :: r)
      unfold rd
      rw [hv]
      exact h2 _ (h4 _ hK)
    · exact h'.elim
theorem oneK_det {cs : List GV} {agg : Bool} {K : FV → Prop} (h : oneK cs agg K) : ∃ v, K v ∧ One (oneK cs agg) v := by
  cases agg with
  | true => exact ⟨_, h, fun K hK => hK⟩
  | false => match cs, h with
    | [v], h => exact ⟨_, h, fun K hK => hK⟩
theorem cutK_det {cs : List GV} {p n : Nat} {agg : Bool} {K : FV → Prop} (h : cutK cs p n agg K) : ∃ v, K v ∧ One (cutK cs p n agg) v := by
  rcases cutK_ok h with ⟨rfl, h1, h2⟩ | ⟨rfl, v, h1, h2⟩
  · exact ⟨_, h2, fun K hK => ck_iff.2 ⟨Nat.ble_eq_true_of_le h1, hK⟩⟩
  · refine ⟨_, h2, fun K hK => ?_⟩
    show (match cs[p]? with | some v => K (.g v) | none => False)
    rw [h1]; exact hK
theorem loadK_det {cx : Cx} {t : Nat} {x : FV} {B : Nat → FV} {H : Hp} {K : FV → Prop} (h : loadK cx t x B H K) : ∃ v, K v ∧ One (loadK cx t x B H) v := by
  unfold loadK at h
  split at h
  · rename_i s p
    split at h
    · rename_i cs hb
      obtain ⟨v, h1, h2⟩ := cutK_det h
      exact ⟨v, h1, fun K hK => by simp only [loadK, hb]; exact h2 K hK⟩
    · exact h.elim
  · obtain ⟨cs, h1, h2⟩ := ldLeaves_det h
    obtain ⟨v, h3, h4⟩ := oneK_det h1
    exact ⟨v, h3, fun K hK => h2 _ (h4 K hK)⟩
  · exact h.elim
theorem cellsK_det {x : FV} {K : List GV → Prop} (h : cellsK x K) : ∃ v, K v ∧ One (cellsK x) v := by
  cases x <;> first | exact h.elim | exact ⟨_, h, fun K hK => hK⟩
theorem fillK_det : ∀ {zs : List GV} {p : Nat} {cs : List GV} {K : List GV → Prop}, fillK zs p cs K → ∃ v, K v ∧ One (fillK zs p cs) v
  | zs, p, [], K, h => by cases zs <;> cases p <;> exact ⟨_, h, fun K hK => hK⟩
  | [], p, c :: cs, K, h => by cases p <;> exact h.elim
  | z :: zs, p + 1, c :: cs, K, h => by
    have h' : fillK zs p (c :: cs) fun r => K (z :: r) := h
    obtain ⟨v, h1, h2⟩ := fillK_det h'
    exact ⟨_, h1, fun K hK => h2 (fun r => K (z :: r)) hK⟩
  | _ :: zs, 0, c :: cs, K, h => by
    have h' : fillK zs 0 cs fun r => K (c :: r) := h
    obtain ⟨v, h1, h2⟩ := fillK_det h'
    exact ⟨_, h1, fun K hK => h2 (fun r => K (c :: r)) hK⟩
theorem bldK_det {cx : Cx} {E : Operand → FV} {t : Nat} : ∀ {ps : List (Nat × Operand)} {zs : List GV} {K : List GV → Prop}, bldK cx E t zs ps K → ∃ v, K v ∧ One (bldK cx E t zs ps) v
  | [], zs, K, h => ⟨_, h, fun K hK => hK⟩
  | (i, x) :: ps, zs, K, h => by
    have h' : (match (cx.ty t).fs[i]? with
      | some (p, e) => cellsK (E x) fun cs => ck (cx.okT e) (ck (Nat.beq cs.length (cx.ty e).lv.length) (fillK zs p cs fun zs => bldK cx E t zs ps K))
      | none => False) := h
    split at h'
    · rename_i p e hf
      obtain ⟨cs, h1, h2⟩ := cellsK_det h'
      obtain ⟨b1, h1⟩ := ck_iff.1 h1
      obtain ⟨b2, h1⟩ := ck_iff.1 h1
      obtain ⟨zs', h3, h4⟩ := fillK_det h1
      obtain ⟨v, h5, h6⟩ := bldK_det h3
      refine ⟨v, h5, fun K hK => ?_⟩
      show (match (cx.ty t).fs[i]? with
        | some (p, e) => cellsK (E x) fun cs => ck (cx.okT e) (ck (Nat.beq cs.length (cx.ty e).lv.length) (fillK zs p cs fun zs => bldK cx E t zs ps K))
        | none => False)
      rw [hf]
      exact h2 _ (ck_iff.2 ⟨b1, ck_iff.2 ⟨b2, h4 _ (h6 K hK)⟩⟩)
    · exact h'.elim
theorem blsK_det {E : Operand → FV} {z : Nat} : ∀ {ps : List (Nat × Operand)} {zs : List GV} {K : List GV → Prop}, blsK E z zs ps K → ∃ v, K v ∧ One (blsK E z zs ps) v
  | [], zs, K, h => ⟨_, h, fun K hK => hK⟩
  | (i, x) :: ps, zs, K, h => by
    have h' : cellsK (E x) fun cs => ck (Nat.beq cs.length z) (fillK zs (i * z) cs fun zs => blsK E z zs ps K) := h
    obtain ⟨cs, h1, h2⟩ := cellsK_det h'
    obtain ⟨b1, h1⟩ := ck_iff.1 h1
    obtain ⟨zs', h3, h4⟩ := fillK_det h1
    obtain ⟨v, h5, h6⟩ := blsK_det h3
    exact ⟨v, h5, fun K hK => h2 _ (ck_iff.2 ⟨b1, h4 _ (h6 K hK)⟩)⟩
theorem capsK_det {E : Operand → FV} : ∀ {xs : List Operand} {K : List (Nat × Nat) → Prop}, capsK E xs K → ∃ v, K v ∧ One (capsK E xs) v
  | [], K, h => ⟨_, h, fun K hK => hK⟩
  | x :: xs, K, h => by
    have h' : (match E x with | .g (.ptr (some p)) => capsK E xs fun r => K (p :: r) | _ => False) := h
    split at h'
    · rename_i p e
      obtain ⟨v, h1, h2⟩ := capsK_det h'
      refine ⟨_, h1, fun K hK => ?_⟩
      show (match E x with | .g (.ptr (some p)) => capsK E xs fun r => K (p :: r) | _ => False)
      rw [e]; exact h2 (fun r => K (p :: r)) hK
    · exact h'.elim
theorem chk_det {α : Type} {b : Bool} {v : α} {K : α → Prop} (h : chk b (K v)) : K v ∧ One (fun K => chk b (K v)) v := ⟨(chk_iff.1 h).2, fun K hK => chk_iff.2 ⟨(chk_iff.1 h).1, hK⟩⟩

theorem binK_det {cx : Cx} {t : Nat} {op : BinOp} {x y : FV} {K : FV → Prop} (h : binK cx t op x y K) : ∃ v, K v ∧ One (binK cx t op x y) v := by
  unfold binK at h
  split at h
  · rename_i k a k' b
    split at h
    · obtain ⟨h1, h2⟩ := chk_det h; exact ⟨_, h1, h2⟩
    · obtain ⟨h1, h2⟩ := chk_det h; exact ⟨_, h1, h2⟩
    · split at h
      · rename_i e
        subst e
        cases op <;> dsimp only at h <;> first
          | exact h.elim
          | (obtain ⟨h1, h2⟩ := chk_iff.1 h; exact ⟨_, h2, fun K hK => by simp only [binK, if_pos]; exact chk_iff.2 ⟨h1, hK⟩⟩)
          | exact ⟨_, h, fun K hK => by simpa only [binK, if_pos] using hK⟩
          | (rename_i q _; exact (q rfl).elim)
      · exact h.elim
  · cases op <;> first
      | exact h.elim
      | exact ⟨_, h.2, fun K hK => ⟨h.1, hK⟩⟩
      | exact ⟨_, h, fun K hK => hK⟩
  · obtain ⟨hb, h⟩ := ck_iff.1 h
    cases op <;> first
      | exact h.elim
      | exact ⟨_, h, fun K hK => ck_iff.2 ⟨hb, hK⟩⟩
  · obtain ⟨hb, h⟩ := ck_iff.1 h
    cases op <;> first
      | exact h.elim
      | exact ⟨_, h, fun K hK => ck_iff.2 ⟨hb, hK⟩⟩
  · obtain ⟨hb, h⟩ := ck_iff.1 h
    cases op <;> first
      | exact h.elim
      | exact ⟨_, h, fun K hK => ck_iff.2 ⟨hb, hK⟩⟩
  · obtain ⟨h1, h⟩ := ck_iff.1 h
    obtain ⟨h2, h⟩ := ck_iff.1 h
    obtain ⟨h3, h⟩ := ck_iff.1 h
    split at h
    · rename_i e he
      cases op <;> first
        | exact h.elim
        | exact ⟨_, h, fun K hK => ck_iff.2 ⟨h1, ck_iff.2 ⟨h2, ck_iff.2 ⟨h3, by rw [he]; exact hK⟩⟩⟩⟩
    · exact h.elim
  · exact h.elim
theorem unK_det {op : UnOp} {x : FV} {K : FV → Prop} (h : unK op x K) : ∃ v, K v ∧ One (unK op x) v := by
  unfold unK at h
  split at h
  · exact ⟨_, h, fun K hK => hK⟩
  · exact ⟨_, h, fun K hK => hK⟩
  · exact ⟨_, h, fun K hK => hK⟩
  · exact h.elim
theorem bytesK_det : ∀ {cs : List GV} {K : List UInt8 → Prop}, bytesK cs K → ∃ v, K v ∧ One (bytesK cs) v
  | [], K, h => ⟨_, h, fun K hK => hK⟩
  | c :: cs, K, h => by
    cases c <;> first | exact h.elim | skip
    rename_i k n
    obtain ⟨e, h'⟩ : k = .u8 ∧ bytesK cs fun r => K (bof n :: r) := h
    obtain ⟨v, h1, h2⟩ := bytesK_det h'
    exact ⟨_, h1, fun K hK => ⟨e, h2 (fun r => K (bof n :: r)) hK⟩⟩
theorem bndK_det {E : Operand → FV} {x : Option Operand} {d : Nat} {K : Nat → Prop} (h : bndK E x d K) : ∃ v, K v ∧ One (bndK E x d) v := by
  cases x with
  | none => exact ⟨_, h, fun K hK => hK⟩
  | some x =>
    have h' : (match E x with | .g (.int _ n) => chk (leI 0 n) (K (tN n)) | _ => False) := h
    split at h'
    · rename_i k n e
      obtain ⟨h1, h2⟩ := chk_iff.1 h'
      refine ⟨_, h2, fun K hK => ?_⟩
      show (match E x with | .g (.int _ n) => chk (leI 0 n) (K (tN n)) | _ => False)
      rw [e]; exact chk_iff.2 ⟨h1, hK⟩
    · exact h'.elim
theorem sliceK_det {cx : Cx} {t : Nat} {x : FV} {lo hi : Option Operand} {E : Operand → FV} {H : Hp} {K : FV → Prop} (h : sliceK cx t x lo hi E H K) : ∃ v, K v ∧ One (sliceK cx t x lo hi E H) v := by
  unfold sliceK at h
  split at h
  · obtain ⟨b1, h⟩ := ck_iff.1 h
    obtain ⟨v1, h, o1⟩ := bndK_det h
    obtain ⟨v2, h, o2⟩ := bndK_det h
    obtain ⟨b2, h⟩ := chk_iff.1 h
    exact ⟨_, h, fun K hK => ck_iff.2 ⟨b1, o1 _ (o2 _ (chk_iff.2 ⟨b2, hK⟩))⟩⟩
  · obtain ⟨b1, h⟩ := ck_iff.1 h
    obtain ⟨b2, h⟩ := ck_iff.1 h
    obtain ⟨b3, h⟩ := chk_iff.1 h
    split at h
    · obtain ⟨v2, h, o2⟩ := bndK_det h
      obtain ⟨b4, h⟩ := chk_iff.1 h
      exact ⟨_, h, fun K hK => ck_iff.2 ⟨b1, ck_iff.2 ⟨b2, chk_iff.2 ⟨b3, o2 _ (chk_iff.2 ⟨b4, hK⟩)⟩⟩⟩⟩
    · obtain ⟨v1, h, o1⟩ := bndK_det h
      obtain ⟨v2, h, o2⟩ := bndK_det h
      obtain ⟨b4, h⟩ := chk_iff.1 h
      exact ⟨_, h, fun K hK => ck_iff.2 ⟨b1, ck_iff.2 ⟨b2, chk_iff.2 ⟨b3, o1 _ (o2 _ (chk_iff.2 ⟨b4, hK⟩))⟩⟩⟩⟩
  · obtain ⟨b1, h⟩ := ck_iff.1 h
    obtain ⟨b2, h⟩ := ck_iff.1 h
    obtain ⟨b3, h⟩ := ck_iff.1 h
    obtain ⟨b5, h⟩ := ck_iff.1 h
    obtain ⟨v1, h, o1⟩ := bndK_det h
    obtain ⟨v2, h, o2⟩ := bndK_det h
    obtain ⟨b4, h⟩ := chk_iff.1 h
    exact ⟨_, h, fun K hK => ck_iff.2 ⟨b1, ck_iff.2 ⟨b2, ck_iff.2 ⟨b3, ck_iff.2 ⟨b5, o1 _ (o2 _ (chk_iff.2 ⟨b4, hK⟩))⟩⟩⟩⟩⟩
  · exact h.elim
theorem slice3K_det {cx : Cx} {t : Nat} {x : FV} {lo hi : Option Operand} {mx : Operand} {E : Operand → FV} {H : Hp} {K : FV → Prop} (h : slice3K cx t x lo hi mx E H K) : ∃ v, K v ∧ One (slice3K cx t x lo hi mx E H) v := by
  unfold slice3K at h
  split at h
  · obtain ⟨b1, h⟩ := ck_iff.1 h
    obtain ⟨b2, h⟩ := ck_iff.1 h
    obtain ⟨b3, h⟩ := chk_iff.1 h
    obtain ⟨v0, h, o0⟩ := bndK_det h
    obtain ⟨v1, h, o1⟩ := bndK_det h
    obtain ⟨v2, h, o2⟩ := bndK_det h
    obtain ⟨b4, h⟩ := chk_iff.1 h
    exact ⟨_, h, fun K hK => ck_iff.2 ⟨b1, ck_iff.2 ⟨b2, chk_iff.2 ⟨b3, o0 _ (o1 _ (o2 _ (chk_iff.2 ⟨b4, hK⟩)))⟩⟩⟩⟩
  · exact h.elim
theorem mkslB_det {cx : Cx} {t : Nat} {l c : FV} {K : FV → Prop} (h : mkslB cx t l c K) : ∃ v, K v ∧ One (mkslB cx t l c) v := by
  unfold mkslB at h
  split at h
  · obtain ⟨b1, h⟩ := ck_iff.1 h
    obtain ⟨b2, h⟩ := ck_iff.1 h
    obtain ⟨b3, h⟩ := chk_iff.1 h
    exact ⟨_, h, fun K hK => ck_iff.2 ⟨b1, ck_iff.2 ⟨b2, chk_iff.2 ⟨b3, hK⟩⟩⟩⟩
  · exact h.elim
theorem fldK_det {x : FV} {p : Nat} {K : FV → Prop} (h : fldK x p K) : ∃ v, K v ∧ One (fldK x p) v := by
  unfold fldK at h
  split at h
  · exact ⟨_, h, fun K hK => hK⟩
  · exact ⟨_, h, fun K hK => hK⟩
  · exact h.elim
theorem idxK_det {cx : Cx} {t : Nat} {x i : FV} {K : FV → Prop} (h : idxK cx t x i K) : ∃ v, K v ∧ One (idxK cx t x i) v := by
  unfold idxK at h
  split at h
  · rename_i a n z' k j
    obtain ⟨b1, h⟩ := ck_iff.1 h
    obtain ⟨b2, h⟩ := chk_iff.1 h
    obtain ⟨b3, h⟩ := chk_iff.1 h
    cases a with
    | none => exact h.elim
    | some p => exact ⟨_, h, fun K hK => ck_iff.2 ⟨b1, chk_iff.2 ⟨b2, chk_iff.2 ⟨b3, hK⟩⟩⟩⟩
  · obtain ⟨b1, h⟩ := ck_iff.1 h
    obtain ⟨b2, h⟩ := ck_iff.1 h
    obtain ⟨b3, h⟩ := chk_iff.1 h
    exact ⟨_, h, fun K hK => ck_iff.2 ⟨b1, ck_iff.2 ⟨b2, chk_iff.2 ⟨b3, hK⟩⟩⟩⟩
  · exact h.elim
theorem lenK_det {cx : Cx} {t : Nat} {x : FV} {K : FV → Prop} (h : lenK cx t x K) : ∃ v, K v ∧ One (lenK cx t x) v := by
  unfold lenK at h
  split at h
  · obtain ⟨b, h⟩ := ck_iff.1 h; exact ⟨_, h, fun K hK => ck_iff.2 ⟨b, hK⟩⟩
  · obtain ⟨b, h⟩ := ck_iff.1 h; exact ⟨_, h, fun K hK => ck_iff.2 ⟨b, hK⟩⟩
  · obtain ⟨b, h⟩ := ck_iff.1 h; exact ⟨_, h, fun K hK => ck_iff.2 ⟨b, hK⟩⟩
  · exact h.elim
theorem min2K_det {mx : Bool} {x y : FV} {K : FV → Prop} (h : min2K mx x y K) : ∃ v, K v ∧ One (min2K mx x y) v := by
  unfold min2K at h
  split at h
  · exact ⟨_, h, fun K hK => hK⟩
  · exact h.elim

end Go.Am
namespace Go.Am

theorem convK_det {cx : Cx} {s d : Nat} {x : FV} {H : Hp} {K : FV → Hp → Prop} (hk : Nat.beq (cx.ty d).k 1 = false) (h : convK cx s d x H K) : ∃ v, K v H ∧ ∀ K' : FV → Hp → Prop, K' v H → convK cx s d x H K' := by
  unfold convK at h
  rw [ck_iff, ck_iff] at h
  obtain ⟨b1, b2, h⟩ := h
  have key : ∀ {K' : FV → Hp → Prop}, _ → convK cx s d x H K' := fun {K'} q => ck_iff.2 ⟨b1, ck_iff.2 ⟨b2, q⟩⟩
  split at h
  · rename_i e1 e2
    obtain ⟨b, h⟩ := ck_iff.1 h
    exact ⟨_, h, fun K' hK => key (by rw [e1, e2]; exact ck_iff.2 ⟨b, hK⟩)⟩
  · rename_i e1
    exact ⟨_, h, fun K' hK => key (by rw [e1]; exact hK)⟩
  · rename_i e1
    obtain ⟨b3, h⟩ := ck_iff.1 h
    obtain ⟨b4, h⟩ := ck_iff.1 h
    unfold rdN at h
    split at h
    · rename_i cs hc
      obtain ⟨bs, h, o⟩ := bytesK_det h
      refine ⟨_, h, fun K' hK => key ?_⟩
      rw [e1]
      refine ck_iff.2 ⟨b3, ck_iff.2 ⟨b4, ?_⟩⟩
      unfold rdN; rw [hc]; exact o (fun s => K' (.g (.str (mkS s))) H) hK
    · exact h.elim
  · rename_i e1
    obtain ⟨b3, h⟩ := ck_iff.1 h
    obtain ⟨b4, h⟩ := ck_iff.1 h
    obtain ⟨b5, h⟩ := ck_iff.1 h
    obtain ⟨bs, h, o⟩ := bytesK_det h
    refine ⟨_, h, fun K' hK => key ?_⟩
    rw [e1]
    exact ck_iff.2 ⟨b3, ck_iff.2 ⟨b4, ck_iff.2 ⟨b5, o (fun s => K' (.g (.str (mkS s))) H) hK⟩⟩⟩
  · rename_i e1
    rw [e1] at hk; cases hk
  · exact h.elim

theorem opE_det {cx : Cx} {o : Oper} {E : Operand → FV} {B : Nat → FV} {H : Hp} {K : FV → Hp → Prop} (he : isEff cx o = false) (h : opE cx o E B H K) : ∃ v, K v H ∧ ∀ K' : FV → Hp → Prop, K' v H → opE cx o E B H K' := by
  have key : ∀ {K' : FV → Hp → Prop} {X : Prop}, X → X = opE cx o E B H K' → opE cx o E B H K' := fun hX e => e ▸ hX
  unfold opE at h
  unfold isEff at he
  cases ho : o.op with
  | move x => rw [ho] at h; exact ⟨_, h, fun K' hK => by unfold opE; rw [ho]; exact hK⟩
  | assign x => rw [ho] at h; exact ⟨_, h, fun K' hK => by unfold opE; rw [ho]; exact hK⟩
  | pick c a b =>
    rw [ho] at h; dsimp only at h
    split at h
    · rename_i t e
      cases t with
      | true => exact ⟨_, h, fun K' hK => by unfold opE; rw [ho]; dsimp only; rw [e]; exact hK⟩
      | false => exact ⟨_, h, fun K' hK => by unfold opE; rw [ho]; dsimp only; rw [e]; exact hK⟩
    · exact h.elim
  | build t ps =>
    rw [ho] at h
    obtain ⟨b1, h⟩ := ck_iff.1 h
    obtain ⟨b2, h⟩ := ck_iff.1 h
    obtain ⟨b3, h⟩ := ck_iff.1 h
    obtain ⟨v, h1, h2⟩ := bldK_det h
    exact ⟨_, h1, fun K' hK => by unfold opE; rw [ho]; exact ck_iff.2 ⟨b1, ck_iff.2 ⟨b2, ck_iff.2 ⟨b3, h2 (fun cs => K' (.agg cs) H) hK⟩⟩⟩⟩
  | buildSlice t n ps =>
    rw [ho] at h he
    have he : cx.isEsc o.dst = false := he
    obtain ⟨b1, h⟩ := ck_iff.1 h
    obtain ⟨b2, h⟩ := ck_iff.1 h
    obtain ⟨b3, h⟩ := ck_iff.1 h
    obtain ⟨v, h1, h2⟩ := blsK_det h
    rw [he] at h1
    refine ⟨_, h1, fun K' hK => ?_⟩
    unfold opE; rw [ho]
    exact ck_iff.2 ⟨b1, ck_iff.2 ⟨b2, ck_iff.2 ⟨b3, h2 _ (by rw [he]; exact hK)⟩⟩⟩
  | load t a =>
    rw [ho] at h
    obtain ⟨b1, h⟩ := ck_iff.1 h
    obtain ⟨v, h1, h2⟩ := loadK_det h
    exact ⟨_, h1, fun K' hK => by unfold opE; rw [ho]; exact ck_iff.2 ⟨b1, h2 (fun v => K' v H) hK⟩⟩
  | nilCheck x =>
    rw [ho] at h; dsimp only at h
    split at h
    · rename_i s p e
      exact ⟨_, h, fun K' hK => by unfold opE; rw [ho]; dsimp only; rw [e]; exact hK⟩
    · rename_i a e
      cases a with
      | none => exact h.elim
      | some p => exact ⟨_, h, fun K' hK => by unfold opE; rw [ho]; dsimp only; rw [e]; exact hK⟩
    · exact h.elim
  | binOp op t x y yt =>
    rw [ho] at h
    obtain ⟨v, h1, h2⟩ := binK_det h
    exact ⟨_, h1, fun K' hK => by unfold opE; rw [ho]; exact h2 (fun v => K' v H) hK⟩
  | unOp op t x =>
    rw [ho] at h
    obtain ⟨v, h1, h2⟩ := unK_det h
    exact ⟨_, h1, fun K' hK => by unfold opE; rw [ho]; exact h2 (fun v => K' v H) hK⟩
  | convert s d x =>
    rw [ho] at h he
    obtain ⟨v, h1, h2⟩ := convK_det he h
    exact ⟨_, h1, fun K' hK => by unfold opE; rw [ho]; exact h2 K' hK⟩
  | makeInterface t x =>
    rw [ho] at h
    obtain ⟨b1, h⟩ := ck_iff.1 h
    obtain ⟨b2, h⟩ := ck_iff.1 h
    split at h
    · rename_i v e
      exact ⟨_, h, fun K' hK => by unfold opE; rw [ho]; refine ck_iff.2 ⟨b1, ck_iff.2 ⟨b2, ?_⟩⟩; rw [e]; exact hK⟩
    · exact h.elim
  | makeFunc fn first caps =>
    rw [ho] at h; dsimp only at h
    split at h
    · rename_i f e
      obtain ⟨v, h1, h2⟩ := capsK_det h
      exact ⟨_, h1, fun K' hK => by unfold opE; rw [ho]; dsimp only; rw [e]; exact h2 (fun cs => K' (.g (.fn f cs)) H) hK⟩
    · exact h.elim
  | makeSlice t l c =>
    rw [ho] at h he
    have he : cx.isEsc o.dst = false := he
    dsimp only at h
    rw [he] at h
    obtain ⟨v, h1, h2⟩ := mkslB_det h
    refine ⟨v, h1, fun K' hK => ?_⟩
    unfold opE; rw [ho]; dsimp only; rw [he]
    exact h2 (fun v => K' v H) hK
  | slice t x lo hi mx =>
    rw [ho] at h
    cases mx with
    | some m =>
      obtain ⟨v, h1, h2⟩ := slice3K_det h
      exact ⟨_, h1, fun K' hK => by unfold opE; rw [ho]; exact h2 (fun v => K' v H) hK⟩
    | none =>
      obtain ⟨v, h1, h2⟩ := sliceK_det h
      exact ⟨_, h1, fun K' hK => by unfold opE; rw [ho]; exact h2 (fun v => K' v H) hK⟩
  | fieldAddr t x f =>
    rw [ho] at h; dsimp only at h
    split at h
    · rename_i p e hf
      obtain ⟨b1, h⟩ := ck_iff.1 h
      obtain ⟨b2, h⟩ := ck_iff.1 h
      obtain ⟨b3, h⟩ := ck_iff.1 h
      obtain ⟨v, h1, h2⟩ := fldK_det h
      exact ⟨_, h1, fun K' hK => by unfold opE; rw [ho]; dsimp only; rw [hf]; exact ck_iff.2 ⟨b1, ck_iff.2 ⟨b2, ck_iff.2 ⟨b3, h2 (fun v => K' v H) hK⟩⟩⟩⟩
    · exact h.elim
  | field t x f =>
    rw [ho] at h; dsimp only at h
    split at h
    · rename_i p t' cs hf e
      obtain ⟨b1, h⟩ := ck_iff.1 h
      obtain ⟨b2, h⟩ := ck_iff.1 h
      obtain ⟨v, h1, h2⟩ := cutK_det h
      exact ⟨_, h1, fun K' hK => by unfold opE; rw [ho]; dsimp only; rw [hf, e]; exact ck_iff.2 ⟨b1, ck_iff.2 ⟨b2, h2 (fun v => K' v H) hK⟩⟩⟩
    · exact h.elim
  | indexAddr t x i =>
    rw [ho] at h
    obtain ⟨v, h1, h2⟩ := idxK_det h
    exact ⟨_, h1, fun K' hK => by unfold opE; rw [ho]; exact h2 (fun v => K' v H) hK⟩
  | index t x i =>
    rw [ho] at h; dsimp only at h
    split at h
    · rename_i s k j e1 e2
      obtain ⟨b1, h⟩ := ck_iff.1 h
      obtain ⟨b2, h⟩ := chk_iff.1 h
      exact ⟨_, h, fun K' hK => by unfold opE; rw [ho]; dsimp only; rw [e1, e2]; exact ck_iff.2 ⟨b1, chk_iff.2 ⟨b2, hK⟩⟩⟩
    · exact h.elim
  | extract x i =>
    rw [ho] at h; dsimp only at h
    split at h
    · rename_i vs e
      split at h
      · rename_i v hg
        exact ⟨_, h, fun K' hK => by unfold opE; rw [ho]; dsimp only; rw [e]; dsimp only; rw [hg]; exact hK⟩
      · rename_i cs hg
        exact ⟨_, h, fun K' hK => by unfold opE; rw [ho]; dsimp only; rw [e]; dsimp only; rw [hg]; exact hK⟩
      · exact h.elim
    · exact h.elim
  | typeAssert x xt a ok =>
    rw [ho] at h; dsimp only at h
    cases ok with
    | true => exact h.elim
    | false =>
      obtain ⟨b1, h⟩ := ck_iff.1 h
      obtain ⟨b2, h⟩ := ck_iff.1 h
      split at h
      · rename_i v e
        cases v <;> first | exact h.elim | skip
        rename_i t w
        have h' : t = a ∧ (match (cx.ty a).lv with | [k] => dLeaf k w fun w => K (.g w) H | _ => False) := h
        obtain ⟨e1, h2⟩ := h'
        split at h2
        · rename_i k el
          obtain ⟨v, h3, h4⟩ := dLeaf_det h2
          exact ⟨_, h3, fun K' hK => by unfold opE; rw [ho]; dsimp only; refine ck_iff.2 ⟨b1, ck_iff.2 ⟨b2, ?_⟩⟩; rw [e]; refine ⟨e1, ?_⟩; rw [el]; exact h4 (fun w => K' (.g w) H) hK⟩
        · exact h2.elim
      · exact h.elim
  | call c =>
    rw [ho] at h he
    dsimp only at h he
    cases hc : c.callee with
    | value f => rw [hc] at he; cases he
    | invoke r n => rw [hc] at he; cases he
    | builtin b =>
      rw [hc] at h he
      dsimp only at h
      split at h
      · rename_i x ha
        split at h
        · rename_i t e
          obtain ⟨v, h1, h2⟩ := lenK_det h
          exact ⟨_, h1, fun K' hK => by unfold opE; rw [ho]; dsimp only; rw [hc]; dsimp only; rw [ha]; dsimp only; rw [e]; exact h2 (fun v => K' v H) hK⟩
        · exact h.elim
      · cases he
      · rename_i x y ha
        obtain ⟨v, h1, h2⟩ := min2K_det h
        exact ⟨_, h1, fun K' hK => by unfold opE; rw [ho]; dsimp only; rw [hc]; dsimp only; rw [ha]; exact h2 (fun v => K' v H) hK⟩
      · rename_i x y ha
        obtain ⟨v, h1, h2⟩ := min2K_det h
        exact ⟨_, h1, fun K' hK => by unfold opE; rw [ho]; dsimp only; rw [hc]; dsimp only; rw [ha]; exact h2 (fun v => K' v H) hK⟩
      · cases he
      · exact h.elim
  | _ => rw [ho] at h; exact h.elim

end Go.Am
namespace Go.Am

section
variable {E E' : Operand → FV}
theorem evT_congr {cx : Cx} {t : Nat} {x : Operand} (h : E' x = E x) : evT cx t E' x = evT cx t E x := by
  unfold evT; split
  · rfl
  · exact h

theorem argsK_congr {cx : Cx} : ∀ {xs : List Operand} {ts : List Nat}, (∀ x ∈ xs, E' x = E x) → ∀ (H : Hp) (K : List FV → Hp → Prop), argsK cx E' xs ts H K = argsK cx E xs ts H K
  | [], _, _, H, K => rfl
  | x :: xs, ts, h, H, K => by
    have hx := evT_congr (cx := cx) (t := hdN ts) (h x (by simp))
    have ih := argsK_congr (cx := cx) (xs := xs) (ts := tlN ts) (fun y hy => h y (by simp [hy]))
    simp only [argsK, hx, ih]
theorem bldK_congr {cx : Cx} {t : Nat} : ∀ {ps : List (Nat × Operand)}, (∀ x ∈ ps.map (·.2), E' x = E x) → ∀ (zs : List GV) (K : List GV → Prop), bldK cx E' t zs ps K = bldK cx E t zs ps K
  | [], _, zs, K => rfl
  | (i, x) :: ps, h, zs, K => by
    have hx := h x (by simp)
    have ih := bldK_congr (cx := cx) (t := t) (ps := ps) (fun y hy => h y (by simp at hy ⊢; exact .inr hy))
    simp only [bldK, hx, ih]
theorem blsK_congr {z : Nat} : ∀ {ps : List (Nat × Operand)}, (∀ x ∈ ps.map (·.2), E' x = E x) → ∀ (zs : List GV) (K : List GV → Prop), blsK E' z zs ps K = blsK E z zs ps K
  | [], _, zs, K => rfl
  | (i, x) :: ps, h, zs, K => by
    have hx := h x (by simp)
    have ih := blsK_congr (z := z) (ps := ps) (fun y hy => h y (by simp at hy ⊢; exact .inr hy))
    simp only [blsK, hx, ih]
theorem capsK_congr : ∀ {xs : List Operand}, (∀ x ∈ xs, E' x = E x) → ∀ (K : List (Nat × Nat) → Prop), capsK E' xs K = capsK E xs K
  | [], _, K => rfl
  | x :: xs, h, K => by
    have hx := h x (by simp)
    have ih := capsK_congr (xs := xs) (fun y hy => h y (by simp [hy]))
    simp only [capsK, hx, ih]
theorem bndK_congr {x : Option Operand} {d : Nat} (h : ∀ y, x = some y → E' y = E y) (K : Nat → Prop) : bndK E' x d K = bndK E x d K := by
  cases x with
  | none => rfl
  | some x => simp only [bndK, h x rfl]
theorem loadK_gB {cx : Cx} {t : Nat} {w : GV} {B B' : Nat → FV} {H : Hp} {K : FV → Prop} : loadK cx t (.g w) B' H K = loadK cx t (.g w) B H K := by
  cases w <;> first | rfl | (rename_i q; cases q <;> rfl)
theorem recvK_gB {cx : Cx} {t : Nat} {b : Bool} {w : GV} {B B' : Nat → FV} {H : Hp} {K : FV → Prop} : recvK cx t b w B' H K = recvK cx t b w B H K := by
  unfold recvK
  cases (cx.ty t).isA 2 with
  | false => rfl
  | true => cases b with
    | true => rfl
    | false => cases w <;> first | rfl | (rename_i a; cases a <;> rfl)
theorem opE_congr {cx : Cx} {o : Oper} {B B' : Nat → FV} (H : Hp) (K : FV → Hp → Prop) (h : ∀ x ∈ o.op.operands, E' x = E x) (hB : ∀ t a s p, o.op = .load t a → E a = .lp s p → B' s = B s) : opE cx o E' B' H K = opE cx o E B H K := by
  unfold opE
  cases ho : o.op <;> rw [ho] at h <;> simp only [Op.operands] at h <;> dsimp only
  case move x => rw [evT_congr (h x (by simp))]
  case assign x => rw [evT_congr (h x (by simp))]
  case pick c a b => rw [h c (by simp), h a (by simp), h b (by simp)]
  case build t ps =>
    have := bldK_congr (cx := cx) (t := t) (ps := ps.toList) (E := E) (E' := E') (fun x hx => h x (by simpa using hx))
    simp only [this]
  case buildSlice t n ps =>
    have := fun z => blsK_congr (z := z) (ps := ps.toList) (E := E) (E' := E') (fun x hx => h x (by simpa using hx))
    simp only [this]
  case load t a =>
    have ha := h a (by simp)
    rw [ha]
    congr 1
    cases he : E a with
    | lp s p => simp only [loadK, hB t a s p ho he]
    | g v => cases v <;> first | rfl | (rename_i q; cases q <;> rfl)
    | _ => rfl
  case nilCheck x => rw [h x (by simp)]
  case binOp op t x y yt => rw [h x (by simp), h y (by simp)]
  case unOp op t x => rw [h x (by simp)]
  case convert s d x => rw [h x (by simp)]
  case makeInterface t x => rw [h x (by simp)]
  case makeFunc fn first caps =>
    have := capsK_congr (xs := caps.toList) (E := E) (E' := E') (fun x hx => h x (by simp; right; simpa using hx))
    simp only [this]
  case makeSlice t l c => rw [h l (by simp), h c (by simp)]
  case slice t x lo hi mx =>
    have hx := h x (by simp)
    have h1 := fun d => bndK_congr (x := lo) (d := d) (E := E) (E' := E') (fun y e => h y (by simp [e]))
    have h2 := fun d => bndK_congr (x := hi) (d := d) (E := E) (E' := E') (fun y e => h y (by simp [e]))
    rw [hx]
    cases mx with
    | some m =>
      have h3 := fun d => bndK_congr (x := some m) (d := d) (E := E) (E' := E') (fun y e => h y (by cases e; simp))
      cases hi with
      | none => cases E x <;> first | rfl | (rename_i g; cases g <;> rfl)
      | some y =>
        cases E x with
        | g g => cases g with
          | sl a n z => simp only [slice3K, h1, h2, h3]
          | _ => rfl
        | _ => rfl
    | none => simp only [sliceK, h1, h2]
  case fieldAddr t x f => rw [h x (by simp)]
  case field t x f => rw [h x (by simp)]
  case indexAddr t x i => rw [h x (by simp), h i (by simp)]
  case index t x i => rw [h x (by simp), h i (by simp)]
  case extract x i => rw [h x (by simp)]
  case typeAssert x xt a ok => rw [h x (by simp)]
  case call c =>
    simp only [Call.operands] at h
    have hargs : ∀ x ∈ c.args.toList, E' x = E x := fun x hx => h x (by simp; right; simpa using hx)
    have h1 := argsK_congr (cx := cx) (xs := c.args.toList) (ts := c.argTypes.toList) (E := E) (E' := E') hargs
    cases hc : c.callee with
    | value f =>
      rw [hc] at h
      have hf := h f (by simp)
      cases f <;> dsimp only <;> simp only [h1, hf]
    | builtin b =>
      dsimp only
      split
      · rename_i x ha
        rw [hargs x (by rw [ha]; simp)]
      · rename_i x ha
        rw [hargs x (by rw [ha]; simp)]
      · rename_i x y ha
        rw [hargs x (by rw [ha]; simp), hargs y (by rw [ha]; simp)]
      · rename_i x y ha
        rw [hargs x (by rw [ha]; simp), hargs y (by rw [ha]; simp)]
      · rename_i x y ha
        rw [hargs x (by rw [ha]; simp), hargs y (by rw [ha]; simp)]
      · rfl
    | invoke r n =>
      rw [hc] at h
      have hr := h r (by simp)
      dsimp only
      rw [hr]
      have h2 := fun (t : Nat) (b : Bool) (w : GV) (H : Hp) (K : FV → Prop) => recvK_gB (cx := cx) (t := t) (b := b) (w := w) (B := B) (B' := B') (H := H) (K := K)
      simp only [h1, h2]

/-- what does not read the heap is the same in another -/
theorem opE_heap {cx : Cx} {o : Oper} {B : Nat → FV} {H H' : Hp} {v : FV} (he : isEff cx o = false) (hr : readsH o E = false) (h : ∀ K : FV → Hp → Prop, K v H → opE cx o E B H K) : ∀ K : FV → Hp → Prop, K v H' → opE cx o E B H' K := by
  intro K hK
  have h1 := h (fun v' h' => v' = v ∧ h' = H) ⟨rfl, rfl⟩
  obtain ⟨v2, ⟨rfl, _⟩, _⟩ := opE_det he h1
  have h2 := h (fun v' h' => v' = v2) rfl
  have h3 : opE cx o E B H' (fun v' h' => v' = v2) := by
    unfold opE at h2 ⊢
    unfold readsH at hr
    unfold isEff at he
    cases ho : o.op with
    | buildSlice t n ps =>
      rw [ho] at h2 he; dsimp only at h2 he ⊢
      simp only [he] at h2 ⊢; exact h2
    | load t a =>
      rw [ho] at h2 hr; dsimp only at h2 hr ⊢
      cases hx : E a with
      | g v => rw [hx] at hr; cases hr
      | _ => rw [hx] at h2; exact h2
    | convert s d x =>
      rw [ho] at h2 hr he; dsimp only at h2 hr he ⊢
      have hk : (cx.ty d).k ≠ 1 := fun e => by rw [e] at he; cases he
      unfold convK at h2 ⊢
      rw [ck_iff, ck_iff] at h2 ⊢
      refine ⟨h2.1, h2.2.1, ?_⟩
      have h3 := h2.2.2
      split at h3
      · exact h3
      · exact h3
      · rename_i e1 e2; rw [e2] at hr; cases hr
      · exact h3
      · rename_i e1 e2; exact (hk e1).elim
      · exact h3.elim
    | slice t x lo hi mx =>
      rw [ho] at h2 hr; dsimp only at h2 ⊢
      cases mx with
      | some m =>
        cases hi with
        | none =>
          dsimp only at h2
          cases hx : E x with
          | g g => rw [hx] at h2; cases g <;> exact h2.elim
          | _ => rw [hx] at h2; exact h2.elim
        | some y =>
          dsimp only at hr
          cases hx : E x with
          | g g =>
            rw [hx] at h2 hr
            cases g <;> first | exact h2.elim | cases hr
          | _ => rw [hx] at h2; exact h2.elim
      | none =>
        cases hi with
        | none =>
          dsimp only at hr
          cases hx : E x with
          | g g =>
            rw [hx] at h2 hr
            cases g <;> first | exact h2 | cases hr
          | _ => rw [hx] at h2; exact h2
        | some y =>
          dsimp only at hr
          cases hx : E x with
          | g g =>
            rw [hx] at h2 hr
            cases g <;> first | exact h2 | cases hr
          | _ => rw [hx] at h2; exact h2
    | call c =>
      rw [ho] at h2 he; dsimp only at h2 he ⊢
      cases hc : c.callee with
      | value f => rw [hc] at he; cases he
      | invoke r n => rw [hc] at he; cases he
      | builtin b =>
        rw [hc] at h2 he
        rcases hl : c.args.toList with _ | ⟨x, _ | ⟨y, _ | ⟨z, l⟩⟩⟩ <;> rw [hl] at h2 <;> cases b <;> first | exact h2 | (cases he; done) | exact h2.elim
    | makeSlice t l c =>
      rw [ho] at h2 he; dsimp only at h2 he ⊢
      simp only [he] at h2 ⊢; exact h2
    | _ => rw [ho] at h2; exact h2
  obtain ⟨v3, rfl, h4⟩ := opE_det (K := fun v' _ => v' = v2) (by exact he) h3
  exact h4 K hK
end

end Go.Am
namespace Go.Am

theorem mem_iff {i : Nat} : ∀ {l : List Nat}, mem i l = true ↔ i ∈ l
  | [] => by simp [mem]
  | j :: l => by
    unfold mem
    split
    · rename_i e; simp [beq_eq e]
    · rename_i e
      have : i ≠ j := by intro q; subst q; simp at e
      simp [this, mem_iff (l := l)]
theorem nodupB_iff : ∀ {l : List Nat}, nodupB l = true → l.Nodup
  | [], _ => List.nodup_nil
  | i :: l, h => by
    unfold nodupB at h
    split at h
    · cases h
    · rename_i e
      refine List.nodup_cons.2 ⟨fun q => ?_, nodupB_iff h⟩
      rw [mem_iff.2 q] at e; cases e

/-! ## who waits for whom -/
def Lis (L : Array Bool) (i : Nat) : Prop := L.getD i false = true
theorem bitsOf_spec {acc : List Nat} {b : Nat} : ∀ {es : List Edge} {s : Nat}, (bitsOf acc es s).testBit b = true → s.testBit b = true ∨ ∃ e ∈ es, Region.binds .any e = true ∧ (b = e.on ∨ (acc.getD e.on 0).testBit b = true)
  | [], s, h => .inl h
  | e :: es, s, h => by
    unfold bitsOf at h
    rcases bitsOf_spec h with q | ⟨e', h1, h2⟩
    · split at q
      · rename_i hb
        simp only [Nat.testBit_or, Bool.or_eq_true] at q
        rcases q with (q | q) | q
        · exact .inl q
        · rw [Nat.testBit_two_pow] at q
          exact .inr ⟨e, by simp, hb, .inl (by simpa using q : e.on = b).symm⟩
        · exact .inr ⟨e, by simp, hb, .inr q⟩
      · exact .inl q
    · exact .inr ⟨e', by simp [h1], h2⟩

def WSpec (os : List Oper) (W : List Nat) : Prop := ∀ i b, (W.getD i 0).testBit b = true → ∃ o e, os[i]? = some o ∧ e ∈ o.after ∧ Region.binds .any e = true ∧ (b = e.on ∨ (e.on < i ∧ (W.getD e.on 0).testBit b = true))
theorem waitsGo_spec : ∀ (os pre : List Oper) (acc : List Nat), acc.length = pre.length → WSpec (pre ++ os) acc → WSpec (pre ++ os) (waitsGo acc os)
  | [], pre, acc, _, h => h
  | o :: os, pre, acc, hl, h => by
    have := waitsGo_spec os (pre ++ [o]) (acc ++ [bitsOf acc o.after.toList 0]) (by simp [hl]) (by
      simp only [List.append_assoc, List.singleton_append]
      intro i b hb
      rcases Nat.lt_trichotomy i acc.length with q | q | q
      · rw [List.getD_eq_getElem?_getD, List.getElem?_append_left q, ← List.getD_eq_getElem?_getD] at hb
        obtain ⟨o', e, h1, h2, h3, h4⟩ := h i b hb
        refine ⟨o', e, h1, h2, h3, h4.imp_right fun r => ⟨r.1, ?_⟩⟩
        rw [List.getD_eq_getElem?_getD, List.getElem?_append_left (by omega), ← List.getD_eq_getElem?_getD]
        exact r.2
      · subst q
        rw [List.getD_eq_getElem?_getD, List.getElem?_append_right (Nat.le_refl _)] at hb
        simp at hb
        rcases bitsOf_spec hb with q | ⟨e, h1, h2, h3⟩
        · simp at q
        · refine ⟨o, e, by rw [List.getElem?_append_right (by omega)]; simp [hl], by simpa using h1, h2, h3.imp_right fun r => ?_⟩
          have hlt : e.on < acc.length := by
            rcases Nat.lt_or_ge e.on acc.length with q | q
            · exact q
            · rw [List.getD_eq_getElem?_getD, List.getElem?_eq_none q] at r; simp at r
          refine ⟨hlt, ?_⟩
          rw [List.getD_eq_getElem?_getD, List.getElem?_append_left hlt, ← List.getD_eq_getElem?_getD]
          exact r
      · rw [List.getD_eq_getElem?_getD, List.getElem?_eq_none (by simp; omega)] at hb
        simp at hb)
    simpa [waitsGo] using this
theorem waits_spec (ops : Array Oper) : WSpec ops.toList (waits ops) := by
  have := waitsGo_spec ops.toList [] [] rfl (fun i b h => by simp at h)
  simpa [waits] using this

def Closed (ops : Array Oper) (L : Array Bool) : Prop := ∀ (i : Nat) o, ops[i]? = some o → Lis L i → ∀ e ∈ o.after, Region.binds .any e = true → Lis L e.on

theorem waits_listed {ops : Array Oper} {L : Array Bool} (hc : Closed ops L) : ∀ (i : Nat), (∀ o, ops[i]? = some o → ∀ e ∈ o.after, Region.binds .any e = true → Lis L e.on) → ∀ b, has ((waits ops).getD i 0) b = true → Lis L b := by
  intro i
  induction i using Nat.strongRecOn with
  | _ i ih =>
    intro hd b hb
    obtain ⟨o, e, h1, h2, h3, h4⟩ := waits_spec ops i b hb
    have h1' : ops[i]? = some o := by simpa using h1
    have hl := hd o h1' e h2 h3
    rcases h4 with rfl | ⟨h5, h6⟩
    · exact hl
    · exact ih e.on h5 (fun o' ho' e' he' hb' => hc e.on o' ho' hl e' he' hb') b h6

/-! ## the checks, told -/
structure DrFacts (cx : Cx) (ops : Array Oper) (m : Nat) (σ al : List Nat) : Prop where
  all : ∀ i, i < m → i ∈ σ
  lt : ∀ i, i ∈ σ → i < m
  le : m ≤ ops.size
  nodup : σ.Nodup
  eff : effOK cx ops (waits ops) σ = true
  dst : ∀ i j, i < m → j < m → ∀ d, d ∈ dstAt ops i → d ∈ dstAt ops j → i = j
  op : ∀ i, i < m → ∃ o, ops[i]? = some o ∧ (∀ t ∈ o.looksAt ops, (isStore o = false → t ∉ al) ∧ ∀ j, j < m → t ∈ dstAt ops j → has ((waits ops).getD i 0) j = true) ∧ (isStore o = true → o.dst = none) ∧
    (∀ g w, o.guard = some (g, w) → has ((waits ops).getD i 0) g = true) ∧ (isAl cx o = true → ∀ d, o.dst = some d → d ∈ al)
  edge : ∀ (i : Nat) o, ops[i]? = some o → ∀ e ∈ o.after, Region.binds .any e = true → e.on < i
  tail : ∀ i, i < ops.size → m ≤ i → ∀ j, j < i → has ((waits ops).getD i 0) j = true

theorem nodup_flat {f : Nat → List Nat} : ∀ {l : List Nat}, (l.flatMap f).Nodup → l.Nodup → ∀ i j, i ∈ l → j ∈ l → ∀ d, d ∈ f i → d ∈ f j → i = j
  | [], _, _, i, j, hi, _, d, _, _ => by cases hi
  | a :: l, h, hl, i, j, hi, hj, d, hdi, hdj => by
    rw [List.flatMap_cons, List.nodup_append] at h
    obtain ⟨_, h2, h3⟩ := h
    rw [List.nodup_cons] at hl
    cases hi with
    | head =>
      cases hj with
      | head => rfl
      | tail _ hj => exact (h3 d hdi d (List.mem_flatMap.2 ⟨j, hj, hdj⟩) rfl).elim
    | tail _ hi =>
      cases hj with
      | head => exact (h3 d hdj d (List.mem_flatMap.2 ⟨i, hi, hdi⟩) rfl).elim
      | tail _ hj => exact nodup_flat h2 hl.2 i j hi hj d hdi hdj

theorem opAt_true {ops : Array Oper} {i : Nat} {f : Oper → Bool} (h : opAt ops i false f = true) : ∃ o, ops[i]? = some o ∧ f o = true := by
  unfold opAt at h
  split at h
  · rename_i o e; exact ⟨o, e, h⟩
  · cases h

theorem drFacts {cx : Cx} {ops : Array Oper} {m : Nat} {σ al : List Nat} (h : drOKs cx ops (waits ops) m σ al = true) : DrFacts cx ops m σ al := by
  unfold drOKs at h
  simp only [Bool.and_eq_true, List.all_eq_true, List.mem_range] at h
  obtain ⟨⟨⟨⟨⟨⟨⟨h1, h2⟩, h3⟩, h4⟩, h5⟩, h6⟩, h7⟩, h8⟩ := h
  refine ⟨fun i hi => mem_iff.1 (h1 i hi), fun i hi => by have := h2 i hi; exact (show i + 1 ≤ m by simpa [Nat.blt] using this), Nat.le_of_ble_eq_true h3, nodupB_iff h4, h5, ?_, ?_, ?_, ?_⟩
  · intro i j hi hj d hdi hdj
    exact nodup_flat (nodupB_iff h6) List.nodup_range i j (List.mem_range.2 hi) (List.mem_range.2 hj) d hdi hdj
  · intro i hi
    obtain ⟨h9, h10⟩ := h7 i hi
    obtain ⟨o, ho, h11⟩ := opAt_true h10
    obtain ⟨o', ho', h12⟩ := opAt_true h9
    rw [ho] at ho'; cases ho'
    simp only [Bool.and_eq_true] at h11
    obtain ⟨⟨h13, h14⟩, h15⟩ := h11
    refine ⟨o, ho, fun t ht => ?_, fun hs => by rw [hs] at h13; unfold noDst at h13; cases hd : o.dst with | none => rfl | some d => rw [hd] at h13; simp at h13, fun g w hg => ?_, fun ha d hd => ?_⟩
    · rw [List.all_eq_true] at h12
      have := h12 t ht
      simp only [Bool.and_eq_true, List.all_eq_true, List.mem_range] at this
      obtain ⟨q1, q2⟩ := this
      refine ⟨fun hs q => by rw [mem_iff.2 q, hs] at q1; simp at q1, fun j hj hjt => ?_⟩
      have := q2 j hj
      rw [mem_iff.2 hjt] at this
      exact this
    · unfold guardOK at h14; rw [hg] at h14; exact h14
    · rw [ha] at h15
      have : d ∈ dstAt ops i := by simp [dstAt, ho, hd]
      exact mem_iff.1 (List.all_eq_true.1 h15 d this)
  · intro i o ho e he hb
    have hi : i < ops.size := (Array.getElem?_eq_some_iff.1 ho).1
    obtain ⟨h9, _⟩ := h8 i hi
    obtain ⟨o', ho', h10⟩ := opAt_true h9
    rw [ho] at ho'; cases ho'
    unfold edgesOK at h10
    have := List.all_eq_true.1 h10 e (by simpa using he)
    rw [hb] at this
    exact (show e.on + 1 ≤ i by simpa [Nat.blt] using this)
  · intro i hi hm j hj
    obtain ⟨_, h9⟩ := h8 i hi
    rw [Bool.or_eq_true] at h9
    rcases h9 with q | q
    · have : i + 1 ≤ m := by simpa [Nat.blt] using q
      omega
    · exact List.all_eq_true.1 q j (List.mem_range.2 hj)

/-- in the order that is walked, what waits for whom -/
theorem effOK_spec {cx : Cx} {ops : Array Oper} {W : List Nat} : ∀ {pre post : List Nat} {i : Nat}, effOK cx ops W (pre ++ i :: post) = true →
    (opAt ops i false (isEff cx) = true → (∀ j ∈ post, has (W.getD j 0) i = true) ∨ twin cx ops W i post = true) ∧ has (W.getD i 0) i = false ∧ (∀ j ∈ pre, has (W.getD j 0) i = false)
  | [], post, i, h => by
    simp only [List.nil_append, effOK, Bool.and_eq_true] at h
    obtain ⟨⟨⟨h1, h2⟩, h3⟩, h4⟩ := h
    refine ⟨fun he => ?_, by simpa using h2, fun j hj => by cases hj⟩
    rw [he] at h1
    rcases (Bool.or_eq_true _ _).mp h1 with h1 | h1
    · exact .inl fun j hj => List.all_eq_true.1 h1 j hj
    · exact .inr h1
  | a :: pre, post, i, h => by
    simp only [List.cons_append, effOK, Bool.and_eq_true] at h
    obtain ⟨⟨⟨h1, h2⟩, h3⟩, h4⟩ := h
    obtain ⟨g1, g2, g3⟩ := effOK_spec h4
    refine ⟨g1, g2, fun j hj => ?_⟩
    cases hj with
    | head => have := List.all_eq_true.1 h3 i (by simp); simpa using this
    | tail _ hj => exact g3 j hj

theorem split_iff {cx : Cx} {ops : Array Oper} {W : List Nat} {i j : Nat} : split cx ops W i j = true ↔ opAt ops i false (isEff cx) = true ∧ opAt ops j false (isEff cx) = true ∧ has (W.getD i 0) j = false ∧ has (W.getD j 0) i = false := by
  simp [split, and_assoc]
theorem split_symm {cx : Cx} {ops : Array Oper} {W : List Nat} {i j : Nat} (h : split cx ops W i j = true) : split cx ops W j i = true := by
  obtain ⟨h1, h2, h3, h4⟩ := split_iff.1 h
  exact split_iff.2 ⟨h2, h1, h4, h3⟩
theorem twin_iff {cx : Cx} {ops : Array Oper} {W : List Nat} {i j : Nat} {l : List Nat} : twin cx ops W i (j :: l) = true ↔ split cx ops W i j = true ∧ (∀ k ∈ l, has (W.getD k 0) i = true) ∧ ∀ k ∈ l, has (W.getD k 0) j = true := by
  simp only [twin, Bool.and_eq_true, List.all_eq_true, and_assoc]
theorem effOK_swap {cx : Cx} {ops : Array Oper} {W : List Nat} : ∀ {pre post : List Nat} {i j : Nat}, effOK cx ops W (pre ++ i :: j :: post) = true → twin cx ops W i (j :: post) = true → effOK cx ops W (pre ++ j :: i :: post) = true
  | [], post, i, j, h, ht => by
    simp only [List.nil_append, effOK, Bool.and_eq_true, List.all_cons] at h ⊢
    obtain ⟨⟨⟨h1, h2⟩, h3a, h3⟩, ⟨⟨h4, h5⟩, h6⟩, h7⟩ := h
    obtain ⟨hs, hi, hj⟩ := twin_iff.1 ht
    obtain ⟨e1, e2, e3, e4⟩ := split_iff.1 hs
    refine ⟨⟨⟨?_, h5⟩, by rw [e4]; rfl, h6⟩, ⟨⟨?_, h2⟩, h3⟩, h7⟩
    · rw [e2]; exact (Bool.or_eq_true _ _).mpr (.inr (twin_iff.2 ⟨split_symm hs, hj, hi⟩))
    · rw [e1]; exact (Bool.or_eq_true _ _).mpr (.inl (List.all_eq_true.2 hi))
  | a :: pre, post, i, j, h, ht => by
    simp only [List.cons_append, effOK, Bool.and_eq_true] at h ⊢
    obtain ⟨⟨⟨h1, h2⟩, h3⟩, h4⟩ := h
    refine ⟨⟨⟨?_, h2⟩, ?_⟩, effOK_swap h4 ht⟩
    · cases he : opAt ops a false (isEff cx) with
      | false => rfl
      | true =>
        rw [he] at h1
        rcases (Bool.or_eq_true _ _).mp h1 with h1 | h1
        · refine (Bool.or_eq_true _ _).mpr (.inl (List.all_eq_true.2 fun k hk => List.all_eq_true.1 h1 k ?_))
          simp only [List.mem_append, List.mem_cons] at hk ⊢
          grind
        · obtain ⟨hs, _, _⟩ := twin_iff.1 ht
          obtain ⟨e1, e2, e3, e4⟩ := split_iff.1 hs
          cases pre with
          | nil =>
            obtain ⟨_, _, h5⟩ := twin_iff.1 h1
            rw [h5 j (by simp)] at e4; cases e4
          | cons b pre =>
            obtain ⟨h5, h6, h7⟩ := twin_iff.1 h1
            have hm : ∀ k, k ∈ pre ++ j :: i :: post → k ∈ pre ++ i :: j :: post := fun k hk => by
              simp only [List.mem_append, List.mem_cons] at hk ⊢
              grind
            exact (Bool.or_eq_true _ _).mpr (.inr (twin_iff.2 ⟨h5, fun k hk => h6 k (hm k hk), fun k hk => h7 k (hm k hk)⟩))
    · refine List.all_eq_true.2 fun k hk => List.all_eq_true.1 h3 k ?_
      simp only [List.mem_append, List.mem_cons] at hk ⊢
      grind
theorem mem_swap {pre post : List Nat} {i j k : Nat} : k ∈ pre ++ j :: i :: post ↔ k ∈ pre ++ i :: j :: post := by
  simp only [List.mem_append, List.mem_cons]
  grind
theorem DrFacts.swap {cx : Cx} {ops : Array Oper} {m : Nat} {pre post al : List Nat} {i j : Nat} (F : DrFacts cx ops m (pre ++ i :: j :: post) al) (ht : twin cx ops (waits ops) i (j :: post) = true) : DrFacts cx ops m (pre ++ j :: i :: post) al :=
  ⟨fun k hk => mem_swap.2 (F.all k hk), fun k hk => F.lt k (mem_swap.1 hk), F.le, by
    have := F.nodup
    simp only [List.nodup_append, List.nodup_cons, List.mem_cons, not_or] at this ⊢
    obtain ⟨h1, ⟨⟨h2, h3⟩, h4, h5⟩, h6⟩ := this
    refine ⟨h1, ⟨⟨Ne.symm h2, h4⟩, h3, h5⟩, fun a ha b hb => h6 a ha b ?_⟩
    grind, effOK_swap F.eff ht, F.dst, F.op, F.edge, F.tail⟩
theorem goK_plain {cx : Cx} {ops : Array Oper} {W : List Nat} {al σ seen : List Nat} {i : Nat} {fr : List FV} {H : Hp} {K : List FV → Hp → Prop} (h : ∀ j ∈ σ, split cx ops W i j = false) : goK cx ops W al (i :: σ) seen fr H K = stp cx ops W al i seen fr H fun fr H => goK cx ops W al σ (i :: seen) fr H K := by
  cases σ with
  | nil => simp only [goK]
  | cons j σ => simp only [goK, h j (by simp)]
theorem split_false {cx : Cx} {ops : Array Oper} {W : List Nat} {i j : Nat} (h : has (W.getD j 0) i = true) : split cx ops W i j = false := by
  cases q : split cx ops W i j with
  | false => rfl
  | true => rw [(split_iff.1 q).2.2.2] at h; cases h
theorem go_head {cx : Cx} {ops : Array Oper} {W : List Nat} {al pre σ seen : List Nat} {i : Nat} {fr : List FV} {H : Hp} {K : List FV → Hp → Prop} (he : effOK cx ops W (pre ++ i :: σ) = true) (h : goK cx ops W al (i :: σ) seen fr H K) : stp cx ops W al i seen fr H fun fr H => goK cx ops W al σ (i :: seen) fr H K := by
  cases hE : opAt ops i false (isEff cx) with
  | false =>
    rw [goK_plain fun j _ => ?_] at h
    · exact h
    · unfold split; rw [hE]; rfl
  | true =>
    rcases (effOK_spec he).1 hE with q | q
    · rw [goK_plain fun j hj => split_false (q j hj)] at h
      exact h
    · cases σ with
      | nil => cases q
      | cons j σ =>
        obtain ⟨hs, h1, h2⟩ := twin_iff.1 q
        simp only [goK, hs, both] at h
        have : (fun fr H => goK cx ops W al (j :: σ) (i :: seen) fr H K) = fun fr H => stp cx ops W al j (i :: seen) fr H fun fr H => goK cx ops W al σ (j :: i :: seen) fr H K := by
          funext fr H
          exact goK_plain fun k hk => split_false (h2 k hk)
        rw [this]
        exact h.1
theorem go_swap {cx : Cx} {ops : Array Oper} {W : List Nat} {al σ seen : List Nat} {i j : Nat} {fr : List FV} {H : Hp} {K : List FV → Hp → Prop} (hs : split cx ops W i j = true) (h : goK cx ops W al (i :: j :: σ) seen fr H K) : goK cx ops W al (j :: i :: σ) seen fr H K := by
  simp only [goK, hs, split_symm hs, both] at h ⊢
  exact ⟨h.2, h.1⟩

end Go.Am
namespace Go.Am

def mask (p : Nat → Bool) (fr : List FV) : List FV := fr.mapIdx fun t v => match p t with | true => .bad | false => v
theorem mask_length (p : Nat → Bool) (fr : List FV) : (mask p fr).length = fr.length := by simp [mask]
theorem mask_get (p : Nat → Bool) (fr : List FV) (t : Nat) : (mask p fr)[t]? = match p t with | true => (fr[t]?).map fun _ => .bad | false => fr[t]? := by
  unfold mask
  rw [List.getElem?_mapIdx]
  cases p t <;> simp
theorem mask_getD {p : Nat → Bool} {fr : List FV} {t : Nat} (h : p t = false) : (mask p fr).getD t .bad = fr.getD t .bad := by
  rw [List.getD_eq_getElem?_getD, mask_get, h, ← List.getD_eq_getElem?_getD]
theorem ev_of {fr fr' : List FV} {x : Operand} (h : ∀ t, x = .tmp t → fr'.getD t .bad = fr.getD t .bad) : ev fr' x = ev fr x := by
  cases x with
  | tmp t => simp only [ev, atFr, h t rfl]
  | _ => rfl
theorem set_getD {fr : List FV} {d t : Nat} {v : FV} (h : t ≠ d) : (fr.set d v).getD t .bad = fr.getD t .bad := by
  rw [List.getD_eq_getElem?_getD, List.getElem?_set_ne (Ne.symm h), ← List.getD_eq_getElem?_getD]
theorem noLp_of {d : Nat} : ∀ {fr fr' : List FV}, fr'.length = fr.length → (∀ (t : Nat) v, fr'[t]? = some v → v = .bad ∨ fr[t]? = some v) → noLp d fr = true → noLp d fr' = true
  | [], [], _, _, _ => rfl
  | [], _ :: _, h, _, _ => by simp at h
  | _ :: _, [], h, _, _ => by simp at h
  | x :: xs, y :: ys, hl, hp, h => by
    have h1 : x.isLp d = false ∧ noLp d xs = true := by
      unfold noLp at h
      split at h
      · cases h
      · rename_i e; exact ⟨e, h⟩
    have h2 : y.isLp d = false := by
      rcases hp 0 y (by simp) with e | e
      · subst e; rfl
      · simp at e; subst e; exact h1.1
    unfold noLp
    rw [h2]
    exact noLp_of (by simpa using hl) (fun t v ht => by have := hp (t + 1) v (by simpa using ht); simpa using this) h1.2
theorem mask_weak (p : Nat → Bool) (fr : List FV) : ∀ (t : Nat) v, (mask p fr)[t]? = some v → v = .bad ∨ fr[t]? = some v := by
  intro t v h
  rw [mask_get] at h
  cases hp : p t <;> rw [hp] at h
  · exact .inr h
  · left
    cases hx : fr[t]? <;> rw [hx] at h <;> simp at h
    exact h.symm
theorem noLps_get {fr : List FV} : ∀ {al : List Nat}, noLps fr al = true → ∀ d ∈ al, noLp d fr = true
  | [], _, d, h => by cases h
  | a :: al, hn, d, h => by
    unfold noLps at hn
    split at hn
    · rename_i e
      cases h with
      | head => exact e
      | tail _ h => exact noLps_get hn d h
    · cases hn

section
variable {P : Program} {cx : Cx}
theorem opK_opE {o : Oper} (h1 : isAl cx o = false) (h2 : isEff cx o = false) (h3 : isStore o = false) (fr : List FV) (H : Hp) (K : FV → List FV → Hp → Prop) : opK cx o fr H K = opE cx o (ev fr) (fun s => fr.getD s .bad) H fun v H => K v fr H := by
  unfold opK
  unfold isAl at h1
  unfold isEff at h2
  unfold isStore at h3
  cases ho : o.op <;> rw [ho] at h1 h2 h3 <;> dsimp only at h1 h2 h3 <;> first
    | rfl
    | (cases h3; done)
    | (rw [h2] at h1; cases h1; done)

/-- what an operation that is still to be carried out will give -/
def PV (cx : Cx) (o : Oper) (fr : List FV) (H : Hp) (v : FV) : Prop :=
  (isAl cx o = false ∧ ∀ K : FV → Hp → Prop, K v H → opE cx o (ev fr) (fun s => fr.getD s .bad) H K) ∨
  (isAl cx o = true ∧ ∃ d, o.dst = some d ∧ d < fr.length ∧ ∀ fr', fr'.length = fr.length → noLp d fr' = true → (∀ x ∈ o.op.operands, ev fr' x = ev fr x) → ∀ H' K, K v fr' H' → opK cx o fr' H' K)

theorem opK_det {o : Oper} {fr : List FV} {H : Hp} {K : FV → List FV → Hp → Prop} (he : isEff cx o = false) (hs : isStore o = false) (h : opK cx o fr H K) : ∃ v, K v fr H ∧ PV cx o fr H v := by
  cases ha : isAl cx o with
  | false =>
    rw [opK_opE ha he hs] at h
    obtain ⟨v, h1, h2⟩ := opE_det he h
    exact ⟨v, h1, .inl ⟨ha, h2⟩⟩
  | true =>
    have mk : ∀ {t : Nat} {cs : List GV}, cx.isEsc o.dst = false → mkK cx o fr H t cs K → ∃ d, o.dst = some d ∧ d < fr.length ∧ K (.bx cs) fr H ∧ ∀ fr', fr'.length = fr.length → noLp d fr' = true → ∀ H' (K' : FV → List FV → Hp → Prop), K' (.bx cs) fr' H' → mkK cx o fr' H' t cs K' := by
      intro t cs hesc hm
      unfold mkK at hm
      rw [hesc] at hm
      dsimp only at hm
      cases hd : o.dst with
      | none => rw [hd] at hm; exact hm.elim
      | some d =>
        rw [hd] at hm hesc
        obtain ⟨h1, hm⟩ := ck_iff.1 hm
        obtain ⟨h2, hm⟩ := ck_iff.1 hm
        refine ⟨d, rfl, by exact (show d + 1 ≤ fr.length by simpa [Nat.blt] using h2), hm, fun fr' hl hn H' K' hK => ?_⟩
        unfold mkK
        rw [hd, hesc]
        exact ck_iff.2 ⟨hn, ck_iff.2 ⟨by rw [hl]; exact h2, hK⟩⟩
    unfold isAl at ha
    unfold isEff at he
    cases ho : o.op <;> rw [ho] at ha he <;> dsimp only at ha he <;> try (cases ha; done)
    case alloc t =>
      unfold opK at h
      rw [ho] at h
      obtain ⟨b, h⟩ := ck_iff.1 h
      obtain ⟨d, hd, hl, hk, hall⟩ := mk he h
      refine ⟨_, hk, .inr ⟨by unfold isAl; rw [ho]; exact ha, d, hd, hl, fun fr' h1 h2 h3 H' K' hK => ?_⟩⟩
      unfold opK; rw [ho]
      exact ck_iff.2 ⟨b, hall fr' h1 h2 H' K' hK⟩
    case box t x =>
      unfold opK at h
      rw [ho] at h
      obtain ⟨cs, h, hone⟩ := cellsK_det h
      obtain ⟨d, hd, hl, hk, hall⟩ := mk he h
      refine ⟨_, hk, .inr ⟨by unfold isAl; rw [ho]; exact ha, d, hd, hl, fun fr' h1 h2 h3 H' K' hK => ?_⟩⟩
      unfold opK; rw [ho]
      have hx := h3 x (by rw [ho]; simp [Op.operands])
      show cellsK (ev fr' x) fun cs => mkK cx o fr' H' t cs K'
      rw [hx]
      exact hone _ (hall fr' h1 h2 H' K' hK)

theorem PV.box {o : Oper} {fr : List FV} {H : Hp} {v : FV} (h : PV cx o fr H v) {t : TypeId} {a : Operand} {s p : Nat} (ho : o.op = .load t a) (he : ev fr a = .lp s p) : ∃ cs, fr.getD s .bad = .bx cs := by
  rcases h with ⟨_, h⟩ | ⟨ha, _⟩
  · have := h (fun _ _ => True) trivial
    unfold opE at this
    rw [ho] at this
    have h2 := (ck_iff.1 this).2
    rw [he] at h2
    have h3 : (match fr.getD s .bad with | .bx cs => cutK cs p (cx.ty t).lv.length (cx.ty t).agg fun _ => True | _ => False) := h2
    split at h3
    · rename_i cs e; exact ⟨cs, e⟩
    · exact h3.elim
  · unfold isAl at ha; rw [ho] at ha; cases ha

/-- in another frame that shows it the same -/
theorem PV.move {o : Oper} {fr fr' : List FV} {H : Hp} {v : FV} (h : PV cx o fr H v) (hl : fr'.length = fr.length) (hev : ∀ x ∈ o.op.operands, ev fr' x = ev fr x)
    (hb : ∀ t a s p cs, o.op = .load t a → ev fr a = .lp s p → fr.getD s .bad = .bx cs → fr'.getD s .bad = .bx cs) : PV cx o fr' H v := by
  have hbox := fun {t a s p} => h.box (t := t) (a := a) (s := s) (p := p)
  rcases h with ⟨ha, h⟩ | ⟨ha, d, hd, hlt, h⟩
  · refine .inl ⟨ha, fun K hK => ?_⟩
    rw [opE_congr (E := ev fr) (B := fun s => fr.getD s .bad) H K hev (fun t a s p ho he => by
      obtain ⟨cs, e⟩ := hbox ho he
      show fr'.getD s .bad = fr.getD s .bad
      rw [hb t a s p cs ho he e, e])]
    exact h K hK
  · exact .inr ⟨ha, d, hd, by rw [hl]; exact hlt, fun fr2 h1 h2 h3 => h fr2 (by rw [h1, hl]) h2 (fun x hx => by rw [h3 x hx, hev x hx])⟩

theorem PV.heap {o : Oper} {fr : List FV} {H H' : Hp} {v : FV} (h : PV cx o fr H v) (he : isEff cx o = false) (hr : readsH o (ev fr) = false) : PV cx o fr H' v := by
  rcases h with ⟨ha, h⟩ | h
  · exact .inl ⟨ha, opE_heap he hr h⟩
  · exact .inr h

theorem PV.run {o : Oper} {fr : List FV} {H : Hp} {v : FV} (h : PV cx o fr H v) (he : isEff cx o = false) (hs : isStore o = false) (hn : isAl cx o = true → ∀ d, o.dst = some d → noLp d fr = true) (K : FV → List FV → Hp → Prop) (hK : K v fr H) : opK cx o fr H K := by
  rcases h with ⟨ha, h⟩ | ⟨ha, d, hd, _, h⟩
  · rw [opK_opE ha he hs]; exact h _ hK
  · exact h fr rfl (hn ha d hd) (fun _ _ => rfl) H K hK

theorem noStore {o : Oper} (h : isEff cx o = false) : isStore o = false := by
  unfold isEff at h
  unfold isStore
  cases ho : o.op <;> rw [ho] at h <;> first | rfl | cases h

/-- a box turned, or none -/
def applyU (fr : List FV) : Option (Nat × List GV) → List FV
  | none => fr
  | some (s, cs) => fr.set s (.bx cs)
theorem stCells_mono {l : Nat} {K K' : Hp → Prop} (hk : ∀ H, K H → K' H) : ∀ (ns : List GV) (H : Hp) (p : Nat), stCells l H p ns K → stCells l H p ns K'
  | [], H, p, h => hk H h
  | c :: cs, H, p, h => by
    have h' : wr H l p c fun H => stCells l H (p + 1) cs K := h
    show wr H l p c fun H => stCells l H (p + 1) cs K'
    unfold wr at h' ⊢
    split at h'
    · exact stCells_mono hk cs _ _ h'
    · exact h'.elim

/-- what turns the heap, or a box, in another frame -/
theorem effK {o : Oper} {fr fr' : List FV} {H : Hp} {K : FV → List FV → Hp → Prop} (he : isEff cx o = true) (hev : ∀ x ∈ o.op.operands, ev fr' x = ev fr x) (hbx : ∀ s, stBox o (ev fr) = some s → (∃ cs, fr.getD s .bad = .bx cs) → fr'.getD s .bad = fr.getD s .bad) (h : opK cx o fr H K) :
    opK cx o fr' H fun v f H' => ∃ u, f = applyU fr' u ∧ K v (applyU fr u) H' ∧ ((u = none ∧ stBox o (ev fr) = none) ∨ ∃ s cs cs0, u = some (s, cs) ∧ stBox o (ev fr) = some s ∧ fr.getD s .bad = .bx cs0 ∧ H' = H) := by
  unfold opK at h ⊢
  have gen : ∀ (h : opE cx o (ev fr) (fun s => fr.getD s .bad) H fun v H => K v fr H), (∀ t a, o.op ≠ .load t a) → stBox o (ev fr) = none → opE cx o (ev fr') (fun s => fr'.getD s .bad) H fun v H' =>
      ∃ u, fr' = applyU fr' u ∧ K v (applyU fr u) H' ∧ ((u = none ∧ stBox o (ev fr) = none) ∨ ∃ s cs cs0, u = some (s, cs) ∧ stBox o (ev fr) = some s ∧ fr.getD s .bad = .bx cs0 ∧ H' = H) := by
    intro h hn hs
    have e : (fun (v : FV) (H' : Hp) => ∃ u, fr' = applyU fr' u ∧ K v (applyU fr u) H' ∧ ((u = none ∧ stBox o (ev fr) = none) ∨ ∃ s cs cs0, u = some (s, cs) ∧ stBox o (ev fr) = some s ∧ fr.getD s .bad = .bx cs0 ∧ H' = H)) = fun v H' => K v fr H' := by
      funext v H'
      apply propext
      constructor
      · rintro ⟨u, _, hk, ⟨rfl, _⟩ | ⟨s, cs, cs0, _, h2, _⟩⟩
        · exact hk
        · rw [hs] at h2; cases h2
      · exact fun q => ⟨none, rfl, q, .inl ⟨rfl, hs⟩⟩
    rw [e]
    rw [opE_congr (E := ev fr) (B := fun s => fr.getD s .bad) H _ hev (fun t a s p ho => (hn t a ho).elim)]
    exact h
  unfold isEff at he
  cases ho : o.op <;> rw [ho] at h he <;> dsimp only at h he ⊢ <;> try (cases he; done)
  case alloc t =>
    obtain ⟨b, h⟩ := ck_iff.1 h
    refine ck_iff.2 ⟨b, ?_⟩
    unfold mkK at h ⊢
    rw [he] at h ⊢
    exact ⟨none, rfl, h, .inl ⟨rfl, by simp [stBox, ho]⟩⟩
  case box t x =>
    obtain ⟨cs, h, hone⟩ := cellsK_det h
    rw [hev x (by rw [ho]; simp [Op.operands])]
    refine hone _ ?_
    unfold mkK at h ⊢
    rw [he] at h ⊢
    exact ⟨none, rfl, h, .inl ⟨rfl, by simp [stBox, ho]⟩⟩
  case store t a x =>
    obtain ⟨ns, h, hone⟩ := cellsK_det h
    rw [hev x (by rw [ho]; simp [Op.operands])]
    refine hone _ ?_
    obtain ⟨b1, h⟩ := ck_iff.1 h
    obtain ⟨b2, h⟩ := ck_iff.1 h
    refine ck_iff.2 ⟨b1, ck_iff.2 ⟨b2, ?_⟩⟩
    rw [hev a (by rw [ho]; simp [Op.operands])]
    unfold storeK at h ⊢
    split at h
    · rename_i s p e1
      have hst : stBox o (ev fr) = some s := by simp [stBox, ho, e1]
      split at h
      · rename_i cs0 e2
        obtain ⟨cs', h, one⟩ := fillK_det h
        rw [setK_eq] at h
        have hb := hbx s hst ⟨cs0, e2⟩
        rw [hb, e2]
        refine one _ ?_
        rw [setK_eq]
        exact ⟨some (s, cs'), rfl, h, .inr ⟨s, cs', cs0, rfl, hst, e2, rfl⟩⟩
      · exact h.elim
    · rename_i l p e1
      exact stCells_mono (fun H' q => ⟨none, rfl, q, .inl ⟨rfl, by simp [stBox, ho, e1]⟩⟩) _ _ _ h
    · exact h.elim
  all_goals exact gen h (fun t a q => by rw [ho] at q; cases q) (by simp [stBox, ho])

/-- a guard, in a frame -/
theorem wantK_F {ops : Array Oper} {fr : List FV} {g : Option (Nat × Bool)} {yes no : List FV → Prop} (h : wantK ops fr g yes no) : (wantF ops fr g = some true ∧ yes fr) ∨ (wantF ops fr g = some false ∧ no fr) := by
  unfold wantK at h
  unfold wantF
  cases g with
  | none => exact .inl ⟨rfl, h⟩
  | some jw =>
    obtain ⟨j, want⟩ := jw
    dsimp only at h ⊢
    split at h
    · rename_i d hd
      split at h
      · rename_i b hb
        have hs := getD_of hb (by simp)
        cases b with
        | true =>
          rw [bite_iff, if_pos rfl, setK_eq, set_self hs] at h
          cases want with
          | true => exact .inl ⟨by simp [hb], h⟩
          | false => exact .inr ⟨by simp [hb], h⟩
        | false =>
          rw [bite_iff, if_neg (by simp), setK_eq, set_self hs] at h
          cases want with
          | true => exact .inr ⟨by simp [hb], h⟩
          | false => exact .inl ⟨by simp [hb], h⟩
      · rename_i hb
        exact .inr ⟨by simp [hb], h⟩
      · exact h.elim
    · exact h.elim

theorem wanted_F {φ0 φ : List LI} {H0 H : Hp} {w0 w : World} {lam : Nat → Nat} {fr : List FV} {tmps : Array Value} (I : Inv φ0 H0 w0 φ H lam fr tmps w) {ops : Array Oper} {o : Oper} {b : Bool} (h : wantF ops fr o.guard = some b) : Region.wanted o (yielded ops tmps) = b := by
  unfold wantF at h
  unfold Region.wanted
  cases hg : o.guard with
  | none => rw [hg] at h; simp at h; simp [h]
  | some jw =>
    obtain ⟨j, want⟩ := jw
    rw [hg] at h
    dsimp only at h ⊢
    split at h
    · rename_i d hd
      split at h
      · rename_i b' hb
        have hs := getD_of hb (by simp)
        have hv : tmps.getD d undef = .bool b' := I.slot d _ hs
        have hlt := isSome_lt hs
        have hy : yielded ops tmps j = some b' := by
          unfold yielded
          rw [hd]
          have : tmps[d]? = some (.bool b') := by
            rw [Array.getElem?_eq_getElem (by rw [← I.size]; exact hlt)]
            simpa [Array.getD, show d < tmps.size by rw [← I.size]; exact hlt] using hv
          simp [this]
        rw [hy]
        simp only [Option.some.injEq] at h
        rw [← h]
        cases b' <;> cases want <;> rfl
      · rename_i hb
        have hs := getD_of hb (by simp)
        have hv : tmps.getD d undef = undef := I.slot d _ hs
        simp only [Option.some.injEq] at h
        rw [← h, yielded_und hd (by rw [← I.size]; exact isSome_lt hs) hv]
        rfl
      · cases h
    · cases h

theorem wantF_of {ops : Array Oper} {fr fr' : List FV} {o : Oper} (h : ∀ t ∈ o.looksAt ops, fr'.getD t .bad = fr.getD t .bad) : wantF ops fr' o.guard = wantF ops fr o.guard := by
  unfold wantF
  cases hg : o.guard with
  | none => rfl
  | some jw =>
    obtain ⟨j, want⟩ := jw
    dsimp only
    cases hd : (ops[j]?).bind (·.dst) with
    | none => rfl
    | some d =>
      dsimp only
      rw [h d (by simp [Oper.looksAt, hg, hd])]

theorem looks_op {ops : Array Oper} {o : Oper} {t : Nat} (h : Operand.tmp t ∈ o.op.operands) : t ∈ o.looksAt ops :=
  List.mem_append_left _ (List.mem_filterMap.2 ⟨.tmp t, by simpa using h, rfl⟩)
theorem ev_looks {ops : Array Oper} {fr fr' : List FV} {o : Oper} (h : ∀ t ∈ o.looksAt ops, fr'.getD t .bad = fr.getD t .bad) : ∀ x ∈ o.op.operands, ev fr' x = ev fr x := by
  intro x hx
  exact ev_of fun t e => h t (looks_op (by rw [← e]; exact hx))

theorem putG_ok {al : List Nat} {dst : Option Nat} {v : FV} {fr : List FV} {K : List FV → Prop} (h : putG al dst v fr K) : K (setO fr dst v) ∧
    ∀ d, dst = some d → (∀ cs, fr.getD d .bad ≠ .bx cs) ∧ (∀ cs, v = .bx cs → d ∈ al) ∧ noLps (setO fr dst v) al = true := by
  cases dst with
  | none => exact ⟨h, fun d e => by cases e⟩
  | some d =>
    obtain ⟨h1, h⟩ := ck_iff.1 h
    obtain ⟨h2, h⟩ := ck_iff.1 h
    rw [frc_eq, setK_eq] at h
    obtain ⟨h3, h⟩ := ck_iff.1 h
    refine ⟨h, fun d' e => ?_⟩
    cases e
    exact ⟨fun cs e => (by rw [e] at h1; cases h1), fun cs e => (by subst e; exact mem_iff.1 h2), h3⟩

end
end Go.Am
namespace Go.Am

/-- what is told, but not carried out yet -/
def pend (ops : Array Oper) (L : Array Bool) (seen : List Nat) (t : Nat) : Bool := seen.any fun i => !(L.getD i false) && mem t (dstAt ops i)
theorem pend_iff {ops : Array Oper} {L : Array Bool} {seen : List Nat} {t : Nat} : pend ops L seen t = true ↔ ∃ i ∈ seen, L.getD i false = false ∧ t ∈ dstAt ops i := by
  simp [pend, mem_iff]
theorem dstAt_of {ops : Array Oper} {i d : Nat} {o : Oper} (ho : ops[i]? = some o) : d ∈ dstAt ops i ↔ o.dst = some d := by
  unfold dstAt; rw [ho]; dsimp only
  cases o.dst with
  | none => simp
  | some d' => simp [eq_comm]

/-- an operation told, not carried out -/
def Pend (cx : Cx) (ops : Array Oper) (fr : List FV) (H : Hp) (i : Nat) : Prop :=
  ∃ o, ops[i]? = some o ∧ isEff cx o = false ∧ ((wantF ops fr o.guard = some true ∧ ∃ v, (∀ d, o.dst = some d → d < fr.length → fr.getD d .bad = v) ∧ PV cx o fr H v) ∨ (wantF ops fr o.guard = some false ∧ ∀ d, o.dst = some d → d < fr.length → fr.getD d .bad = .und))

structure Sim (P : Program) (cx : Cx) (ops : Array Oper) (m : Nat) (σ0 al : List Nat) (φ0 : List LI) (H0 : Hp) (w0 : World) (K : List FV → Hp → Prop) (L : Array Bool) (seen σ : List Nat) (fr : List FV) (H : Hp) (tmps : Array Value) (w : World) : Prop where
  ord : σ0 = seen.reverse ++ σ
  rest : ∀ i ∈ σ, L.getD i false = false
  go : goK cx ops (waits ops) al σ seen fr H K
  inv : ∃ φ lam, Inv φ0 H0 w0 φ H lam (mask (pend ops L seen) fr) tmps w
  told : ∀ i ∈ seen, L.getD i false = false → Pend cx ops fr H i
  lps : noLps fr al = true
  box : ∀ i ∈ seen, ∀ d, d ∈ dstAt ops i → ∀ cs, fr.getD d .bad = .bx cs → d ∈ al

section
variable {P : Program} {cx : Cx} {ops : Array Oper} {m : Nat} {σ0 al : List Nat} {φ0 : List LI} {H0 : Hp} {w0 : World} {K : List FV → Hp → Prop}

theorem setO_length (fr : List FV) (dst : Option Nat) (v : FV) : (setO fr dst v).length = fr.length := by cases dst <;> simp [setO]
theorem setO_getD {fr : List FV} {dst : Option Nat} {v : FV} {t : Nat} (h : ∀ d, dst = some d → t ≠ d) : (setO fr dst v).getD t .bad = fr.getD t .bad := by
  cases dst with
  | none => rfl
  | some d => exact set_getD (h d rfl)

/-- a told operation is told still when another is told -/
theorem Pend.set {fr : List FV} {H : Hp} {j : Nat} (F : DrFacts cx ops m σ0 al) {i : Nat} (hi : i < m) {oi : Oper} (hoi : ops[i]? = some oi) (hj : j < m) (hne : j ≠ i) (hw : has ((waits ops).getD j 0) i = false) (h : Pend cx ops fr H j) {v : FV}
    (hb : ∀ d, oi.dst = some d → ∀ cs, fr.getD d .bad ≠ .bx cs) : Pend cx ops (setO fr oi.dst v) H j := by
  obtain ⟨o, ho, he, h⟩ := h
  obtain ⟨o', ho', hl, _⟩ := F.op j hj
  rw [ho] at ho'; cases ho'
  have hlook : ∀ t ∈ o.looksAt ops, (setO fr oi.dst v).getD t .bad = fr.getD t .bad := fun t ht => setO_getD fun d hd e => by
    subst e
    have := (hl t ht).2 i hi ((dstAt_of hoi).2 hd)
    rw [hw] at this; cases this
  have hdst : ∀ d, o.dst = some d → (setO fr oi.dst v).getD d .bad = fr.getD d .bad := fun d hd => setO_getD fun d' hd' e => by
    subst e
    exact hne (F.dst j i hj hi d ((dstAt_of ho).2 hd) ((dstAt_of hoi).2 hd'))
  refine ⟨o, ho, he, ?_⟩
  rw [wantF_of hlook]
  rcases h with ⟨h1, u, h2, h3⟩ | ⟨h1, h2⟩
  · refine .inl ⟨h1, u, fun d hd hlt => by rw [hdst d hd]; exact h2 d hd (by rw [setO_length] at hlt; exact hlt), h3.move (setO_length _ _ _) (ev_looks hlook) (fun t a s p cs _ _ hs => ?_)⟩
    rw [setO_getD fun d hd e => by subst e; exact hb s hd cs hs]
    exact hs
  · exact .inr ⟨h1, fun d hd hlt => by rw [hdst d hd]; exact h2 d hd (by rw [setO_length] at hlt; exact hlt)⟩

/-- all that can be told ahead is told -/
theorem Sim.advance (F : DrFacts cx ops m σ0 al) {L : Array Bool} : ∀ {σ seen : List Nat} {fr : List FV} {H : Hp} {tmps : Array Value} {w : World}, Sim P cx ops m σ0 al φ0 H0 w0 K L seen σ fr H tmps w →
    ∃ seen' σ' fr', Sim P cx ops m σ0 al φ0 H0 w0 K L seen' σ' fr' H tmps w ∧ (σ' = [] ∨ ∃ e rest, σ' = e :: rest ∧ opAt ops e false (isEff cx) = true)
  | [], seen, fr, H, tmps, w, S => ⟨seen, [], fr, S, .inl rfl⟩
  | i :: σ, seen, fr, H, tmps, w, S => by
    cases hE : opAt ops i false (isEff cx) with
    | true => exact ⟨seen, i :: σ, fr, S, .inr ⟨i, σ, rfl, hE⟩⟩
    | false =>
      have hi0 : i ∈ σ0 := by rw [S.ord]; simp
      have hi := F.lt i hi0
      obtain ⟨o, ho, hl, hst, hg, hal⟩ := F.op i hi
      have he : isEff cx o = false := by unfold opAt at hE; rw [ho] at hE; exact hE
      obtain ⟨_, hself, hbefore⟩ := effOK_spec (pre := seen.reverse) (post := σ) (i := i) (by rw [← S.ord]; exact F.eff)
      have hseen : ∀ j ∈ seen, j < m ∧ j ≠ i ∧ has ((waits ops).getD j 0) i = false := fun j hj => by
        have hj0 : j ∈ σ0 := by rw [S.ord]; simp [hj]
        refine ⟨F.lt j hj0, fun e => ?_, hbefore j (by simpa using hj)⟩
        subst e
        have := F.nodup
        rw [S.ord, List.nodup_append] at this
        exact this.2.2 j (by simpa using hj) j (by simp) rfl
      have hLi := S.rest i (by simp)
      -- the step
      have fin : ∀ v, goK cx ops (waits ops) al σ (i :: seen) (setO fr o.dst v) H K → (∀ d, o.dst = some d → (∀ cs, fr.getD d .bad ≠ .bx cs) ∧ (∀ cs, v = .bx cs → d ∈ al) ∧ noLps (setO fr o.dst v) al = true) →
          Pend cx ops (setO fr o.dst v) H i → Sim P cx ops m σ0 al φ0 H0 w0 K L (i :: seen) σ (setO fr o.dst v) H tmps w := by
        intro v hgo hput hp
        refine ⟨by rw [S.ord]; simp, fun j hj => S.rest j (by simp [hj]), hgo, ?_, ?_, ?_, ?_⟩
        · obtain ⟨φ, lam, I⟩ := S.inv
          refine ⟨φ, lam, I.weaken (by simp [mask_length, setO_length]) (fun t u ht => ?_)⟩
          rw [mask_get] at ht
          cases hp' : pend ops L (i :: seen) t with
          | true =>
            rw [hp'] at ht
            left
            cases hx : (setO fr o.dst v)[t]? <;> rw [hx] at ht <;> simp at ht
            exact ht.symm
          | false =>
            rw [hp'] at ht
            right
            have hp2 : pend ops L seen t = false := by
              cases q : pend ops L seen t with
              | false => rfl
              | true =>
                obtain ⟨j, hj, h1, h2⟩ := pend_iff.1 q
                rw [pend_iff.2 ⟨j, by simp [hj], h1, h2⟩] at hp'; cases hp'
            rw [mask_get, hp2]
            have htd : ∀ d, o.dst = some d → t ≠ d := fun d hd e => by
              subst e
              rw [pend_iff.2 ⟨i, by simp, hLi, (dstAt_of ho).2 hd⟩] at hp'; cases hp'
            cases hd : o.dst with
            | none => rw [hd] at ht; exact ht
            | some d => rw [hd] at ht; simp only [setO] at ht; rw [List.getElem?_set_ne (Ne.symm (htd d hd))] at ht; exact ht
        · intro j hj hLj
          rcases List.mem_cons.1 hj with e | hj
          · subst e; exact hp
          · obtain ⟨h1, h2, h3⟩ := hseen j hj
            exact (S.told j hj hLj).set F hi ho h1 h2 h3 (fun d hd => (hput d hd).1)
        · cases hd : o.dst with
          | none => exact S.lps
          | some d => rw [← hd]; exact (hput d hd).2.2
        · intro j hj d hdj cs hcs
          rcases List.mem_cons.1 hj with e | hj
          · subst e
            have hd := (dstAt_of ho).1 hdj
            rw [hd] at hcs
            simp only [setO] at hcs
            by_cases q : d < fr.length
            · rw [List.getD_eq_getElem?_getD, List.getElem?_set_self q] at hcs
              exact (hput d hd).2.1 cs (by simpa using hcs)
            · rw [List.getD_eq_getElem?_getD, List.getElem?_eq_none (by simp; omega)] at hcs
              cases hcs
          · obtain ⟨h1, h2, h3⟩ := hseen j hj
            refine S.box j hj d hdj cs ?_
            rw [setO_getD (fun d' hd' e => by
              subst e
              exact h2 (F.dst j i h1 hi d hdj ((dstAt_of ho).2 hd')))] at hcs
            exact hcs
      have hlook : ∀ (v : FV), ∀ t ∈ o.looksAt ops, (setO fr o.dst v).getD t .bad = fr.getD t .bad := fun v t ht => setO_getD fun d hd e => by
        subst e
        have := (hl t ht).2 i hi ((dstAt_of ho).2 hd)
        rw [hself] at this; cases this
      have hgo := S.go
      have hgo' : wantK ops fr o.guard
        (fun fr => opK cx o fr H fun v fr H' => putG al o.dst v fr fun fr => reK cx ops (waits ops) i H' fr (match isEff cx o with | true => seen | false => []) (goK cx ops (waits ops) al σ (i :: seen) fr H' K))
        (fun fr => putG al o.dst .und fr fun fr => goK cx ops (waits ops) al σ (i :: seen) fr H K) := by
        have := go_head (pre := seen.reverse) (by rw [← S.ord]; exact F.eff) hgo
        simp only [stp, ho] at this
        exact this
      rcases wantK_F hgo' with ⟨hw, h⟩ | ⟨hw, h⟩
      · obtain ⟨v, h1, hpv⟩ := opK_det he (noStore he) h
        rw [he] at h1
        obtain ⟨h2, h3⟩ := putG_ok h1
        refine Sim.advance F (fin v h2 h3 ⟨o, ho, he, .inl ⟨by rw [wantF_of (hlook v)]; exact hw, v, fun d hd hlt => ?_, hpv.move (setO_length _ _ _) (ev_looks (hlook v)) (fun t a s p cs _ _ hs => ?_)⟩⟩)
        · rw [hd] at hlt ⊢
          simp only [setO] at hlt ⊢
          rw [List.getD_eq_getElem?_getD, List.getElem?_set_self (by simpa using hlt)]; rfl
        · rw [setO_getD fun d hd e => by subst e; exact (h3 s hd).1 cs hs]
          exact hs
      · obtain ⟨h2, h3⟩ := putG_ok h
        refine Sim.advance F (fin .und h2 h3 ⟨o, ho, he, .inr ⟨by rw [wantF_of (hlook .und)]; exact hw, fun d hd hlt => ?_⟩⟩)
        rw [hd] at hlt ⊢
        simp only [setO] at hlt ⊢
        rw [List.getD_eq_getElem?_getD, List.getElem?_set_self (by simpa using hlt)]; rfl

end
end Go.Am
