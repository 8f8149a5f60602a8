import Derived.Test.YtmjnenpllddhfaaAmA
set_option linter.unusedVariables false
set_option linter.unusedSimpArgs false
namespace Go.Am

section
variable {P : Program} {cx : Cx} {φ : List LI} {H : Hp} {lam : Nat → Nat} {fr : List FV} {w : World} {φ0 : List LI} {H0 : Hp} {w0 : World} {tmps : Array Value}

theorem desc_u8 (hT : TysOK P cx.tys) {t : TypeId} (ht : (cx.ty t).isU8 = true) : P.underlying t = some (.int .u8) := by
  have h0 : (cx.ty t).ok = true ∧ (cx.ty t).lv = [.int .u8] ∧ (cx.ty t).agg = false := by
    unfold TI.isU8 at ht
    split at ht
    · rename_i e1 e2; simp [TI.ok, e1, e2]
    · cases ht
  obtain ⟨d, hd, hok⟩ := run_under hT h0.1
  rw [hd]
  cases d <;> simp [descOK, isLv, h0.2.1, h0.2.2, isSlLv] at hok ⊢
  exact hok.2.symm

theorem freeze_at {w : World} {b n : Nat} {c : Array Value} {t : TypeId} (h : w.heap[b]? = some (.cells c t (0, 0))) : (w.freeze ⟨b, n, none⟩ 1).heap[b]? = some (.cells c t (n, n + 1)) := by
  simp [World.freeze, Array.getElem?_modify, h]
theorem freeze_other {w : World} {b b' n : Nat} (h : b' ≠ b) : (w.freeze ⟨b, n, none⟩ 1).heap[b']? = w.heap[b']? := by
  simp [World.freeze, Array.getElem?_modify, Ne.symm h]

theorem bytesOf_is (φ : List LI) (s : ByteArray) : Is2 φ (bytesOf s) (s.data.map fun b => Value.int .u8 b.toNat).toList := by
  rw [Array.toList_map]
  unfold bytesOf
  induction s.data.toList with
  | nil => exact .nil
  | cons a l ih => exact .cons rfl ih

theorem run_stringToBytes (I : Inv φ0 H0 w0 φ H lam fr tmps w) (e : TypeId) (s : ByteArray) (dst : Option Tmp) : ∃ u w', (Conv.stringToBytes e s).run P w = .ok u w' ∧ Res φ0 H0 w0 dst (.g (.sl (some (ln H, 0)) s.size 1)) fr (pu H (.row true e (bytesOf s))) tmps u w' := by
  let cap := grownCap w s.size 0 e
  have hcap : s.size ≤ cap := by simp [cap, grownCap, Question.cut]
  let cells : Array Value := (s.data.map fun b => Value.int .u8 b.toNat) ++ Array.replicate (cap - s.size) (.int .u8 0)
  have hcells : cells.size = cap := by
    have : s.data.size = s.size := rfl
    simp [cells, this]; omega
  let w1 := w.drew.alloc (.cells cells e)
  have hn : w1.heap[w.heap.size]? = some (.cells cells e (0, 0)) := heap_alloc_new w.drew _
  let w2 := w1.freeze ⟨w.heap.size, cells.size, none⟩ 1
  have hrun : (Conv.stringToBytes e s).run P w = .ok (.slice (some ⟨w.heap.size, 0, none⟩) s.size cap) w2 := by
    have hsh : w1.shape? w.heap.size = some (e, cells.size) := by simp [World.shape?, hn]
    have hm : (markStringish ⟨w.heap.size, 0, none⟩).run P w1 = .ok () w2 := by
      simp [markStringish, hsh, w2]
    simp only [Conv.stringToBytes, Sem.run_bind, run_choose_drew, Question.forced, if_false, Bool.false_eq_true, Result.andThen_ok, newRow, run_newObj_alloc, Sem.run_pure]
    show ((markStringish ⟨w.heap.size, 0, none⟩).run P w1).andThen _ = _
    rw [hm]
    rfl
  have hb : (bytesOf s).length = s.size := by simp [bytesOf]
  have hk : Keeps (ownB φ H) w w2 := by
    have hs : w2.heap.size = w.heap.size + 1 := by
      show (w1.freeze _ 1).heap.size = _
      simp [World.freeze, w1]
    refine ⟨rfl, rfl, rfl, by omega, fun b hb _ => ?_⟩
    rw [show w2.heap[b]? = w1.heap[b]? from freeze_other (by omega)]
    exact heap_alloc_old w.drew _ b hb
  have hrow : RowOK (φ ++ [⟨w.heap.size, 0, true, (bytesOf s).length, cap⟩]) w2 true e (bytesOf s) ⟨w.heap.size, 0, true, (bytesOf s).length, cap⟩ := by
    refine ⟨rfl, rfl, ?_, rfl, cells, e, (cells.size, cells.size + 1), freeze_at hn, fun _ => rfl, hcells, ?_, by omega, ?_⟩
    · show w.heap.size < w2.heap.size
      show _ < (w1.freeze _ 1).heap.size
      simp [World.freeze, w1]
    · intro j h1 h2; show cap ≤ j; simp at h1; omega
    · rw [hb]
      have : (cells.toList.take s.size) = (s.data.map fun b => Value.int .u8 b.toNat).toList := by
        simp only [cells, Array.toList_append]
        rw [List.take_left' (by simp)]
      rw [this]
      exact bytesOf_is _ s
  have B := Back.snoc I.rep hk (fun b hb' => by
    have := I.rep.blockLt hb'
    rw [show w2.heap[b]? = w1.heap[b]? from freeze_other (by omega)]
    exact heap_alloc_old w.drew _ b this) hrow (Nat.le_refl _)
  refine ⟨_, w2, hrun, Res.of (I.back B) ?_ dst⟩
  refine ⟨_, _, cap, by simp only [ln, ← I.rep.len]; exact List.getElem?_concat_length, rfl, .inl rfl, hcap, ?_, fun _ => ⟨rfl, ?_⟩⟩
  · show (bytesOf s).length ≤ _; omega
  · show 0 + cap * 1 ≤ cap; omega

theorem convK_ok (hT : TysOK P cx.tys) (I : Inv φ0 H0 w0 φ H lam fr tmps w) {s d : TypeId} {x : FV} {ux : Value} {K : FV → Hp → Prop} (h : convK cx s d x H K) (hx : VOK w0.heap.size φ H lam fr w x ux) (dst : Option Tmp) :
    ∃ v H' u w', K v H' ∧ (convert s d ux).run P w = .ok u w' ∧ Res φ0 H0 w0 dst v fr H' tmps u w' := by
  unfold convK at h
  rw [ck_iff, ck_iff] at h
  obtain ⟨hs, hd, h⟩ := h
  obtain ⟨ds, hds, _⟩ := run_under hT hs
  split at h
  · rename_i k k' n e1 e2
    cases hx
    obtain ⟨ha, h⟩ := ck_iff.1 h
    obtain ⟨dd, hdd, hok⟩ := run_under hT hd
    have hdd' : dd = .int k := by
      have ha : (cx.ty d).agg = false := by simpa using ha
      cases dd <;> simp [descOK, isLv, e2, ha, isSlLv, e1] at hok
      rw [hok]
    subst hdd'
    exact ⟨_, _, _, w, h, by simp [convert, run_underlying hds, run_underlying hdd, Conv.intToInt]; rfl, Res.of I (v := .g (.int _ _)) rfl dst⟩
  · rename_i e1
    cases hx
    have hdd := desc_string hT (show (cx.ty d).isA 3 = true by unfold TI.isA; rw [show (cx.ty d).ok = true from hd]; simp [e1])
    exact ⟨_, _, _, w, h, by cases ds <;> simp [convert, run_underlying hds, run_underlying hdd] <;> rfl, Res.of I (v := .g (.str _)) rfl dst⟩
  · rename_i e1
    have hdd := desc_string hT (show (cx.ty d).isA 3 = true by unfold TI.isA; rw [show (cx.ty d).ok = true from hd]; simp [e1])
    obtain ⟨ht, h⟩ := ck_iff.1 h
    obtain ⟨h8, h⟩ := ck_iff.1 h
    have hsd := desc_slice hT (isSl_iff ht).1
    have h8 := desc_u8 hT h8
    unfold rdN at h
    split at h
    · rename_i cs hc
      obtain ⟨xs, his, hl, hcase⟩ := slice_cells I.rep hx hc (fun q => q)
      rcases hcase with ⟨rfl, rfl, rfl, rfl⟩ | ⟨ad, c, rfl, hxs⟩
      · refine ⟨_, _, _, w, h, ?_, Res.of I (v := .g (.str _)) rfl dst⟩
        rw [run_convert_bytes_string w s d _ none 0 0 hsd h8 hdd]
        simp [Conv.bytesToString]; rfl
      · obtain ⟨str, hk, hr⟩ := txt_ok (P := P) (c := c) h his hl hxs
        refine ⟨_, _, _, w, hk, ?_, Res.of I (v := .g (.str _)) rfl dst⟩
        rw [run_convert_bytes_string w s d _ _ _ _ hsd h8 hdd, hr]
    · exact h.elim
  · rename_i cs n z e1
    have hdd := desc_string hT (show (cx.ty d).isA 3 = true by unfold TI.isA; rw [show (cx.ty d).ok = true from hd]; simp [e1])
    obtain ⟨ht, h⟩ := ck_iff.1 h
    obtain ⟨h8, h⟩ := ck_iff.1 h
    obtain ⟨hn, h⟩ := ck_iff.1 h
    have hsd := desc_slice hT (isSl_iff ht).1
    have h8 := desc_u8 hT h8
    obtain ⟨b, c, t, fz, rfl, _, hb, his, _⟩ := hx
    obtain ⟨str, hk, hr⟩ := txt_ok (P := P) (ad := ⟨b, 0, none⟩) (c := n) h his (beq_eq hn) (fun j y hj => by rw [add_at, Nat.zero_add, cell_of hb]; simpa using hj)
    refine ⟨_, _, _, w, hk, ?_, Res.of I (v := .g (.str _)) rfl dst⟩
    rw [run_convert_bytes_string w s d _ _ _ _ hsd h8 hdd, hr]
  · rename_i str e1
    cases hx
    obtain ⟨h8, h⟩ := ck_iff.1 h
    have hdd := desc_slice hT (show (cx.ty d).isA 1 = true by unfold TI.isA; rw [show (cx.ty d).ok = true from hd]; simp [e1])
    have h8 := desc_u8 hT h8
    obtain ⟨_, hK⟩ := chk_iff.1 h
    obtain ⟨u, w', hr, hres⟩ := run_stringToBytes (P := P) I (cx.ty d).el str dst
    refine ⟨_, _, u, w', hK, ?_, hres⟩
    cases ds <;> simp [convert, run_underlying hds, run_underlying hdd, run_underlying h8, hr]
  · exact h.elim


/-! ### append -/
/-- a source of cells -/
def Src (P : Program) (w : World) (size : Nat) (ux : Value) (m : Nat) (xs : List Value) : Prop :=
  (∀ w', (Builtin.lenOf ux).run P w' = .ok m w') ∧ ∀ w', w'.heap = w.heap → (Builtin.firstCells size m ux).run P w' = .ok xs.toArray w'

theorem srcK_ok (I : Inv φ0 H0 w0 φ H lam fr tmps w) {z : Nat} {y : FV} {uy : Value} {K : List GV → Nat → Prop} (h : srcK H z y K) (hz : 1 ≤ z) (hy : VOK w0.heap.size φ H lam fr w y uy) :
    ∃ cs m xs, K cs m ∧ Is2 φ cs xs ∧ (cs.length = m * z → Src P w z uy m xs) := by
  unfold srcK at h
  split at h
  · rename_i a m z'
    rw [chk_iff] at h
    obtain ⟨hzz, h⟩ := h
    unfold rdN at h
    split at h
    · rename_i cs hc
      obtain ⟨xs, his, hl, hcase⟩ := slice_cells I.rep hy hc (fun q => by rw [q]; simp)
      refine ⟨cs, m, xs, h, his, fun hm => ?_⟩
      rcases hcase with ⟨rfl, rfl, rfl, rfl⟩ | ⟨ad, c, rfl, hxs⟩
      · cases his.nil_inv
        exact ⟨fun w' => by simp [Builtin.lenOf], fun w' _ => by simp [Builtin.firstCells]⟩
      · refine ⟨fun w' => by simp [Builtin.lenOf], fun w' hw => ?_⟩
        have h1 := run_loadCells_list (P := P) w' ad xs (fun j v hv => by
          rw [World.cell?_of_block (w := w) (w' := w') (by rw [hw])]; exact hxs j v hv)
        rw [← his.length, hl] at h1
        simpa [Builtin.firstCells] using h1
    · exact h.elim
  · rename_i cs m z'
    rw [ck_iff] at h
    obtain ⟨_, h⟩ := h
    obtain ⟨b, c, t, fz, rfl, _, hb, his, _⟩ := hy
    refine ⟨cs, m, c.toList, h, his, fun hm => ⟨fun w' => by simp [Builtin.lenOf], fun w' hw => ?_⟩⟩
    have h1 := run_loadCells_list (P := P) w' ⟨b, 0, none⟩ c.toList (fun j v hv => by
      rw [add_at, Nat.zero_add, cell_of (by rw [hw]; exact hb)]; simpa using hv)
    rw [← his.length, hm] at h1
    simpa [Builtin.firstCells] using h1
  · rename_i s
    cases hy
    have hb : (bytesOf s).length = s.size := by simp [bytesOf]
    refine ⟨_, _, _, h, bytesOf_is φ s, fun hm => ?_⟩
    refine ⟨fun w' => by simp [Builtin.lenOf, szN], fun w' _ => ?_⟩
    simp only [Builtin.firstCells, Sem.run_pure, szN, Array.toArray_toList]
    have : (s.extract 0 s.size).data = s.data := by simp
    rw [this]
  · exact h.elim

section run
variable {t t' ty e : TypeId} {d' : TypeDesc} {i : TypeInfo} {zv : Value}
theorem run_append_in (ht : P.underlying t = some (.slice e)) (ht' : P.underlying t' = some d') (hd' : (∃ x, d' = .slice x) ∨ d' = .string) (hi : P.info? e = some i) (hz : i.zero = some zv) {b : Addr} {n c m : Nat} {ux : Value} {xs : List Value} (hs : Src P w i.size ux m xs) (hle : n + m ≤ c) :
    (Builtin.append_ #[t, t'] ty #[.slice (some b) n c, ux]).run P w = ((storeCells (b.add (n * i.size)) xs).run P w).andThen fun _ w' => .ok (.slice (some b) (n + m) c) w' := by
  have h1 := hs.1 w
  have h2 := hs.2 w rfl
  rcases hd' with ⟨x, rfl⟩ | rfl <;> simp [Builtin.append_, run_underlying ht, run_underlying ht', sizeOf, typeInfo, hi, h1, h2, hle]
theorem run_append_nn (ht : P.underlying t = some (.slice e)) (ht' : P.underlying t' = some d') (hd' : (∃ x, d' = .slice x) ∨ d' = .string) (hi : P.info? e = some i) (hz : i.zero = some zv) {m : Nat} {ux : Value} {xs : List Value} (hs : Src P w i.size ux m xs) (hm : m = 0) :
    (Builtin.append_ #[t, t'] ty #[.slice none 0 0, ux]).run P w = .ok (.slice none 0 0) w := by
  subst hm
  have h1 := hs.1 w
  have h2 := hs.2 w rfl
  rcases hd' with ⟨x, rfl⟩ | rfl <;> simp [Builtin.append_, run_underlying ht, run_underlying ht', sizeOf, typeInfo, hi, h1, h2]
theorem run_append_up (ht : P.underlying t = some (.slice e)) (ht' : P.underlying t' = some d') (hd' : (∃ x, d' = .slice x) ∨ d' = .string) (hi : P.info? e = some i) (hz : i.zero = some zv) {base : Option Addr} {n c m : Nat} {ux : Value} {xs olds : List Value} (hs : Src P w i.size ux m xs) (ho : (Builtin.firstCells i.size n (.slice base n c)).run P w.drew = .ok olds.toArray w.drew) (hg : c < n + m)
    (h63 : ((n + m : Nat) : Int) ≤ 9223372036854775807) (hfit : Builtin.nextslicecap (n + m) c * i.bytes ≤ 281474976710656) :
    (Builtin.append_ #[t, t'] ty #[.slice base n c, ux]).run P w = .ok (.slice (some ⟨w.heap.size, 0, none⟩) (n + m) (grownCap w (n + m) c e))
      (w.drew.alloc (.cells (olds.toArray ++ xs.toArray ++ Builtin.zeroCells zv.cells (grownCap w (n + m) c e - (n + m))) e)) := by
  have h1 := hs.1 w
  have h2 := hs.2 w.drew rfl
  have hn : ¬ (n + m ≤ c) := by omega
  have h63' : ¬ (9223372036854775807 < ((n : Int) + (m : Int))) := by omega
  have h48' : ¬ (281474976710656 < Builtin.nextslicecap (n + m) c * i.bytes) := by omega
  rcases hd' with ⟨x, rfl⟩ | rfl <;> simp [Builtin.append_, run_underlying ht, run_underlying ht', sizeOf, typeInfo, zeroValue, hi, hz, h1, h2, hn, h63', h48', Question.forced, ho, newRow, grownCap] <;>
    (congr 2; apply Array.ext'; simp [List.append_assoc])
end run


/-- a block with a told row, new -/
theorem newSl (I : Inv φ0 H0 w0 φ H lam fr tmps w) {e n cap z : Nat} {cs : List GV} {c : Array Value} (hl : cs.length = n * z) (hn : n ≤ cap) (hc : c.size = cap * z) (his : Is2 φ cs (c.toList.take cs.length)) :
    ∃ φ', Back φ H w φ' (H ++ [.row true e cs]) (w.drew.alloc (.cells c e)) ∧ (GV.sl (some (ln H, 0)) n z).is φ' (.slice (some ⟨w.heap.size, 0, none⟩) n cap) := by
  have hle : n * z ≤ cap * z := Nat.mul_le_mul_right _ hn
  have B := (Back.drew I.rep).trans (Back.new (Back.drew I.rep).rep e cs c (0, 0) (by omega) his (fun j _ h => by omega))
  refine ⟨_, B, _, _, cap, by simp only [ln, ← I.rep.len]; exact List.getElem?_concat_length, rfl, .inl rfl, hn, ?_, fun _ => ⟨rfl, ?_⟩⟩
  · show cs.length ≤ _; omega
  · show 0 + cap * z ≤ c.size; omega

theorem run_store_row (b o : Nat) (t : TypeId) (fz : Nat × Nat) : ∀ (vs : List Value) (k : Nat) (c : Array Value) (w : World), w.heap[b]? = some (.cells c t fz) → o + k + vs.length ≤ c.size → (∀ j, fz.1 ≤ j → j < fz.2 → c.size ≤ j) → (∀ v ∈ vs, v.oneCell' = true) →
    ∃ w' c', (storeCells ⟨b, o, none⟩ vs k).run P w = .ok () w' ∧ Keeps (fun b' => b' = b) w w' ∧ w'.heap[b]? = some (.cells c' t fz) ∧ c'.toList = c.toList.take (o + k) ++ vs ++ c.toList.drop (o + k + vs.length)
  | [], k, c, w, hb, _, _, _ => ⟨w, c, by simp [storeCells], Keeps.refl _ _, hb, by simp⟩
  | v :: vs, k, c, w, hb, hl, hf, h1 => by
    have hlt : o + k < c.size := by simp at hl; omega
    have hcell : w.cell? ⟨b, o + k, none⟩ = some c[o + k] := by rw [cell_of hb, Array.getElem?_eq_getElem hlt]
    have hfr : w.frozen? ⟨b, o + k, none⟩ = false := by
      obtain ⟨f1, f2⟩ := fz
      simp only [World.frozen?, hb]
      by_cases q : f1 ≤ o + k ∧ o + k < f2
      · have := hf _ q.1 q.2; omega
      · simp; omega
    have hst : (store ((⟨b, o, none⟩ : Addr).add k) v).run P w = .ok () (w.setCell ⟨b, o + k, none⟩ v) := by
      rw [add_at, run_store P w _ v _ (h1 v (by simp)), hcell]
      simp [hfr]
    obtain ⟨w', c', hr, hk, hb', hc'⟩ := run_store_row b o t fz vs (k + 1) (c.setIfInBounds (o + k) v) (w.setCell ⟨b, o + k, none⟩ v) (heap_setCell_at hb) (by simp at hl ⊢; omega) (fun j a b => by simpa using hf j a b) (fun x hx => h1 x (by simp [hx]))
    refine ⟨w', c', ?_, (keeps_setCell w b (o + k) v).trans hk (fun b h => .inl h), hb', ?_⟩
    · simp only [storeCells, Sem.run_bind, hst, Result.andThen_ok, hr]
    · rw [hc', Array.toList_setIfInBounds]
      have := list_set_append c.toList (o + k) v vs (by simp at hl ⊢; omega)
      rw [show o + (k + 1) = o + k + 1 by omega, ← this]
      simp


theorem grow_ok (hT : TysOK P cx.tys) (I : Inv φ0 H0 w0 φ H lam fr tmps w) {t t' ty e : TypeId} {d' : TypeDesc} (ht : P.underlying t = some (.slice e)) (ht' : P.underlying t' = some d') (hd' : (∃ x, d' = .slice x) ∨ d' = .string)
    (he : cx.okT e = true) (hz : 1 ≤ (cx.ty e).lv.length) (hb : 1 ≤ (cx.ty e).by_) {base : Option Addr} {n c m : Nat} {ux : Value} {olds xs : List Value} {ocs cs : List GV}
    (hs : Src P w (cx.ty e).lv.length ux m xs) (ho : (Builtin.firstCells (cx.ty e).lv.length n (.slice base n c)).run P w.drew = .ok olds.toArray w.drew) (hg : c < n + m) (hlim : (n + m) * (cx.ty e).by_ ≤ Lim)
    (hol : ocs.length = n * (cx.ty e).lv.length) (hcl : cs.length = m * (cx.ty e).lv.length) (hois : Is2 φ ocs olds) (his : Is2 φ cs xs) :
    ∃ φ' u w', (Builtin.append_ #[t, t'] ty #[.slice base n c, ux]).run P w = .ok u w' ∧ Back φ H w φ' (H ++ [.row true e (ocs ++ cs)]) w' ∧ (GV.sl (some (ln H, 0)) (n + m) (cx.ty e).lv.length).is φ' u := by
  obtain ⟨i, zv, hi, hsz, hzv, hzc, hby⟩ := run_info hT he
  have hlim' : (n + m) * i.bytes ≤ 140737488355328 := by rw [hby]; exact hlim
  have h63 : ((n + m : Nat) : Int) ≤ 9223372036854775807 := by
    have : (n + m) * 1 ≤ (n + m) * (cx.ty e).by_ := Nat.mul_le_mul_left _ hb
    rw [hby] at hlim'; omega
  have hr := run_append_up (P := P) (w := w) (ty := ty) ht ht' hd' hi hzv (by rw [hsz]; exact hs) (by rw [hsz]; exact ho) hg h63 (growslice_fits hg hlim')
  have hcap : n + m ≤ grownCap w (n + m) c e := by simp [grownCap, Question.cut]
  have l1 := hois.length
  have l2 := his.length
  have hzs : zv.cells.size = (cx.ty e).lv.length := by rw [← Array.length_toList, hzc]; simp
  have hzsz : (Builtin.zeroCells zv.cells (grownCap w (n + m) c e - (n + m))).size = (grownCap w (n + m) c e - (n + m)) * (cx.ty e).lv.length := by simp [Builtin.zeroCells, hzs]
  have e1 : (grownCap w (n + m) c e - (n + m)) * (cx.ty e).lv.length = grownCap w (n + m) c e * (cx.ty e).lv.length - (n + m) * (cx.ty e).lv.length := Nat.sub_mul _ _ _
  have e2 : (n + m) * (cx.ty e).lv.length ≤ grownCap w (n + m) c e * (cx.ty e).lv.length := Nat.mul_le_mul_right _ hcap
  have e3 : (n + m) * (cx.ty e).lv.length = n * (cx.ty e).lv.length + m * (cx.ty e).lv.length := Nat.add_mul _ _ _
  obtain ⟨φ', B, hv⟩ := newSl I (e := e) (n := n + m) (cap := grownCap w (n + m) c e) (z := (cx.ty e).lv.length) (cs := ocs ++ cs)
    (c := olds.toArray ++ xs.toArray ++ Builtin.zeroCells zv.cells (grownCap w (n + m) c e - (n + m)))
    (by rw [List.length_append, hol, hcl, e3]) hcap (by simp only [Array.size_append, List.size_toArray, hzsz]; omega)
    (by
      simp only [Array.toList_append]
      rw [List.take_left' (by simp; omega)]
      exact hois.append his)
  exact ⟨φ', _, _, hr, B, hv⟩

theorem appK_ok (hT : TysOK P cx.tys) (I : Inv φ0 H0 w0 φ H lam fr tmps w) {t t' ty : TypeId} {x y : FV} {ux uy : Value} {K : FV → Hp → Prop} (ht : cx.isSl t = true) (hf : cx.full (cx.ty t).el = true) (ht' : ((cx.ty t').isA 1 || (cx.ty t').isA 3) = true)
    (h : appK cx (cx.ty t).el x y H K) (hx : VOK w0.heap.size φ H lam fr w x ux) (hy : VOK w0.heap.size φ H lam fr w y uy) (dst : Option Tmp) :
    ∃ v H' u w', K v H' ∧ (Builtin.append_ #[t, t'] ty #[ux, uy]).run P w = .ok u w' ∧ Res φ0 H0 w0 dst v fr H' tmps u w' := by
  have ht := isSl_iff ht
  have hd := desc_slice hT ht.1
  have hd' : ∃ d', P.underlying t' = some d' ∧ ((∃ x, d' = .slice x) ∨ d' = .string) := by
    rw [Bool.or_eq_true] at ht'
    rcases ht' with q | q
    · exact ⟨_, desc_slice hT q, .inl ⟨_, rfl⟩⟩
    · exact ⟨_, desc_string hT q, .inr rfl⟩
  obtain ⟨d', hd1, hd2⟩ := hd'
  have hfull : 1 ≤ (cx.ty (cx.ty t).el).lv.length ∧ 1 ≤ (cx.ty (cx.ty t).el).by_ := by
    unfold Cx.full at hf; split at hf
    · rename_i q1 q2; exact ⟨Nat.le_of_ble_eq_true q1, Nat.le_of_ble_eq_true q2⟩
    · cases hf
  obtain ⟨hz, hb⟩ := hfull
  unfold appK at h
  obtain ⟨cs, m, xs, hK, his, hsrc⟩ := srcK_ok (P := P) I h hz hy
  replace h := hK
  clear hK
  have hxl := his.length
  split at h
  · rename_i a n z'
    rw [chk_iff] at h
    obtain ⟨hzz, h⟩ := h
    unfold ap at h
    split at h
    · rename_i a' n' H' he
      unfold app? at he
      split at he
      · rename_i hc
        obtain ⟨hlim, hcl⟩ := hc
        have hS := hsrc hcl
        split at he
        · split at he
          · rename_i e0
            subst e0
            obtain ⟨_, rfl⟩ := hx
            split at he
            · rename_i e0
              cases he
              obtain ⟨i, zv, hi, hsz, hzv, _⟩ := run_info hT ht.2
              exact ⟨_, _, _, w, h, run_append_nn hd hd1 hd2 hi hzv (by rw [hsz]; exact hS) e0, Res.of (v := .g (.sl none 0 _)) I ⟨rfl, rfl⟩ dst⟩
            · cases he
              obtain ⟨φ', u, w', hr, B, hv⟩ := grow_ok (ty := ty) hT I hd hd1 hd2 ht.2 hz hb (base := none) (n := 0) (c := 0) (olds := []) (ocs := []) hS (by simp [Builtin.firstCells]) (by omega) hlim (by simp) hcl .nil his
              rw [Nat.zero_add] at hv
              exact ⟨_, _, u, w', h, hr, Res.of (v := .g (.sl (some (ln H, 0)) _ (cx.ty (cx.ty t).el).lv.length)) (u := u) (I.back B) hv dst⟩
          · cases he
        · rename_i l o
          split at he
          · rename_i t1 cs1 hl
            split at he
            · rename_i hc1
              obtain ⟨rfl, rfl, hl1⟩ := hc1
              cases he
              obtain ⟨i, ad, c, hi, rfl, hq, hnc, hu, hown⟩ := hx
              have hz' : z' = (cx.ty (cx.ty t).el).lv.length := by rcases okz_or hzz with q | q; exact q; cases q
              rw [hz'] at hu hown
              obtain ⟨i', hi', r1, r2, r3, hp, c0, t0, fz, hblk, ht0, hs0, hfz, hle, hisr⟩ := I.rep.row l true _ cs1 hl
              rw [hi] at hi'; cases hi'
              obtain ⟨_, hcap⟩ := hown r1
              have hlt : l < φ.length := I.rep.lt hl
              by_cases hin : n + m ≤ c
              · -- in place
                obtain ⟨ii, zv, hii, hsz, hzv, _⟩ := run_info hT ht.2
                have hr := run_append_in (P := P) (w := w) (ty := ty) (b := ad) (n := n) (c := c) hd hd1 hd2 hii hzv (by rw [hsz]; exact hS) hin
                rw [hsz] at hr
                have hnm : (n + m) * (cx.ty (cx.ty t).el).lv.length ≤ c * (cx.ty (cx.ty t).el).lv.length := Nat.mul_le_mul_right _ hin
                have e3 : (n + m) * (cx.ty (cx.ty t).el).lv.length = n * (cx.ty (cx.ty t).el).lv.length + m * (cx.ty (cx.ty t).el).lv.length := Nat.add_mul _ _ _
                by_cases hs1 : i.s = 0
                · have hc0 : c = 0 := by
                    rcases Nat.eq_zero_or_pos c with q | q
                    · exact q
                    · have : 1 * 1 ≤ c * (cx.ty (cx.ty t).el).lv.length := Nat.mul_le_mul q hz
                      omega
                  have hm0 : m = 0 := by omega
                  have hn0 : n = 0 := by omega
                  subst hm0; subst hn0
                  have hcs : cs = [] := by apply List.eq_nil_of_length_eq_zero; omega
                  have hcs1 : cs1 = [] := by apply List.eq_nil_of_length_eq_zero; omega
                  subst hcs; subst hcs1
                  cases his.nil_inv
                  simp [storeCells] at hr
                  have Bd := Back.drop I.rep l
                  have hno : ¬ ownB φ (H.set l .dead) i.b := by
                    intro ⟨l2, t2, cs2, i2, g1, g2, g3, g4⟩
                    rcases set_get g1 with ⟨_, e⟩ | ⟨ne, g1⟩
                    · cases e
                    · exact I.rep.apart l2 l t2 cs2 true _ _ i2 i g1 hl ne g2 hi g4 g3
                  obtain ⟨R, o1, o2⟩ := Bd.rep.snoc (w' := w) (own := true) (t := (cx.ty t).el) (cs := []) (i := ⟨i.b, 0, true, 0, 0⟩) (Nat.le_refl _) (fun _ _ => rfl)
                    ⟨rfl, rfl, r3, rfl, c0, t0, fz, hblk, fun q => by simp at q, by simp [hs0, hs1], fun j _ _ => Nat.zero_le _, Nat.zero_le _, .nil⟩ (fun _ q => by simp at q) hno
                  have hrow : rowB φ H i.b := ⟨l, true, _, [], i, hl, hi, rfl⟩
                  refine ⟨_, _, _, w, h, hr, Res.of (I.go (List.prefix_append _ _) R (Keeps.refl _ _) (fun b q => ?_) (fun b q => ?_)) ?_ dst⟩
                  · rcases o1 b q with q | ⟨_, _, q⟩
                    · exact Bd.own b q
                    · simp at q
                  · rcases o2 b q with q | q
                    · rcases Bd.row b q with q | q
                      · exact .inl q
                      · obtain ⟨l2, o2, t2, cs2, i2, g1, g2, g3⟩ := ‹rowB φ (H.set l .dead) b›
                        rcases set_get g1 with ⟨_, e⟩ | ⟨_, g1⟩
                        · cases e
                        · exact .inl ⟨l2, o2, t2, cs2, i2, g1, g2, g3⟩
                    · exact .inl (q ▸ hrow)
                  · refine ⟨⟨i.b, 0, true, 0, 0⟩, ad, c, by rw [← I.rep.len]; exact List.getElem?_concat_length, rfl, .inr hc0, by omega, by simp, fun _ => ⟨rfl, by simp [hc0]⟩⟩
                · have hpos : 0 < i.s := by omega
                  have hst : ∃ w' c', (storeCells (ad.add (n * (cx.ty (cx.ty t).el).lv.length)) xs).run P w = .ok () w' ∧ Keeps (fun b' => b' = i.b) w w' ∧ w'.heap[i.b]? = some (.cells c' t0 fz) ∧ c'.toList = c0.toList.take (n * (cx.ty (cx.ty t).el).lv.length) ++ xs ++ c0.toList.drop (n * (cx.ty (cx.ty t).el).lv.length + xs.length) := by
                    rcases hq with hq | hq
                    · have := run_store_row (P := P) i.b (n * (cx.ty (cx.ty t).el).lv.length) t0 fz xs 0 c0 w hblk (by rw [hs0]; omega) (by rw [hs0]; exact hfz) his.one
                      rw [hq, add_at, hp]
                      simpa using this
                    · have hm0 : m = 0 := by omega
                      subst hm0
                      have : xs = [] := by apply List.eq_nil_of_length_eq_zero; omega
                      subst this
                      exact ⟨w, c0, by simp [storeCells], Keeps.refl _ _, hblk, by simp⟩
                  obtain ⟨w', c', hsr, hk, hb', hc'⟩ := hst
                  rw [hsr] at hr
                  have hc0l : c0.toList.length = i.s := by simpa using hs0
                  have hc's : c'.size = i.s := by
                    rw [← Array.length_toList, hc']; simp; omega
                  have B := Back.pass (i' := ⟨i.b, 0, true, (cs1 ++ cs).length, i.s⟩) (cs' := cs1 ++ cs) (t' := (cx.ty t).el) I.rep hl hi hpos rfl hk
                    ⟨rfl, rfl, by have := hk.size; exact Nat.lt_of_lt_of_le r3 this, rfl, c', t0, fz, hb', ht0, hc's, hfz, by rw [hc's, List.length_append]; omega, by
                      have e4 : c'.toList.take (cs1 ++ cs).length = c0.toList.take cs1.length ++ xs := by
                        rw [hc', List.take_left' (by simp; omega), hl1]
                      rw [e4]
                      exact (Is2.mono (List.prefix_append _ _) hisr).append (Is2.mono (List.prefix_append _ _) his)⟩
                  refine ⟨_, _, _, w', h, hr, Res.of (I.back B) ?_ dst⟩
                  refine ⟨⟨i.b, 0, true, (cs1 ++ cs).length, i.s⟩, ad, c, by rw [← I.rep.len]; exact List.getElem?_concat_length, rfl, ?_, hin, ?_, fun _ => ⟨rfl, ?_⟩⟩
                  · rcases hq with hq | hq
                    · left; rw [hq, hp]
                    · exact .inr hq
                  · show (cs1 ++ cs).length ≤ _; rw [List.length_append]; omega
                  · show 0 + _ ≤ i.s; omega
              · -- a new block
                have hfc : (Builtin.firstCells (cx.ty (cx.ty t).el).lv.length n (.slice (some ad) n c)).run P w.drew = .ok (c0.toList.take cs1.length).toArray w.drew := by
                  have hlen : (c0.toList.take cs1.length).length = n * (cx.ty (cx.ty t).el).lv.length := by simp; omega
                  have h1 := run_loadCells_list (P := P) w.drew ad (c0.toList.take cs1.length) (fun j v hv => by
                    have hj := isSome_lt hv
                    rcases hq with hq | hq
                    · rw [hq, add_at, hp, Nat.zero_add]
                      rw [cell_of (w := w.drew) (b := i.b) hblk]
                      rw [List.getElem?_take] at hv
                      split at hv
                      · simpa using hv
                      · cases hv
                    · rw [hlen] at hj
                      have : n = 0 := by omega
                      subst this; omega)
                  rw [hlen] at h1
                  simpa [Builtin.firstCells] using h1
                obtain ⟨φ', u, w', hr, B, hv⟩ := grow_ok (ty := ty) hT I hd hd1 hd2 ht.2 hz hb (base := some ad) (n := n) (c := c) hS hfc (by omega) hlim hl1 hcl hisr his
                have B2 := B.trans (Back.drop B.rep l)
                rw [List.set_append_left _ _ (by rw [← I.rep.len]; exact hlt)] at B2
                exact ⟨_, _, u, w', h, hr, Res.of (v := .g (.sl (some (ln H, 0)) _ (cx.ty (cx.ty t).el).lv.length)) (u := u) (I.back B2) hv dst⟩
            · cases he
          · cases he
      · cases he
    · exact h.elim
  · rename_i z0
    obtain ⟨⟨hlim, hcl⟩, h⟩ := h
    obtain ⟨b, c, t1, fz, rfl, hb0, hblk, hcis, _, hno, hnb⟩ := hx
    have hS := hsrc hcl
    by_cases hm : m = 0
    · subst hm
      have hcs : cs = [] := by apply List.eq_nil_of_length_eq_zero; omega
      subst hcs
      cases his.nil_inv
      have hc0 : c.size = 0 := by have := hcis.nil_inv; rw [← Array.length_toList, this]; rfl
      obtain ⟨ii, zv, hii, hsz, hzv, _⟩ := run_info hT ht.2
      have hr := run_append_in (P := P) (w := w) (ty := ty) (b := ⟨b, 0, none⟩) (n := 0) (c := 0) hd hd1 hd2 hii hzv (by rw [hsz]; exact hS) (by omega)
      simp [storeCells] at hr
      obtain ⟨R, o1, o2⟩ := I.rep.snoc (w' := w) (own := true) (t := (cx.ty t).el) (cs := []) (i := ⟨b, 0, true, 0, 0⟩) (Nat.le_refl _) (fun _ _ => rfl)
        ⟨rfl, rfl, (Array.getElem?_eq_some_iff.1 hblk).1, rfl, c, t1, fz, hblk, fun q => by simp at q, by simp [hc0], fun j _ _ => Nat.zero_le _, Nat.zero_le _, .nil⟩ (fun _ q => by simp at q) hno
      refine ⟨_, _, _, w, h, hr, Res.of (I.go (List.prefix_append _ _) R (Keeps.refl _ _) (fun b' q => ?_) (fun b' q => ?_)) ?_ dst⟩
      · rcases o1 b' q with q | ⟨_, _, q⟩
        · exact .inl q
        · simp at q
      · rcases o2 b' q with q | q
        · exact .inl q
        · exact .inr (by rw [q]; exact ⟨hb0, hnb⟩)
      · exact ⟨⟨b, 0, true, 0, 0⟩, _, 0, by simp only [ln, ← I.rep.len]; exact List.getElem?_concat_length, rfl, .inl rfl, Nat.le_refl _, by simp, fun _ => ⟨rfl, by simp⟩⟩
    · obtain ⟨φ', u, w', hr, B, hv⟩ := grow_ok (ty := ty) hT I hd hd1 hd2 ht.2 hz hb (base := some ⟨b, 0, none⟩) (n := 0) (c := 0) (olds := []) (ocs := []) hS (by simp [Builtin.firstCells, loadCells, loadCellsFrom]) (by omega) (by simpa using hlim) (by simp) hcl .nil his
      rw [Nat.zero_add] at hv
      exact ⟨_, _, u, w', h, hr, Res.of (v := .g (.sl (some (ln H, 0)) _ (cx.ty (cx.ty t).el).lv.length)) (u := u) (I.back B) hv dst⟩
  · exact h.elim


theorem take_seg {α : Type} (l zs : List α) (q n : Nat) (h : q + zs.length ≤ n) (hn : n ≤ l.length) : (l.take q ++ zs ++ l.drop (q + zs.length)).take n = (l.take n).take q ++ zs ++ (l.take n).drop (q + zs.length) := by
  have h1 : (l.take q ++ zs).length = q + zs.length := by simp; omega
  rw [List.take_append, List.take_of_length_le (by omega), h1, List.drop_take, List.take_take, Nat.min_eq_left (by omega)]

theorem clrK_ok (hT : TysOK P cx.tys) (I : Inv φ0 H0 w0 φ H lam fr tmps w) {t ty : TypeId} {x : FV} {ux : Value} {K : FV → Hp → Prop} (h : clrK cx t x H K) (hx : VOK w0.heap.size φ H lam fr w x ux) (dst : Option Tmp) :
    ∃ v H' u w', K v H' ∧ (Builtin.clear_ #[t] ty #[ux]).run P w = .ok u w' ∧ Res φ0 H0 w0 dst v fr H' tmps u w' := by
  unfold clrK at h
  split at h
  · rename_i a n z'
    obtain ⟨ht, h⟩ := ck_iff.1 h
    obtain ⟨hf, h⟩ := ck_iff.1 h
    obtain ⟨hzz, h⟩ := chk_iff.1 h
    have ht := isSl_iff ht
    have hd := desc_slice hT ht.1
    obtain ⟨i0, zv, hi0, hsz, hzv, hzc, _⟩ := run_info hT ht.2
    have hzs : zv.cells.size = (cx.ty (cx.ty t).el).lv.length := by rw [← Array.length_toList, hzc]; simp
    cases n with
    | zero =>
      refine ⟨_, _, .tuple #[], w, h, ?_, Res.of (v := .bad) I trivial dst⟩
      cases a with
      | none => obtain ⟨_, rfl⟩ := hx; simp [Builtin.clear_, run_underlying hd]
      | some p => obtain ⟨l, o⟩ := p; obtain ⟨_, q, c, _, rfl, _⟩ := hx; simp [Builtin.clear_, run_underlying hd]
    | succ n' =>
      unfold clr at h
      dsimp only at h
      cases a with
      | none => exact h.elim
      | some p =>
        obtain ⟨l, o⟩ := p
        obtain ⟨i, ad, c, hi, rfl, hq, hnc, hu, hown⟩ := hx
        have hz' : z' = (cx.ty (cx.ty t).el).lv.length := by rcases okz_or hzz with q | q; exact q; cases q
        dsimp only at h
        split at h
        · rename_i t' cs hl
          obtain ⟨hle, hk⟩ := h
          have hzl : (zerosK (cx.ty (cx.ty t).el).lv).length = (cx.ty (cx.ty t).el).lv.length := by simp [zerosK]
          rw [hzl] at hle hk
          obtain ⟨i', hi', r1, r2, r3, hp, c0, t0, fz, hblk, ht0, hs0, hfz, hle0, his⟩ := I.rep.row l true t' cs hl
          rw [hi] at hi'; cases hi'
          have hfull : 1 ≤ (cx.ty (cx.ty t).el).lv.length := by
            unfold Cx.full at hf; split at hf
            · rename_i q1 q2; exact Nat.le_of_ble_eq_true q1
            · cases hf
          have hq : ad = ⟨i.b, o, none⟩ := by
            rcases hq with q | q
            · rw [q, hp, Nat.zero_add]
            · omega
          subst hq
          obtain ⟨q, hqo⟩ : ∃ q, q = o := ⟨_, rfl⟩
          subst hqo
          have hzis : Is2 φ ((List.replicate (n' + 1) (zerosK (cx.ty (cx.ty t).el).lv)).flatten) (Builtin.zeroCells zv.cells (n' + 1)).toList := rep_is φ _ zv.cells hzc (n' + 1) _ (by rw [hzs])
          have hzlen := hzis.length
          have hzlen2 : (Builtin.zeroCells zv.cells (n' + 1)).toList.length = (n' + 1) * (cx.ty (cx.ty t).el).lv.length := by simp [Builtin.zeroCells, hzs]
          have hpos : 1 * 1 ≤ (n' + 1) * (cx.ty (cx.ty t).el).lv.length := Nat.mul_le_mul (by omega) hfull
          obtain ⟨w', c', hr, hkp, hb', hc'⟩ := run_store_row (P := P) i.b q t0 fz (Builtin.zeroCells zv.cells (n' + 1)).toList 0 c0 w hblk (by omega) (by rw [hs0]; exact hfz) hzis.one
          have hc's : c'.size = i.s := by
            rw [← Array.length_toList, hc']
            have : c0.toList.length = i.s := by simpa using hs0
            simp only [List.length_append, List.length_take, List.length_drop]
            omega
          have hcl : (cs.take q ++ (List.replicate (n' + 1) (zerosK (cx.ty (cx.ty t).el).lv)).flatten ++ cs.drop (q + (n' + 1) * (cx.ty (cx.ty t).el).lv.length)).length = cs.length := by
            simp only [List.length_append, List.length_take, List.length_drop]
            omega
          have B := Back.turn (cs' := cs.take q ++ (List.replicate (n' + 1) (zerosK (cx.ty (cx.ty t).el).lv)).flatten ++ cs.drop (q + (n' + 1) * (cx.ty (cx.ty t).el).lv.length)) I.rep hl hi (by omega) hkp
            ⟨r1, by rw [hcl]; exact r2, by have := hkp.size; exact Nat.lt_of_lt_of_le r3 this, hp, c', t0, fz, hb', ht0, hc's, hfz, by rw [hcl]; omega, by
              have e4 : c'.toList.take cs.length = ((c0.toList.take cs.length).take q) ++ (Builtin.zeroCells zv.cells (n' + 1)).toList ++ ((c0.toList.take cs.length).drop (q + (n' + 1) * (cx.ty (cx.ty t).el).lv.length)) := by
                rw [hc', hzlen2]
                have hc0l : cs.length ≤ c0.toList.length := by simpa using hle0
                have := take_seg c0.toList (Builtin.zeroCells zv.cells (n' + 1)).toList q cs.length (by omega) hc0l
                rw [hzlen2] at this
                exact this
              rw [hcl, e4]
              exact Is2.fill his hzis _ _⟩
          refine ⟨_, _, .tuple #[], w', hk, ?_, Res.of (v := .bad) (I.back B) trivial dst⟩
          have hrun : (storeCells ⟨i.b, q, none⟩ (Builtin.zeroCells zv.cells (n' + 1)).toList).run P w = .ok () w' := hr
          simp [Builtin.clear_, run_underlying hd, zeroValue, typeInfo, hi0, hzv, hrun]
        · exact h.elim
  · exact h.elim

end
end Go.Am
