import Derived.Test.YtmjnenpllddhfaaAmL
import Derived.Test.YtmjnenpllddhfaaU1
import Derived.Shelf.SortM.Plain
import Derived.Shelf.SortM.SortNone
import Derived.Lib.SlKeysI
set_option linter.unusedVariables false
set_option linter.unusedSimpArgs false
namespace Go.Proofs
open Go.Shelf
def Uq.sortA_ren : Go.Shelf.Ren := ⟨fun | 5 => 81 | 8 => 85 | 7 => 84 | 19 => 95 | 20 => 96 | 10 => 86 | 11 => 87 | 12 => 88 | 13 => 89 | 14 => 90 | 15 => 91 | 16 => 92 | 17 => 93 | 18 => 94 | 30 => 97 | 31 => 98 | 32 => 99 | 33 => 100 | 34 => 101 | 35 => 102 | 40 => 103 | n => n, fun | 23 => 32 | 25 => 3 | 3 => 3 | 32 => 40 | 22 => 32 | 0 => 0 | 44 => 119 | 46 => 121 | 4 => 4 | 36 => 113 | 35 => 112 | 41 => 82 | 5 => 5 | 9 => 9 | 53 => 122 | 57 => 126 | 63 => 128 | 64 => 129 | n => n, fun | n => n⟩
theorem Uq.sortA : Go.Proofs.SlLaysM.n5 Try.prog Uq.sortA_ren := {
  mixed := by kernel_rfl
  f5 := ⟨Try.f81.name, by decide, Try.func81.trans (congrArg some (by kernel_rfl))⟩
  f7 := ⟨Try.f84.name, by decide, Try.func84.trans (congrArg some (by kernel_rfl))⟩
  f8 := Try.func85.trans (congrArg some (by kernel_rfl))
  f10 := ⟨Try.f86.name, by decide, Try.func86.trans (congrArg some (by kernel_rfl))⟩
  f11 := ⟨Try.f87.name, by decide, Try.func87.trans (congrArg some (by kernel_rfl))⟩
  f12 := ⟨Try.f88.name, by decide, Try.func88.trans (congrArg some (by kernel_rfl))⟩
  f13 := ⟨Try.f89.name, by decide, Try.func89.trans (congrArg some (by kernel_rfl))⟩
  f14 := ⟨Try.f90.name, by decide, Try.func90.trans (congrArg some (by kernel_rfl))⟩
  f15 := ⟨Try.f91.name, by decide, Try.func91.trans (congrArg some (by kernel_rfl))⟩
  f16 := ⟨Try.f92.name, by decide, Try.func92.trans (congrArg some (by kernel_rfl))⟩
  f17 := ⟨Try.f93.name, by decide, Try.func93.trans (congrArg some (by kernel_rfl))⟩
  f18 := ⟨Try.f94.name, by decide, Try.func94.trans (congrArg some (by kernel_rfl))⟩
  f19 := Try.func95.trans (congrArg some (by kernel_rfl))
  f20 := Try.func96.trans (congrArg some (by kernel_rfl))
  f30 := ⟨Try.f97.name, by decide, Try.func97.trans (congrArg some (by kernel_rfl))⟩
  f31 := Try.func98.trans (congrArg some (by kernel_rfl))
  f32 := Try.func99.trans (congrArg some (by kernel_rfl))
  f33 := ⟨Try.f100.name, by decide, Try.func100.trans (congrArg some (by kernel_rfl))⟩
  f34 := ⟨Try.f101.name, by decide, Try.func101.trans (congrArg some (by kernel_rfl))⟩
  f35 := ⟨Try.f102.name, by decide, Try.func102.trans (congrArg some (by kernel_rfl))⟩
  f40 := ⟨Try.f103.name, by decide, Try.func103.trans (congrArg some (by kernel_rfl))⟩
  t0 := Try.underlying0
  a0 := Try.isAgg0
  z0 := Try.sizeOf0
  v0 := Try.zeroValue0
  t3 := Try.underlying3
  a3 := Try.isAgg3
  z3 := Try.sizeOf3
  v3 := Try.zeroValue3
  t4 := Try.underlying4
  a4 := Try.isAgg4
  z4 := Try.sizeOf4
  v4 := Try.zeroValue4
  t5 := Try.underlying5
  a5 := Try.isAgg5
  z5 := Try.sizeOf5
  v5 := Try.zeroValue5
  t9 := Try.underlying9
  a9 := Try.isAgg9
  z9 := Try.sizeOf9
  v9 := Try.zeroValue9
  t22 := Try.underlying32
  a22 := Try.isAgg32
  z22 := Try.sizeOf32
  v22 := Try.zeroValue32
  t23 := Try.underlying32
  a23 := Try.isAgg32
  z23 := Try.sizeOf32
  v23 := Try.zeroValue32
  t25 := Try.underlying3
  a25 := Try.isAgg3
  z25 := Try.sizeOf3
  v25 := Try.zeroValue3
  t32 := Try.underlying40
  a32 := Try.isAgg40
  z32 := Try.sizeOf40
  v32 := Try.zeroValue40
  t35 := Try.underlying112
  a35 := Try.isAgg112
  z35 := Try.sizeOf112
  v35 := Try.zeroValue112
  t36 := Try.underlying113
  a36 := Try.isAgg113
  z36 := Try.sizeOf113
  v36 := Try.zeroValue113
  t41 := Try.underlying82
  a41 := Try.isAgg82
  z41 := Try.sizeOf82
  v41 := Try.zeroValue82
  t44 := Try.underlying119
  a44 := Try.isAgg119
  z44 := Try.sizeOf119
  v44 := Try.zeroValue119
  t46 := Try.underlying121
  a46 := Try.isAgg121
  z46 := Try.sizeOf121
  v46 := Try.zeroValue121
  t53 := Try.underlying122
  a53 := Try.isAgg122
  z53 := Try.sizeOf122
  v53 := Try.zeroValue122
  t57 := Try.underlying126
  a57 := Try.isAgg126
  z57 := Try.sizeOf126
  v57 := Try.zeroValue126
  t63 := Try.underlying128
  a63 := Try.isAgg128
  z63 := Try.sizeOf128
  v63 := Try.zeroValue128
  t64 := Try.underlying129
  a64 := Try.isAgg129
  z64 := Try.sizeOf129
  v64 := Try.zeroValue129 }
end Go.Proofs
namespace Go.Am
open Go.Proofs Go.RowKit Go.Sort

/-- the world goes on; no row is touched -/
theorem Back.stay {φ : List LI} {H : Hp} {w w' : World} (h : RepH φ H w) (hb : Below w.heap.size w w') : Back φ H w φ H w' :=
  ⟨List.prefix_refl _, ⟨h.len, fun l own t cs hl => by obtain ⟨i, hi, hr⟩ := h.row l own t cs hl; exact ⟨i, hi, hr.keep (hb.block _ (h.blockLt ⟨l, own, t, cs, i, hl, hi, rfl⟩)) hb.size⟩, h.apart⟩,
    ⟨hb.os, hb.tape, hb.output, hb.size, fun b h1 _ => hb.block b h1⟩, fun _ h => .inl h, fun _ h => .inl h⟩

/-- a new row that a call has made -/
theorem Back.made {φ : List LI} {H : Hp} {w w' : World} (h : RepH φ H w) (hb : Below w.heap.size w w') {t : TypeId} {cs : List GV} {g cap : Nat} {cur : Array Value} (hg : w.heap.size ≤ g)
    (hc : w'.heap[g]? = some (.cells cur t (0, 0))) (hs : cur.size = cap) (hle : cs.length ≤ cap) (his : Is2 φ cs (cur.toList.take cs.length)) :
    Back φ H w (φ ++ [⟨g, 0, true, cs.length, cap⟩]) (H ++ [.row true t cs]) w' :=
  Back.snoc h ⟨hb.os, hb.tape, hb.output, hb.size, fun b h1 _ => hb.block b h1⟩ (fun b q => hb.block b (h.blockLt q))
    ⟨rfl, rfl, (Array.getElem?_eq_some_iff.1 hc).1, rfl, cur, t, (0, 0), hc, fun _ => rfl, hs, (fun j _ h2 => by simp at h2), by omega, Is2.mono (List.prefix_append _ _) his⟩ hg

theorem ints_is (φ : List LI) : ∀ zs : List Int, Is2 φ (zs.map (GV.int .i64)) (zs.map (Value.int .i64))
  | [] => .nil
  | _ :: zs => .cons rfl (ints_is φ zs)
theorem ints_of {φ : List LI} : ∀ {zs : List Int} {xs : List Value}, Is2 φ (zs.map (GV.int .i64)) xs → xs = zs.map (Value.int .i64)
  | [], _, h => by rw [All2.nil_inv h]; rfl
  | z :: zs, _, h => by
    obtain ⟨b, bs, rfl, h1, h2⟩ := All2.cons_inv h
    rw [ints_of h2, show b = _ from h1]; rfl

theorem All2.two {α β : Type} {R : α → β → Prop} {a b : α} {vs : List β} (h : All2 R [a, b] vs) : ∃ x y, vs = [x, y] ∧ R a x ∧ R b y := by
  obtain ⟨x, vs, rfl, h1, h⟩ := h.cons_inv
  obtain ⟨y, vs, rfl, h2, h⟩ := h.cons_inv
  rw [h.nil_inv]
  exact ⟨x, y, rfl, h1, h2⟩
theorem All2.one {α β : Type} {R : α → β → Prop} {a : α} {vs : List β} (h : All2 R [a] vs) : ∃ x, vs = [x] ∧ R a x := by
  obtain ⟨x, vs, rfl, h1, h⟩ := h.cons_inv
  rw [h.nil_inv]
  exact ⟨x, rfl, h1⟩

/-- slices.AppendSeq(nil, slices.Values(zs)) -/
def slices_AppendSeq__int_int : Sm := fun xs H Q => ∃ l t cs a n zs, xs = [.g (.sl none 0 0), .g (.fn 82 [(l, 0)])] ∧ H[l]? = some (.row true t cs) ∧ cs[0]? = some (.sl a n 1) ∧ cells? H a n = some (zs.map (GV.int .i64)) ∧ zs.length * 8 ≤ Lim ∧
  (zs = [] → Q (.g (.sl none 0 1)) H) ∧ (zs ≠ [] → Q (.g (.sl (some (ln H, 0)) zs.length 1)) (pu H (.row true 3 (zs.map (GV.int .i64)))))

theorem ints_at {φ : List LI} {H : Hp} {w : World} (h : RepH φ H w) {a : Pl} {n : Nat} {zs : List Int} (hz : cells? H a n = some (zs.map (GV.int .i64))) {x : Value} (hx : GV.is φ (.sl a n 1) x) : Uq.Ints w.heap.size w x zs := by
  cases a with
  | none =>
    obtain ⟨rfl, rfl⟩ := hx
    simp [cells?] at hz
    exact .inl ⟨none, 0, rfl, hz⟩
  | some p =>
    obtain ⟨l, o⟩ := p
    obtain ⟨i, ad, c, hi, rfl, hq, hnc, hu, _⟩ := hx
    obtain ⟨i', hi', hlen, xs, his, hcell⟩ := h.cells hz
    rw [hi] at hi'; cases hi'
    simp at hlen
    subst hlen
    have hxs := ints_of his
    subst hxs
    cases zs with
    | nil => exact .inl ⟨_, c, rfl, rfl⟩
    | cons z zs =>
      have hq := hq.resolve_right (by simp at hnc; omega)
      subst hq
      refine .inr ⟨i.b, i.p + o, c, rfl, ?_, fun j hj => ?_⟩
      · have := hcell 0 (.int .i64 z) (by simp)
        rcases Nat.lt_or_ge i.b w.heap.size with h1 | h1
        · exact h1
        · simp [World.cell?, Array.getElem?_eq_none h1] at this
      · exact hcell j _ (by rw [List.getElem?_map, List.getElem?_eq_getElem hj]; simp)

set_option maxRecDepth 100000 in
theorem slices_AppendSeq__int_int_ok : SoundC Try.prog 83 slices_AppendSeq__int_int := by
  intro as0 H Q ⟨l, t, cs, a, n, zs, e, hl, h0, hz, hlim, hQ1, hQ2⟩ φ w vs hr ha
  subst e
  obtain ⟨x, y, rfl, hx, hy⟩ := ha.two
  obtain ⟨_, rfl⟩ := hx
  obtain ⟨xs, rfl, hc⟩ := hy
  obtain ⟨p, rfl, i, hi, rfl⟩ := hc.one
  obtain ⟨i', hi', hrow⟩ := hr.row l true t cs hl
  rw [hi] at hi'; cases hi'
  obtain ⟨_, hu, hlt, hp, c, t', fz, hb, _, hs, _, hle, his⟩ := hrow
  obtain ⟨sv, hsv, hvx⟩ := his.get h0
  have hcell : w.cell? ⟨i.b, 0, none⟩ = some sv := by
    rw [cell_of hb]
    rw [List.getElem?_take] at hsv
    split at hsv
    · simpa using hsv
    · simp at hsv
  have e0 : i.p + 0 = 0 := by omega
  show CallsC Try.prog 83 #[.slice none 0 0, .func (.func 82) #[] #[.pointer (some ⟨i.b, i.p + 0, none⟩)]] w _
  rw [e0]
  refine .inl ⟨enters_of Try.func83 (by kernel_rfl) rfl _ _, ?_⟩
  refine ((callsIn_wide (n := 3)).1 (Uq.appendSeq_in Fence.wide 3 trivial trivial rfl (by omega) i.b sv zs hlim w hlt hcell (ints_at hr hz hvx))).mono ?_
  rintro e w' ⟨v, rfl, ⟨_, hown⟩, hnil, hbel⟩
  by_cases hze : zs = []
  · exact ⟨_, H, φ, v, hQ1 hze, rfl, ⟨rfl, hnil.2 hze⟩, Back.stay hr hbel⟩
  · rcases hown with ⟨rfl, h1⟩ | ⟨g, cap, cur, rfl, hg, hgb, h1, h2, h3, h4⟩
    · exact (hze (hnil.1 rfl)).elim
    · have B := Back.made (cs := zs.map (GV.int .i64)) hr hbel hg hgb (by simpa using h3) (by simpa using h1) (by rw [List.length_map, ← Nat.mul_one zs.length, h4]; exact ints_is φ zs)
      refine ⟨_, _, _, _, hQ2 hze, rfl, ?_, B⟩
      refine ⟨⟨g, 0, true, (zs.map (GV.int .i64)).length, cap⟩, _, cap, ?_, rfl, .inl rfl, h1, by simp; omega, fun _ => ⟨rfl, by simp⟩⟩
      show (φ ++ [_])[ln H]? = _
      rw [show ln H = φ.length from hr.len.symm]
      simp

/-- slices.Sort of numbers, in place -/
def slices_Sort__int_int : Sm := fun xs H Q => (xs = [.g (.sl none 0 1)] ∧ Q (.tup []) H) ∨
  ∃ l zs, xs = [.g (.sl (some (l, 0)) zs.length 1)] ∧ zs ≠ [] ∧ zs.length * 8 ≤ Lim ∧ H[l]? = some (.row true 3 (zs.map (GV.int .i64))) ∧ Q (.tup []) (H.set l (.row true 3 ((zs.mergeSort fun x y => decide (x ≤ y)).map (GV.int .i64))))

theorem slices_Sort__int_int_ok : SoundC Try.prog 81 slices_Sort__int_int := by
  intro as0 H Q hS φ w vs hr ha
  rcases hS with ⟨rfl, hQ⟩ | ⟨l, zs, rfl, hne, hlim, hl, hQ⟩
  · obtain ⟨x, rfl, hx⟩ := ha.one
    obtain ⟨_, rfl⟩ := hx
    refine .inl ⟨enters_of Try.func81 (by kernel_rfl) rfl _ _, ?_⟩
    refine (AnyM.slices_Sort_int_none Uq.sortA none 0 w).mono ?_
    rintro e w' ⟨rfl, rfl⟩
    exact ⟨_, H, φ, _, hQ, rfl, ⟨#[], rfl, .nil⟩, Back.refl hr⟩
  · obtain ⟨x, rfl, hx⟩ := ha.one
    obtain ⟨i, ad, c, hi, rfl, hq, hnc, hu, ho⟩ := hx
    obtain ⟨i', hi', hrow⟩ := hr.row l true 3 _ hl
    rw [hi] at hi'; cases hi'
    obtain ⟨ho', hu', hlt, hp, cur, t', fz, hb, ht', hs, hfz, hle, his⟩ := hrow
    have hzl : 0 < zs.length := List.length_pos_iff.2 hne
    have hq' : ad = ⟨i.b, 0, none⟩ := by
      rcases hq with h | h
      · rw [h, hp]
      · omega
    subst hq'
    have hcur : cur.toList.take zs.length = zs.map (Value.int .i64) := by
      have := ints_of his
      rwa [List.length_map] at this
    have hH : Holds (Value.int .i64) w i.b 0 zs.toArray := by
      intro j hj
      have hj' : j < zs.length := by simpa using hj
      rw [Nat.zero_add]
      constructor
      · rw [cell_of hb]
        have h1 : (cur.toList.take zs.length)[j]? = (zs.map (Value.int .i64))[j]? := by rw [hcur]
        rw [List.getElem?_take_of_lt hj', List.getElem?_map, List.getElem?_eq_getElem hj'] at h1
        simp at h1
        rw [h1]
        simp [hj']
      · simp only [World.frozen?, hb]
        simp only [List.length_map] at hle
        by_cases h1 : fz.1 ≤ j
        · by_cases h2 : j < fz.2
          · have := hfz j h1 h2; omega
          · simp; omega
        · simp; omega
    refine .inl ⟨enters_of Try.func81 (by kernel_rfl) rfl _ _, ?_⟩
    refine (AnyM.slices_Sort_int Uq.sortA i.b 0 c zs w hH hlt (by unfold Lim at hlim; omega)).mono ?_
    rintro e w' ⟨rfl, k, os, rfl⟩
    have hlen : (zs.mergeSort fun x y => decide (x ≤ y)).length = zs.length := by simp
    refine ⟨_, _, φ, _, hQ, rfl, ⟨#[], rfl, .nil⟩, ?_⟩
    have hg := grownBy_sorted_i (w := w) (g := i.b) (n := k) (os := os) (zs.mergeSort fun x y => decide (x ≤ y)).toArray
    refine Back.turn hr hl hi (by simp at hle; omega) ⟨hg.os, hg.tape, hg.output, hg.size, fun b h1 h2 => hg.block b h1 (fun e => h2 (by cases e; rfl))⟩ ?_
    have hb' := heap_sorted_i (n := k) (os := os) (zs.mergeSort fun x y => decide (x ≤ y)).toArray hb
    refine ⟨ho', by simp [hu'], (Array.getElem?_eq_some_iff.1 hb').1, hp, _, t', fz, hb', ht', by simp [putCells, hs], hfz, by simp [putCells]; simpa using hle, ?_⟩
    have htk := take_putCells_i cur (zs.mergeSort fun x y => decide (x ≤ y)) (by simpa using hle)
    rw [List.length_map, htk]
    exact ints_is φ _
end Go.Am
