import Derived.Test.YtmjnenpllddhfaaE2
set_option linter.unusedVariables false
set_option linter.unusedSimpArgs false
namespace Go.Am
/-! trees -/
/-- a page's cells -/
structure PC where
  u : Bool
  l : Bool
  a1 : Pl
  n1 : Nat
  a2 : Pl
  n2 : Nat
  a3 : Pl
  n3 : Nat
def PC.cells (c : PC) : List GV := [.bool c.u, .bool c.l, .sl c.a1 c.n1 1, .sl c.a2 c.n2 1, .sl c.a3 c.n3 1]
@[simp] theorem PC.cells_length (c : PC) : c.cells.length = 5 := rfl
def PC.at (H : Hp) (c : PC) (p : Pg) : Prop := PgAt H c.u c.l c.a1 c.n1 c.a2 c.n2 c.a3 c.n3 p
theorem PC.at.mono {H H' : Hp} (hp : H <+: H') {c : PC} {p : Pg} (h : c.at H p) : c.at H' p := PgAt.mono hp h
def pcells (cs : List PC) : List GV := cs.flatMap PC.cells
theorem pcells_length (cs : List PC) : (pcells cs).length = cs.length * 5 := by
  unfold pcells
  induction cs with
  | nil => rfl
  | cons c cs ih => simp [ih]; omega
theorem pcells_append (cs ds : List PC) : pcells (cs ++ ds) = pcells cs ++ pcells ds := by simp [pcells]
/-- the cell j of the page i -/
theorem pcells_get {cs : List PC} {i j : Nat} (hi : i < cs.length) (hj : j < 5) : (pcells cs)[i * 5 + j]? = (cs[i].cells)[j]? := by
  unfold pcells
  induction cs generalizing i with
  | nil => simp at hi
  | cons c cs ih =>
    simp only [List.flatMap_cons]
    cases i with
    | zero => rw [List.getElem?_append_left (by simp; omega)]; simp
    | succ i =>
      rw [List.getElem?_append_right (by simp; omega)]
      have e : (i + 1) * 5 + j - c.cells.length = i * 5 + j := by simp; omega
      rw [e, ih (by simpa using hi)]
      simp
/-- a slice of pages -/
structure Tr (H : Hp) (a : Pl) (n : Nat) (cs : List PC) (T : List Pg) : Prop where
  cells : cells? H a (n * 5) = some (pcells cs)
  len : cs.length = n
  lenT : T.length = n
  all : ∀ i (h : i < cs.length) (h' : i < T.length), (cs[i]).at H T[i]
theorem Tr.mono {H H' : Hp} (hp : H <+: H') {a : Pl} {n : Nat} {cs : List PC} {T : List Pg} (h : Tr H a n cs T) : Tr H' a n cs T := ⟨cells_mono hp h.cells, h.len, h.lenT, fun i h1 h2 => (h.all i h1 h2).mono hp⟩

/-- a page of it -/
theorem Tr.get {H : Hp} {a : Pl} {n : Nat} {cs : List PC} {T : List Pg} (h : Tr H a n cs T) {i : Nat} (hi : i < n) : ∃ l o c p, a = some (l, o) ∧ cs[i]? = some c ∧ T[i]? = some p ∧ c.at H p ∧
    gt H l (o + i * 5) = some (.bool c.u) ∧ gt H l (o + i * 5 + 1) = some (.bool c.l) ∧ gt H l (o + i * 5 + 2) = some (.sl c.a1 c.n1 1) ∧ gt H l (o + i * 5 + 3) = some (.sl c.a2 c.n2 1) ∧ gt H l (o + i * 5 + 4) = some (.sl c.a3 c.n3 1) := by
  have h1 := h.len
  have h2 := h.lenT
  have hc := h.cells
  cases a with
  | none => simp [cells?] at hc; omega
  | some q =>
    obtain ⟨l, o⟩ := q
    have hk : ∀ j, j < 5 → gt H l (o + i * 5 + j) = ((cs[i]'(by omega)).cells)[j]? := by
      intro j hj
      have := cells_get hc (j := i * 5 + j) (by omega)
      rw [← Nat.add_assoc] at this
      rw [this, pcells_get (by omega) hj]
    exact ⟨l, o, cs[i]'(by omega), T[i]'(by omega), rfl, by simp, by simp, h.all i (by omega) (by omega), hk 0 (by omega), hk 1 (by omega), hk 2 (by omega), hk 3 (by omega), hk 4 (by omega)⟩
theorem rdPage_of {H : Hp} {l j : Nat} {c : PC} {K : Bool → Bool → Pl → Nat → Pl → Nat → Pl → Nat → Prop} (h0 : gt H l j = some (.bool c.u)) (h1 : gt H l (j + 1) = some (.bool c.l)) (h2 : gt H l (j + 2) = some (.sl c.a1 c.n1 1)) (h3 : gt H l (j + 3) = some (.sl c.a2 c.n2 1)) (h4 : gt H l (j + 4) = some (.sl c.a3 c.n3 1)) :
    (rd H l j fun v0 => dB v0 fun b0 => rd H l (j + 1) fun v1 => dB v1 fun b1 => rd H l (j + 1 + 1) fun v2 => dL 1 v2 fun x2 n2 => rd H l (j + 1 + 1 + 1) fun v3 => dL 1 v3 fun x3 n3 => rd H l (j + 1 + 1 + 1 + 1) fun v4 => dL 1 v4 fun x4 n4 => K b0 b1 x2 n2 x3 n3 x4 n4) = K c.u c.l c.a1 c.n1 c.a2 c.n2 c.a3 c.n3 := by
  rw [rd_of h0, dB_bool, rd_of h1, dB_bool, rd_of h2, dL_sl, rd_of h3, dL_sl, rd_of h4, dL_sl]
end Go.Am
