/- Values without memory: what a value of the model says, once the blocks that nobody writes any more are read out; heaps of the blocks that may still be written. -/
import Derived.Below
import Derived.Laws.Sem
namespace Go.Proofs.Ytpppgmoiginedaa.Q
open Go Go.RowKit
set_option linter.unusedVariables false

/-- A value, read: 'seq' is a slice whose cells nobody writes any more (rows of s cells), 'iptr' a pointer to such cells, 'ptr' a pointer to a cell of a block that may be written (element i, cell f), 'own' a slice over such a block, 'nils' a slice without room. -/
inductive V where
  | val (v : Value)
  | seq (s : Nat) (L : List (List V))
  | agg (cs : List V)
  | iptr (cs : List V)
  | ptr (b s i f : Nat)
  | own (b s lo n cap : Nat)
  | func (f : FuncId) (caps : List V)
  | tup (vs : List V)
  | nils
instance : Inhabited V := ⟨.tup []⟩

def V.cells : V → List V
  | .agg cs => cs
  | v => [v]

mutual
/-- 'x' is what V says, in w; the blocks that are read out are in D. -/
def real (w : World) (D : Nat → Prop) : V → Value → Prop
  | .val v, x => x = v ∧ v.oneCell' = true
  | .seq s L, x => ∃ a n cap, x = .slice a n cap ∧ n = L.length ∧ n ≤ cap ∧ (L = [] ∨ ∃ b off, a = some ⟨b, off, none⟩ ∧ D b ∧ rowsAt w D s L b off)
  | .agg cs, x => ∃ arr : Array Value, x = .agg arr ∧ reals w D cs arr.toList
  | .iptr cs, x => ∃ b off, x = .pointer (some ⟨b, off, none⟩) ∧ D b ∧ cellsAt w D cs b off
  | .ptr b s i f, x => x = .pointer (some ⟨b, i * s + f, none⟩)
  | .own b s lo n cap, x => ∃ o, x = .slice (some ⟨b, o, none⟩) n cap ∧ n ≤ cap ∧ (o = lo * s ∨ (n = 0 ∧ cap = 0))
  | .func f caps, x => ∃ arr : Array Value, x = .func (.func f) #[] arr ∧ reals w D caps arr.toList
  | .tup vs, x => ∃ arr : Array Value, x = .tuple arr ∧ realt w D vs arr.toList
  | .nils, x => ∃ a, x = .slice a 0 0
/-- cells, one by one -/
def reals (w : World) (D : Nat → Prop) : List V → List Value → Prop
  | [], l => l = []
  | c :: cs, l => ∃ v l', l = v :: l' ∧ (real w D c v ∧ v.oneCell' = true) ∧ reals w D cs l'
/-- results -/
def realt (w : World) (D : Nat → Prop) : List V → List Value → Prop
  | [], l => l = []
  | c :: cs, l => ∃ v l', l = v :: l' ∧ real w D c v ∧ realt w D cs l'
/-- the cells from an address on -/
def cellsAt (w : World) (D : Nat → Prop) : List V → Nat → Nat → Prop
  | [], _, _ => True
  | c :: cs, b, o => (∃ v, w.cell? ⟨b, o, none⟩ = some v ∧ real w D c v ∧ v.oneCell' = true) ∧ cellsAt w D cs b (o + 1)
/-- rows of s cells from an address on -/
def rowsAt (w : World) (D : Nat → Prop) (s : Nat) : List (List V) → Nat → Nat → Prop
  | [], _, _ => True
  | r :: L, b, o => (r.length = s ∧ cellsAt w D r b o) ∧ rowsAt w D s L b (o + s)
end

/-- what a block that may be written holds -/
inductive Ob where
  | row (s : Nat) (L : List (List V)) (cap : Nat)
  | map (es : List (Int × V))
  | raw (o : Obj)
abbrev Heap := Nat → Option Ob
def Heap.set (H : Heap) (b : Nat) (o : Ob) : Heap := fun k => if k = b then some o else H k
def Heap.del (H : Heap) (b : Nat) : Heap := fun k => if k = b then none else H k

/-- the blocks that nobody writes any more -/
def imm (w : World) (H : Heap) : Nat → Prop := fun b => b < w.heap.size ∧ H b = none

/-- the entries of a map -/
def entsAt (w : World) (D : Nat → Prop) : List (Int × V) → List MapEntry → Prop
  | [], l => l = []
  | (k, v) :: es, l => ∃ e l', l = e :: l' ∧ e.key = .int .i64 k ∧ real w D v e.val ∧ entsAt w D es l'

def Ob.real (w : World) (H : Heap) (b : Nat) : Ob → Prop
  | .row s L cap => ∃ arr t, w.heap[b]? = some (.cells arr t (0, 0)) ∧ L.length ≤ cap ∧ arr.size = cap * s ∧ rowsAt w (imm w H) s L b 0
  | .map es => ∃ ents clock, w.heap[b]? = some (.map ents clock) ∧ entsAt w (imm w H) es ents.toList ∧ (ents.toList.map (·.born)).Nodup ∧ ∀ e ∈ ents.toList, e.born < clock
  | .raw o => w.heap[b]? = some o ∧ ∀ c t z, o ≠ .cells c t z

def Sim (w : World) (H : Heap) : Prop := ∀ b o, H b = some o → o.real w H b

/-- from (w, H) to (w', H') no block that nobody writes any more is turned -/
structure Evo (w : World) (H : Heap) (w' : World) (H' : Heap) : Prop where
  os : w'.os = w.os
  tape : w'.tape = w.tape
  output : w'.output = w.output
  size : w.heap.size ≤ w'.heap.size
  keep : ∀ b, imm w H b → w'.heap[b]? = w.heap[b]? ∧ imm w' H' b

theorem Evo.refl (w : World) (H : Heap) : Evo w H w H := ⟨rfl, rfl, rfl, Nat.le_refl _, fun _ h => ⟨rfl, h⟩⟩
theorem Evo.trans {w1 w2 w3 : World} {H1 H2 H3 : Heap} (h : Evo w1 H1 w2 H2) (k : Evo w2 H2 w3 H3) : Evo w1 H1 w3 H3 :=
  ⟨k.os.trans h.os, k.tape.trans h.tape, k.output.trans h.output, Nat.le_trans h.size k.size, fun b hb =>
    let ⟨h1, h2⟩ := h.keep b hb
    let ⟨k1, k2⟩ := k.keep b h2
    ⟨k1.trans h1, k2⟩⟩
theorem Evo.drew {w w' : World} {H H' : Heap} (h : Evo w H w' H') : Evo w H w'.drew H' := ⟨h.os, h.tape, h.output, h.size, h.keep⟩

/-- 'D' is kept from w to w', into D' -/
def Keeps (w : World) (D : Nat → Prop) (w' : World) (D' : Nat → Prop) : Prop := ∀ b, D b → w'.heap[b]? = w.heap[b]? ∧ D' b
theorem Evo.keeps {w w' : World} {H H' : Heap} (h : Evo w H w' H') : Keeps w (imm w H) w' (imm w' H') := h.keep
theorem Keeps.cell {w w' : World} {D D' : Nat → Prop} (h : Keeps w D w' D') {b : Nat} (hb : D b) (o : Nat) : w'.cell? ⟨b, o, none⟩ = w.cell? ⟨b, o, none⟩ := by
  simp only [World.cell?, (h b hb).1]

mutual
theorem real_keeps {w w' : World} {D D' : Nat → Prop} (h : Keeps w D w' D') : ∀ (c : V) (x : Value), real w D c x → real w' D' c x
  | .val v, x, hx => by unfold real at hx ⊢; exact hx
  | .seq s L, x, hx => by
    unfold real at hx ⊢
    obtain ⟨a, n, cap, e, hn, hc, hl⟩ := hx
    refine ⟨a, n, cap, e, hn, hc, hl.imp id ?_⟩
    rintro ⟨b, off, ea, hb, hr⟩
    exact ⟨b, off, ea, (h b hb).2, rows_keeps h hb L off hr⟩
  | .agg cs, x, hx => by
    unfold real at hx ⊢
    obtain ⟨arr, e, hr⟩ := hx
    exact ⟨arr, e, reals_keeps h cs _ hr⟩
  | .iptr cs, x, hx => by
    unfold real at hx ⊢
    obtain ⟨b, off, e, hb, hr⟩ := hx
    exact ⟨b, off, e, (h b hb).2, cells_keeps h hb cs off hr⟩
  | .ptr b s i f, x, hx => by unfold real at hx ⊢; exact hx
  | .own b s lo n cap, x, hx => by unfold real at hx ⊢; exact hx
  | .func f caps, x, hx => by
    unfold real at hx ⊢
    obtain ⟨arr, e, hr⟩ := hx
    exact ⟨arr, e, reals_keeps h caps _ hr⟩
  | .tup vs, x, hx => by
    unfold real at hx ⊢
    obtain ⟨arr, e, hr⟩ := hx
    exact ⟨arr, e, realt_keeps h vs _ hr⟩
  | .nils, x, hx => by unfold real at hx ⊢; exact hx
theorem reals_keeps {w w' : World} {D D' : Nat → Prop} (h : Keeps w D w' D') : ∀ (cs : List V) (l : List Value), reals w D cs l → reals w' D' cs l
  | [], l, hx => by unfold reals at hx ⊢; exact hx
  | c :: cs, l, hx => by
    unfold reals at hx ⊢
    obtain ⟨v, l', e, ⟨h1, h2⟩, h3⟩ := hx
    exact ⟨v, l', e, ⟨real_keeps h c v h1, h2⟩, reals_keeps h cs l' h3⟩
theorem realt_keeps {w w' : World} {D D' : Nat → Prop} (h : Keeps w D w' D') : ∀ (cs : List V) (l : List Value), realt w D cs l → realt w' D' cs l
  | [], l, hx => by unfold realt at hx ⊢; exact hx
  | c :: cs, l, hx => by
    unfold realt at hx ⊢
    obtain ⟨v, l', e, h1, h3⟩ := hx
    exact ⟨v, l', e, real_keeps h c v h1, realt_keeps h cs l' h3⟩
theorem cells_keeps {w w' : World} {D D' : Nat → Prop} (h : Keeps w D w' D') {b : Nat} (hb : D b) : ∀ (cs : List V) (o : Nat), cellsAt w D cs b o → cellsAt w' D' cs b o
  | [], o, hx => by unfold cellsAt; trivial
  | c :: cs, o, hx => by
    unfold cellsAt at hx ⊢
    obtain ⟨⟨v, h1, h2, h3⟩, h4⟩ := hx
    exact ⟨⟨v, (h.cell hb o).trans h1, real_keeps h c v h2, h3⟩, cells_keeps h hb cs (o + 1) h4⟩
theorem rows_keeps {w w' : World} {D D' : Nat → Prop} (h : Keeps w D w' D') {b : Nat} (hb : D b) {s : Nat} : ∀ (L : List (List V)) (o : Nat), rowsAt w D s L b o → rowsAt w' D' s L b o
  | [], o, hx => by unfold rowsAt; trivial
  | r :: L, o, hx => by
    unfold rowsAt at hx ⊢
    obtain ⟨⟨h1, h2⟩, h3⟩ := hx
    exact ⟨⟨h1, cells_keeps h hb r o h2⟩, rows_keeps h hb L (o + s) h3⟩
end

/-- likewise, of a block that may be written, but is as it was -/
theorem cells_same {w w' : World} {D D' : Nat → Prop} (h : Keeps w D w' D') {b : Nat} (hb : w'.heap[b]? = w.heap[b]?) : ∀ (cs : List V) (o : Nat), cellsAt w D cs b o → cellsAt w' D' cs b o
  | [], o, hx => by unfold cellsAt; trivial
  | c :: cs, o, hx => by
    unfold cellsAt at hx ⊢
    obtain ⟨⟨v, h1, h2, h3⟩, h4⟩ := hx
    exact ⟨⟨v, by simp only [World.cell?, hb]; exact h1, real_keeps h c v h2, h3⟩, cells_same h hb cs (o + 1) h4⟩
theorem rows_same {w w' : World} {D D' : Nat → Prop} (h : Keeps w D w' D') {b : Nat} (hb : w'.heap[b]? = w.heap[b]?) {s : Nat} : ∀ (L : List (List V)) (o : Nat), rowsAt w D s L b o → rowsAt w' D' s L b o
  | [], o, hx => by unfold rowsAt; trivial
  | r :: L, o, hx => by
    unfold rowsAt at hx ⊢
    obtain ⟨⟨h1, h2⟩, h3⟩ := hx
    exact ⟨⟨h1, cells_same h hb r o h2⟩, rows_same h hb L (o + s) h3⟩
theorem ents_keeps {w w' : World} {D D' : Nat → Prop} (h : Keeps w D w' D') : ∀ (es : List (Int × V)) (l : List MapEntry), entsAt w D es l → entsAt w' D' es l
  | [], l, hx => by unfold entsAt at hx ⊢; exact hx
  | (k, v) :: es, l, hx => by
    unfold entsAt at hx ⊢
    obtain ⟨e, l', e1, e2, h1, h2⟩ := hx
    exact ⟨e, l', e1, e2, real_keeps h v e.val h1, ents_keeps h es l' h2⟩
theorem Ob.real_same {w w' : World} {H H' : Heap} (h : Keeps w (imm w H) w' (imm w' H')) {b : Nat} (hb : w'.heap[b]? = w.heap[b]?) : ∀ (o : Ob), o.real w H b → o.real w' H' b
  | .row s L cap, ⟨arr, t, h1, h2, h3, h4⟩ => ⟨arr, t, hb.trans h1, h2, h3, rows_same h hb L 0 h4⟩
  | .map es, ⟨ents, clock, h1, h2, h3⟩ => ⟨ents, clock, hb.trans h1, ents_keeps h es _ h2, h3⟩
  | .raw o, ⟨h1, h2⟩ => ⟨hb.trans h1, h2⟩

/-! ### Reading -/
theorem lt_of_block {w : World} {b : Nat} {o : Obj} (h : w.heap[b]? = some o) : b < w.heap.size := (Array.getElem?_eq_some_iff.1 h).1
theorem Ob.lt {w : World} {H : Heap} {b : Nat} : ∀ {o : Ob}, o.real w H b → b < w.heap.size
  | .row s L cap, ⟨arr, t, h1, _⟩ => lt_of_block h1
  | .map es, ⟨ents, clock, h1, _⟩ => lt_of_block h1
  | .raw o, ⟨h1, _⟩ => lt_of_block h1
theorem cells_get {w : World} {D : Nat → Prop} {b : Nat} : ∀ {cs : List V} {o : Nat} (j : Nat) {c : V}, cellsAt w D cs b o → cs[j]? = some c → ∃ v, w.cell? ⟨b, o + j, none⟩ = some v ∧ real w D c v ∧ v.oneCell' = true
  | [], _, _, _, _, h => by simp at h
  | c :: cs, o, 0, c', hx, h => by
    unfold cellsAt at hx
    simp at h
    subst h
    simpa using hx.1
  | c :: cs, o, j + 1, c', hx, h => by
    unfold cellsAt at hx
    have := cells_get (o := o + 1) j hx.2 (by simpa using h)
    rwa [show o + 1 + j = o + (j + 1) by omega] at this
theorem cells_drop {w : World} {D : Nat → Prop} {b : Nat} : ∀ {cs : List V} {o : Nat} (k : Nat), cellsAt w D cs b o → cellsAt w D (cs.drop k) b (o + k)
  | cs, o, 0, h => by simpa using h
  | [], o, k + 1, h => by simp [cellsAt]
  | c :: cs, o, k + 1, h => by
    unfold cellsAt at h
    have := cells_drop (o := o + 1) k h.2
    rw [show o + (k + 1) = o + 1 + k by omega]
    simpa using this
theorem cells_take {w : World} {D : Nat → Prop} {b : Nat} : ∀ {cs : List V} {o : Nat} (k : Nat), cellsAt w D cs b o → cellsAt w D (cs.take k) b o
  | cs, o, 0, h => by simp [cellsAt]
  | [], o, k + 1, h => by simp [cellsAt]
  | c :: cs, o, k + 1, h => by
    unfold cellsAt at h
    rw [List.take_succ_cons]
    unfold cellsAt
    exact ⟨h.1, cells_take k h.2⟩
theorem cells_append {w : World} {D : Nat → Prop} {b : Nat} : ∀ {cs ds : List V} {o : Nat}, cellsAt w D cs b o → cellsAt w D ds b (o + cs.length) → cellsAt w D (cs ++ ds) b o
  | [], ds, o, _, h => by simpa using h
  | c :: cs, ds, o, h, k => by
    unfold cellsAt at h
    rw [List.cons_append]
    unfold cellsAt
    exact ⟨h.1, cells_append h.2 (by rwa [List.length_cons, show o + (cs.length + 1) = o + 1 + cs.length by omega] at k)⟩
theorem cells_split {w : World} {D : Nat → Prop} {b : Nat} : ∀ {cs ds : List V} {o : Nat}, cellsAt w D (cs ++ ds) b o → cellsAt w D cs b o ∧ cellsAt w D ds b (o + cs.length)
  | [], ds, o, h => ⟨by simp [cellsAt], by simpa using h⟩
  | c :: cs, ds, o, h => by
    rw [List.cons_append] at h
    unfold cellsAt at h
    obtain ⟨h1, h2⟩ := cells_split h.2
    refine ⟨?_, ?_⟩
    · unfold cellsAt; exact ⟨h.1, h1⟩
    · rwa [List.length_cons, show o + (cs.length + 1) = o + 1 + cs.length by omega]
theorem rows_get {w : World} {D : Nat → Prop} {b s : Nat} : ∀ {L : List (List V)} {o : Nat} (i : Nat) {r : List V}, rowsAt w D s L b o → L[i]? = some r → r.length = s ∧ cellsAt w D r b (o + i * s)
  | [], _, _, _, _, h => by simp at h
  | r :: L, o, 0, r', hx, h => by
    unfold rowsAt at hx
    simp at h
    subst h
    simpa using hx.1
  | r :: L, o, i + 1, r', hx, h => by
    unfold rowsAt at hx
    have := rows_get (o := o + s) i hx.2 (by simpa using h)
    rwa [show o + s + i * s = o + (i + 1) * s by rw [Nat.add_mul]; omega] at this
theorem rows_mk {w : World} {D : Nat → Prop} {b s : Nat} : ∀ {L : List (List V)} {o : Nat}, (∀ i r, L[i]? = some r → r.length = s ∧ cellsAt w D r b (o + i * s)) → rowsAt w D s L b o
  | [], _, _ => by simp [rowsAt]
  | r :: L, o, h => by
    unfold rowsAt
    refine ⟨by simpa using h 0 r (by simp), rows_mk fun i r' hi => ?_⟩
    have := h (i + 1) r' (by simpa using hi)
    rwa [show o + (i + 1) * s = o + s + i * s by rw [Nat.add_mul]; omega] at this
theorem rows_drop {w : World} {D : Nat → Prop} {b s : Nat} {L : List (List V)} {o : Nat} (k : Nat) (h : rowsAt w D s L b o) : rowsAt w D s (L.drop k) b (o + k * s) :=
  rows_mk fun i r hi => by
    rw [List.getElem?_drop] at hi
    have := rows_get (k + i) h hi
    rwa [Nat.add_mul, ← Nat.add_assoc] at this
theorem rows_take {w : World} {D : Nat → Prop} {b s : Nat} {L : List (List V)} {o : Nat} (k : Nat) (h : rowsAt w D s L b o) : rowsAt w D s (L.take k) b o :=
  rows_mk fun i r hi => by
    rw [List.getElem?_take] at hi
    split at hi
    · exact rows_get i h hi
    · simp at hi
theorem rows_len {w : World} {D : Nat → Prop} {b s : Nat} {L : List (List V)} {o : Nat} (h : rowsAt w D s L b o) : ∀ r ∈ L, r.length = s := fun r hr => by
  obtain ⟨i, hi, rfl⟩ := List.getElem_of_mem hr
  exact (rows_get i h (List.getElem?_eq_getElem hi)).1
theorem flat_len {α : Type} {s : Nat} : ∀ {L : List (List α)}, (∀ r ∈ L, r.length = s) → L.flatten.length = L.length * s
  | [], _ => by simp
  | r :: L, h => by
    rw [List.flatten_cons, List.length_append, h r (by simp), flat_len (fun r hr => h r (by simp [hr])), List.length_cons, Nat.add_mul]
    omega
theorem rows_flat {w : World} {D : Nat → Prop} {b s : Nat} : ∀ {L : List (List V)} {o : Nat}, rowsAt w D s L b o → cellsAt w D L.flatten b o
  | [], _, _ => by simp [cellsAt]
  | r :: L, o, h => by
    unfold rowsAt at h
    rw [List.flatten_cons]
    exact cells_append h.1.2 (by rw [h.1.1]; exact rows_flat h.2)
theorem rows_of_flat {w : World} {D : Nat → Prop} {b s : Nat} : ∀ {L : List (List V)} {o : Nat}, (∀ r ∈ L, r.length = s) → cellsAt w D L.flatten b o → rowsAt w D s L b o
  | [], _, _, _ => by simp [rowsAt]
  | r :: L, o, hs, h => by
    rw [List.flatten_cons] at h
    unfold rowsAt
    have hr := hs r (by simp)
    obtain ⟨h1, h2⟩ := cells_split h
    rw [hr] at h2
    exact ⟨⟨hr, h1⟩, rows_of_flat (fun r hr => hs r (by simp [hr])) h2⟩

/-! ### Cells and values -/
theorem reals_len {w : World} {D : Nat → Prop} : ∀ {cs : List V} {l : List Value}, reals w D cs l → l.length = cs.length
  | [], l, h => by unfold reals at h; simp [h]
  | c :: cs, l, h => by
    unfold reals at h
    obtain ⟨v, l', rfl, _, h2⟩ := h
    simp [reals_len h2]
theorem reals_get {w : World} {D : Nat → Prop} : ∀ {cs : List V} {l : List Value} (j : Nat) {c : V}, reals w D cs l → cs[j]? = some c → ∃ v, l[j]? = some v ∧ real w D c v ∧ v.oneCell' = true
  | [], _, _, _, _, h => by simp at h
  | c :: cs, l, 0, c', hx, h => by
    unfold reals at hx
    obtain ⟨v, l', rfl, h1, h2⟩ := hx
    simp at h
    subst h
    exact ⟨v, by simp, h1⟩
  | c :: cs, l, j + 1, c', hx, h => by
    unfold reals at hx
    obtain ⟨v, l', rfl, h1, h2⟩ := hx
    have := reals_get j h2 (by simpa using h)
    simpa using this
theorem reals_mk {w : World} {D : Nat → Prop} : ∀ {cs : List V} {l : List Value}, l.length = cs.length → (∀ (j : Nat) (c : V) (v : Value), cs[j]? = some c → l[j]? = some v → real w D c v ∧ v.oneCell' = true) → reals w D cs l
  | [], l, hl, _ => by unfold reals; simpa using hl
  | c :: cs, [], hl, _ => by simp at hl
  | c :: cs, v :: l, hl, h => by
    unfold reals
    exact ⟨v, l, rfl, h 0 c v (by simp) (by simp), reals_mk (by simpa using hl) fun j c' v' h1 h2 => h (j + 1) c' v' (by simpa using h1) (by simpa using h2)⟩
theorem reals_append {w : World} {D : Nat → Prop} : ∀ {cs ds : List V} {l m : List Value}, reals w D cs l → reals w D ds m → reals w D (cs ++ ds) (l ++ m)
  | [], ds, l, m, h, k => by unfold reals at h; subst h; simpa using k
  | c :: cs, ds, l, m, h, k => by
    unfold reals at h
    obtain ⟨v, l', rfl, h1, h2⟩ := h
    rw [List.cons_append, List.cons_append]
    unfold reals
    exact ⟨v, _, rfl, h1, reals_append h2 k⟩
theorem reals_drop {w : World} {D : Nat → Prop} {cs : List V} {l : List Value} (k : Nat) (h : reals w D cs l) : reals w D (cs.drop k) (l.drop k) :=
  reals_mk (by simp [reals_len h]) fun j c v h1 h2 => by
    rw [List.getElem?_drop] at h1 h2
    obtain ⟨v', e, r⟩ := reals_get (k + j) h h1
    rw [h2] at e
    obtain rfl := Option.some.inj e
    exact r
theorem reals_take {w : World} {D : Nat → Prop} {cs : List V} {l : List Value} (k : Nat) (h : reals w D cs l) : reals w D (cs.take k) (l.take k) :=
  reals_mk (by simp [reals_len h]) fun j c v h1 h2 => by
    rw [List.getElem?_take] at h1 h2
    split at h1
    · rename_i hj
      rw [if_pos hj] at h2
      obtain ⟨v', e, r⟩ := reals_get j h h1
      rw [h2] at e
      obtain rfl := Option.some.inj e
      exact r
    · simp at h1
theorem reals_set {w : World} {D : Nat → Prop} {cs : List V} {l : List Value} (h : reals w D cs l) (j : Nat) {c : V} {v : Value} (hc : real w D c v ∧ v.oneCell' = true) : reals w D (cs.set j c) (l.set j v) :=
  reals_mk (by simp [reals_len h]) fun k c' v' h1 h2 => by
    rw [List.getElem?_set] at h1 h2
    split at h1
    · rename_i hj
      rw [if_pos hj] at h2
      split at h1 <;> split at h2 <;> simp_all
    · rename_i hj
      rw [if_neg hj] at h2
      obtain ⟨v'', e, r⟩ := reals_get k h h1
      rw [h2] at e
      obtain rfl := Option.some.inj e
      exact r
/-- a value that lies in one cell, or a struct: its cells -/
theorem real_one {w : World} {D : Nat → Prop} : ∀ {c : V} {x : Value}, real w D c x → (∀ cs, c ≠ .agg cs) → (∀ vs, c ≠ .tup vs) → x.oneCell' = true ∧ ∀ a, x ≠ .agg a
  | .val v, x, h, _, _ => by unfold real at h; obtain ⟨rfl, h⟩ := h; exact ⟨h, fun a e => by subst e; simp [Value.oneCell'] at h⟩
  | .seq s L, x, h, _, _ => by unfold real at h; obtain ⟨a, n, cap, rfl, _⟩ := h; simp [Value.oneCell']
  | .agg cs, x, h, h1, _ => absurd rfl (h1 cs)
  | .iptr cs, x, h, _, _ => by unfold real at h; obtain ⟨b, off, rfl, _⟩ := h; simp [Value.oneCell']
  | .ptr b s i f, x, h, _, _ => by unfold real at h; subst h; simp [Value.oneCell']
  | .own b s lo n cap, x, h, _, _ => by unfold real at h; obtain ⟨o, rfl, _⟩ := h; simp [Value.oneCell']
  | .func f caps, x, h, _, _ => by unfold real at h; obtain ⟨arr, rfl, _⟩ := h; simp [Value.oneCell']
  | .tup vs, x, h, _, h2 => absurd rfl (h2 vs)
  | .nils, x, h, _, _ => by unfold real at h; obtain ⟨a, rfl⟩ := h; simp [Value.oneCell']
theorem cells_of_one {x : Value} (h : ∀ a, x ≠ .agg a) : x.cells = #[x] := by cases x <;> first | rfl | exact absurd rfl (h _)
theorem real_cells {w : World} {D : Nat → Prop} {c : V} {x : Value} (h : real w D c x) (ht : ∀ vs, c ≠ .tup vs) : reals w D c.cells x.cells.toList := by
  cases c with
  | agg cs =>
    unfold real at h
    obtain ⟨arr, rfl, hr⟩ := h
    exact hr
  | tup vs => exact absurd rfl (ht vs)
  | _ =>
    obtain ⟨h1, h2⟩ := real_one h (by simp) (by simp)
    rw [cells_of_one h2]
    unfold V.cells reals
    exact ⟨x, [], rfl, ⟨h, h1⟩, by unfold reals; rfl⟩
theorem cells_of_reals {w : World} {D : Nat → Prop} {b : Nat} : ∀ {cs : List V} {l : List Value} {o : Nat}, reals w D cs l → (∀ j v, l[j]? = some v → w.cell? ⟨b, o + j, none⟩ = some v) → cellsAt w D cs b o
  | [], _, _, _, _ => by simp [cellsAt]
  | c :: cs, l, o, h, hc => by
    unfold reals at h
    obtain ⟨v, l', rfl, h1, h2⟩ := h
    unfold cellsAt
    refine ⟨⟨v, by simpa using hc 0 v (by simp), h1.1, h1.2⟩, cells_of_reals h2 fun j v' hj => ?_⟩
    have := hc (j + 1) v' (by simpa using hj)
    rwa [show o + (j + 1) = o + 1 + j by omega] at this
theorem reals_of_cells {w : World} {D : Nat → Prop} {b : Nat} : ∀ {cs : List V} {o : Nat}, cellsAt w D cs b o → ∃ l, reals w D cs l ∧ ∀ j v, l[j]? = some v → w.cell? ⟨b, o + j, none⟩ = some v
  | [], _, _ => ⟨[], by unfold reals; rfl, by simp⟩
  | c :: cs, o, h => by
    unfold cellsAt at h
    obtain ⟨⟨v, h1, h2, h3⟩, h4⟩ := h
    obtain ⟨l, h5, h6⟩ := reals_of_cells h4
    refine ⟨v :: l, by unfold reals; exact ⟨v, l, rfl, ⟨h2, h3⟩, h5⟩, fun j v' hj => ?_⟩
    cases j with
    | zero => simp at hj; subst hj; simpa using h1
    | succ j =>
      have := h6 j v' (by simpa using hj)
      rwa [show o + (j + 1) = o + 1 + j by omega]
end Go.Proofs.Ytpppgmoiginedaa.Q
