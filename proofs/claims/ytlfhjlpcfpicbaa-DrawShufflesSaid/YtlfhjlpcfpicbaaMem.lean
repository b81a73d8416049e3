/- Blocks of memory, read and written whole: what a walk's cells say of them. -/
import Derived.WalkKit
import Derived.Handy
import Derived.BigQuiet
import Derived.Deep.QuietTactic
import Derived.Lib.Hide
import Derived.Laws.AppendOwnNone
import Derived.Laws.CopyOwn
namespace Go.Proofs.Ytlfhjlpcfpicbaa.M
open Go Go.RowKit

section
variable {w : World} {b : Nat} {c : Array Value} {t : TypeId}
theorem blk_lt {o : Obj} (h : w.heap[b]? = some o) : b < w.heap.size := lt_of_block h
theorem blk_cell (h : w.heap[b]? = some (.cells c t (0, 0))) (o : Nat) : w.cell? ⟨b, o, none⟩ = c[o]? := by simp [World.cell?, h]
theorem blk_free (h : w.heap[b]? = some (.cells c t (0, 0))) (o : Nat) : w.frozen? ⟨b, o, none⟩ = false := by simp [World.frozen?, h]
theorem blk_set (h : w.heap[b]? = some (.cells c t (0, 0))) (o : Nat) (v : Value) : (w.setCell ⟨b, o, none⟩ v).heap[b]? = some (.cells (c.setIfInBounds o v) t (0, 0)) := by
  have hlt := lt_of_block h
  have h' : w.heap[b] = .cells c t (0, 0) := by simpa [Array.getElem?_eq_getElem hlt] using h
  show (w.heap.modify b _)[b]? = _
  rw [Array.getElem?_eq_getElem (by simpa using hlt), Array.getElem_modify_self, h']
  rfl
end

/-- 'w'' is 'w' but for block b, which holds o; draws aside. -/
structure Upd (w w' : World) (b : Nat) (o : Obj) : Prop where
  os : w'.os = w.os
  tape : w'.tape = w.tape
  output : w'.output = w.output
  size : w'.heap.size = w.heap.size
  at_ : w'.heap[b]? = some o
  else_ : ∀ k, k ≠ b → w'.heap[k]? = w.heap[k]?
theorem Upd.self {w : World} {b : Nat} {o : Obj} (h : w.heap[b]? = some o) : Upd w w b o := ⟨rfl, rfl, rfl, rfl, h, fun _ _ => rfl⟩
theorem Upd.drew {w w' : World} {b : Nat} {o : Obj} (h : Upd w w' b o) : Upd w w'.drew b o := ⟨h.1, h.2, h.3, h.4, h.5, h.6⟩
theorem Upd.drewN {w w' : World} {b : Nat} {o : Obj} (h : Upd w w' b o) (n : Nat) : Upd w (w'.drewN n) b o := ⟨h.1, h.2, h.3, h.4, h.5, h.6⟩
theorem Upd.set {w w' : World} {b : Nat} {c : Array Value} {t : TypeId} (h : Upd w w' b (.cells c t (0, 0))) (o : Nat) (v : Value) :
    Upd w (w'.setCell ⟨b, o, none⟩ v) b (.cells (c.setIfInBounds o v) t (0, 0)) :=
  ⟨h.1, h.2, h.3, by simpa [World.setCell] using h.4, blk_set h.5 o v, fun k hk => (Below.heap_setCell _ _ _ _ hk).trans (h.6 k hk)⟩
theorem Upd.trans {w w1 w2 : World} {b : Nat} {o1 o2 : Obj} (h : Upd w w1 b o1) (k : Upd w1 w2 b o2) : Upd w w2 b o2 :=
  ⟨k.1.trans h.1, k.2.trans h.2, k.3.trans h.3, k.4.trans h.4, k.5, fun i hi => (k.6 i hi).trans (h.6 i hi)⟩
theorem Upd.below {w w' : World} {b : Nat} {o : Obj} (h : Upd w w' b o) {B : Nat} (hB : B ≤ b) : Below B w w' :=
  ⟨h.1, h.2, h.3, Nat.le_of_eq h.4.symm, fun k hk => h.6 k (by omega)⟩

theorem Upd.keep {w w' : World} {b : Nat} {o : Obj} (h : Upd w w' b o) {k : Nat} {x : Obj} (hk : w.heap[k]? = some x) (hne : k ≠ b) : w'.heap[k]? = some x := (h.else_ k hne).trans hk
theorem keep_below {B : Nat} {w w' : World} (h : Below B w w') {k : Nat} {x : Obj} (hk : w.heap[k]? = some x) (hlt : k < B) : w'.heap[k]? = some x := (h.block k hlt).trans hk

/-- append of one element: what is appended lies in a new block of its own -/
theorem push_own {P : Program} {ops : Array Oper} {rest : List Oper} {o : Oper} {a : Act} {Q : Exit → Act → World → Prop} {w : World} (hgd : o.guard = none) (s x : Operand) (t : TypeId)
    (ho : o.op = .call { callee := .builtin .append, args := #[s, x], argTypes := #[t, t] })
    (base : Nat) (e : TypeId) (i : TypeInfo) (z : Value) (size bytes : Nat) (ht : P.underlying t = some (.slice e)) (hi : P.info? e = some i) (hz : i.zero = some z)
    (hsize : i.size = size) (hby : i.bytes = bytes) (hzs : z.cells.size = size) (hsz : 0 < size)
    (us : List Value) (hus : us.length = size) (h1 : ∀ u ∈ us, u.oneCell' = true)
    {v : Value} {n : Nat} {xs : List Value} (hown : w.ownsRow base e size v n xs) (hs : a.eval s = v) (hx : a.eval x = .slice (some ⟨w.heap.size, 0, none⟩) 1 1)
    (hn : n < 1000000) (hb : bytes ≤ 100000) (hbase : base ≤ w.heap.size)
    (h : ∀ v' w', w'.ownsRow base e size v' (n + 1) (xs ++ us) → (w.alloc (.cells us.toArray e)).grownBy w' v.ownBlock → wpList P ops Q rest (a.put o.dst v') w') :
    wpList P ops Q (o :: rest) a (w.alloc (.cells us.toArray e)) := by
  refine wpList_append_own _ hgd s x t ho base e i z size bytes ht hi hz hsize hby hzs hsz v n xs hs (hown.alloc _) ⟨w.heap.size, 0, none⟩ 1 1 us hx (by omega) ?_ h1 ?_ ?_ ?_ ?_
  · intro j u hu
    have hadd : (⟨w.heap.size, 0, none⟩ : Addr).add j = ⟨w.heap.size, j, none⟩ := by rw [Addr.add_lit]; simp
    rw [hadd, blk_cell (heap_alloc_new w _) j]
    simpa using hu
  · unfold maxLen; omega
  · have : (n + 1) * bytes ≤ 1000000 * 100000 := Nat.mul_le_mul (by omega) hb
    omega
  · simp; omega
  · intro v' w' h1 h2 _
    exact h v' w' h1 h2

/-- what is left over: its bounds -/
theorem rest_bd {y m : Int} (h : 0 ≤ y) (hm : 1 ≤ m) : 0 ≤ y % m ∧ y % m ≤ y ∧ y % m < m := by
  refine ⟨Int.emod_nonneg _ (by omega), ?_, Int.emod_lt_of_pos _ (by omega)⟩
  obtain ⟨a, rfl⟩ := Int.eq_ofNat_of_zero_le h
  obtain ⟨b, rfl⟩ := Int.eq_ofNat_of_zero_le (show 0 ≤ m by omega)
  have := Nat.mod_le a b
  rw [← Int.natCast_emod]
  omega
/-- a callee that leaves the world alone, met in a quiet region -/
theorem q_same {P : Program} {f : FuncId} {args : Array Value} {w : World} {n : Nat} {v : Value}
    (h : Calls P f args (w.drewN n) fun e w' => e = .returned v ∧ w.drewN n = w') : Calls P f args (w.drewN n) fun e w'' => e = .returned v ∧ ∃ m, w'' = w.drewN m :=
  h.mono fun _ _ ⟨he, hm⟩ => ⟨he, n, hm.symm⟩

theorem own_shape {w : World} {base : Nat} {e : TypeId} {v : Value} {n : Nat} {xs : List Value} (h : w.ownsRow base e 1 v n xs) (hn : 0 < n) :
    ∃ g cap, v = .slice (some ⟨g, 0, none⟩) n cap ∧ base ≤ g ∧ ∀ j, j < n → w.cell? ⟨g, j, none⟩ = xs[j]? := by
  have h' := h
  rcases h.2 with ⟨_, h0⟩ | ⟨g, cap, cur, rfl, hb, _⟩
  · omega
  · exact ⟨g, cap, rfl, hb, fun j hj => h'.cellAt j (by omega)⟩
/-- a block that is none of a row's, behind an append to that row -/
theorem keep_grown {w w' : World} {row : Option Nat} (h : w.grownBy w' row) {k : Nat} {x : Obj} (hk : w.heap[k]? = some x) (hne : ∀ g, row = some g → k ≠ g) : w'.heap[k]? = some x :=
  (h.block k (blk_lt hk) (fun e => hne k e.symm rfl)).trans hk
theorem keep_alloc {w : World} (o : Obj) {k : Nat} {x : Obj} (hk : w.heap[k]? = some x) : (w.alloc o).heap[k]? = some x :=
  (Below.heap_alloc _ _ _ (blk_lt hk)).trans hk
theorem own_upd {w w' : World} {b : Nat} {o : Obj} (u : Upd w w' b o) {base : Nat} {e : TypeId} {size : Nat} {v : Value} {n : Nat} {xs : List Value} (h : w.ownsRow base e size v n xs) (hb : b < base) : w'.ownsRow base e size v n xs := by
  refine h.kept (row := some b) ⟨u.os, u.tape, u.output, Nat.le_of_eq u.size.symm, fun k _ hk => u.else_ k (fun e => hk (by rw [e]))⟩ ?_
  cases hv : v.ownBlock with
  | none => exact .inl rfl
  | some g => exact .inr (fun e => by have := (h.lt g hv).1; have := Option.some.inj e; omega)
theorem own_below {B : Nat} {w w' : World} (u : Below B w w') {base : Nat} {e : TypeId} {size : Nat} {v : Value} {n : Nat} {xs : List Value} (h : w.ownsRow base e size v n xs) (hB : w.heap.size ≤ B) : w'.ownsRow base e size v n xs :=
  h.kept (row := none) ⟨u.os, u.tape, u.output, u.size, fun k hk _ => u.block k (by omega)⟩ (by cases v.ownBlock <;> simp)

/-- 'w'' is 'w' but for blocks in S, and new ones -/
structure Only (S : Nat → Prop) (w w' : World) : Prop where
  os : w'.os = w.os
  tape : w'.tape = w.tape
  output : w'.output = w.output
  size : w.heap.size ≤ w'.heap.size
  else_ : ∀ k, k < w.heap.size → ¬ S k → w'.heap[k]? = w.heap[k]?
theorem Only.refl (S : Nat → Prop) (w : World) : Only S w w := ⟨rfl, rfl, rfl, Nat.le_refl _, fun _ _ _ => rfl⟩
theorem Only.trans {S : Nat → Prop} {a b c : World} (h : Only S a b) (k : Only S b c) : Only S a c :=
  ⟨k.os.trans h.os, k.tape.trans h.tape, k.output.trans h.output, Nat.le_trans h.size k.size, fun i hi hs => (k.else_ i (Nat.lt_of_lt_of_le hi h.size) hs).trans (h.else_ i hi hs)⟩
theorem Only.mono {S T : Nat → Prop} {w w' : World} (h : Only S w w') (hST : ∀ k, S k → T k) : Only T w w' :=
  ⟨h.os, h.tape, h.output, h.size, fun k hk hs => h.else_ k hk (fun x => hs (hST k x))⟩
theorem Upd.only {w w' : World} {b : Nat} {o : Obj} (u : Upd w w' b o) : Only (· = b) w w' := ⟨u.os, u.tape, u.output, Nat.le_of_eq u.size.symm, fun k _ hk => u.else_ k hk⟩
theorem only_set (w : World) (g o : Nat) (v : Value) : Only (· = g) w (w.setCell ⟨g, o, none⟩ v) := ⟨rfl, rfl, rfl, by simp [World.setCell], fun k _ hk => Below.heap_setCell _ _ _ _ hk⟩
theorem Only.drew {S : Nat → Prop} {w w' : World} (h : Only S w w') : Only S w w'.drew := ⟨h.1, h.2, h.3, h.4, h.5⟩
theorem Only.drewN {S : Nat → Prop} {w w' : World} (h : Only S w w') (n : Nat) : Only S w (w'.drewN n) := ⟨h.1, h.2, h.3, h.4, h.5⟩
theorem Only.below {S : Nat → Prop} {w w' : World} (h : Only S w w') {B : Nat} (hB : ∀ k, S k → B ≤ k) (hw : B ≤ w.heap.size) : Below B w w' :=
  ⟨h.1, h.2, h.3, h.4, fun k hk => h.5 k (by omega) (fun s => by have := hB k s; omega)⟩
theorem only_of_below {B : Nat} {w w' : World} (h : Below B w w') : Only (fun k => B ≤ k) w w' := ⟨h.1, h.2, h.3, h.4, fun k _ hk => h.5 k (by omega)⟩
theorem only_of_new {w w' : World} (h : Below w.heap.size w w') (S : Nat → Prop) : Only S w w' := ⟨h.1, h.2, h.3, h.4, fun k hk _ => h.5 k hk⟩
theorem Only.keep {S : Nat → Prop} {w w' : World} (h : Only S w w') {k : Nat} {x : Obj} (hk : w.heap[k]? = some x) (hs : ¬ S k) : w'.heap[k]? = some x := (h.else_ k (blk_lt hk) hs).trans hk
theorem own_only {S : Nat → Prop} {w w' : World} (u : Only S w w') {base : Nat} {e : TypeId} {size : Nat} {v : Value} {n : Nat} {xs : List Value} (h : w.ownsRow base e size v n xs) (hs : ∀ g, v.ownBlock = some g → ¬ S g) : w'.ownsRow base e size v n xs := by
  cases hv : v.ownBlock with
  | none =>
    rcases h.2 with hn | ⟨g, cap, cur, rfl, _⟩
    · exact ⟨h.1, .inl hn⟩
    · simp [Value.ownBlock] at hv
  | some g =>
    rcases h.2 with hn | ⟨g', cap, cur, rfl, hb, hg, r⟩
    · exact ⟨h.1, .inl hn⟩
    · exact ⟨h.1, .inr ⟨g', cap, cur, rfl, hb, u.keep hg (hs g' rfl), r⟩⟩
theorem set_some {w : World} {p q : Addr} {x v : Value} (h : w.cell? q = some v) : ∃ v', (w.setCell p x).cell? q = some v' := by
  by_cases e : p = q
  · subst e; exact ⟨x, World.cell?_setCell_same w p x h⟩
  · exact ⟨v, (World.cell?_setCell_other w p q x e).trans h⟩

/-- a slice of n elements of 'size' cells each that reads as xs -/
def Reads (w : World) (size : Nat) (v : Value) (n : Nat) (xs : List Value) : Prop :=
  xs.length = n * size ∧ ∃ ao cap, v = .slice ao n cap ∧ (ao = none → n = 0 ∧ cap = 0) ∧ (0 < n → ∃ b off, ao = some ⟨b, off, none⟩ ∧ ∀ j, j < n * size → w.cell? ⟨b, off + j, none⟩ = xs[j]?)
theorem reads_own {w : World} {base : Nat} {e : TypeId} {size : Nat} {v : Value} {n : Nat} {xs : List Value} (h : w.ownsRow base e size v n xs) : Reads w size v n xs := by
  have h' := h
  rcases h.2 with ⟨rfl, rfl⟩ | ⟨g, cap, cur, rfl, _⟩
  · exact ⟨h.1, none, 0, rfl, fun _ => ⟨rfl, rfl⟩, fun h => by omega⟩
  · exact ⟨h.1, _, cap, rfl, fun h => by simp at h, fun _ => ⟨g, 0, rfl, fun j hj => by rw [Nat.zero_add]; exact h'.cellAt j hj⟩⟩
theorem Reads.only {S : Nat → Prop} {w w' : World} (u : Only S w w') {size : Nat} {v : Value} {n : Nat} {xs : List Value} (h : Reads w size v n xs) (hs : ∀ g, v.ownBlock = some g → ¬ S g) : Reads w' size v n xs := by
  obtain ⟨hl, ao, cap, rfl, h0, h1⟩ := h
  refine ⟨hl, ao, cap, rfl, h0, fun hn => ?_⟩
  obtain ⟨b, off, rfl, hc⟩ := h1 hn
  refine ⟨b, off, rfl, fun j hj => ?_⟩
  have hj' : j < xs.length := by omega
  have e := hc j hj
  rw [List.getElem?_eq_getElem hj'] at e ⊢
  have hb := World.block_lt_of_cell? w _ e
  exact (World.cell?_of_block (w := w) (w' := w') (u.else_ b hb (hs b rfl))).trans e
theorem Reads.below {B : Nat} {w w' : World} (u : Below B w w') (hB : w.heap.size ≤ B) {size : Nat} {v : Value} {n : Nat} {xs : List Value} (h : Reads w size v n xs) : Reads w' size v n xs :=
  h.only (S := fun _ => False) ⟨u.os, u.tape, u.output, u.size, fun k hk _ => u.block k (by omega)⟩ (fun _ _ h => h)
/-- the block of a slice that reads lies in the heap -/
theorem Reads.at {w : World} {size : Nat} {v : Value} {n : Nat} {xs : List Value} (h : Reads w size v n xs) (hn : 0 < n) (hs : 0 < size) : ∃ b off cap, v = .slice (some ⟨b, off, none⟩) n cap ∧ b < w.heap.size ∧ ∀ j, j < n * size → w.cell? ⟨b, off + j, none⟩ = xs[j]? := by
  obtain ⟨hl, ao, cap, rfl, h0, h1⟩ := h
  obtain ⟨b, off, rfl, hc⟩ := h1 hn
  have h0 : 0 < n * size := Nat.mul_pos hn hs
  have e := hc 0 h0
  rw [List.getElem?_eq_getElem (by omega)] at e
  exact ⟨b, off, cap, rfl, World.block_lt_of_cell? w _ e, hc⟩
/-- append of a slice that reads, nil or not, to a row of the call's own -/
theorem app_own {P : Program} {ops : Array Oper} {rest : List Oper} {o : Oper} {a : Act} {Q : Exit → Act → World → Prop} {w : World} (hgd : o.guard = none) (s x : Operand) (t : TypeId)
    (ho : o.op = .call { callee := .builtin .append, args := #[s, x], argTypes := #[t, t] })
    (base : Nat) (e : TypeId) (i : TypeInfo) (z : Value) (size bytes : Nat) (ht : P.underlying t = some (.slice e)) (hi : P.info? e = some i) (hz : i.zero = some z)
    (hsize : i.size = size) (hby : i.bytes = bytes) (hzs : z.cells.size = size) (hsz : 0 < size)
    {vx : Value} {m : Nat} {us : List Value} (hr : Reads w size vx m us) (h1 : ∀ u ∈ us, u.oneCell' = true)
    {v : Value} {n : Nat} {xs : List Value} (hown : w.ownsRow base e size v n xs) (hs : a.eval s = v) (hx : a.eval x = vx)
    (hn : n + m ≤ 1000000000) (hb : bytes ≤ 100000) (hbase : base ≤ w.heap.size)
    (h : ∀ v' w', w'.ownsRow base e size v' (n + m) (xs ++ us) → w.grownBy w' v.ownBlock → wpList P ops Q rest (a.put o.dst v') w') :
    wpList P ops Q (o :: rest) a w := by
  obtain ⟨hl, ao, cap, rfl, h0, hc⟩ := hr
  cases ao with
  | none =>
    obtain ⟨rfl, rfl⟩ := h0 rfl
    obtain rfl : us = [] := List.eq_nil_of_length_eq_zero (by simpa using hl)
    exact wpList_append_own_none hgd s x t ho base e i size ht hi v n xs hs hown hx (h _ _ (by simpa using hown) (World.grownBy.refl _ _))
  | some ad =>
    refine wpList_append_own _ hgd s x t ho base e i z size bytes ht hi hz hsize hby hzs hsz v n xs hs hown ad m cap us hx hl ?_ h1 ?_ ?_ hbase ?_
    · intro j u hu
      have hj : j < us.length := (List.getElem?_eq_some_iff.1 hu).1
      have hm : 0 < m := by
        rcases Nat.eq_zero_or_pos m with rfl | hm
        · simp at hl; simp [hl] at hj
        · exact hm
      obtain ⟨b, off, e1, hcc⟩ := hc hm
      obtain rfl := Option.some.inj e1
      rw [Addr.add_lit, hcc j (by omega), hu]
    · unfold maxLen; omega
    · have : (n + m) * bytes ≤ 1000000000 * 100000 := Nat.mul_le_mul hn hb
      omega
    · intro v' w' h1 h2 _
      exact h v' w' h1 h2
/-- copy of a slice that reads onto a row of as many elements (of one cell) -/
theorem copy_own {P : Program} {w : World} {ops : Array Oper} {rest : List Oper} {o : Oper} {a : Act} {Q : Exit → Act → World → Prop} (hgd : o.guard = none) (d s : Operand) (dT sT : TypeId)
    (ho : o.op = .call { callee := .builtin .copy, args := #[d, s], argTypes := #[dT, sT] }) (elem : TypeId) (hu : P.underlying dT = some (.slice elem)) (hsz : (P.info? elem).map (·.size) = some 1)
    {base : Nat} {e : TypeId} {g n cap : Nat} {xs : List Value} (hown : w.ownsRow base e 1 (.slice (some ⟨g, 0, none⟩) n cap) n xs) {vx : Value} {us : List Value} (hr : Reads w 1 vx n us) (h1 : ∀ u ∈ us, u.oneCell' = true)
    (hd : a.eval d = .slice (some ⟨g, 0, none⟩) n cap) (hs : a.eval s = vx)
    (h : ∀ w', w'.ownsRow base e 1 (.slice (some ⟨g, 0, none⟩) n cap) n us → Only (· = g) w w' → wpList P ops Q rest (a.put o.dst (goInt n)) w') : wpList P ops Q (o :: rest) a w := by
  obtain ⟨hl, ao, cp, rfl, h0, hc⟩ := hr
  by_cases hn : n = 0
  · subst hn
    obtain rfl : us = [] := List.eq_nil_of_length_eq_zero (by simpa using hl)
    obtain rfl : xs = [] := List.eq_nil_of_length_eq_zero (by simpa using hown.1)
    exact wpList_copy_nothing hgd d s dT sT ho elem hu hsz _ _ _ _ _ _ hd hs (by simp) (h _ hown (Only.refl _ _))
  · obtain ⟨b, off, rfl, hcc⟩ := hc (by omega)
    rcases hown.2 with ⟨_, h'⟩ | ⟨g', cap', cur, h', hb, hg, hnc, hcm, hcs, htake⟩
    · omega
    · simp only [Value.slice.injEq, Option.some.injEq, Addr.mk.injEq, and_true, true_and] at h'
      obtain ⟨rfl, rfl⟩ := h'
      have hlen : us.length = n := by omega
      have hgo : goInt us.length = goInt n := by rw [hlen]
      refine wpList_copy_own hgd d s dT sT ho elem hu hsz g 0 n cap ⟨b, off, none⟩ n cp hd hs cur e hg us (by simp [hlen]) ?_ (by omega) h1 ?_
      · intro j v hv
        have hj : j < us.length := (List.getElem?_eq_some_iff.1 hv).1
        rw [Addr.add_lit, hcc j (by omega), hv]
      · rw [hgo]
        refine h _ ⟨by omega, .inr ⟨g, cap, _, rfl, hb, setRow_heap w g cur _ e _ hg, hnc, hcm, ?_, ?_⟩⟩ ⟨rfl, rfl, rfl, by simp [World.setRow], fun k _ hk => setRow_other w g k _ hk⟩
        · simp; omega
        · simp [hlen]
end Go.Proofs.Ytlfhjlpcfpicbaa.M
