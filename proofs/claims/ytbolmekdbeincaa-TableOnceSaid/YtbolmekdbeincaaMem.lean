/- Blocks of memory, read and written whole: what a walk's cells say of them. -/
import Derived.WalkKit
import Derived.Handy
import Derived.BigQuiet
import Derived.Deep.QuietTactic
import Derived.Lib.Hide
import Derived.Laws.AppendOwnNone
import Derived.Laws.CopyOwn
namespace Go.Proofs.Ytbolmekdbeincaa.M
open Go Go.RowKit

section
variable {w : World} {b : Nat} {c : Array Value} {t : TypeId}
theorem blk_lt {o : Obj} (h : w.heap[b]? = some o) : b < w.heap.size := lt_of_block h
theorem blk_cell (h : w.heap[b]? = some (.cells c t (0, 0))) (o : Nat) : w.cell? ⟨b, o, none⟩ = c[o]? := by simp [World.cell?, h]
theorem blk_free (h : w.heap[b]? = some (.cells c t (0, 0))) (o : Nat) : w.frozen? ⟨b, o, none⟩ = false := by simp [World.frozen?, h]
theorem blk_set (h : w.heap[b]? = some (.cells c t (0, 0))) (o : Nat) (v : Value) : (w.setCell ⟨b, o, none⟩ v).heap[b]? = some (.cells (c.setIfInBounds o v) t (0, 0)) := by
  have hlt := lt_of_block h
  have h' : w.heap[b] = .cells c t (0, 0) := by simpa [Array.getElem?_eq_getElem hlt] using h
  show (w.heap.modify b _)[b]? = _
  rw [Array.getElem?_eq_getElem (by simpa using hlt), Array.getElem_modify_self, h']
  rfl
end

/-- 'w'' is 'w' but for block b, which holds o; draws aside. -/
structure Upd (w w' : World) (b : Nat) (o : Obj) : Prop where
  os : w'.os = w.os
  tape : w'.tape = w.tape
  output : w'.output = w.output
  size : w'.heap.size = w.heap.size
  at_ : w'.heap[b]? = some o
  else_ : ∀ k, k ≠ b → w'.heap[k]? = w.heap[k]?
theorem Upd.self {w : World} {b : Nat} {o : Obj} (h : w.heap[b]? = some o) : Upd w w b o := ⟨rfl, rfl, rfl, rfl, h, fun _ _ => rfl⟩
theorem Upd.drew {w w' : World} {b : Nat} {o : Obj} (h : Upd w w' b o) : Upd w w'.drew b o := ⟨h.1, h.2, h.3, h.4, h.5, h.6⟩
theorem Upd.drewN {w w' : World} {b : Nat} {o : Obj} (h : Upd w w' b o) (n : Nat) : Upd w (w'.drewN n) b o := ⟨h.1, h.2, h.3, h.4, h.5, h.6⟩
theorem Upd.set {w w' : World} {b : Nat} {c : Array Value} {t : TypeId} (h : Upd w w' b (.cells c t (0, 0))) (o : Nat) (v : Value) :
    Upd w (w'.setCell ⟨b, o, none⟩ v) b (.cells (c.setIfInBounds o v) t (0, 0)) :=
  ⟨h.1, h.2, h.3, by simpa [World.setCell] using h.4, blk_set h.5 o v, fun k hk => (Below.heap_setCell _ _ _ _ hk).trans (h.6 k hk)⟩
theorem Upd.trans {w w1 w2 : World} {b : Nat} {o1 o2 : Obj} (h : Upd w w1 b o1) (k : Upd w1 w2 b o2) : Upd w w2 b o2 :=
  ⟨k.1.trans h.1, k.2.trans h.2, k.3.trans h.3, k.4.trans h.4, k.5, fun i hi => (k.6 i hi).trans (h.6 i hi)⟩
theorem Upd.below {w w' : World} {b : Nat} {o : Obj} (h : Upd w w' b o) {B : Nat} (hB : B ≤ b) : Below B w w' :=
  ⟨h.1, h.2, h.3, Nat.le_of_eq h.4.symm, fun k hk => h.6 k (by omega)⟩

theorem Upd.keep {w w' : World} {b : Nat} {o : Obj} (h : Upd w w' b o) {k : Nat} {x : Obj} (hk : w.heap[k]? = some x) (hne : k ≠ b) : w'.heap[k]? = some x := (h.else_ k hne).trans hk
theorem keep_below {B : Nat} {w w' : World} (h : Below B w w') {k : Nat} {x : Obj} (hk : w.heap[k]? = some x) (hlt : k < B) : w'.heap[k]? = some x := (h.block k hlt).trans hk

/-- append of one element: what is appended lies in a new block of its own -/
theorem push_own {P : Program} {ops : Array Oper} {rest : List Oper} {o : Oper} {a : Act} {Q : Exit → Act → World → Prop} {w : World} (hgd : o.guard = none) (s x : Operand) (t : TypeId)
    (ho : o.op = .call { callee := .builtin .append, args := #[s, x], argTypes := #[t, t] })
    (base : Nat) (e : TypeId) (i : TypeInfo) (z : Value) (size bytes : Nat) (ht : P.underlying t = some (.slice e)) (hi : P.info? e = some i) (hz : i.zero = some z)
    (hsize : i.size = size) (hby : i.bytes = bytes) (hzs : z.cells.size = size) (hsz : 0 < size)
    (us : List Value) (hus : us.length = size) (h1 : ∀ u ∈ us, u.oneCell' = true)
    {v : Value} {n : Nat} {xs : List Value} (hown : w.ownsRow base e size v n xs) (hs : a.eval s = v) (hx : a.eval x = .slice (some ⟨w.heap.size, 0, none⟩) 1 1)
    (hn : n < 1000000) (hb : bytes ≤ 100000) (hbase : base ≤ w.heap.size)
    (h : ∀ v' w', w'.ownsRow base e size v' (n + 1) (xs ++ us) → (w.alloc (.cells us.toArray e)).grownBy w' v.ownBlock → wpList P ops Q rest (a.put o.dst v') w') :
    wpList P ops Q (o :: rest) a (w.alloc (.cells us.toArray e)) := by
  refine wpList_append_own _ hgd s x t ho base e i z size bytes ht hi hz hsize hby hzs hsz v n xs hs (hown.alloc _) ⟨w.heap.size, 0, none⟩ 1 1 us hx (by omega) ?_ h1 ?_ ?_ ?_ ?_
  · intro j u hu
    have hadd : (⟨w.heap.size, 0, none⟩ : Addr).add j = ⟨w.heap.size, j, none⟩ := by rw [Addr.add_lit]; simp
    rw [hadd, blk_cell (heap_alloc_new w _) j]
    simpa using hu
  · unfold maxLen; omega
  · have : (n + 1) * bytes ≤ 1000000 * 100000 := Nat.mul_le_mul (by omega) hb
    omega
  · simp; omega
  · intro v' w' h1 h2 _
    exact h v' w' h1 h2

/-- what is left over: its bounds -/
theorem rest_bd {y m : Int} (h : 0 ≤ y) (hm : 1 ≤ m) : 0 ≤ y % m ∧ y % m ≤ y ∧ y % m < m := by
  refine ⟨Int.emod_nonneg _ (by omega), ?_, Int.emod_lt_of_pos _ (by omega)⟩
  obtain ⟨a, rfl⟩ := Int.eq_ofNat_of_zero_le h
  obtain ⟨b, rfl⟩ := Int.eq_ofNat_of_zero_le (show 0 ≤ m by omega)
  have := Nat.mod_le a b
  rw [← Int.natCast_emod]
  omega
/-- a callee that leaves the world alone, met in a quiet region -/
theorem q_same {P : Program} {f : FuncId} {args : Array Value} {w : World} {n : Nat} {v : Value}
    (h : Calls P f args (w.drewN n) fun e w' => e = .returned v ∧ w.drewN n = w') : Calls P f args (w.drewN n) fun e w'' => e = .returned v ∧ ∃ m, w'' = w.drewN m :=
  h.mono fun _ _ ⟨he, hm⟩ => ⟨he, n, hm.symm⟩

theorem own_shape {w : World} {base : Nat} {e : TypeId} {v : Value} {n : Nat} {xs : List Value} (h : w.ownsRow base e 1 v n xs) (hn : 0 < n) :
    ∃ g cap, v = .slice (some ⟨g, 0, none⟩) n cap ∧ base ≤ g ∧ ∀ j, j < n → w.cell? ⟨g, j, none⟩ = xs[j]? := by
  have h' := h
  rcases h.2 with ⟨_, h0⟩ | ⟨g, cap, cur, rfl, hb, _⟩
  · omega
  · exact ⟨g, cap, rfl, hb, fun j hj => h'.cellAt j (by omega)⟩
/-- a block that is none of a row's, behind an append to that row -/
theorem keep_grown {w w' : World} {row : Option Nat} (h : w.grownBy w' row) {k : Nat} {x : Obj} (hk : w.heap[k]? = some x) (hne : ∀ g, row = some g → k ≠ g) : w'.heap[k]? = some x :=
  (h.block k (blk_lt hk) (fun e => hne k e.symm rfl)).trans hk
theorem keep_alloc {w : World} (o : Obj) {k : Nat} {x : Obj} (hk : w.heap[k]? = some x) : (w.alloc o).heap[k]? = some x :=
  (Below.heap_alloc _ _ _ (blk_lt hk)).trans hk
theorem own_upd {w w' : World} {b : Nat} {o : Obj} (u : Upd w w' b o) {base : Nat} {e : TypeId} {size : Nat} {v : Value} {n : Nat} {xs : List Value} (h : w.ownsRow base e size v n xs) (hb : b < base) : w'.ownsRow base e size v n xs := by
  refine h.kept (row := some b) ⟨u.os, u.tape, u.output, Nat.le_of_eq u.size.symm, fun k _ hk => u.else_ k (fun e => hk (by rw [e]))⟩ ?_
  cases hv : v.ownBlock with
  | none => exact .inl rfl
  | some g => exact .inr (fun e => by have := (h.lt g hv).1; have := Option.some.inj e; omega)
theorem own_below {B : Nat} {w w' : World} (u : Below B w w') {base : Nat} {e : TypeId} {size : Nat} {v : Value} {n : Nat} {xs : List Value} (h : w.ownsRow base e size v n xs) (hB : w.heap.size ≤ B) : w'.ownsRow base e size v n xs :=
  h.kept (row := none) ⟨u.os, u.tape, u.output, u.size, fun k hk _ => u.block k (by omega)⟩ (by cases v.ownBlock <;> simp)

/-- 'w'' is 'w' but for blocks in S, and new ones -/
structure Only (S : Nat → Prop) (w w' : World) : Prop where
  os : w'.os = w.os
  tape : w'.tape = w.tape
  output : w'.output = w.output
  size : w.heap.size ≤ w'.heap.size
  else_ : ∀ k, k < w.heap.size → ¬ S k → w'.heap[k]? = w.heap[k]?
theorem Only.refl (S : Nat → Prop) (w : World) : Only S w w := ⟨rfl, rfl, rfl, Nat.le_refl _, fun _ _ _ => rfl⟩
theorem Only.trans {S : Nat → Prop} {a b c : World} (h : Only S a b) (k : Only S b c) : Only S a c :=
  ⟨k.os.trans h.os, k.tape.trans h.tape, k.output.trans h.output, Nat.le_trans h.size k.size, fun i hi hs => (k.else_ i (Nat.lt_of_lt_of_le hi h.size) hs).trans (h.else_ i hi hs)⟩
theorem Only.mono {S T : Nat → Prop} {w w' : World} (h : Only S w w') (hST : ∀ k, S k → T k) : Only T w w' :=
  ⟨h.os, h.tape, h.output, h.size, fun k hk hs => h.else_ k hk (fun x => hs (hST k x))⟩
theorem Upd.only {w w' : World} {b : Nat} {o : Obj} (u : Upd w w' b o) : Only (· = b) w w' := ⟨u.os, u.tape, u.output, Nat.le_of_eq u.size.symm, fun k _ hk => u.else_ k hk⟩
theorem only_set (w : World) (g o : Nat) (v : Value) : Only (· = g) w (w.setCell ⟨g, o, none⟩ v) := ⟨rfl, rfl, rfl, by simp [World.setCell], fun k _ hk => Below.heap_setCell _ _ _ _ hk⟩
theorem Only.drew {S : Nat → Prop} {w w' : World} (h : Only S w w') : Only S w w'.drew := ⟨h.1, h.2, h.3, h.4, h.5⟩
theorem Only.drewN {S : Nat → Prop} {w w' : World} (h : Only S w w') (n : Nat) : Only S w (w'.drewN n) := ⟨h.1, h.2, h.3, h.4, h.5⟩
theorem Only.below {S : Nat → Prop} {w w' : World} (h : Only S w w') {B : Nat} (hB : ∀ k, S k → B ≤ k) (hw : B ≤ w.heap.size) : Below B w w' :=
  ⟨h.1, h.2, h.3, h.4, fun k hk => h.5 k (by omega) (fun s => by have := hB k s; omega)⟩
theorem only_of_below {B : Nat} {w w' : World} (h : Below B w w') : Only (fun k => B ≤ k) w w' := ⟨h.1, h.2, h.3, h.4, fun k _ hk => h.5 k (by omega)⟩
theorem only_of_new {w w' : World} (h : Below w.heap.size w w') (S : Nat → Prop) : Only S w w' := ⟨h.1, h.2, h.3, h.4, fun k hk _ => h.5 k hk⟩
theorem Only.keep {S : Nat → Prop} {w w' : World} (h : Only S w w') {k : Nat} {x : Obj} (hk : w.heap[k]? = some x) (hs : ¬ S k) : w'.heap[k]? = some x := (h.else_ k (blk_lt hk) hs).trans hk
theorem own_only {S : Nat → Prop} {w w' : World} (u : Only S w w') {base : Nat} {e : TypeId} {size : Nat} {v : Value} {n : Nat} {xs : List Value} (h : w.ownsRow base e size v n xs) (hs : ∀ g, v.ownBlock = some g → ¬ S g) : w'.ownsRow base e size v n xs := by
  cases hv : v.ownBlock with
  | none =>
    rcases h.2 with hn | ⟨g, cap, cur, rfl, _⟩
    · exact ⟨h.1, .inl hn⟩
    · simp [Value.ownBlock] at hv
  | some g =>
    rcases h.2 with hn | ⟨g', cap, cur, rfl, hb, hg, r⟩
    · exact ⟨h.1, .inl hn⟩
    · exact ⟨h.1, .inr ⟨g', cap, cur, rfl, hb, u.keep hg (hs g' rfl), r⟩⟩
theorem set_some {w : World} {p q : Addr} {x v : Value} (h : w.cell? q = some v) : ∃ v', (w.setCell p x).cell? q = some v' := by
  by_cases e : p = q
  · subst e; exact ⟨x, World.cell?_setCell_same w p x h⟩
  · exact ⟨v, (World.cell?_setCell_other w p q x e).trans h⟩

/-- a slice of n elements of 'size' cells each that reads as xs -/
def Reads (w : World) (size : Nat) (v : Value) (n : Nat) (xs : List Value) : Prop :=
  xs.length = n * size ∧ ∃ ao cap, v = .slice ao n cap ∧ (ao = none → n = 0 ∧ cap = 0) ∧ (0 < n → ∃ b off, ao = some ⟨b, off, none⟩ ∧ ∀ j, j < n * size → w.cell? ⟨b, off + j, none⟩ = xs[j]?)
theorem reads_own {w : World} {base : Nat} {e : TypeId} {size : Nat} {v : Value} {n : Nat} {xs : List Value} (h : w.ownsRow base e size v n xs) : Reads w size v n xs := by
  have h' := h
  rcases h.2 with ⟨rfl, rfl⟩ | ⟨g, cap, cur, rfl, _⟩
  · exact ⟨h.1, none, 0, rfl, fun _ => ⟨rfl, rfl⟩, fun h => by omega⟩
  · exact ⟨h.1, _, cap, rfl, fun h => by simp at h, fun _ => ⟨g, 0, rfl, fun j hj => by rw [Nat.zero_add]; exact h'.cellAt j hj⟩⟩
theorem Reads.only {S : Nat → Prop} {w w' : World} (u : Only S w w') {size : Nat} {v : Value} {n : Nat} {xs : List Value} (h : Reads w size v n xs) (hs : ∀ g, v.ownBlock = some g → ¬ S g) : Reads w' size v n xs := by
  obtain ⟨hl, ao, cap, rfl, h0, h1⟩ := h
  refine ⟨hl, ao, cap, rfl, h0, fun hn => ?_⟩
  obtain ⟨b, off, rfl, hc⟩ := h1 hn
  refine ⟨b, off, rfl, fun j hj => ?_⟩
  have hj' : j < xs.length := by omega
  have e := hc j hj
  rw [List.getElem?_eq_getElem hj'] at e ⊢
  have hb := World.block_lt_of_cell? w _ e
  exact (World.cell?_of_block (w := w) (w' := w') (u.else_ b hb (hs b rfl))).trans e
theorem Reads.below {B : Nat} {w w' : World} (u : Below B w w') (hB : w.heap.size ≤ B) {size : Nat} {v : Value} {n : Nat} {xs : List Value} (h : Reads w size v n xs) : Reads w' size v n xs :=
  h.only (S := fun _ => False) ⟨u.os, u.tape, u.output, u.size, fun k hk _ => u.block k (by omega)⟩ (fun _ _ h => h)
/-- the block of a slice that reads lies in the heap -/
theorem Reads.at {w : World} {size : Nat} {v : Value} {n : Nat} {xs : List Value} (h : Reads w size v n xs) (hn : 0 < n) (hs : 0 < size) : ∃ b off cap, v = .slice (some ⟨b, off, none⟩) n cap ∧ b < w.heap.size ∧ ∀ j, j < n * size → w.cell? ⟨b, off + j, none⟩ = xs[j]? := by
  obtain ⟨hl, ao, cap, rfl, h0, h1⟩ := h
  obtain ⟨b, off, rfl, hc⟩ := h1 hn
  have h0 : 0 < n * size := Nat.mul_pos hn hs
  have e := hc 0 h0
  rw [List.getElem?_eq_getElem (by omega)] at e
  exact ⟨b, off, cap, rfl, World.block_lt_of_cell? w _ e, hc⟩
/-- append of a slice that reads, nil or not, to a row of the call's own -/
theorem app_own {P : Program} {ops : Array Oper} {rest : List Oper} {o : Oper} {a : Act} {Q : Exit → Act → World → Prop} {w : World} (hgd : o.guard = none) (s x : Operand) (t : TypeId)
    (ho : o.op = .call { callee := .builtin .append, args := #[s, x], argTypes := #[t, t] })
    (base : Nat) (e : TypeId) (i : TypeInfo) (z : Value) (size bytes : Nat) (ht : P.underlying t = some (.slice e)) (hi : P.info? e = some i) (hz : i.zero = some z)
    (hsize : i.size = size) (hby : i.bytes = bytes) (hzs : z.cells.size = size) (hsz : 0 < size)
    {vx : Value} {m : Nat} {us : List Value} (hr : Reads w size vx m us) (h1 : ∀ u ∈ us, u.oneCell' = true)
    {v : Value} {n : Nat} {xs : List Value} (hown : w.ownsRow base e size v n xs) (hs : a.eval s = v) (hx : a.eval x = vx)
    (hn : n + m ≤ 1000000000) (hb : bytes ≤ 100000) (hbase : base ≤ w.heap.size)
    (h : ∀ v' w', w'.ownsRow base e size v' (n + m) (xs ++ us) → w.grownBy w' v.ownBlock → wpList P ops Q rest (a.put o.dst v') w') :
    wpList P ops Q (o :: rest) a w := by
  obtain ⟨hl, ao, cap, rfl, h0, hc⟩ := hr
  cases ao with
  | none =>
    obtain ⟨rfl, rfl⟩ := h0 rfl
    obtain rfl : us = [] := List.eq_nil_of_length_eq_zero (by simpa using hl)
    exact wpList_append_own_none hgd s x t ho base e i size ht hi v n xs hs hown hx (h _ _ (by simpa using hown) (World.grownBy.refl _ _))
  | some ad =>
    refine wpList_append_own _ hgd s x t ho base e i z size bytes ht hi hz hsize hby hzs hsz v n xs hs hown ad m cap us hx hl ?_ h1 ?_ ?_ hbase ?_
    · intro j u hu
      have hj : j < us.length := (List.getElem?_eq_some_iff.1 hu).1
      have hm : 0 < m := by
        rcases Nat.eq_zero_or_pos m with rfl | hm
        · simp at hl; simp [hl] at hj
        · exact hm
      obtain ⟨b, off, e1, hcc⟩ := hc hm
      obtain rfl := Option.some.inj e1
      rw [Addr.add_lit, hcc j (by omega), hu]
    · unfold maxLen; omega
    · have : (n + m) * bytes ≤ 1000000000 * 100000 := Nat.mul_le_mul hn hb
      omega
    · intro v' w' h1 h2 _
      exact h v' w' h1 h2
/-- copy of a slice that reads onto a row of as many elements (of one cell) -/
theorem copy_own {P : Program} {w : World} {ops : Array Oper} {rest : List Oper} {o : Oper} {a : Act} {Q : Exit → Act → World → Prop} (hgd : o.guard = none) (d s : Operand) (dT sT : TypeId)
    (ho : o.op = .call { callee := .builtin .copy, args := #[d, s], argTypes := #[dT, sT] }) (elem : TypeId) (hu : P.underlying dT = some (.slice elem)) (hsz : (P.info? elem).map (·.size) = some 1)
    {base : Nat} {e : TypeId} {g n cap : Nat} {xs : List Value} (hown : w.ownsRow base e 1 (.slice (some ⟨g, 0, none⟩) n cap) n xs) {vx : Value} {us : List Value} (hr : Reads w 1 vx n us) (h1 : ∀ u ∈ us, u.oneCell' = true)
    (hd : a.eval d = .slice (some ⟨g, 0, none⟩) n cap) (hs : a.eval s = vx)
    (h : ∀ w', w'.ownsRow base e 1 (.slice (some ⟨g, 0, none⟩) n cap) n us → Only (· = g) w w' → wpList P ops Q rest (a.put o.dst (goInt n)) w') : wpList P ops Q (o :: rest) a w := by
  obtain ⟨hl, ao, cp, rfl, h0, hc⟩ := hr
  by_cases hn : n = 0
  · subst hn
    obtain rfl : us = [] := List.eq_nil_of_length_eq_zero (by simpa using hl)
    obtain rfl : xs = [] := List.eq_nil_of_length_eq_zero (by simpa using hown.1)
    exact wpList_copy_nothing hgd d s dT sT ho elem hu hsz _ _ _ _ _ _ hd hs (by simp) (h _ hown (Only.refl _ _))
  · obtain ⟨b, off, rfl, hcc⟩ := hc (by omega)
    rcases hown.2 with ⟨_, h'⟩ | ⟨g', cap', cur, h', hb, hg, hnc, hcm, hcs, htake⟩
    · omega
    · simp only [Value.slice.injEq, Option.some.injEq, Addr.mk.injEq, and_true, true_and] at h'
      obtain ⟨rfl, rfl⟩ := h'
      have hlen : us.length = n := by omega
      have hgo : goInt us.length = goInt n := by rw [hlen]
      refine wpList_copy_own hgd d s dT sT ho elem hu hsz g 0 n cap ⟨b, off, none⟩ n cp hd hs cur e hg us (by simp [hlen]) ?_ (by omega) h1 ?_
      · intro j v hv
        have hj : j < us.length := (List.getElem?_eq_some_iff.1 hv).1
        rw [Addr.add_lit, hcc j (by omega), hv]
      · rw [hgo]
        refine h _ ⟨by omega, .inr ⟨g, cap, _, rfl, hb, setRow_heap w g cur _ e _ hg, hnc, hcm, ?_, ?_⟩⟩ ⟨rfl, rfl, rfl, by simp [World.setRow], fun k _ hk => setRow_other w g k _ hk⟩
        · simp; omega
        · simp [hlen]

/-! ### rows of structs, flat -/
theorem flat_len {α : Type} (f : α → List Value) (n : Nat) (hf : ∀ a, (f a).length = n) : ∀ t : List α, (t.flatMap f).length = t.length * n
  | [] => by simp
  | a :: t => by rw [List.flatMap_cons, List.length_append, hf, flat_len f n hf t, List.length_cons, Nat.add_mul, Nat.one_mul, Nat.add_comm]
theorem flat_get {α : Type} (f : α → List Value) (n : Nat) (hf : ∀ a, (f a).length = n) : ∀ (t : List α) (i : Nat) (hi : i < t.length) (j : Nat), j < n → (t.flatMap f)[i * n + j]? = (f t[i])[j]?
  | [], i, hi, j, _ => by simp at hi
  | a :: t, 0, _, j, hj => by
    rw [List.flatMap_cons, Nat.zero_mul, Nat.zero_add, List.getElem?_append_left (by rw [hf]; exact hj)]
    rfl
  | a :: t, i + 1, hi, j, hj => by
    rw [List.flatMap_cons, List.getElem?_append_right (by rw [hf, Nat.add_mul]; omega), hf]
    have e : (i + 1) * n + j - n = i * n + j := by rw [Nat.add_mul]; omega
    rw [e, flat_get f n hf t i (by simpa using hi) j hj]
    rfl
theorem flat_part {α : Type} (f : α → List Value) (n : Nat) (hf : ∀ a, (f a).length = n) : ∀ (t : List α) (i : Nat) (hi : i < t.length), ((t.flatMap f).drop (i * n)).take n = f t[i]
  | [], i, hi => by simp at hi
  | a :: t, 0, _ => by
    rw [List.flatMap_cons, Nat.zero_mul, List.drop_zero, List.take_append, List.take_of_length_le (by rw [hf]; omega), hf, Nat.sub_self, List.take_zero, List.append_nil]
    rfl
  | a :: t, i + 1, hi => by
    rw [List.flatMap_cons, Nat.add_mul, Nat.one_mul, List.drop_append, List.drop_eq_nil_of_le (by rw [hf]; omega), hf, Nat.add_sub_cancel, List.nil_append, flat_part f n hf t i (by simpa using hi)]
    rfl
theorem flat_set {α : Type} (f : α → List Value) (n : Nat) (hf : ∀ a, (f a).length = n) : ∀ (t : List α) (i : Nat) (hi : i < t.length) (j : Nat), j < n → ∀ (v : Value) (a' : α), f a' = (f t[i]).set j v →
    (t.flatMap f).set (i * n + j) v = (t.set i a').flatMap f
  | [], i, hi, j, _, _, _, _ => by simp at hi
  | a :: t, 0, _, j, hj, v, a', h => by
    rw [List.flatMap_cons, Nat.zero_mul, Nat.zero_add, List.set_append, if_pos (by rw [hf]; exact hj)]
    rw [List.set_cons_zero, List.flatMap_cons, h]
    rfl
  | a :: t, i + 1, hi, j, hj, v, a', h => by
    rw [List.flatMap_cons, List.set_append, if_neg (by rw [hf, Nat.add_mul]; omega), hf]
    have e : (i + 1) * n + j - n = i * n + j := by rw [Nat.add_mul]; omega
    rw [e, flat_set f n hf t i (by simpa using hi) j hj v a' h, List.set_cons_succ, List.flatMap_cons]

/-! ### structs and arrays, read, written and indexed whole -/
theorem isAgg_of {P : Program} {ty : TypeId} {d : TypeDesc} (hu : P.underlying ty = some d) (hd : (match d with | .struct _ | .array _ _ => true | _ => false) = true) (w : World) : (isAgg ty).run P w = .ok true w := by
  unfold isAgg
  rw [Sem.run_bind, run_underlying hu w]
  cases d <;> simp_all
theorem load_agg {P : Program} {ops : Array Oper} {rest : List Oper} {o : Oper} {a : Act} {w : World} {Q : Exit → Act → World → Prop} (hgd : o.guard = none) (ty : TypeId) (x : Operand) (ho : o.op = .load ty x)
    (d : TypeDesc) (hu : P.underlying ty = some d) (hd : (match d with | .struct _ | .array _ _ => true | _ => false) = true)
    (b off : Nat) (hx : a.eval x = .pointer (some ⟨b, off, none⟩)) (cs : List Value) (hi : (P.info? ty).map (·.size) = some cs.length)
    (hc : ∀ j v, cs[j]? = some v → w.cell? ⟨b, off + j, none⟩ = some v)
    (h : wpList P ops Q rest (a.put o.dst (.agg cs.toArray)) w) : wpList P ops Q (o :: rest) a w := by
  refine wpList_plain hgd fun K hK => ?_
  have hl : (loadCells ⟨b, off, none⟩ cs.length).run P w = .ok cs.toArray w :=
    run_loadCells_list (P := P) w ⟨b, off, none⟩ cs (fun j v hv => by rw [Addr.add_lit]; exact hc j v hv)
  have hv : (loadVar ty ⟨b, off, none⟩).run P w = .ok (.agg cs.toArray) w := by
    cases hq : P.info? ty with
    | none => simp [hq] at hi
    | some i =>
      have hs : i.size = cs.length := by simpa [hq] using hi
      simp [loadVar, Sem.run_bind, isAgg_of hu hd w, sizeOf, typeInfo, hq, hs, hl]
  unfold Oper.wp execOp
  simp only [ho, hx, Instr.loadAt, Instr.sureAddr, Sem.run_bind, Sem.run_pure, Result.andThen_ok, hv]
  exact hK _ _ h
theorem setCells_blk {b : Nat} {t : TypeId} : ∀ (vs : List Value) (off : Nat) (w : World) (c : List Value), w.heap[b]? = some (.cells c.toArray t (0, 0)) → off + vs.length ≤ c.length →
    Upd w (w.setCells b off vs) b (.cells (c.take off ++ vs ++ c.drop (off + vs.length)).toArray t (0, 0))
  | [], off, w, c, h, hl => by
    have e : c.take off ++ [] ++ c.drop (off + 0) = c := by simp
    show Upd w w b _
    rw [show ([] : List Value).length = 0 from rfl, e]
    exact Upd.self h
  | v :: r, off, w, c, h, hl => by
    have hl' : off + (r.length + 1) ≤ c.length := hl
    have u1 := (Upd.self h).set off v
    rw [List.setIfInBounds_toArray] at u1
    have u2 := setCells_blk r (off + 1) (w.setCell ⟨b, off, none⟩ v) (c.set off v) u1.at_ (by simp; omega)
    have e : (c.set off v).take (off + 1) ++ r ++ (c.set off v).drop (off + 1 + r.length) = c.take off ++ (v :: r) ++ c.drop (off + (v :: r).length) := by
      have hlt : off < c.length := by omega
      have h1 : (c.take off).length = off := by simp; omega
      rw [List.set_eq_take_append_cons_drop, if_pos hlt]
      have t1 : (c.take off ++ v :: c.drop (off + 1)).take (off + 1) = c.take off ++ [v] := by
        rw [List.take_append, List.take_of_length_le (by omega), h1, show off + 1 - off = 1 by omega]
        rfl
      have t2 : (c.take off ++ v :: c.drop (off + 1)).drop (off + 1 + r.length) = c.drop (off + 1 + r.length) := by
        rw [List.drop_append, List.drop_eq_nil_of_le (by omega), h1, show off + 1 + r.length - off = r.length + 1 by omega, List.drop_succ_cons, List.drop_drop, List.nil_append]
      rw [t1, t2, show off + (v :: r).length = off + 1 + r.length by simp; omega]
      simp
    rw [e] at u2
    exact u1.trans u2
/-- a struct or an array stored into a block -/
theorem store_agg {P : Program} {ops : Array Oper} {rest : List Oper} {o : Oper} {a : Act} {w : World} {Q : Exit → Act → World → Prop} (hgd : o.guard = none) (ty : TypeId) (x y : Operand) (ho : o.op = .store ty x y)
    (b off : Nat) (hx : a.eval x = .pointer (some ⟨b, off, none⟩)) (vs : List Value) (hy : a.eval y = .agg vs.toArray) (hi : (P.info? ty).map (·.size) = some vs.length)
    (c : List Value) (t : TypeId) (hb : w.heap[b]? = some (.cells c.toArray t (0, 0))) (hl : off + vs.length ≤ c.length) (h1 : ∀ v ∈ vs, v.oneCell' = true)
    (h : ∀ w', Upd w w' b (.cells (c.take off ++ vs ++ c.drop (off + vs.length)).toArray t (0, 0)) → wpList P ops Q rest (a.put o.dst undef) w') : wpList P ops Q (o :: rest) a w := by
  refine wpList_plain hgd fun K hK => ?_
  have hs : (storeVar ty ⟨b, off, none⟩ (.agg vs.toArray)).run P w = .ok () (w.setCells b off vs) := by
    have hst := run_storeCells_cells (P := P) b off vs 0 w (fun j hj => by rw [Nat.add_zero, blk_cell hb]; simp; omega) (fun j _ => blk_free hb _) h1
    cases hq : P.info? ty with
    | none => simp [hq] at hi
    | some i =>
      have hz : i.size = vs.length := by simpa [hq] using hi
      simp [storeVar, Sem.run_bind, sizeOf, typeInfo, hq, hz, Value.cells, hst]
  unfold Oper.wp execOp
  simp only [ho, hx, hy, Instr.storeAt, Instr.sureAddr, Sem.run_bind, Sem.run_pure, Result.andThen_ok, hs]
  exact hK _ _ (h _ (setCells_blk vs off w c hb hl))
/-- an element of an array that is a value, the element a struct -/
theorem index_agg {P : Program} {ops : Array Oper} {rest : List Oper} {o : Oper} {a : Act} {w : World} {Q : Exit → Act → World → Prop} (hgd : o.guard = none) (T : TypeId) (x y : Operand) (ho : o.op = .index T x y)
    (n : Nat) (e : TypeId) (hu : P.underlying T = some (.array n e)) (d : TypeDesc) (hue : P.underlying e = some d) (hd : (match d with | .struct _ | .array _ _ => true | _ => false) = true) (m : Nat) (hi : (P.info? e).map (·.size) = some m)
    (cs : List Value) (hx : a.eval x = .agg cs.toArray) (k : IntKind) (i : Nat) (hy : a.eval y = .int k (i : Int)) (hin : i < n) (ps : List Value) (hp : (cs.drop (i * m)).take m = ps)
    (h : wpList P ops Q rest (a.put o.dst (.agg ps.toArray)) w) : wpList P ops Q (o :: rest) a w := by
  refine wpList_plain hgd fun K hK => ?_
  have hr : (Instr.index T (.agg cs.toArray) (.int k (i : Int))).run P w = .ok (.agg ps.toArray) w := by
    cases hq : P.info? e with
    | none => simp [hq] at hi
    | some j =>
      have hz : j.size = m := by simpa [hq] using hi
      simp [Instr.index, asIntOf, run_underlying hu, sizeOf, typeInfo, hq, hz, part, isAgg_of hue hd, hin, hp, Sem.run_bind]
  unfold Oper.wp execOp
  simp only [ho, hx, hy, Sem.run_bind, Sem.run_pure, Result.andThen_ok, hr]
  exact hK _ _ h

/-! ### the blocks that a call has made, the newest first -/
structure HL (W w : World) (l : List (Nat × Obj)) : Prop where
  below : Below W.heap.size W w
  lo : ∀ p ∈ l, W.heap.size ≤ p.1
  nd : (l.map (·.1)).Nodup
  at_ : ∀ p ∈ l, w.heap[p.1]? = some p.2
section
variable {W w w' : World} {l : List (Nat × Obj)} {b : Nat} {o o' : Obj}
theorem HL.nil (W : World) : HL W W [] := ⟨Below.refl _ _, by simp, by simp, by simp⟩
theorem HL.new (h : HL W w l) (hb : Below w.heap.size w w') : HL W w' l :=
  ⟨h.below.trans (hb.mono h.below.size), h.lo, h.nd, fun p hp => keep_below hb (h.at_ p hp) (blk_lt (h.at_ p hp))⟩
theorem HL.made (h : HL W w l) (hb : Below w.heap.size w w') (ha : w'.heap[w.heap.size]? = some o) : HL W w' ((w.heap.size, o) :: l) := by
  have k := h.new hb
  refine ⟨k.below, fun p hp => ?_, ?_, fun p hp => ?_⟩
  · rcases List.mem_cons.1 hp with rfl | hp
    · exact h.below.size
    · exact k.lo p hp
  · rw [List.map_cons, List.nodup_cons]
    refine ⟨fun hm => ?_, k.nd⟩
    obtain ⟨p, hp, e⟩ := List.mem_map.1 hm
    have := blk_lt (h.at_ p hp)
    omega
  · rcases List.mem_cons.1 hp with rfl | hp
    · exact ha
    · exact k.at_ p hp
theorem HL.alloc (h : HL W w l) (o : Obj) : HL W (w.alloc o) ((w.heap.size, o) :: l) := h.made ((Below.refl _ _).alloc (Nat.le_refl _) _) (heap_alloc_new _ _)
theorem HL.get (h : HL W w l) (i : Nat) (hi : l[i]? = some (b, o)) : w.heap[b]? = some o := h.at_ _ (List.mem_of_getElem? hi)
theorem HL.ge (h : HL W w l) (i : Nat) (hi : l[i]? = some (b, o)) : W.heap.size ≤ b := h.lo _ (List.mem_of_getElem? hi)
theorem HL.lt (h : HL W w l) (i : Nat) (hi : l[i]? = some (b, o)) : b < w.heap.size := blk_lt (h.get i hi)
theorem HL.ne (h : HL W w l) (i j : Nat) {c : Nat} {p : Obj} (hi : l[i]? = some (b, o)) (hj : l[j]? = some (c, p)) (hij : i ≠ j) : b ≠ c := by
  intro e
  subst e
  have h1 : (l.map (·.1))[i]? = some b := by rw [List.getElem?_map, hi]; rfl
  have h2 : (l.map (·.1))[j]? = some b := by rw [List.getElem?_map, hj]; rfl
  exact hij (List.getElem?_inj (List.getElem?_eq_some_iff.1 h1).1 h.nd |>.1 (h1.trans h2.symm))
theorem HL.turn (h : HL W w l) (i : Nat) (hi : l[i]? = some (b, o)) (u : Only (· = b) w w') (ha : w'.heap[b]? = some o') : HL W w' (l.set i (b, o')) := by
  have hb := h.ge i hi
  have hk : (l.set i (b, o')).map (·.1) = l.map (·.1) := by
    have hm : (l.map (·.1))[i]? = some b := by rw [List.getElem?_map, hi]; rfl
    obtain ⟨h1, h2⟩ := List.getElem?_eq_some_iff.1 hm
    rw [List.map_set, show (b, o').1 = b from rfl, ← h2]
    exact List.set_getElem_self h1
  refine ⟨h.below.trans (u.below (fun k e => by omega) h.below.size), fun p hp => ?_, by rw [hk]; exact h.nd, fun p hp => ?_⟩
  · rcases List.mem_or_eq_of_mem_set hp with hp | rfl
    · exact h.lo p hp
    · exact hb
  · obtain ⟨j, hj, rfl⟩ := List.getElem_of_mem hp
    by_cases e : j = i
    · subst e
      rw [List.getElem_set_self]
      exact ha
    · rw [List.getElem_set_ne (fun e' => e e'.symm)]
      have hj' : j < l.length := by simpa using hj
      have hg : l[j]? = some ((l[j]).1, (l[j]).2) := List.getElem?_eq_getElem hj'
      exact u.keep (h.at_ _ (List.getElem_mem hj')) (h.ne j i hg hi e)
theorem HL.upd (h : HL W w l) (i : Nat) (hi : l[i]? = some (b, o)) (u : Upd w w' b o') : HL W w' (l.set i (b, o')) := h.turn i hi u.only u.at_
theorem HL.drew (h : HL W w l) : HL W w.drew l := ⟨⟨h.1.1, h.1.2, h.1.3, h.1.4, h.1.5⟩, h.2, h.3, h.4⟩
theorem HL.drewN (h : HL W w l) (n : Nat) : HL W (w.drewN n) l := ⟨⟨h.1.1, h.1.2, h.1.3, h.1.4, h.1.5⟩, h.2, h.3, h.4⟩
theorem HL.drop (h : HL W w l) (n : Nat) : HL W w (l.drop n) :=
  ⟨h.1, fun p hp => h.2 p (List.mem_of_mem_drop hp), by rw [List.map_drop]; exact h.3.sublist (List.drop_sublist _ _), fun p hp => h.4 p (List.mem_of_mem_drop hp)⟩
end
end Go.Proofs.Ytbolmekdbeincaa.M
