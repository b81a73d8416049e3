/- Blocks of memory, read and written whole: what a walk's cells say of them. -/
import Derived.WalkKit
import Derived.Handy
import Derived.BigQuiet
import Derived.Deep.QuietTactic
import Derived.Lib.Hide
namespace Go.Proofs.Ytlfhjlpcfpicbaa.M
open Go Go.RowKit

section
variable {w : World} {b : Nat} {c : Array Value} {t : TypeId}
theorem blk_lt {o : Obj} (h : w.heap[b]? = some o) : b < w.heap.size := lt_of_block h
theorem blk_cell (h : w.heap[b]? = some (.cells c t (0, 0))) (o : Nat) : w.cell? ⟨b, o, none⟩ = c[o]? := by simp [World.cell?, h]
theorem blk_free (h : w.heap[b]? = some (.cells c t (0, 0))) (o : Nat) : w.frozen? ⟨b, o, none⟩ = false := by simp [World.frozen?, h]
theorem blk_set (h : w.heap[b]? = some (.cells c t (0, 0))) (o : Nat) (v : Value) : (w.setCell ⟨b, o, none⟩ v).heap[b]? = some (.cells (c.setIfInBounds o v) t (0, 0)) := by
  have hlt := lt_of_block h
  have h' : w.heap[b] = .cells c t (0, 0) := by simpa [Array.getElem?_eq_getElem hlt] using h
  show (w.heap.modify b _)[b]? = _
  rw [Array.getElem?_eq_getElem (by simpa using hlt), Array.getElem_modify_self, h']
  rfl
end

/-- 'w'' is 'w' but for block b, which holds o; draws aside. -/
structure Upd (w w' : World) (b : Nat) (o : Obj) : Prop where
  os : w'.os = w.os
  tape : w'.tape = w.tape
  output : w'.output = w.output
  size : w'.heap.size = w.heap.size
  at_ : w'.heap[b]? = some o
  else_ : ∀ k, k ≠ b → w'.heap[k]? = w.heap[k]?
theorem Upd.self {w : World} {b : Nat} {o : Obj} (h : w.heap[b]? = some o) : Upd w w b o := ⟨rfl, rfl, rfl, rfl, h, fun _ _ => rfl⟩
theorem Upd.drew {w w' : World} {b : Nat} {o : Obj} (h : Upd w w' b o) : Upd w w'.drew b o := ⟨h.1, h.2, h.3, h.4, h.5, h.6⟩
theorem Upd.drewN {w w' : World} {b : Nat} {o : Obj} (h : Upd w w' b o) (n : Nat) : Upd w (w'.drewN n) b o := ⟨h.1, h.2, h.3, h.4, h.5, h.6⟩
theorem Upd.set {w w' : World} {b : Nat} {c : Array Value} {t : TypeId} (h : Upd w w' b (.cells c t (0, 0))) (o : Nat) (v : Value) :
    Upd w (w'.setCell ⟨b, o, none⟩ v) b (.cells (c.setIfInBounds o v) t (0, 0)) :=
  ⟨h.1, h.2, h.3, by simpa [World.setCell] using h.4, blk_set h.5 o v, fun k hk => (Below.heap_setCell _ _ _ _ hk).trans (h.6 k hk)⟩
theorem Upd.trans {w w1 w2 : World} {b : Nat} {o1 o2 : Obj} (h : Upd w w1 b o1) (k : Upd w1 w2 b o2) : Upd w w2 b o2 :=
  ⟨k.1.trans h.1, k.2.trans h.2, k.3.trans h.3, k.4.trans h.4, k.5, fun i hi => (k.6 i hi).trans (h.6 i hi)⟩
theorem Upd.below {w w' : World} {b : Nat} {o : Obj} (h : Upd w w' b o) {B : Nat} (hB : B ≤ b) : Below B w w' :=
  ⟨h.1, h.2, h.3, Nat.le_of_eq h.4.symm, fun k hk => h.6 k (by omega)⟩

theorem Upd.keep {w w' : World} {b : Nat} {o : Obj} (h : Upd w w' b o) {k : Nat} {x : Obj} (hk : w.heap[k]? = some x) (hne : k ≠ b) : w'.heap[k]? = some x := (h.else_ k hne).trans hk
theorem keep_below {B : Nat} {w w' : World} (h : Below B w w') {k : Nat} {x : Obj} (hk : w.heap[k]? = some x) (hlt : k < B) : w'.heap[k]? = some x := (h.block k hlt).trans hk

/-- append of one element: what is appended lies in a new block of its own -/
theorem push_own {P : Program} {ops : Array Oper} {rest : List Oper} {o : Oper} {a : Act} {Q : Exit → Act → World → Prop} {w : World} (hgd : o.guard = none) (s x : Operand) (t : TypeId)
    (ho : o.op = .call { callee := .builtin .append, args := #[s, x], argTypes := #[t, t] })
    (base : Nat) (e : TypeId) (i : TypeInfo) (z : Value) (size bytes : Nat) (ht : P.underlying t = some (.slice e)) (hi : P.info? e = some i) (hz : i.zero = some z)
    (hsize : i.size = size) (hby : i.bytes = bytes) (hzs : z.cells.size = size) (hsz : 0 < size)
    (us : List Value) (hus : us.length = size) (h1 : ∀ u ∈ us, u.oneCell' = true)
    {v : Value} {n : Nat} {xs : List Value} (hown : w.ownsRow base e size v n xs) (hs : a.eval s = v) (hx : a.eval x = .slice (some ⟨w.heap.size, 0, none⟩) 1 1)
    (hn : n < 1000000) (hb : bytes ≤ 100000) (hbase : base ≤ w.heap.size)
    (h : ∀ v' w', w'.ownsRow base e size v' (n + 1) (xs ++ us) → (w.alloc (.cells us.toArray e)).grownBy w' v.ownBlock → wpList P ops Q rest (a.put o.dst v') w') :
    wpList P ops Q (o :: rest) a (w.alloc (.cells us.toArray e)) := by
  refine wpList_append_own _ hgd s x t ho base e i z size bytes ht hi hz hsize hby hzs hsz v n xs hs (hown.alloc _) ⟨w.heap.size, 0, none⟩ 1 1 us hx (by omega) ?_ h1 ?_ ?_ ?_ ?_
  · intro j u hu
    have hadd : (⟨w.heap.size, 0, none⟩ : Addr).add j = ⟨w.heap.size, j, none⟩ := by rw [Addr.add_lit]; simp
    rw [hadd, blk_cell (heap_alloc_new w _) j]
    simpa using hu
  · unfold maxLen; omega
  · have : (n + 1) * bytes ≤ 1000000 * 100000 := Nat.mul_le_mul (by omega) hb
    omega
  · simp; omega
  · intro v' w' h1 h2 _
    exact h v' w' h1 h2

/-- what is left over: its bounds -/
theorem rest_bd {y m : Int} (h : 0 ≤ y) (hm : 1 ≤ m) : 0 ≤ y % m ∧ y % m ≤ y ∧ y % m < m := by
  refine ⟨Int.emod_nonneg _ (by omega), ?_, Int.emod_lt_of_pos _ (by omega)⟩
  obtain ⟨a, rfl⟩ := Int.eq_ofNat_of_zero_le h
  obtain ⟨b, rfl⟩ := Int.eq_ofNat_of_zero_le (show 0 ≤ m by omega)
  have := Nat.mod_le a b
  rw [← Int.natCast_emod]
  omega
/-- a callee that leaves the world alone, met in a quiet region -/
theorem q_same {P : Program} {f : FuncId} {args : Array Value} {w : World} {n : Nat} {v : Value}
    (h : Calls P f args (w.drewN n) fun e w' => e = .returned v ∧ w.drewN n = w') : Calls P f args (w.drewN n) fun e w'' => e = .returned v ∧ ∃ m, w'' = w.drewN m :=
  h.mono fun _ _ ⟨he, hm⟩ => ⟨he, n, hm.symm⟩

theorem own_shape {w : World} {base : Nat} {e : TypeId} {v : Value} {n : Nat} {xs : List Value} (h : w.ownsRow base e 1 v n xs) (hn : 0 < n) :
    ∃ g cap, v = .slice (some ⟨g, 0, none⟩) n cap ∧ base ≤ g ∧ ∀ j, j < n → w.cell? ⟨g, j, none⟩ = xs[j]? := by
  have h' := h
  rcases h.2 with ⟨_, h0⟩ | ⟨g, cap, cur, rfl, hb, _⟩
  · omega
  · exact ⟨g, cap, rfl, hb, fun j hj => h'.cellAt j (by omega)⟩
/-- a block that is none of a row's, behind an append to that row -/
theorem keep_grown {w w' : World} {row : Option Nat} (h : w.grownBy w' row) {k : Nat} {x : Obj} (hk : w.heap[k]? = some x) (hne : ∀ g, row = some g → k ≠ g) : w'.heap[k]? = some x :=
  (h.block k (blk_lt hk) (fun e => hne k e.symm rfl)).trans hk
theorem keep_alloc {w : World} (o : Obj) {k : Nat} {x : Obj} (hk : w.heap[k]? = some x) : (w.alloc o).heap[k]? = some x :=
  (Below.heap_alloc _ _ _ (blk_lt hk)).trans hk
theorem own_upd {w w' : World} {b : Nat} {o : Obj} (u : Upd w w' b o) {base : Nat} {e : TypeId} {size : Nat} {v : Value} {n : Nat} {xs : List Value} (h : w.ownsRow base e size v n xs) (hb : b < base) : w'.ownsRow base e size v n xs := by
  refine h.kept (row := some b) ⟨u.os, u.tape, u.output, Nat.le_of_eq u.size.symm, fun k _ hk => u.else_ k (fun e => hk (by rw [e]))⟩ ?_
  cases hv : v.ownBlock with
  | none => exact .inl rfl
  | some g => exact .inr (fun e => by have := (h.lt g hv).1; have := Option.some.inj e; omega)
theorem own_below {B : Nat} {w w' : World} (u : Below B w w') {base : Nat} {e : TypeId} {size : Nat} {v : Value} {n : Nat} {xs : List Value} (h : w.ownsRow base e size v n xs) (hB : w.heap.size ≤ B) : w'.ownsRow base e size v n xs :=
  h.kept (row := none) ⟨u.os, u.tape, u.output, u.size, fun k hk _ => u.block k (by omega)⟩ (by cases v.ownBlock <;> simp)
end Go.Proofs.Ytlfhjlpcfpicbaa.M
