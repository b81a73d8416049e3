/- Blocks of memory, read and written whole: what a walk's cells say of them. -/
import Derived.WalkKit
import Derived.Handy
import Derived.BigQuiet
import Derived.Deep.QuietTactic
import Derived.Lib.Hide
namespace Go.Proofs.Ytlfhjlpcfpicbaa.M
open Go Go.RowKit

section
variable {w : World} {b : Nat} {c : Array Value} {t : TypeId}
theorem blk_lt {o : Obj} (h : w.heap[b]? = some o) : b < w.heap.size := lt_of_block h
theorem blk_cell (h : w.heap[b]? = some (.cells c t (0, 0))) (o : Nat) : w.cell? ⟨b, o, none⟩ = c[o]? := by simp [World.cell?, h]
theorem blk_free (h : w.heap[b]? = some (.cells c t (0, 0))) (o : Nat) : w.frozen? ⟨b, o, none⟩ = false := by simp [World.frozen?, h]
theorem blk_set (h : w.heap[b]? = some (.cells c t (0, 0))) (o : Nat) (v : Value) : (w.setCell ⟨b, o, none⟩ v).heap[b]? = some (.cells (c.setIfInBounds o v) t (0, 0)) := by
  have hlt := lt_of_block h
  have h' : w.heap[b] = .cells c t (0, 0) := by simpa [Array.getElem?_eq_getElem hlt] using h
  show (w.heap.modify b _)[b]? = _
  rw [Array.getElem?_eq_getElem (by simpa using hlt), Array.getElem_modify_self, h']
  rfl
end

/-- 'w'' is 'w' but for block b, which holds o; draws aside. -/
structure Upd (w w' : World) (b : Nat) (o : Obj) : Prop where
  os : w'.os = w.os
  tape : w'.tape = w.tape
  output : w'.output = w.output
  size : w'.heap.size = w.heap.size
  at_ : w'.heap[b]? = some o
  else_ : ∀ k, k ≠ b → w'.heap[k]? = w.heap[k]?
theorem Upd.self {w : World} {b : Nat} {o : Obj} (h : w.heap[b]? = some o) : Upd w w b o := ⟨rfl, rfl, rfl, rfl, h, fun _ _ => rfl⟩
theorem Upd.drew {w w' : World} {b : Nat} {o : Obj} (h : Upd w w' b o) : Upd w w'.drew b o := ⟨h.1, h.2, h.3, h.4, h.5, h.6⟩
theorem Upd.drewN {w w' : World} {b : Nat} {o : Obj} (h : Upd w w' b o) (n : Nat) : Upd w (w'.drewN n) b o := ⟨h.1, h.2, h.3, h.4, h.5, h.6⟩
theorem Upd.set {w w' : World} {b : Nat} {c : Array Value} {t : TypeId} (h : Upd w w' b (.cells c t (0, 0))) (o : Nat) (v : Value) :
    Upd w (w'.setCell ⟨b, o, none⟩ v) b (.cells (c.setIfInBounds o v) t (0, 0)) :=
  ⟨h.1, h.2, h.3, by simpa [World.setCell] using h.4, blk_set h.5 o v, fun k hk => (Below.heap_setCell _ _ _ _ hk).trans (h.6 k hk)⟩
theorem Upd.trans {w w1 w2 : World} {b : Nat} {o1 o2 : Obj} (h : Upd w w1 b o1) (k : Upd w1 w2 b o2) : Upd w w2 b o2 :=
  ⟨k.1.trans h.1, k.2.trans h.2, k.3.trans h.3, k.4.trans h.4, k.5, fun i hi => (k.6 i hi).trans (h.6 i hi)⟩
theorem Upd.below {w w' : World} {b : Nat} {o : Obj} (h : Upd w w' b o) {B : Nat} (hB : B ≤ b) : Below B w w' :=
  ⟨h.1, h.2, h.3, Nat.le_of_eq h.4.symm, fun k hk => h.6 k (by omega)⟩

theorem Upd.keep {w w' : World} {b : Nat} {o : Obj} (h : Upd w w' b o) {k : Nat} {x : Obj} (hk : w.heap[k]? = some x) (hne : k ≠ b) : w'.heap[k]? = some x := (h.else_ k hne).trans hk
theorem keep_below {B : Nat} {w w' : World} (h : Below B w w') {k : Nat} {x : Obj} (hk : w.heap[k]? = some x) (hlt : k < B) : w'.heap[k]? = some x := (h.block k hlt).trans hk

/-- what is left over: its bounds -/
theorem rest_bd {y m : Int} (h : 0 ≤ y) (hm : 1 ≤ m) : 0 ≤ y % m ∧ y % m ≤ y ∧ y % m < m := by
  refine ⟨Int.emod_nonneg _ (by omega), ?_, Int.emod_lt_of_pos _ (by omega)⟩
  obtain ⟨a, rfl⟩ := Int.eq_ofNat_of_zero_le h
  obtain ⟨b, rfl⟩ := Int.eq_ofNat_of_zero_le (show 0 ≤ m by omega)
  have := Nat.mod_le a b
  rw [← Int.natCast_emod]
  omega
/-- a callee that leaves the world alone, met in a quiet region -/
theorem q_same {P : Program} {f : FuncId} {args : Array Value} {w : World} {n : Nat} {v : Value}
    (h : Calls P f args (w.drewN n) fun e w' => e = .returned v ∧ w.drewN n = w') : Calls P f args (w.drewN n) fun e w'' => e = .returned v ∧ ∃ m, w'' = w.drewN m :=
  h.mono fun _ _ ⟨he, hm⟩ => ⟨he, n, hm.symm⟩
end Go.Proofs.Ytlfhjlpcfpicbaa.M
