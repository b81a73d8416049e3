/- What single operations of the model come to, in plain words: types, loads and stores of whole variables, new blocks. -/
import Derived.Test.YtpppgmoiginedaaQv
namespace Go.Proofs.Ytpppgmoiginedaa.Q
open Go Go.RowKit
set_option linter.unusedVariables false

/-- a type's cells, and whether it is a struct or an array -/
def szT (P : Program) (t : TypeId) : Option Nat := (P.info? t).map (·.size)
def agT (P : Program) (t : TypeId) : Option Bool := (P.underlying t).map fun d => match d with | .struct _ | .array _ _ => true | _ => false
/-- a field's place and size -/
def offT (P : Program) (t : TypeId) (k : Nat) : Option (Nat × Nat × TypeId) :=
  match P.underlying t with
  | some (.struct fs) => (fs[k]?).bind fun f => (szT P f.type).map fun n => (f.offset, n, f.type)
  | _ => none
/-- an array's length (a slice: none), and its elements' type and size -/
def idxT (P : Program) (t : TypeId) : Option (Option Nat × TypeId × Nat) :=
  match P.underlying t with
  | some (.slice e) => (szT P e).map fun n => (none, e, n)
  | some (.array k e) => (szT P e).map fun n => (some k, e, n)
  | _ => none

section
variable {P : Program} {w : World} {t : TypeId}
theorem run_underlying {d : TypeDesc} (h : P.underlying t = some d) : (underlying t).run P w = .ok d w := by simp [underlying, h]
theorem run_typeInfo {i : TypeInfo} (h : P.info? t = some i) : (typeInfo t).run P w = .ok i w := by simp [typeInfo, h]
theorem run_sizeOf {n : Nat} (h : szT P t = some n) : (sizeOf t).run P w = .ok n w := by
  unfold szT at h
  obtain ⟨i, hi, rfl⟩ := Option.map_eq_some_iff.1 h
  simp [sizeOf, run_typeInfo hi]
theorem run_isAgg {g : Bool} (h : agT P t = some g) : (isAgg t).run P w = .ok g w := by
  unfold agT at h
  obtain ⟨d, hd, rfl⟩ := Option.map_eq_some_iff.1 h
  simp only [isAgg, Sem.run_bind, run_underlying hd, Result.andThen_ok]
  cases d <;> rfl
theorem addr_add (b o n : Nat) : (⟨b, o, none⟩ : Addr).add n = ⟨b, o + n, none⟩ := by
  unfold Addr.add
  split
  · rename_i h; subst h; rfl
  · rfl
theorem run_loadCellsFrom {b o : Nat} : ∀ (l : List Value) (i : Nat) (acc : Array Value), (∀ j v, l[j]? = some v → w.cell? ⟨b, o + i + j, none⟩ = some v) →
    (loadCellsFrom ⟨b, o, none⟩ i l.length acc).run P w = .ok (acc ++ l.toArray) w
  | [], i, acc, _ => by simp [loadCellsFrom]
  | v :: l, i, acc, h => by
    have h0 : w.cell? ⟨b, o + i, none⟩ = some v := by simpa using h 0 v (by simp)
    have ih := run_loadCellsFrom (b := b) (o := o) l (i + 1) (acc.push v) (fun j u hj => by
      have := h (j + 1) u (by simpa using hj)
      rwa [show o + (i + 1) + j = o + i + (j + 1) by omega])
    simp only [List.length_cons, loadCellsFrom, Sem.run_bind, run_load, addr_add, h0, Result.andThen_ok]
    rw [ih]
    simp
theorem run_loadCells {b o : Nat} (l : List Value) (h : ∀ j v, l[j]? = some v → w.cell? ⟨b, o + j, none⟩ = some v) : (loadCells ⟨b, o, none⟩ l.length).run P w = .ok l.toArray w := by
  have := run_loadCellsFrom (P := P) l 0 #[] (b := b) (o := o) (by simpa using h)
  simpa [loadCells] using this
/-- a variable's value out of its cells -/
def ldV (g : Bool) (n : Nat) (cs : List V) : Option V := if g then if n ≤ cs.length then some (.agg (cs.take n)) else none else cs[0]?
theorem run_loadVar {D : Nat → Prop} {b o n : Nat} {g : Bool} {cs : List V} {c : V} (hg : agT P t = some g) (hn : szT P t = some n) (hc : cellsAt w D cs b o) (h : ldV g n cs = some c) :
    ∃ v, (loadVar t ⟨b, o, none⟩).run P w = .ok v w ∧ real w D c v := by
  unfold ldV at h
  cases g with
  | true =>
    simp only [if_true] at h
    split at h
    · rename_i hl
      obtain rfl := Option.some.inj h
      obtain ⟨l, h1, h2⟩ := reals_of_cells (cells_take n hc)
      have hl' : l.length = n := by rw [reals_len h1, List.length_take]; omega
      refine ⟨.agg l.toArray, ?_, ?_⟩
      · simp only [loadVar, Sem.run_bind, run_isAgg hg, Result.andThen_ok, if_true, run_sizeOf hn]
        rw [← hl', run_loadCells l h2]
        simp
      · unfold real; exact ⟨l.toArray, rfl, by simpa using h1⟩
    · simp at h
  | false =>
    simp only [Bool.false_eq_true, if_false] at h
    obtain ⟨v, h1, h2, h3⟩ := cells_get 0 hc h
    refine ⟨v, ?_, h2⟩
    simp only [loadVar, Sem.run_bind, run_isAgg hg, Result.andThen_ok, Bool.false_eq_true, if_false, run_load]
    simp only [Nat.add_zero] at h1
    simp [h1]

/-- a new block -/
theorem evo_alloc {H : Heap} (hS : Sim w H) (o : Obj) : Evo w H (w.alloc o) H ∧ Sim (w.alloc o) H ∧ imm (w.alloc o) H w.heap.size := by
  have hb : H w.heap.size = none := by
    cases h : H w.heap.size with
    | none => rfl
    | some x => have := Ob.lt (hS _ _ h); omega
  have hk : ∀ b, b < w.heap.size → (w.alloc o).heap[b]? = w.heap[b]? := fun b hb => Below.heap_alloc _ _ _ hb
  have hsz : (w.alloc o).heap.size = w.heap.size + 1 := by simp
  have hE : Evo w H (w.alloc o) H := ⟨rfl, rfl, rfl, by omega, fun b h => ⟨hk b h.1, by have := h.1; omega, h.2⟩⟩
  exact ⟨hE, fun b x h => Ob.real_same hE.keeps (hk b (Ob.lt (hS b x h))) x (hS b x h), by omega, hb⟩
theorem alloc_at (w : World) (o : Obj) : (w.alloc o).heap[w.heap.size]? = some o := by
  show (w.heap.push o)[w.heap.size]? = some o
  simp
theorem alloc_cell (w : World) (c : Array Value) (t : TypeId) (z : Nat × Nat) (j : Nat) : (w.alloc (.cells c t z)).cell? ⟨w.heap.size, j, none⟩ = c[j]? := by
  have h := alloc_at w (.cells c t z)
  simp only [World.cell?, h]
  rfl
/-- likewise, that may be written -/
theorem evo_new {H : Heap} (hS : Sim w H) (o : Obj) (x : Ob) (hx : ∀ H' : Heap, (∀ b, b < w.heap.size → H' b = H b) → x.real (w.alloc o) H' w.heap.size) :
    H w.heap.size = none ∧ Evo w H (w.alloc o) (H.set w.heap.size x) ∧ Sim (w.alloc o) (H.set w.heap.size x) := by
  obtain ⟨hE, hS', hi⟩ := evo_alloc hS o
  have hk : ∀ b, b < w.heap.size → (w.alloc o).heap[b]? = w.heap[b]? := fun b hb => Below.heap_alloc _ _ _ hb
  have hE' : Evo w H (w.alloc o) (H.set w.heap.size x) := ⟨rfl, rfl, rfl, hE.size, fun b h => ⟨hk b h.1, (hE.keep b h).2.1, by
    have := h.1
    simp only [Heap.set]
    rw [if_neg (by omega)]
    exact h.2⟩⟩
  refine ⟨hi.2, hE', fun b y h => ?_⟩
  simp only [Heap.set] at h
  split at h
  · rename_i e
    obtain rfl := Option.some.inj h
    subst e
    exact hx _ fun b hb => by simp only [Heap.set]; rw [if_neg (by omega)]
  · rename_i e
    exact Ob.real_same hE'.keeps (hk b (Ob.lt (hS b y h))) y (hS b y h)
end
end Go.Proofs.Ytpppgmoiginedaa.Q
