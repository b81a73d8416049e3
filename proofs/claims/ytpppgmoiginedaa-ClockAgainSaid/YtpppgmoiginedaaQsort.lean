/- The library's sort of a row of integers, in the layer of values. -/
import Derived.Test.YtpppgmoiginedaaQz
import Derived.Shelf.Sort.Plain
import Derived.Sort.OwnSortedInts
namespace Go.Proofs.Ytpppgmoiginedaa.Q
open Go Go.RowKit Go.Sort
set_option linter.unusedSimpArgs false
set_option linter.unusedVariables false
def intV (z : Int) : List V := [.val (.int .i64 z)]
def ints (zs : List Int) : List (List V) := zs.map intV
def sorted (zs : List Int) : List Int := zs.mergeSort fun x y => decide (x ≤ y)
theorem sorted_len (zs : List Int) : (sorted zs).length = zs.length := (List.mergeSort_perm _ _).length_eq
theorem heap_sortedO {w : World} {g o n : Nat} {os : Array Obj} {cur : Array Value} {e : TypeId} {fr : Nat × Nat} (d : Array Int) (hb : w.heap[g]? = some (.cells cur e fr)) :
    (grow (putRow (Value.int .i64) (Sort.ahead w n) g o d) os).heap[g]? = some (.cells (putCells (Value.int .i64) o d cur) e fr) := by
  have hg : g < w.heap.size := (Array.getElem?_eq_some_iff.1 hb).1
  rw [heap_grow_old _ _ (by simpa using hg)]
  simp [putRow, mapBlock, Sort.ahead, Array.getElem?_modify, hb, onCells]
theorem heap_sortedN {w : World} {g o n k : Nat} {os : Array Obj} (d : Array Int) (hk : k < w.heap.size) (hne : k ≠ g) :
    (grow (putRow (Value.int .i64) (Sort.ahead w n) g o d) os).heap[k]? = w.heap[k]? := by
  rw [heap_grow_old _ _ (by simpa using hk)]
  simp [putRow, mapBlock, Sort.ahead, Array.getElem?_modify, Ne.symm hne]
theorem Tr_sort_ints {P : Program} {ρ : Go.Shelf.Ren} (Ly : Lays.n189 P ρ) (hcall : callable P (ρ.f 189) = true) {H : Heap} {b cap c : Nat} (zs : List Int) (hb : H b = some (.row 1 (ints zs) c)) (hsz : zs.length < 4611686018427387904) :
    Tr P (ρ.f 189) [.own b 1 0 zs.length cap] H fun v H' => v = .tup [] ∧ H' = H.set b (.row 1 (ints (sorted zs)) c) := by
  refine ⟨hcall, fun w vs hS hA => ?_⟩
  obtain ⟨xs⟩ := vs
  match xs, hA with
  | [x], hA =>
    unfold argsReal at hA
    have hx := hA.1
    unfold real at hx
    obtain ⟨o, rfl, hcap, ho⟩ := hx
    obtain ⟨arr, t, h1, h2, h3, h4⟩ := hS b _ hb
    have hblk : b < w.heap.size := lt_of_block h1
    have ho' : zs = [] ∨ o = 0 := by
      rcases ho with h | h
      · right; simpa using h
      · left; exact List.length_eq_zero_iff.1 h.1
    have hrow : ∀ j (hj : j < zs.length), w.cell? ⟨b, j, none⟩ = some (.int .i64 zs[j]) := by
      intro j hj
      have hg := (rows_get j h4 (show (ints zs)[j]? = some (intV zs[j]) by simp [ints, hj])).2
      obtain ⟨v, hv, hr, _⟩ := cells_get 0 hg (show (intV zs[j])[0]? = some (.val (.int .i64 zs[j])) by rfl)
      unfold real at hr
      rw [hr.1] at hv
      simpa using hv
    have hH : Holds (Value.int .i64) w b o zs.toArray := by
      intro j hj
      have hj' : j < zs.length := by simpa using hj
      rcases ho' with h | rfl
      · subst h; simp at hj'
      · refine ⟨?_, by simp [World.frozen?, h1]⟩
        rw [Nat.zero_add, hrow j hj']
        simp [hj']
    refine (Any.slices_Sort_int Ly b o cap zs w hH hblk hsz).mono ?_
    rintro e w' ⟨rfl, n, os, rfl⟩
    have hcur := heap_sortedO (os := os) (n := n) (o := o) (sorted zs).toArray h1
    have hE : Evo w H (grow (putRow (Value.int .i64) (Sort.ahead w n) b o (sorted zs).toArray) os) (H.set b (.row 1 (ints (sorted zs)) c)) ∧ Sim (grow (putRow (Value.int .i64) (Sort.ahead w n) b o (sorted zs).toArray) os) (H.set b (.row 1 (ints (sorted zs)) c)) := by
      refine evo_gen rfl rfl rfl (by simp) (fun k hk => ?_) hS fun k o' ho2 => ?_
      · have hne : k ≠ b := fun e => by have h2 := hk.2; rw [e, hb] at h2; cases h2
        exact ⟨heap_sortedN _ hk.1 hne, by rw [set_ne _ _ hne]; exact hk.2⟩
      · by_cases e : k = b
        · subst e
          rw [set_same] at ho2
          obtain rfl := Option.some.inj ho2
          right
          refine ⟨_, t, hcur, by simp only [ints, List.length_map] at h2 ⊢; rw [sorted_len]; exact h2, by simp [putCells, h3], rows_mk fun i r hi => ?_⟩
          simp only [ints, List.getElem?_map] at hi
          obtain ⟨z, hz, rfl⟩ := Option.map_eq_some_iff.1 hi
          obtain ⟨hil, hiz⟩ := List.getElem?_eq_some_iff.1 hz
          have hil' : i < zs.length := by rw [← sorted_len]; exact hil
          refine ⟨rfl, ⟨.int .i64 z, ?_, by unfold real; exact ⟨rfl, rfl⟩, rfl⟩, trivial⟩
          rcases ho' with h | rfl
          · subst h; simp at hil'
          · have ha : i < arr.size := by
              have h5 := hrow i hil'
              simp only [World.cell?, h1] at h5
              simp at h5
              exact (Array.getElem?_eq_some_iff.1 h5).1
            simp only [World.cell?, hcur]
            simp [putCells, ha, hil, hiz]
        · rw [set_ne _ _ e] at ho2
          exact .inl ⟨ho2, heap_sortedN _ (by
            have := hS k o' ho2
            cases o' with
            | row s L c' => obtain ⟨_, _, h, _⟩ := this; exact lt_of_block h
            | map es => obtain ⟨_, _, h, _⟩ := this; exact lt_of_block h
            | raw o'' => exact lt_of_block this.1) e⟩
    exact ⟨.tuple #[], .tup [], _, rfl, hE.1, hE.2, by unfold real; exact ⟨#[], rfl, by unfold realt; rfl⟩, rfl, rfl⟩
end Go.Proofs.Ytpppgmoiginedaa.Q
