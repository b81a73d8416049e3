/- Layer 7 (table): the walks of the table's inner functions. -/
import Derived.Test.YtbolmekdbeincaaProg
import Derived.Test.YtbolmekdbeincaaMem
import Derived.Lib.MinMax
import Derived.WalkSpells
import Derived.BigRegion
namespace Go.Proofs.Ytbolmekdbeincaa.M
open Go Go.RowKit
set_option linter.unusedVariables false
set_option linter.unusedSimpArgs false
/-- a client's row -/
structure RowV where
  known : Int
  err : Int
  saga : Int
  state : Int
  step : Int
  wait : Int
def zeroR : RowV := ⟨0, 0, 0, 0, 0, 0⟩
def rowCells (r : RowV) : List Value := [.int .i64 r.known, .int .i64 r.err, .int .i64 r.saga, .int .i64 r.state, .int .i64 r.step, .int .i64 r.wait]
def tabO (is : Bool) (t : List RowV) : Obj := .cells (.bool is :: t.flatMap rowCells).toArray 52 (0, 0)
theorem rowCells_len (r : RowV) : (rowCells r).length = 6 := rfl
/-- the cells of a row -/
theorem row_cells {b : Nat} {is : Bool} {t : List RowV} {w : World} (h : w.heap[b]? = some (tabO is t)) (i : Nat) (hi : i < t.length) :
    w.cell? ⟨b, 1 + i * 6, none⟩ = some (.int .i64 t[i].known) ∧ w.cell? ⟨b, 1 + i * 6 + 1, none⟩ = some (.int .i64 t[i].err) ∧ w.cell? ⟨b, 1 + i * 6 + 2, none⟩ = some (.int .i64 t[i].saga) ∧
    w.cell? ⟨b, 1 + i * 6 + 3, none⟩ = some (.int .i64 t[i].state) ∧ w.cell? ⟨b, 1 + i * 6 + 4, none⟩ = some (.int .i64 t[i].step) ∧ w.cell? ⟨b, 1 + i * 6 + 5, none⟩ = some (.int .i64 t[i].wait) := by
  have key : ∀ j, j < 6 → w.cell? ⟨b, 1 + i * 6 + j, none⟩ = (rowCells t[i])[j]? := fun j hj => by
    rw [blk_cell h]
    have := flat_get rowCells 6 rowCells_len t i hi j hj
    rw [← this, List.getElem?_toArray, show 1 + i * 6 + j = (i * 6 + j) + 1 by omega]
    rfl
  exact ⟨key 0 (by omega), key 1 (by omega), key 2 (by omega), key 3 (by omega), key 4 (by omega), key 5 (by omega)⟩
theorem tab_set {is : Bool} {t : List RowV} (i : Nat) (hi : i < t.length) (j : Nat) (hj : j < 6) (v : Value) (r : RowV) (hr : rowCells r = (rowCells t[i]).set j v) :
    (Obj.cells ((Value.bool is :: t.flatMap rowCells).toArray.setIfInBounds (1 + i * 6 + j) v) 52 (0, 0)) = tabO is (t.set i r) := by
  unfold tabO
  congr 1
  rw [← flat_set rowCells 6 rowCells_len t i hi j hj v r hr, List.setIfInBounds_toArray, show 1 + i * 6 + j = (i * 6 + j) + 1 by omega, List.set_cons_succ]
theorem row_in {b : Nat} {t : List RowV} {w : World} (h : w.heap[b]? = some (tabO true t)) (i : Nat) (hi : i < 4) :
    Calls Try.prog 23 #[.pointer (some ⟨b, 0, none⟩), .int .i64 ((i : Int) + 1)] w fun e w' => e = .returned (.pointer (some ⟨b, 1 + i * 6, none⟩)) ∧ w = w' := by
  have c0 : w.cell? ⟨b, 0, none⟩ = some (.bool true) := (blk_cell h 0).trans rfl
  go_enter Try.func23, Try.ntmps23
  go_wp2
  go_ret
  exact ⟨rfl, rfl⟩
theorem row_out {b : Nat} {is : Bool} {t : List RowV} {w : World} (h : w.heap[b]? = some (tabO is t)) (c : Int) (hc : is = false ∨ c < 1 ∨ 4 < c) :
    Calls Try.prog 23 #[.pointer (some ⟨b, 0, none⟩), .int .i64 c] w fun e w' => e = .returned (.pointer none) ∧ w = w' := by
  have c0 : w.cell? ⟨b, 0, none⟩ = some (.bool is) := (blk_cell h 0).trans rfl
  cases is with
  | false =>
    go_enter Try.func23, Try.ntmps23
    go_wp2
    go_ret
    exact ⟨rfl, rfl⟩
  | true =>
    by_cases h1 : c < 1
    · go_enter Try.func23, Try.ntmps23
      go_wp2
      go_ret
      exact ⟨rfl, rfl⟩
    · have h2 : 4 < c := by rcases hc with hc | hc | hc <;> simp_all
      go_enter Try.func23, Try.ntmps23
      go_wp2
      go_ret
      exact ⟨rfl, rfl⟩
theorem row_nil {w : World} {c : Int} : Calls Try.prog 23 #[.pointer none, .int .i64 c] w fun e w' => e = .returned (.pointer none) ∧ w = w' := by
  go_enter Try.func23, Try.ntmps23
  go_wp2
  go_ret
  exact ⟨rfl, rfl⟩
def lastR (r : RowV) : Int := max r.known r.wait
theorem last_x {w : World} (r : RowV) (v : Value) (hv : v = .agg #[.int .i64 r.known, .int .i64 r.err, .int .i64 r.saga, .int .i64 r.state, .int .i64 r.step, .int .i64 r.wait]) :
    Calls Try.prog 24 #[v] w fun e w' => e = .returned (.int .i64 (lastR r)) ∧ w.alloc (.cells #[.int .i64 r.known, .int .i64 r.err, .int .i64 r.saga, .int .i64 r.state, .int .i64 r.step, .int .i64 r.wait] 49) = w' := by
  subst hv
  go_enter Try.func24, Try.ntmps24
  go_wp2
  go_ret
  exact ⟨rfl, rfl⟩
theorem last_any {w : World} (r : RowV) (v : Value) (hv : v = .agg #[.int .i64 r.known, .int .i64 r.err, .int .i64 r.saga, .int .i64 r.state, .int .i64 r.step, .int .i64 r.wait]) :
    Calls Try.prog 24 #[v] w fun e w' => e = .returned (.int .i64 (lastR r)) ∧ Below w.heap.size w w' :=
  (last_x r v hv).mono fun _ _ ⟨he, hw⟩ => ⟨he, hw ▸ (Below.refl _ _).alloc (Nat.le_refl _) _⟩
theorem Last_in {b : Nat} {t : List RowV} {w : World} (h : w.heap[b]? = some (tabO true t)) (ht : t.length = 4) (i : Nat) (hi : i < 4) :
    Calls Try.prog 11 #[.pointer (some ⟨b, 0, none⟩), .int .i64 ((i : Int) + 1)] w fun e w' => e = .returned (.int .i64 (lastR (t.getD i zeroR))) ∧ Below w.heap.size w w' := by
  obtain ⟨c0, c1, c2, c3, c4, c5⟩ := row_cells h i (by omega)
  have H := Lib.hid h
  have E : Hid (t.getD i zeroR = t[i]) := show _ = _ by simp [List.getD, ht, hi]
  generalize t[i] = r at c0 c1 c2 c3 c4 c5 E
  clear h ht
  go_enter Try.func11, Try.ntmps11
  go_wp2_with (first
    | (go_at_call 23; ((with_reducible refine (row_in H.out i hi).mono ?_); rintro e w' ⟨rfl, rfl⟩))
    | (go_at_call 24; ((refine (last_any r _ rfl).mono ?_); rintro e w2 ⟨rfl, hb⟩; have B := Lib.hid hb; clear hb)))
  go_ret
  exact ⟨by rw [E.out]; rfl, B.out⟩
end Go.Proofs.Ytbolmekdbeincaa.M
