/- Layer 7 (table): the document's examples are as it says. -/
import Derived.Test.YtbolmekdbeincaaTabS
namespace Go.Proofs.Ytbolmekdbeincaa.M
open Go Go.RowKit
set_option linter.unusedVariables false
theorem ask_get {X : Int × RowV} {k0 : Int} {r : RowV} (ev : X = (k0, r)) {k r1 r2 r3 r4 : Int} (h : ∃ a z, X = (k, ⟨a, r1, r2, r3, r4, z⟩)) : k = k0 ∧ r1 = r.err ∧ r2 = r.saga ∧ r3 = r.state ∧ r4 = r.step := by
  obtain ⟨a, z, h⟩ := h
  rw [ev] at h
  obtain ⟨h1, h2⟩ := Prod.mk.inj h
  subst h2
  exact ⟨h1.symm, rfl, rfl, rfl, rfl⟩
def t1 : List RowV := [⟨0, 0, 0, 0, 0, 5⟩, zeroR, zeroR, zeroR]
def t2 : List RowV := [⟨5, 0, 9, 0, 0, 5⟩, zeroR, zeroR, zeroR]
def t3 : List RowV := [⟨5, 0, 9, 0, 0, 7⟩, zeroR, zeroR, zeroR]
def t4 : List RowV := [⟨6, 0, 0, 0, 0, 7⟩, zeroR, zeroR, zeroR]
theorem ev_start1 : startT tab0 1 5 = (0, t1) := by rfl
theorem ev_ask1 : askT (rowT t1 1) (decide (inC 1)) 5 = (2, ⟨0, 0, 0, 0, 0, 0⟩) := by rfl
theorem ev_finish1 : finishT t1 1 5 0 9 0 0 = (0, t2) := by rfl
theorem ev_ask2 : askT (rowT t2 1) (decide (inC 1)) 5 = (3, ⟨5, 0, 9, 0, 0, 5⟩) := by rfl
theorem ev_ask3 : askT (rowT t2 1) (decide (inC 1)) 4 = (4, ⟨0, 0, 0, 0, 0, 0⟩) := by rfl
theorem ev_start2 : startT t2 1 7 = (0, t3) := by rfl
theorem ev_finish2 : finishT t3 1 6 0 0 0 0 = (0, t4) := by rfl
theorem ev_ask4 : askT (rowT t4 1) (decide (inC 1)) 7 = (2, ⟨0, 0, 0, 0, 0, 0⟩) := by rfl
set_option maxRecDepth 100000 in
set_option maxHeartbeats 1000000 in
theorem lives_any (w : World) : Calls Try.prog 8 #[] w fun e w' => e = .returned (.bool true) ∧ Below w.heap.size w w' := by
  go_enter Try.func8, Try.ntmps8
  go_wp2_with fail
  refine Make_ex.mono ?_
  rintro e w1 ⟨rfl, h⟩
  have T := Lib.hid h
  clear h
  generalize hb : w.heap.size = b at T ⊢
  have HB := Lib.hid hb
  clear hb
  go_wp2_with fail
  refine (Start_ex T.out 1 5).mono ?_
  rintro e w2 ⟨x, t', rfl, hx, h, hu⟩
  obtain ⟨rfl, rfl⟩ := Prod.mk.inj (ev_start1.symm.trans hx.out)
  have T' := Lib.hid h
  clear h hx hu T
  have T := T'
  clear T'
  go_wp2_with fail
  refine (Ask_ex T.out 1 5).mono ?_
  rintro e w3 ⟨x, y1, y2, y3, y4, rfl, hx, h, hu⟩
  obtain ⟨rfl, rfl, rfl, rfl, rfl⟩ := ask_get ev_ask1 hx.out
  have T' := Lib.hid h
  clear h hx hu T
  have T := T'
  clear T'
  go_wp2_with fail
  refine (Finish_ex (T.out.alloc _) 1 5 0 9 0 0).mono ?_
  rintro e w4 ⟨x, t', rfl, hx, h, hu⟩
  obtain ⟨rfl, rfl⟩ := Prod.mk.inj (ev_finish1.symm.trans hx.out)
  have T' := Lib.hid h
  clear h hx hu T
  have T := T'
  clear T'
  go_wp2_with fail
  refine (Ask_ex T.out 1 5).mono ?_
  rintro e w5 ⟨x, y1, y2, y3, y4, rfl, hx, h, hu⟩
  obtain ⟨rfl, rfl, rfl, rfl, rfl⟩ := ask_get ev_ask2 hx.out
  have T' := Lib.hid h
  clear h hx hu T
  have T := T'
  clear T'
  go_wp2_with fail
  refine (Ask_ex (T.out.alloc _) 1 4).mono ?_
  rintro e w6 ⟨x, y1, y2, y3, y4, rfl, hx, h, hu⟩
  obtain ⟨rfl, rfl, rfl, rfl, rfl⟩ := ask_get ev_ask3 hx.out
  have R : Hid (w6.heap[w5.heap.size]? = some (.cells #[.int .i64 0, .int .i64 9, .int .i64 0, .int .i64 0] 28 (0, 0)) ∧ w5.heap.size ≠ b) :=
    ⟨hu.keep (heap_alloc_new _ _) (by have := blk_lt T.out.at_; omega), by have := blk_lt T.out.at_; omega⟩
  have T' := Lib.hid h
  clear h hx hu T
  have T := T'
  clear T'
  go_wp2_with fail
  refine (Start_ex (T.out.alloc _) 1 7).mono ?_
  rintro e w7 ⟨x, t', rfl, hx, h, hu⟩
  obtain ⟨rfl, rfl⟩ := Prod.mk.inj (ev_start2.symm.trans hx.out)
  have R' : Hid (w7.heap[w5.heap.size]? = some (.cells #[.int .i64 0, .int .i64 9, .int .i64 0, .int .i64 0] 28 (0, 0)) ∧ w5.heap.size ≠ b) := ⟨hu.keep (keep_alloc _ R.out.1) R.out.2, R.out.2⟩
  clear R
  have R := R'
  clear R'
  have T' := Lib.hid h
  clear h hx hu T
  have T := T'
  clear T'
  go_wp2_with fail
  refine (Finish_ex T.out 1 6 0 0 0 0).mono ?_
  rintro e w8 ⟨x, t', rfl, hx, h, hu⟩
  obtain ⟨rfl, rfl⟩ := Prod.mk.inj (ev_finish2.symm.trans hx.out)
  have R' : Hid (w8.heap[w5.heap.size]? = some (.cells #[.int .i64 0, .int .i64 9, .int .i64 0, .int .i64 0] 28 (0, 0)) ∧ w5.heap.size ≠ b) := ⟨hu.keep R.out.1 R.out.2, R.out.2⟩
  clear R
  have R := R'
  clear R'
  have T' := Lib.hid h
  clear h hx hu T
  have T := T'
  clear T'
  go_wp2_with fail
  refine (Ask_ex T.out 1 7).mono ?_
  rintro e w9 ⟨x, y1, y2, y3, y4, rfl, hx, h, hu⟩
  obtain ⟨rfl, rfl, rfl, rfl, rfl⟩ := ask_get ev_ask4 hx.out
  have R' : Hid (w9.heap[w5.heap.size]? = some (.cells #[.int .i64 0, .int .i64 9, .int .i64 0, .int .i64 0] 28 (0, 0)) ∧ w5.heap.size ≠ b) := ⟨hu.keep R.out.1 R.out.2, R.out.2⟩
  clear R
  have R := R'
  clear R'
  have T' := Lib.hid h
  clear h hx hu T
  have T := T'
  clear T'
  have c9 : w9.cell? ⟨w5.heap.size, 1, none⟩ = some (.int .i64 9) := blk_cell R.out.1 1
  have lt9 : w5.heap.size < w9.heap.size := blk_lt R.out.1
  go_wp2
  go_ret
  exact ⟨rfl, T.out.below.alloc T.out.below.size _⟩
end Go.Proofs.Ytbolmekdbeincaa.M
