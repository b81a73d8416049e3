/- The table's functions, answered by letters. -/
import Derived.Test.YtbolmekdbeincaaActV
namespace Go.Proofs.Ytbolmekdbeincaa.M
open Go Go.RowKit
set_option linter.unusedVariables false
section
variable {w : World} {b : Nat} {t : List RowV}
theorem Start_w (h : w.heap[b]? = some (tabO true t)) (ht : t.length = 4) {c q x : Int} {t' : List RowV} (hx : startT t c q = (x, t')) : Calls Try.prog 13 #[.pointer (some ⟨b, 0, none⟩), .int .i64 c, .int .i64 q] w fun e w' =>
    e = .returned (.int .i64 x) ∧ Turned w w' b (tabO true t') := by
  have := Start_any h ht c q
  rw [hx] at this
  exact this
theorem Finish_w (h : w.heap[b]? = some (tabO true t)) (ht : t.length = 4) {c q e1 e2 e3 e4 x : Int} {t' : List RowV} (hx : finishT t c q e1 e2 e3 e4 = (x, t')) : Calls Try.prog 14 #[.pointer (some ⟨b, 0, none⟩), .int .i64 c, .int .i64 q, .agg #[.int .i64 e1, .int .i64 e2, .int .i64 e3, .int .i64 e4]] w fun e w' =>
    e = .returned (.int .i64 x) ∧ Turned w w' b (tabO true t') := by
  have := Finish_any h ht c q e1 e2 e3 e4
  rw [hx] at this
  exact this
theorem Ask_w (h : w.heap[b]? = some (tabO true t)) (ht : t.length = 4) {c q k r1 r2 r3 r4 : Int} (hx : ∃ a z, askT (rowT t c) (decide (inC c)) q = (k, ⟨a, r1, r2, r3, r4, z⟩)) : Calls Try.prog 12 #[.pointer (some ⟨b, 0, none⟩), .int .i64 c, .int .i64 q] w fun e w' =>
    e = .returned (.tuple #[.int .i64 k, .agg #[.int .i64 r1, .int .i64 r2, .int .i64 r3, .int .i64 r4]]) ∧ Below w.heap.size w w' := by
  obtain ⟨a, z, hx⟩ := hx
  have := Ask_any h ht c q
  rw [hx] at this
  exact this
theorem Last_w (h : w.heap[b]? = some (tabO true t)) (ht : t.length = 4) {c x : Int} (hx : lastR (rowT t c) = x) : Calls Try.prog 11 #[.pointer (some ⟨b, 0, none⟩), .int .i64 c] w fun e w' =>
    e = .returned (.int .i64 x) ∧ Below w.heap.size w w' := by
  have := Last_any h ht c
  rw [hx] at this
  exact this
theorem Done_w (h : w.heap[b]? = some (tabO true t)) (ht : t.length = 4) {c x : Int} (hx : (rowT t c).known = x) : Calls Try.prog 10 #[.pointer (some ⟨b, 0, none⟩), .int .i64 c] w fun e w' =>
    e = .returned (.int .i64 x) ∧ Below w.heap.size w w' := by
  have := Done_any h ht c
  rw [hx] at this
  exact this.mono fun _ _ ⟨he, hw⟩ => ⟨he, hw ▸ Below.refl _ _⟩
end
/-! ### The plain law -/
theorem rowT_set_self (t : List RowV) (ht : t.length = 4) {c : Int} (hc : inC c) (r : RowV) : rowT (setT t c r) c = r := by
  obtain ⟨i, rfl, hi⟩ := in_nat hc
  rw [rowT_in _ i hi, setT_nat]
  simp [List.getD, ht, hi]
theorem lastR_ge (r : RowV) : r.known ≤ lastR r := by unfold lastR; omega
end Go.Proofs.Ytbolmekdbeincaa.M
