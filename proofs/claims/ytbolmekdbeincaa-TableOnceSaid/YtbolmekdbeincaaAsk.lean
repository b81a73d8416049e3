/- Layer 7 (table): Last, Done, Ask. -/
import Derived.Test.YtbolmekdbeincaaRow
namespace Go.Proofs.Ytbolmekdbeincaa.M
open Go Go.RowKit
set_option linter.unusedVariables false
set_option linter.unusedSimpArgs false
def inC (c : Int) : Prop := 1 ≤ c ∧ c ≤ 4
instance (c : Int) : Decidable (inC c) := inferInstanceAs (Decidable (1 ≤ c ∧ c ≤ 4))
def rowT (t : List RowV) (c : Int) : RowV := if inC c then t.getD (c - 1).toNat zeroR else zeroR
theorem rowT_in (t : List RowV) (i : Nat) (hi : i < 4) : rowT t ((i : Int) + 1) = t.getD i zeroR := by
  unfold rowT
  rw [if_pos (show inC _ by unfold inC; omega)]
  congr 1
  omega
theorem rowT_out (t : List RowV) (c : Int) (h : ¬ inC c) : rowT t c = zeroR := if_neg h
theorem in_nat {c : Int} (h : inC c) : ∃ i : Nat, c = (i : Int) + 1 ∧ i < 4 := ⟨(c - 1).toNat, by unfold inC at h; omega, by unfold inC at h; omega⟩
def askT (r : RowV) (ok : Bool) (q : Int) : Int × RowV :=
  if ok = false ∨ q < 1 then (4, zeroR) else if q = r.known then (3, r) else if q > lastR r then (1, zeroR) else if q = lastR r then (2, zeroR) else (4, zeroR)
def replyV (r : RowV) : Value := .agg #[.int .i64 r.err, .int .i64 r.saga, .int .i64 r.state, .int .i64 r.step]
theorem Last_any {b : Nat} {t : List RowV} {w : World} (h : w.heap[b]? = some (tabO true t)) (ht : t.length = 4) (c : Int) :
    Calls Try.prog 11 #[.pointer (some ⟨b, 0, none⟩), .int .i64 c] w fun e w' => e = .returned (.int .i64 (lastR (rowT t c))) ∧ Below w.heap.size w w' := by
  by_cases hc : inC c
  · obtain ⟨i, rfl, hi⟩ := in_nat hc
    rw [rowT_in t i hi]
    exact Last_in h ht i hi
  · rw [rowT_out t c hc]
    have ho : true = false ∨ c < 1 ∨ 4 < c := by unfold inC at hc; omega
    have H := Lib.hid h
    go_enter Try.func11, Try.ntmps11
    go_wp2_with (go_at_call 23; ((with_reducible refine (row_out H.out c ho).mono ?_); rintro e w' ⟨rfl, rfl⟩))
    go_ret
    exact ⟨rfl, Below.refl _ _⟩
theorem Done_any {b : Nat} {t : List RowV} {w : World} (h : w.heap[b]? = some (tabO true t)) (ht : t.length = 4) (c : Int) :
    Calls Try.prog 10 #[.pointer (some ⟨b, 0, none⟩), .int .i64 c] w fun e w' => e = .returned (.int .i64 (rowT t c).known) ∧ w = w' := by
  by_cases hc : inC c
  · obtain ⟨i, rfl, hi⟩ := in_nat hc
    rw [rowT_in t i hi]
    obtain ⟨c0, c1, c2, c3, c4, c5⟩ := row_cells h i (by omega)
    have H := Lib.hid h
    have E : Hid (t.getD i zeroR = t[i]) := show _ = _ by simp [List.getD, ht, hi]
    generalize t[i] = r at c0 c1 c2 c3 c4 c5 E
    clear h ht hc
    go_enter Try.func10, Try.ntmps10
    go_wp2_with (go_at_call 23; ((with_reducible refine (row_in H.out i hi).mono ?_); rintro e w' ⟨rfl, rfl⟩))
    go_ret
    exact ⟨by rw [E.out]; rfl, rfl⟩
  · rw [rowT_out t c hc]
    have ho : true = false ∨ c < 1 ∨ 4 < c := by unfold inC at hc; omega
    have H := Lib.hid h
    go_enter Try.func10, Try.ntmps10
    go_wp2_with (go_at_call 23; ((with_reducible refine (row_out H.out c ho).mono ?_); rintro e w' ⟨rfl, rfl⟩))
    go_ret
    exact ⟨rfl, rfl⟩
theorem askT_out (r : RowV) (ok : Bool) (q : Int) (h : ok = false ∨ q < 1) : askT r ok q = (4, zeroR) := by unfold askT; rw [if_pos h]
theorem askT_known (r : RowV) (q : Int) (h : ¬ q < 1) (h1 : q = r.known) : askT r true q = (3, r) := by unfold askT; rw [if_neg (by simpa using h), if_pos h1]
theorem askT_new (r : RowV) (q : Int) (h : ¬ q < 1) (h1 : q ≠ r.known) (h2 : q > lastR r) : askT r true q = (1, zeroR) := by unfold askT; rw [if_neg (by simpa using h), if_neg h1, if_pos h2]
theorem askT_wait (r : RowV) (q : Int) (h : ¬ q < 1) (h1 : q ≠ r.known) (h2 : ¬ q > lastR r) (h3 : q = lastR r) : askT r true q = (2, zeroR) := by unfold askT; rw [if_neg (by simpa using h), if_neg h1, if_neg h2, if_pos h3]
theorem askT_old (r : RowV) (q : Int) (h : ¬ q < 1) (h1 : q ≠ r.known) (h2 : ¬ q > lastR r) (h3 : q ≠ lastR r) : askT r true q = (4, zeroR) := by unfold askT; rw [if_neg (by simpa using h), if_neg h1, if_neg h2, if_neg h3]
set_option maxRecDepth 100000 in
theorem Ask_any {b : Nat} {t : List RowV} {w : World} (h : w.heap[b]? = some (tabO true t)) (ht : t.length = 4) (c q : Int) :
    Calls Try.prog 12 #[.pointer (some ⟨b, 0, none⟩), .int .i64 c, .int .i64 q] w fun e w' => e = .returned (.tuple #[.int .i64 (askT (rowT t c) (decide (inC c)) q).1, replyV (askT (rowT t c) (decide (inC c)) q).2]) ∧ Below w.heap.size w w' := by
  by_cases hc : inC c
  · rw [decide_eq_true hc]
    obtain ⟨i, rfl, hi⟩ := in_nat hc
    rw [rowT_in t i hi]
    obtain ⟨c0, c1, c2, c3, c4, c5⟩ := row_cells h i (by omega)
    have hb := blk_lt h
    have H := Lib.hid h
    have e0 : t.getD i zeroR = t[i] := by simp [List.getD, ht, hi]
    rw [e0]
    clear e0
    generalize t[i] = r at c0 c1 c2 c3 c4 c5 ⊢
    clear h ht hc
    by_cases hq : q < 1
    · rw [askT_out r true q (.inr hq)]
      go_enter Try.func12, Try.ntmps12
      go_wp2_with (go_at_call 23; ((with_reducible refine (row_in (keep_alloc _ H.out) i hi).mono ?_); rintro e w' ⟨rfl, rfl⟩))
      go_returns
      exact ⟨rfl, by go_grown⟩
    · by_cases h1 : q = r.known
      · rw [askT_known r q hq h1]
        have b1 : (q == r.known) = true := by simpa using h1
        have NE : b ≠ w.heap.size := by omega
        clear h1
        go_enter Try.func12, Try.ntmps12
        go_wp2_with (go_at_call 23; ((with_reducible refine (row_in (keep_alloc _ H.out) i hi).mono ?_); rintro e w' ⟨rfl, rfl⟩))
        go_region
        all_goals go_wp2
        all_goals go_returns
        all_goals exact ⟨rfl, by go_grown⟩
      · have b1 : (q == r.known) = false := by simpa using h1
        by_cases h2 : q > lastR r
        · rw [askT_new r q hq h1 h2]
          skip
          clear h1
          go_enter Try.func12, Try.ntmps12
          go_wp2_with (first
            | (go_at_call 23; ((with_reducible refine (row_in (keep_alloc _ H.out) i hi).mono ?_); rintro e w' ⟨rfl, rfl⟩))
            | (go_at_call 24; ((refine (last_x r _ rfl).mono ?_); rintro e w2 ⟨rfl, rfl⟩)))
          go_returns
          exact ⟨rfl, by go_grown⟩
        · by_cases h3 : q = lastR r
          · rw [askT_wait r q hq h1 h2 h3]
            have b3 : (q == lastR r) = true := by simpa using h3
            clear h3
            clear h1
            go_enter Try.func12, Try.ntmps12
            go_wp2_with (first
              | (go_at_call 23; ((with_reducible refine (row_in (keep_alloc _ H.out) i hi).mono ?_); rintro e w' ⟨rfl, rfl⟩))
              | (go_at_call 24; ((refine (last_x r _ rfl).mono ?_); rintro e w2 ⟨rfl, rfl⟩)))
            go_returns
            exact ⟨rfl, by go_grown⟩
          · rw [askT_old r q hq h1 h2 h3]
            have b3 : (q == lastR r) = false := by simpa using h3
            clear h3
            clear h1
            go_enter Try.func12, Try.ntmps12
            go_wp2_with (first
              | (go_at_call 23; ((with_reducible refine (row_in (keep_alloc _ H.out) i hi).mono ?_); rintro e w' ⟨rfl, rfl⟩))
              | (go_at_call 24; ((refine (last_x r _ rfl).mono ?_); rintro e w2 ⟨rfl, rfl⟩)))
            go_returns
            exact ⟨rfl, by go_grown⟩
  · rw [decide_eq_false hc, rowT_out t c hc, askT_out _ _ _ (.inl rfl)]
    have ho : true = false ∨ c < 1 ∨ 4 < c := by unfold inC at hc; omega
    have H := Lib.hid h
    have hb := blk_lt h
    clear h hc
    go_enter Try.func12, Try.ntmps12
    go_wp2_with (go_at_call 23; ((with_reducible refine (row_out (keep_alloc _ H.out) c ho).mono ?_); rintro e w' ⟨rfl, rfl⟩))
    go_returns
    exact ⟨rfl, by go_grown⟩
end Go.Proofs.Ytbolmekdbeincaa.M
