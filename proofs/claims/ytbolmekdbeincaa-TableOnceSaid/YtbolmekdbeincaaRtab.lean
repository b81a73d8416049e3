/- Layer 7 (table): the reference's functions. -/
import Derived.Test.YtbolmekdbeincaaActs
namespace Go.Proofs.Ytbolmekdbeincaa.M
open Go Go.RowKit
set_option linter.unusedVariables false
set_option linter.unusedSimpArgs false
def rtabO (t : List RowV) : Obj := .cells (t.flatMap rowCells).toArray 45 (0, 0)
theorem rrow_cells {b : Nat} {t : List RowV} {w : World} (h : w.heap[b]? = some (rtabO t)) (i : Nat) (hi : i < t.length) :
    w.cell? ⟨b, i * 6, none⟩ = some (.int .i64 t[i].known) ∧ w.cell? ⟨b, i * 6 + 1, none⟩ = some (.int .i64 t[i].err) ∧ w.cell? ⟨b, i * 6 + 2, none⟩ = some (.int .i64 t[i].saga) ∧
    w.cell? ⟨b, i * 6 + 3, none⟩ = some (.int .i64 t[i].state) ∧ w.cell? ⟨b, i * 6 + 4, none⟩ = some (.int .i64 t[i].step) ∧ w.cell? ⟨b, i * 6 + 5, none⟩ = some (.int .i64 t[i].wait) := by
  have key : ∀ j, j < 6 → w.cell? ⟨b, i * 6 + j, none⟩ = (rowCells t[i])[j]? := fun j hj => by
    rw [blk_cell h]
    have := flat_get rowCells 6 rowCells_len t i hi j hj
    rw [← this, List.getElem?_toArray]
  exact ⟨key 0 (by omega), key 1 (by omega), key 2 (by omega), key 3 (by omega), key 4 (by omega), key 5 (by omega)⟩
theorem rtab_set {t : List RowV} (i : Nat) (hi : i < t.length) (j : Nat) (hj : j < 6) (v : Value) (r : RowV) (hr : rowCells r = (rowCells t[i]).set j v) :
    (Obj.cells ((t.flatMap rowCells).toArray.setIfInBounds (i * 6 + j) v) 45 (0, 0)) = rtabO (t.set i r) := by
  unfold rtabO
  congr 1
  rw [← flat_set rowCells 6 rowCells_len t i hi j hj v r hr, List.setIfInBounds_toArray]
theorem Turned.rset {w w' : World} {b : Nat} {t : List RowV} (h : Turned w w' b (rtabO t)) (i : Nat) (hi : i < t.length) (j : Nat) (hj : j < 6) (v : Value) (r : RowV) (hr : rowCells r = (rowCells t[i]).set j v) :
    Turned w (w'.setCell ⟨b, i * 6 + j, none⟩ v) b (rtabO (t.set i r)) :=
  ⟨h.only.trans (only_set _ _ _ _), by rw [← rtab_set i hi j hj v r hr]; exact blk_set h.at_ _ _⟩
theorem rturned_reply {w : World} {b : Nat} {t : List RowV} (h : w.heap[b]? = some (rtabO t)) (i : Nat) (hi : i < t.length) (q e1 e2 e3 e4 : Int) :
    Turned w (((((w.setCell ⟨b, i * 6, none⟩ (.int .i64 q)).setCell ⟨b, i * 6 + 1, none⟩ (.int .i64 e1)).setCell ⟨b, i * 6 + 1 + 1, none⟩ (.int .i64 e2)).setCell ⟨b, i * 6 + 1 + 2, none⟩ (.int .i64 e3)).setCell ⟨b, i * 6 + 1 + 3, none⟩ (.int .i64 e4))
      b (rtabO (t.set i ⟨q, e1, e2, e3, e4, t[i].wait⟩)) := by
  have s0 := (Turned.self (Below.refl _ _) h).rset i hi 0 (by omega) (.int .i64 q) { t[i] with known := q } rfl
  have s1 := s0.rset i (by simpa using hi) 1 (by omega) (.int .i64 e1) ⟨q, e1, t[i].saga, t[i].state, t[i].step, t[i].wait⟩ (by rw [List.getElem_set_self]; rfl)
  have s2 := s1.rset i (by simpa using hi) 2 (by omega) (.int .i64 e2) ⟨q, e1, e2, t[i].state, t[i].step, t[i].wait⟩ (by rw [List.getElem_set_self]; rfl)
  have s3 := s2.rset i (by simpa using hi) 3 (by omega) (.int .i64 e3) ⟨q, e1, e2, e3, t[i].step, t[i].wait⟩ (by rw [List.getElem_set_self]; rfl)
  have s4 := s3.rset i (by simpa using hi) 4 (by omega) (.int .i64 e4) ⟨q, e1, e2, e3, e4, t[i].wait⟩ (by rw [List.getElem_set_self]; rfl)
  simp only [List.set_set] at s4
  exact s4
theorem is_in {w : World} (i : Nat) (hi : i < 4) : Calls Try.prog 26 #[.int .i64 ((i : Int) + 1)] w fun e w' => e = .returned (.bool true) ∧ w = w' := by
  go_enter Try.func26, Try.ntmps26
  go_wp2
  all_goals go_ret
  all_goals exact ⟨by first | rfl | (congr 2; simp; omega), rfl⟩
theorem is_out {w : World} (c : Int) (hc : ¬ inC c) : Calls Try.prog 26 #[.int .i64 c] w fun e w' => e = .returned (.bool false) ∧ w = w' := by
  have hc' : c < 1 ∨ 4 < c := by unfold inC at hc; omega
  rcases hc' with h | h
  all_goals
    go_enter Try.func26, Try.ntmps26
    go_wp2
    all_goals go_ret
    all_goals exact ⟨by first | rfl | (congr 2; simp; omega), rfl⟩
theorem rDone_any {b : Nat} {t : List RowV} {w : World} (h : w.heap[b]? = some (rtabO t)) (ht : t.length = 4) (c : Int) :
    Calls Try.prog 22 #[.pointer (some ⟨b, 0, none⟩), .int .i64 c] w fun e w' => e = .returned (.int .i64 (rowT t c).known) ∧ w = w' := by
  by_cases hc : inC c
  · obtain ⟨i, rfl, hi⟩ := in_nat hc
    rw [rowT_in t i hi]
    obtain ⟨c0, c1, c2, c3, c4, c5⟩ := rrow_cells h i (by omega)
    have hb := blk_lt h
    have H := Lib.hid h
    have e0 : t.getD i zeroR = t[i] := by simp [List.getD, ht, hi]
    rw [e0]
    clear e0
    generalize t[i] = r at c0 c1 c2 c3 c4 c5 ⊢
    clear h ht hc
    go_enter Try.func22, Try.ntmps22
    go_wp2_with (go_at_call 26; ((with_reducible refine (is_in i hi).mono ?_); rintro e w' ⟨rfl, rfl⟩))
    go_ret
    exact ⟨rfl, rfl⟩
  · rw [rowT_out t c hc]
    go_enter Try.func22, Try.ntmps22
    go_wp2_with (go_at_call 26; ((with_reducible refine (is_out c hc).mono ?_); rintro e w' ⟨rfl, rfl⟩))
    go_ret
    exact ⟨rfl, rfl⟩
theorem lastR_wait (r : RowV) (h : r.wait > r.known) : lastR r = r.wait := by unfold lastR; omega
theorem lastR_known (r : RowV) (h : ¬ r.wait > r.known) : lastR r = r.known := by unfold lastR; omega
theorem rLast_any {b : Nat} {t : List RowV} {w : World} (h : w.heap[b]? = some (rtabO t)) (ht : t.length = 4) (c : Int) :
    Calls Try.prog 21 #[.pointer (some ⟨b, 0, none⟩), .int .i64 c] w fun e w' => e = .returned (.int .i64 (lastR (rowT t c))) ∧ Below w.heap.size w w' := by
  by_cases hc : inC c
  · obtain ⟨i, rfl, hi⟩ := in_nat hc
    rw [rowT_in t i hi]
    obtain ⟨c0, c1, c2, c3, c4, c5⟩ := rrow_cells h i (by omega)
    have hb := blk_lt h
    have H := Lib.hid h
    have e0 : t.getD i zeroR = t[i] := by simp [List.getD, ht, hi]
    rw [e0]
    clear e0
    generalize t[i] = r at c0 c1 c2 c3 c4 c5 ⊢
    clear h ht hc
    by_cases hw : r.wait > r.known
    · rw [lastR_wait r hw]
      go_enter Try.func21, Try.ntmps21
      go_wp2_with (go_at_call 26; ((with_reducible refine (is_in i hi).mono ?_); rintro e w' ⟨rfl, rfl⟩))
      go_ret
      exact ⟨rfl, by go_grown⟩
    · rw [lastR_known r hw]
      go_enter Try.func21, Try.ntmps21
      go_wp2_with (go_at_call 26; ((with_reducible refine (is_in i hi).mono ?_); rintro e w' ⟨rfl, rfl⟩))
      go_ret
      exact ⟨rfl, by go_grown⟩
  · rw [rowT_out t c hc]
    go_enter Try.func21, Try.ntmps21
    go_wp2_with (go_at_call 26; ((with_reducible refine (is_out c hc).mono ?_); rintro e w' ⟨rfl, rfl⟩))
    go_ret
    exact ⟨rfl, Below.refl _ _⟩
theorem rLast_x {b : Nat} {t : List RowV} {w : World} (h : w.heap[b]? = some (rtabO t)) (ht : t.length = 4) (i : Nat) (hi : i < 4) :
    Calls Try.prog 21 #[.pointer (some ⟨b, 0, none⟩), .int .i64 ((i : Int) + 1)] w fun e w' => e = .returned (.int .i64 (lastR (t.getD i zeroR))) ∧ w.alloc (.cells (rowCells (t.getD i zeroR)).toArray 42) = w' := by
  obtain ⟨c0, c1, c2, c3, c4, c5⟩ := rrow_cells h i (by omega)
  have hb := blk_lt h
  have e0 : t.getD i zeroR = t[i] := by simp [List.getD, ht, hi]
  rw [e0]
  clear e0
  generalize t[i] = r at c0 c1 c2 c3 c4 c5 ⊢
  clear h ht
  by_cases hw : r.wait > r.known
  · rw [lastR_wait r hw]
    go_enter Try.func21, Try.ntmps21
    go_wp2_with (go_at_call 26; ((with_reducible refine (is_in i hi).mono ?_); rintro e w' ⟨rfl, rfl⟩))
    go_ret
    exact ⟨rfl, rfl⟩
  · rw [lastR_known r hw]
    go_enter Try.func21, Try.ntmps21
    go_wp2_with (go_at_call 26; ((with_reducible refine (is_in i hi).mono ?_); rintro e w' ⟨rfl, rfl⟩))
    go_ret
    exact ⟨rfl, rfl⟩
set_option maxRecDepth 100000 in
set_option maxHeartbeats 1000000 in
theorem rAsk_any {b : Nat} {t : List RowV} {w : World} (h : w.heap[b]? = some (rtabO t)) (ht : t.length = 4) (c q : Int) :
    Calls Try.prog 20 #[.pointer (some ⟨b, 0, none⟩), .int .i64 c, .int .i64 q] w fun e w' => e = .returned (.tuple #[.int .i64 (askT (rowT t c) (decide (inC c)) q).1, replyV (askT (rowT t c) (decide (inC c)) q).2]) ∧ Below w.heap.size w w' := by
  by_cases hc : inC c
  · rw [decide_eq_true hc]
    obtain ⟨i, rfl, hi⟩ := in_nat hc
    rw [rowT_in t i hi]
    obtain ⟨c0, c1, c2, c3, c4, c5⟩ := rrow_cells h i (by omega)
    have hb := blk_lt h
    have H := Lib.hid h
    have e0 : t.getD i zeroR = t[i] := by simp [List.getD, ht, hi]
    have E0 := Lib.hid e0
    have E1 : Hid ((rowT t ((i : Int) + 1)) = t[i]) := show _ = _ by rw [rowT_in t i hi, e0]
    rw [e0]
    clear e0
    generalize t[i] = r at c0 c1 c2 c3 c4 c5 E0 E1 ⊢
    clear h hc
    have NE : b ≠ w.heap.size := by omega
    by_cases hq : q < 1
    · rw [askT_out r true q (.inr hq)]
      go_enter Try.func20, Try.ntmps20
      go_wp2_with (first
              | (go_at_call 26; ((with_reducible refine (is_in i hi).mono ?_); rintro e w' ⟨rfl, rfl⟩))
              | (go_at_call 22; ((with_reducible refine (rDone_any (keep_alloc _ H.out) ht ((i : Int) + 1)).mono ?_); rintro e w' ⟨rfl, rfl⟩; rw [E1.out]))
              | (go_at_call 21; ((with_reducible refine (rLast_x (keep_alloc _ H.out) ht i hi).mono ?_); rintro e w' ⟨rfl, rfl⟩; rw [E0.out]))
              | (go_at_call 21; ((with_reducible refine (rLast_x (keep_alloc _ (keep_alloc _ H.out)) ht i hi).mono ?_); rintro e w' ⟨rfl, rfl⟩; rw [E0.out])))
      all_goals go_returns
      all_goals exact ⟨rfl, by go_grown⟩
    · by_cases h1 : q = r.known
      · rw [askT_known r q hq h1]
        have b1 : (q == r.known) = true := by simpa using h1
        clear h1
        go_enter Try.func20, Try.ntmps20
        go_wp2_with (first
                | (go_at_call 26; ((with_reducible refine (is_in i hi).mono ?_); rintro e w' ⟨rfl, rfl⟩))
                | (go_at_call 22; ((with_reducible refine (rDone_any (keep_alloc _ H.out) ht ((i : Int) + 1)).mono ?_); rintro e w' ⟨rfl, rfl⟩; rw [E1.out]))
                | (go_at_call 21; ((with_reducible refine (rLast_x (keep_alloc _ H.out) ht i hi).mono ?_); rintro e w' ⟨rfl, rfl⟩; rw [E0.out]))
                | (go_at_call 21; ((with_reducible refine (rLast_x (keep_alloc _ (keep_alloc _ H.out)) ht i hi).mono ?_); rintro e w' ⟨rfl, rfl⟩; rw [E0.out])))
        go_region
        all_goals go_wp2
        all_goals go_returns
        all_goals exact ⟨rfl, by go_grown⟩
      · have b1 : (q == r.known) = false := by simpa using h1
        by_cases h2 : q = lastR r
        · rw [askT_wait r q hq h1 (by omega) h2]
          have b2 : (q == lastR r) = true := by simpa using h2
          clear h1 h2
          go_enter Try.func20, Try.ntmps20
          go_wp2_with (first
                  | (go_at_call 26; ((with_reducible refine (is_in i hi).mono ?_); rintro e w' ⟨rfl, rfl⟩))
                  | (go_at_call 22; ((with_reducible refine (rDone_any (keep_alloc _ H.out) ht ((i : Int) + 1)).mono ?_); rintro e w' ⟨rfl, rfl⟩; rw [E1.out]))
                  | (go_at_call 21; ((with_reducible refine (rLast_x (keep_alloc _ H.out) ht i hi).mono ?_); rintro e w' ⟨rfl, rfl⟩; rw [E0.out]))
                  | (go_at_call 21; ((with_reducible refine (rLast_x (keep_alloc _ (keep_alloc _ H.out)) ht i hi).mono ?_); rintro e w' ⟨rfl, rfl⟩; rw [E0.out])))
          all_goals go_returns
          all_goals exact ⟨rfl, by go_grown⟩
        · have b2 : (q == lastR r) = false := by simpa using h2
          by_cases h3 : q > lastR r
          · rw [askT_new r q hq h1 h3]
            clear h1 h2
            go_enter Try.func20, Try.ntmps20
            go_wp2_with (first
                    | (go_at_call 26; ((with_reducible refine (is_in i hi).mono ?_); rintro e w' ⟨rfl, rfl⟩))
                    | (go_at_call 22; ((with_reducible refine (rDone_any (keep_alloc _ H.out) ht ((i : Int) + 1)).mono ?_); rintro e w' ⟨rfl, rfl⟩; rw [E1.out]))
                    | (go_at_call 21; ((with_reducible refine (rLast_x (keep_alloc _ H.out) ht i hi).mono ?_); rintro e w' ⟨rfl, rfl⟩; rw [E0.out]))
                    | (go_at_call 21; ((with_reducible refine (rLast_x (keep_alloc _ (keep_alloc _ H.out)) ht i hi).mono ?_); rintro e w' ⟨rfl, rfl⟩; rw [E0.out])))
            all_goals go_returns
            all_goals exact ⟨rfl, by go_grown⟩
          · rw [askT_old r q hq h1 h3 h2]
            clear h1 h2
            go_enter Try.func20, Try.ntmps20
            go_wp2_with (first
                    | (go_at_call 26; ((with_reducible refine (is_in i hi).mono ?_); rintro e w' ⟨rfl, rfl⟩))
                    | (go_at_call 22; ((with_reducible refine (rDone_any (keep_alloc _ H.out) ht ((i : Int) + 1)).mono ?_); rintro e w' ⟨rfl, rfl⟩; rw [E1.out]))
                    | (go_at_call 21; ((with_reducible refine (rLast_x (keep_alloc _ H.out) ht i hi).mono ?_); rintro e w' ⟨rfl, rfl⟩; rw [E0.out]))
                    | (go_at_call 21; ((with_reducible refine (rLast_x (keep_alloc _ (keep_alloc _ H.out)) ht i hi).mono ?_); rintro e w' ⟨rfl, rfl⟩; rw [E0.out])))
            all_goals go_returns
            all_goals exact ⟨rfl, by go_grown⟩
  · rw [decide_eq_false hc, rowT_out t c hc, askT_out _ _ _ (.inl rfl)]
    go_enter Try.func20, Try.ntmps20
    go_wp2_with (go_at_call 26; ((with_reducible refine (is_out c hc).mono ?_); rintro e w' ⟨rfl, rfl⟩))
    go_returns
    exact ⟨rfl, by go_grown⟩
set_option maxRecDepth 100000 in
theorem rStart_any {b : Nat} {t : List RowV} {w : World} (h : w.heap[b]? = some (rtabO t)) (ht : t.length = 4) (c q : Int) :
    Calls Try.prog 17 #[.pointer (some ⟨b, 0, none⟩), .int .i64 c, .int .i64 q] w fun e w' => e = .returned (.int .i64 (startT t c q).1) ∧ Turned w w' b (rtabO (startT t c q).2) := by
  by_cases hc : inC c
  · obtain ⟨i, rfl, hi⟩ := in_nat hc
    have hr : rowT t ((i : Int) + 1) = t[i] := by rw [rowT_in t i hi]; simp [List.getD, ht, hi]
    obtain ⟨c0, c1, c2, c3, c4, c5⟩ := rrow_cells h i (by omega)
    have f5 : w.frozen? ⟨b, i * 6 + 5, none⟩ = false := blk_free h _
    have hb := blk_lt h
    have H := Lib.hid h
    have E0 : Hid (t.getD i zeroR = t[i]) := show _ = _ by simp [List.getD, ht, hi]
    have E1 := Lib.hid hr
    by_cases hq : q < 1
    · have E : startT t ((i : Int) + 1) q = (2, t) := by unfold startT; rw [if_pos (.inr hq)]
      rw [E]
      clear h E hr hc
      go_enter Try.func17, Try.ntmps17
      go_wp2_with (go_at_call 26; ((with_reducible refine (is_in i hi).mono ?_); rintro e w' ⟨rfl, rfl⟩))
      go_ret
      exact ⟨rfl, Turned.self (Below.refl _ _) H.out⟩
    · have ho : ¬ (¬ inC ((i : Int) + 1) ∨ q < 1) := by rintro (x | x); exact x hc; exact hq x
      by_cases hl : q ≤ lastR t[i]
      · have E : startT t ((i : Int) + 1) q = (10, t) := by unfold startT; rw [if_neg ho, hr, if_pos hl]
        rw [E]
        clear h E hr hc ho
        generalize t[i] = r at c0 c1 c2 c3 c4 c5 hl E0 E1
        go_enter Try.func17, Try.ntmps17
        go_wp2_with (first
        | (go_at_call 26; ((with_reducible refine (is_in i hi).mono ?_); rintro e w' ⟨rfl, rfl⟩))
        | (go_at_call 21; ((with_reducible refine (rLast_x H.out ht i hi).mono ?_); rintro e w' ⟨rfl, rfl⟩; rw [E0.out])))
        go_ret
        exact ⟨rfl, Turned.self (by go_grown) H.out⟩
      · have E : startT t ((i : Int) + 1) q = (0, t.set i { t[i] with wait := q }) := by unfold startT; rw [if_neg ho, hr, if_neg hl, setT_nat]
        rw [E]
        have HK : Hid (∀ w1 : World, Below w.heap.size w w1 → Turned w (w1.setCell ⟨b, i * 6 + 5, none⟩ (.int .i64 q)) b (rtabO (t.set i { t[i] with wait := q }))) :=
          fun w1 hw => (Turned.self hw H.out).rset i (by omega) 5 (by omega) _ _ rfl
        clear h E hr hc ho
        generalize t.set i { t[i] with wait := q } = t' at HK ⊢
        generalize t[i] = r at c0 c1 c2 c3 c4 c5 hl E0 E1
        go_enter Try.func17, Try.ntmps17
        go_wp2_with (first
        | (go_at_call 26; ((with_reducible refine (is_in i hi).mono ?_); rintro e w' ⟨rfl, rfl⟩))
        | (go_at_call 21; ((with_reducible refine (rLast_x H.out ht i hi).mono ?_); rintro e w' ⟨rfl, rfl⟩; rw [E0.out])))
        go_ret
        exact ⟨rfl, (HK.out _ (Below.refl _ _)).alloc _⟩
  · have E : startT t c q = (2, t) := by unfold startT; rw [if_pos (.inl hc)]
    rw [E]
    go_enter Try.func17, Try.ntmps17
    go_wp2_with (go_at_call 26; ((with_reducible refine (is_out c hc).mono ?_); rintro e w' ⟨rfl, rfl⟩))
    go_ret
    exact ⟨rfl, Turned.self (Below.refl _ _) h⟩
set_option maxRecDepth 100000 in
set_option maxHeartbeats 1000000 in
theorem rFinish_any {b : Nat} {t : List RowV} {w : World} (h : w.heap[b]? = some (rtabO t)) (ht : t.length = 4) (c q e1 e2 e3 e4 : Int) :
    Calls Try.prog 18 #[.pointer (some ⟨b, 0, none⟩), .int .i64 c, .int .i64 q, .agg #[.int .i64 e1, .int .i64 e2, .int .i64 e3, .int .i64 e4]] w fun e w' =>
      e = .returned (.int .i64 (finishT t c q e1 e2 e3 e4).1) ∧ Turned w w' b (rtabO (finishT t c q e1 e2 e3 e4).2) := by
  by_cases hc : inC c
  · obtain ⟨i, rfl, hi⟩ := in_nat hc
    have hr : rowT t ((i : Int) + 1) = t[i] := by rw [rowT_in t i hi]; simp [List.getD, ht, hi]
    obtain ⟨c0, c1, c2, c3, c4, c5⟩ := rrow_cells h i (by omega)
    have f0 : w.frozen? ⟨b, i * 6, none⟩ = false := blk_free h _
    have f1 : w.frozen? ⟨b, i * 6 + 1, none⟩ = false := blk_free h _
    have f2 : w.frozen? ⟨b, i * 6 + 2, none⟩ = false := blk_free h _
    have f3 : w.frozen? ⟨b, i * 6 + 3, none⟩ = false := blk_free h _
    have f4 : w.frozen? ⟨b, i * 6 + 4, none⟩ = false := blk_free h _
    have hb := blk_lt h
    have H := Lib.hid h
    have E1 := Lib.hid hr
    have NE : b ≠ w.heap.size := by omega
    by_cases hq : q < 1
    · have E : finishT t ((i : Int) + 1) q e1 e2 e3 e4 = (2, t) := by unfold finishT; rw [if_pos (.inr hq)]
      rw [E]
      clear h E hr hc
      go_enter Try.func18, Try.ntmps18
      go_wp2_with (go_at_call 26; ((with_reducible refine (is_in i hi).mono ?_); rintro e w' ⟨rfl, rfl⟩))
      go_ret
      exact ⟨rfl, (Turned.self (Below.refl _ _) H.out).alloc _⟩
    · have ho : ¬ (¬ inC ((i : Int) + 1) ∨ q < 1) := by rintro (x | x); exact x hc; exact hq x
      by_cases h1 : q < t[i].known
      · have E : finishT t ((i : Int) + 1) q e1 e2 e3 e4 = (10, t) := by unfold finishT; rw [if_neg ho, hr, if_pos h1]
        rw [E]
        clear h E hr hc ho
        generalize t[i] = r at c0 c1 c2 c3 c4 c5 h1 E1
        go_enter Try.func18, Try.ntmps18
        go_wp2_with (first
        | (go_at_call 26; ((with_reducible refine (is_in i hi).mono ?_); rintro e w' ⟨rfl, rfl⟩))
        | (go_at_call 22; ((with_reducible refine (rDone_any (keep_alloc _ H.out) ht ((i : Int) + 1)).mono ?_); rintro e w' ⟨rfl, rfl⟩; rw [E1.out])))
        go_ret
        exact ⟨rfl, (Turned.self (Below.refl _ _) H.out).alloc _⟩
      · by_cases h2 : q = t[i].known
        · have E : finishT t ((i : Int) + 1) q e1 e2 e3 e4 = (9, t) := by unfold finishT; rw [if_neg ho, hr, if_neg h1, if_pos h2]
          rw [E]
          have b2 : (q == t[i].known) = true := by simpa using h2
          clear h E hr hc ho h2
          generalize t[i] = r at c0 c1 c2 c3 c4 c5 h1 E1 b2
          go_enter Try.func18, Try.ntmps18
          go_wp2_with (first
        | (go_at_call 26; ((with_reducible refine (is_in i hi).mono ?_); rintro e w' ⟨rfl, rfl⟩))
        | (go_at_call 22; ((with_reducible refine (rDone_any (keep_alloc _ H.out) ht ((i : Int) + 1)).mono ?_); rintro e w' ⟨rfl, rfl⟩; rw [E1.out])))
          go_ret
          exact ⟨rfl, (Turned.self (Below.refl _ _) H.out).alloc _⟩
        · have E : finishT t ((i : Int) + 1) q e1 e2 e3 e4 = (0, t.set i ⟨q, e1, e2, e3, e4, t[i].wait⟩) := by unfold finishT; rw [if_neg ho, hr, if_neg h1, if_neg h2, setT_nat]
          rw [E]
          have b2 : (q == t[i].known) = false := by simpa using h2
          have T : Hid _ := rturned_reply H.out i (by omega) q e1 e2 e3 e4
          clear h E hr hc ho h2
          generalize t.set i ⟨q, e1, e2, e3, e4, t[i].wait⟩ = t' at T ⊢
          generalize t[i] = r at c0 c1 c2 c3 c4 c5 h1 E1 b2
          go_enter Try.func18, Try.ntmps18
          go_wp2_with (first
        | (go_at_call 26; ((with_reducible refine (is_in i hi).mono ?_); rintro e w' ⟨rfl, rfl⟩))
        | (go_at_call 22; ((with_reducible refine (rDone_any (keep_alloc _ H.out) ht ((i : Int) + 1)).mono ?_); rintro e w' ⟨rfl, rfl⟩; rw [E1.out])))
          go_region
          all_goals go_wp2
          all_goals go_ret
          all_goals exact ⟨rfl, (T.out.alloc _).drew⟩
  · have E : finishT t c q e1 e2 e3 e4 = (2, t) := by unfold finishT; rw [if_pos (.inl hc)]
    rw [E]
    go_enter Try.func18, Try.ntmps18
    go_wp2_with (go_at_call 26; ((with_reducible refine (is_out c hc).mono ?_); rintro e w' ⟨rfl, rfl⟩))
    go_ret
    exact ⟨rfl, (Turned.self (Below.refl _ _) h).alloc _⟩
theorem rForget_any {b : Nat} {t : List RowV} (ht : t.length = 4) {w : World} (h : w.heap[b]? = some (rtabO t)) :
    Calls Try.prog 19 #[.pointer (some ⟨b, 0, none⟩)] w fun e w' => e = .returned (.tuple #[]) ∧ Turned w w' b (rtabO (forgetT t)) := by
  have H := Lib.hid h
  have HT := Lib.hid ht
  clear h ht
  go_enter Try.func19, Try.ntmps19
  go_wp2
  go_loopw [3] (fun i wr => ∃ k : Nat, k ≤ 4 ∧ i = .int .i64 k ∧ Hid (Turned w wr b (rtabO (midT t k)))) (fun i _ => (4 - intOf i).toNat)
  case atStart => exact ⟨0, by omega, rfl, Turned.self (Below.refl _ _) H.out⟩
  case round =>
    obtain ⟨k, hk, rfl, G⟩ := hrel
    by_cases hk4 : k < 4
    · have hkt : k < t.length := by rw [HT.out]; exact hk4
      have hm : k < (midT t k).length := by rw [midT_len]; exact hkt
      have G1 : Hid (Turned w (wr.setCell ⟨b, k * 6 + 5, none⟩ (.int .i64 0)) b (rtabO (midT t (k + 1)))) := by
        rw [midT_succ t k hkt]
        exact G.out.rset k hm 5 (by omega) _ _ (by rw [midT_get t k hkt]; rfl)
      obtain ⟨c0, c1, c2, c3, c4, c5⟩ := rrow_cells G.out.at_ k hm
      have f5 : wr.frozen? ⟨b, k * 6 + 5, none⟩ = false := blk_free G.out.at_ _
      generalize (midT t k)[k] = z at c0 c1 c2 c3 c4 c5
      clear hm hkt
      go_wp2
      go_roundw
      case rel => exact ⟨k + 1, by omega, by go_num, G1⟩
      case measure => simp [intOf]; omega
    · obtain rfl : k = 4 := by omega
      go_wp2
      go_end0
      refine ⟨rfl, ?_⟩
      have g := G.out
      have e : midT t 4 = forgetT t := by unfold midT forgetT; rw [List.take_of_length_le (by have := HT.out; omega), List.drop_eq_nil_of_le (by have := HT.out; omega), List.append_nil]
      rw [e] at g
      exact g
end Go.Proofs.Ytbolmekdbeincaa.M
