/- Layer 7 (table): Make, Start, Finish, Forget, Copy. -/
import Derived.Test.YtbolmekdbeincaaAsk
namespace Go.Proofs.Ytbolmekdbeincaa.M
open Go Go.RowKit
set_option linter.unusedVariables false
set_option linter.unusedSimpArgs false
def tab0 : List RowV := [zeroR, zeroR, zeroR, zeroR]
theorem Make_any {w : World} : Calls Try.prog 9 #[] w fun e w' => e = .returned (.pointer (some ⟨w.heap.size, 0, none⟩)) ∧ w'.heap[w.heap.size]? = some (tabO true tab0) ∧ Below w.heap.size w w' := by
  go_enter Try.func9, Try.ntmps9
  go_wp2
  go_ret
  exact ⟨rfl, heap_alloc_new _ _, (Below.refl _ _).alloc (Nat.le_refl _) _⟩
theorem may_in {b : Nat} {t : List RowV} {w : World} (h : w.heap[b]? = some (tabO true t)) (i : Nat) (hi : i < 4) (q : Int) (hq : 1 ≤ q) :
    Calls Try.prog 25 #[.pointer (some ⟨b, 0, none⟩), .int .i64 ((i : Int) + 1), .int .i64 q] w fun e w' => e = .returned (.tuple #[.pointer (some ⟨b, 1 + i * 6, none⟩), .int .i64 0]) ∧ w = w' := by
  have c0 : w.cell? ⟨b, 0, none⟩ = some (.bool true) := (blk_cell h 0).trans rfl
  have H := Lib.hid h
  go_enter Try.func25, Try.ntmps25
  go_wp2_with (go_at_call 23; ((with_reducible refine (row_in H.out i hi).mono ?_); rintro e w' ⟨rfl, rfl⟩))
  go_ret2
  exact ⟨rfl, rfl⟩
theorem may_arg {b : Nat} {t : List RowV} {w : World} (h : w.heap[b]? = some (tabO true t)) (c q : Int) (hq : ¬ inC c ∨ q < 1) :
    Calls Try.prog 25 #[.pointer (some ⟨b, 0, none⟩), .int .i64 c, .int .i64 q] w fun e w' => e = .returned (.tuple #[.pointer none, .int .i64 2]) ∧ w = w' := by
  have c0 : w.cell? ⟨b, 0, none⟩ = some (.bool true) := (blk_cell h 0).trans rfl
  have H := Lib.hid h
  by_cases hc : inC c
  · have hq1 : q < 1 := by rcases hq with hq | hq; exact absurd hc hq; exact hq
    obtain ⟨i, rfl, hi⟩ := in_nat hc
    clear hc hq
    go_enter Try.func25, Try.ntmps25
    go_wp2_with (go_at_call 23; ((with_reducible refine (row_in H.out i hi).mono ?_); rintro e w' ⟨rfl, rfl⟩))
    go_ret2
    exact ⟨rfl, rfl⟩
  · have ho : true = false ∨ c < 1 ∨ 4 < c := by unfold inC at hc; omega
    clear hc hq
    go_enter Try.func25, Try.ntmps25
    go_wp2_with (go_at_call 23; ((with_reducible refine (row_out H.out c ho).mono ?_); rintro e w' ⟨rfl, rfl⟩))
    go_ret2
    exact ⟨rfl, rfl⟩
def setT (t : List RowV) (c : Int) (r : RowV) : List RowV := t.set (c - 1).toNat r
theorem setT_nat (t : List RowV) (i : Nat) (r : RowV) : setT t ((i : Int) + 1) r = t.set i r := by unfold setT; congr 1; omega
theorem setT_len (t : List RowV) (c : Int) (r : RowV) : (setT t c r).length = t.length := by simp [setT]
def startT (t : List RowV) (c q : Int) : Int × List RowV :=
  if ¬ inC c ∨ q < 1 then (2, t) else if q ≤ lastR (rowT t c) then (10, t) else (0, setT t c { rowT t c with wait := q })
def finishT (t : List RowV) (c q e1 e2 e3 e4 : Int) : Int × List RowV :=
  if ¬ inC c ∨ q < 1 then (2, t) else if q < (rowT t c).known then (10, t) else if q = (rowT t c).known then (9, t) else (0, setT t c ⟨q, e1, e2, e3, e4, (rowT t c).wait⟩)
/-- what a call that turns the table at b leaves -/
structure Turned (w w' : World) (b : Nat) (o : Obj) : Prop where
  only : Only (· = b) w w'
  at_ : w'.heap[b]? = some o
theorem Turned.self {w w' : World} {b : Nat} {o : Obj} (h : Below w.heap.size w w') (hb : w.heap[b]? = some o) : Turned w w' b o := ⟨only_of_new h _, keep_below h hb (blk_lt hb)⟩
theorem Turned.set {w w' : World} {b : Nat} {is : Bool} {t : List RowV} (h : Turned w w' b (tabO is t)) (i : Nat) (hi : i < t.length) (j : Nat) (hj : j < 6) (v : Value) (r : RowV) (hr : rowCells r = (rowCells t[i]).set j v) :
    Turned w (w'.setCell ⟨b, 1 + i * 6 + j, none⟩ v) b (tabO is (t.set i r)) :=
  ⟨h.only.trans (only_set _ _ _ _), by rw [← tab_set i hi j hj v r hr]; exact blk_set h.at_ _ _⟩
theorem Turned.new {w w' w'' : World} {b : Nat} {o : Obj} (h : Turned w w' b o) (hb : Below w'.heap.size w' w'') : Turned w w'' b o := ⟨h.only.trans (only_of_new hb _), keep_below hb h.at_ (blk_lt h.at_)⟩
theorem Turned.alloc {w w' : World} {b : Nat} {o : Obj} (h : Turned w w' b o) (x : Obj) : Turned w (w'.alloc x) b o := h.new ((Below.refl _ _).alloc (Nat.le_refl _) _)
theorem Turned.drew {w w' : World} {b : Nat} {o : Obj} (h : Turned w w' b o) : Turned w w'.drew b o := ⟨h.only.drew, h.at_⟩
set_option maxRecDepth 100000 in
theorem Start_any {b : Nat} {t : List RowV} {w : World} (h : w.heap[b]? = some (tabO true t)) (ht : t.length = 4) (c q : Int) :
    Calls Try.prog 13 #[.pointer (some ⟨b, 0, none⟩), .int .i64 c, .int .i64 q] w fun e w' => e = .returned (.int .i64 (startT t c q).1) ∧ Turned w w' b (tabO true (startT t c q).2) := by
  by_cases ho : ¬ inC c ∨ q < 1
  · have E : startT t c q = (2, t) := by unfold startT; rw [if_pos ho]
    rw [E]
    have H := Lib.hid h
    clear h E
    go_enter Try.func13, Try.ntmps13
    go_wp2_with (go_at_call 25; ((with_reducible refine (may_arg H.out c q ho).mono ?_); rintro e w' ⟨rfl, rfl⟩))
    go_ret
    exact ⟨rfl, Turned.self (Below.refl _ _) H.out⟩
  · have hc : inC c := Decidable.byContradiction fun x => ho (.inl x)
    obtain ⟨i, rfl, hi⟩ := in_nat hc
    have hq : 1 ≤ q := Int.not_lt.1 fun x => ho (.inr x)
    have hr : rowT t ((i : Int) + 1) = t[i] := by rw [rowT_in t i hi]; simp [List.getD, ht, hi]
    obtain ⟨c0, c1, c2, c3, c4, c5⟩ := row_cells h i (by omega)
    have f5 : w.frozen? ⟨b, 1 + i * 6 + 5, none⟩ = false := blk_free h _
    have hb := blk_lt h
    have H := Lib.hid h
    by_cases hl : q ≤ lastR t[i]
    · have E : startT t ((i : Int) + 1) q = (10, t) := by unfold startT; rw [if_neg ho, hr, if_pos hl]
      rw [E]
      clear h E hr
      generalize t[i] = r at c0 c1 c2 c3 c4 c5 hl
      go_enter Try.func13, Try.ntmps13
      go_wp2_with (first
        | (go_at_call 25; ((with_reducible refine (may_in H.out i hi q hq).mono ?_); rintro e w' ⟨rfl, rfl⟩))
        | (go_at_call 24; ((refine (last_x r _ rfl).mono ?_); rintro e w2 ⟨rfl, rfl⟩)))
      go_ret
      exact ⟨rfl, Turned.self (by go_grown) H.out⟩
    · have E : startT t ((i : Int) + 1) q = (0, t.set i { t[i] with wait := q }) := by unfold startT; rw [if_neg ho, hr, if_neg hl, setT_nat]
      rw [E]
      have K : ∀ w1 : World, Below w.heap.size w w1 → Turned w (w1.setCell ⟨b, 1 + i * 6 + 5, none⟩ (.int .i64 q)) b (tabO true (t.set i { t[i] with wait := q })) :=
        fun w1 hw => (Turned.self hw H.out).set i (by omega) 5 (by omega) _ _ rfl
      have HK := Lib.hid K
      clear h E hr K
      generalize t.set i { t[i] with wait := q } = t' at HK ⊢
      generalize t[i] = r at c0 c1 c2 c3 c4 c5 hl
      go_enter Try.func13, Try.ntmps13
      go_wp2_with (first
        | (go_at_call 25; ((with_reducible refine (may_in H.out i hi q hq).mono ?_); rintro e w' ⟨rfl, rfl⟩))
        | (go_at_call 24; ((refine (last_x r _ rfl).mono ?_); rintro e w2 ⟨rfl, rfl⟩)))
      go_ret
      exact ⟨rfl, (HK.out _ (Below.refl _ _)).alloc _⟩
theorem turned_reply {w : World} {b : Nat} {is : Bool} {t : List RowV} (h : w.heap[b]? = some (tabO is t)) (i : Nat) (hi : i < t.length) (q e1 e2 e3 e4 : Int) :
    Turned w (((((w.setCell ⟨b, 1 + i * 6, none⟩ (.int .i64 q)).setCell ⟨b, 1 + i * 6 + 1, none⟩ (.int .i64 e1)).setCell ⟨b, 1 + i * 6 + 1 + 1, none⟩ (.int .i64 e2)).setCell ⟨b, 1 + i * 6 + 1 + 2, none⟩ (.int .i64 e3)).setCell ⟨b, 1 + i * 6 + 1 + 3, none⟩ (.int .i64 e4))
      b (tabO is (t.set i ⟨q, e1, e2, e3, e4, t[i].wait⟩)) := by
  have s0 := (Turned.self (Below.refl _ _) h).set i hi 0 (by omega) (.int .i64 q) { t[i] with known := q } rfl
  have s1 := s0.set i (by simpa using hi) 1 (by omega) (.int .i64 e1) ⟨q, e1, t[i].saga, t[i].state, t[i].step, t[i].wait⟩ (by rw [List.getElem_set_self]; rfl)
  have s2 := s1.set i (by simpa using hi) 2 (by omega) (.int .i64 e2) ⟨q, e1, e2, t[i].state, t[i].step, t[i].wait⟩ (by rw [List.getElem_set_self]; rfl)
  have s3 := s2.set i (by simpa using hi) 3 (by omega) (.int .i64 e3) ⟨q, e1, e2, e3, t[i].step, t[i].wait⟩ (by rw [List.getElem_set_self]; rfl)
  have s4 := s3.set i (by simpa using hi) 4 (by omega) (.int .i64 e4) ⟨q, e1, e2, e3, e4, t[i].wait⟩ (by rw [List.getElem_set_self]; rfl)
  simp only [List.set_set] at s4
  exact s4
set_option maxRecDepth 100000 in
theorem Finish_any {b : Nat} {t : List RowV} {w : World} (h : w.heap[b]? = some (tabO true t)) (ht : t.length = 4) (c q e1 e2 e3 e4 : Int) :
    Calls Try.prog 14 #[.pointer (some ⟨b, 0, none⟩), .int .i64 c, .int .i64 q, .agg #[.int .i64 e1, .int .i64 e2, .int .i64 e3, .int .i64 e4]] w fun e w' =>
      e = .returned (.int .i64 (finishT t c q e1 e2 e3 e4).1) ∧ Turned w w' b (tabO true (finishT t c q e1 e2 e3 e4).2) := by
  by_cases ho : ¬ inC c ∨ q < 1
  · have E : finishT t c q e1 e2 e3 e4 = (2, t) := by unfold finishT; rw [if_pos ho]
    rw [E]
    have H := Lib.hid h
    clear h E
    go_enter Try.func14, Try.ntmps14
    go_wp2_with (go_at_call 25; ((with_reducible refine (may_arg (keep_alloc _ H.out) c q ho).mono ?_); rintro e w' ⟨rfl, rfl⟩))
    go_ret
    exact ⟨rfl, (Turned.self (Below.refl _ _) H.out).alloc _⟩
  · have hc : inC c := Decidable.byContradiction fun x => ho (.inl x)
    obtain ⟨i, rfl, hi⟩ := in_nat hc
    have hq : 1 ≤ q := Int.not_lt.1 fun x => ho (.inr x)
    have hr : rowT t ((i : Int) + 1) = t[i] := by rw [rowT_in t i hi]; simp [List.getD, ht, hi]
    obtain ⟨c0, c1, c2, c3, c4, c5⟩ := row_cells h i (by omega)
    have f0 : w.frozen? ⟨b, 1 + i * 6, none⟩ = false := blk_free h _
    have f1 : w.frozen? ⟨b, 1 + i * 6 + 1, none⟩ = false := blk_free h _
    have f2 : w.frozen? ⟨b, 1 + i * 6 + 2, none⟩ = false := blk_free h _
    have f3 : w.frozen? ⟨b, 1 + i * 6 + 3, none⟩ = false := blk_free h _
    have f4 : w.frozen? ⟨b, 1 + i * 6 + 4, none⟩ = false := blk_free h _
    have hb := blk_lt h
    have H := Lib.hid h
    by_cases h1 : q < t[i].known
    · have E : finishT t ((i : Int) + 1) q e1 e2 e3 e4 = (10, t) := by unfold finishT; rw [if_neg ho, hr, if_pos h1]
      rw [E]
      clear h E hr
      generalize t[i] = r at c0 c1 c2 c3 c4 c5 h1
      go_enter Try.func14, Try.ntmps14
      go_wp2_with (go_at_call 25; ((with_reducible refine (may_in (keep_alloc _ H.out) i hi q hq).mono ?_); rintro e w' ⟨rfl, rfl⟩))
      go_ret
      exact ⟨rfl, (Turned.self (Below.refl _ _) H.out).alloc _⟩
    · by_cases h2 : q = t[i].known
      · have E : finishT t ((i : Int) + 1) q e1 e2 e3 e4 = (9, t) := by unfold finishT; rw [if_neg ho, hr, if_neg h1, if_pos h2]
        rw [E]
        clear h E hr
        have b2 : (q == t[i].known) = true := by simpa using h2
        clear h2
        generalize t[i] = r at c0 c1 c2 c3 c4 c5 h1 b2
        go_enter Try.func14, Try.ntmps14
        go_wp2_with (go_at_call 25; ((with_reducible refine (may_in (keep_alloc _ H.out) i hi q hq).mono ?_); rintro e w' ⟨rfl, rfl⟩))
        go_ret
        exact ⟨rfl, (Turned.self (Below.refl _ _) H.out).alloc _⟩
      · have E : finishT t ((i : Int) + 1) q e1 e2 e3 e4 = (0, t.set i ⟨q, e1, e2, e3, e4, t[i].wait⟩) := by unfold finishT; rw [if_neg ho, hr, if_neg h1, if_neg h2, setT_nat]
        rw [E]
        have b2 : (q == t[i].known) = false := by simpa using h2
        clear h2
        have NE : b ≠ w.heap.size := by omega
        clear h E hr
        go_enter Try.func14, Try.ntmps14
        go_wp2_with (go_at_call 25; ((with_reducible refine (may_in (keep_alloc _ H.out) i hi q hq).mono ?_); rintro e w' ⟨rfl, rfl⟩))
        go_region
        all_goals go_wp2
        all_goals go_ret
        all_goals exact ⟨rfl, ((turned_reply H.out i (by omega) q e1 e2 e3 e4).alloc _).drew⟩
/-! ### Forget -/
def forgetR (r : RowV) : RowV := { r with wait := 0 }
def forgetT (t : List RowV) : List RowV := t.map forgetR
def aggR (r : RowV) : Value := .agg (rowCells r).toArray
def midT (t : List RowV) (k : Nat) : List RowV := (t.take k).map forgetR ++ t.drop k
theorem midT_len (t : List RowV) (k : Nat) : (midT t k).length = t.length := by simp [midT]; omega
theorem midT_get (t : List RowV) (k : Nat) (hk : k < t.length) : (midT t k)[k]'(by rw [midT_len]; exact hk) = t[k] := by
  simp [midT, List.getElem_append, hk, Nat.min_eq_left (Nat.le_of_lt hk)]
theorem midT_succ (t : List RowV) (k : Nat) (hk : k < t.length) : midT t (k + 1) = (midT t k).set k (forgetR t[k]) := by
  unfold midT
  have hm : ((t.take k).map forgetR).length = k := by simp; omega
  rw [List.set_append, if_neg (by omega), hm, Nat.sub_self, List.drop_eq_getElem_cons hk, List.take_succ_eq_append_getElem hk, List.set_cons_zero, List.map_append, List.append_assoc]
  rfl
theorem midT_same (t : List RowV) (k : Nat) (hk : k < t.length) (h0 : t[k].wait = 0) : midT t (k + 1) = midT t k := by
  rw [midT_succ t k hk]
  have e : forgetR t[k] = (midT t k)[k]'(by rw [midT_len]; exact hk) := by
    rw [midT_get t k hk]; unfold forgetR; rw [← h0]
  rw [e, List.set_getElem_self]
theorem turned_row {w0 w : World} {b : Nat} {is : Bool} {t : List RowV} (h : Turned w0 w b (tabO is t)) (i : Nat) (hi : i < t.length) (x0 x1 x2 x3 x4 x5 : Int) :
    Turned w0 ((((((w.setCell ⟨b, 1 + i * 6, none⟩ (.int .i64 x0)).setCell ⟨b, 1 + i * 6 + 1, none⟩ (.int .i64 x1)).setCell ⟨b, 1 + i * 6 + 2, none⟩ (.int .i64 x2)).setCell ⟨b, 1 + i * 6 + 3, none⟩ (.int .i64 x3)).setCell ⟨b, 1 + i * 6 + 4, none⟩ (.int .i64 x4)).setCell ⟨b, 1 + i * 6 + 5, none⟩ (.int .i64 x5))
      b (tabO is (t.set i ⟨x0, x1, x2, x3, x4, x5⟩)) := by
  have s0 := h.set i hi 0 (by omega) (.int .i64 x0) { t[i] with known := x0 } rfl
  have s1 := s0.set i (by simpa using hi) 1 (by omega) (.int .i64 x1) ⟨x0, x1, t[i].saga, t[i].state, t[i].step, t[i].wait⟩ (by rw [List.getElem_set_self]; rfl)
  have s2 := s1.set i (by simpa using hi) 2 (by omega) (.int .i64 x2) ⟨x0, x1, x2, t[i].state, t[i].step, t[i].wait⟩ (by rw [List.getElem_set_self]; rfl)
  have s3 := s2.set i (by simpa using hi) 3 (by omega) (.int .i64 x3) ⟨x0, x1, x2, x3, t[i].step, t[i].wait⟩ (by rw [List.getElem_set_self]; rfl)
  have s4 := s3.set i (by simpa using hi) 4 (by omega) (.int .i64 x4) ⟨x0, x1, x2, x3, x4, t[i].wait⟩ (by rw [List.getElem_set_self]; rfl)
  have s5 := s4.set i (by simpa using hi) 5 (by omega) (.int .i64 x5) ⟨x0, x1, x2, x3, x4, x5⟩ (by rw [List.getElem_set_self]; rfl)
  simp only [List.set_set] at s5
  exact s5
theorem size_tab : (Try.prog.info? 50).map (·.size) = some 24 := by kernel_rfl
theorem size_row : (Try.prog.info? 49).map (·.size) = some 6 := by kernel_rfl
set_option maxRecDepth 100000 in
theorem Forget_any {b : Nat} {t : List RowV} (ht : t.length = 4) {w : World} (h : w.heap[b]? = some (tabO true t)) :
    Calls Try.prog 16 #[.pointer (some ⟨b, 0, none⟩)] w fun e w' => e = .returned (.tuple #[]) ∧ Turned w w' b (tabO true (forgetT t)) := by
  have H := Lib.hid h
  have hb := blk_lt h
  have HL : Hid ((t.flatMap rowCells).length = 24) := by show _ = _; rw [flat_len rowCells 6 rowCells_len, ht]
  have HC : Hid (∀ j v, (t.flatMap rowCells)[j]? = some v → w.cell? ⟨b, 1 + j, none⟩ = some v) := fun j v hv => by
    rw [blk_cell h, List.getElem?_toArray, Nat.add_comm, List.getElem?_cons_succ]; exact hv
  have HT := Lib.hid ht
  clear h ht
  go_enter Try.func16, Try.ntmps16
  go_wp2_with (with_reducible refine load_agg rfl 50 (.tmp 9) rfl _ Try.underlying50 rfl b 1 rfl (t.flatMap rowCells) (by rw [HL.out]; exact size_tab) HC.out ?_)
  go_loopw [11] (fun i wr => ∃ k : Nat, k ≤ 4 ∧ i = .int .i64 k ∧ Hid (Turned w wr b (tabO true (midT t k)))) (fun i _ => (4 - intOf i).toNat)
  case atStart => exact ⟨0, by omega, rfl, Turned.self (Below.refl _ _) H.out⟩
  case round =>
    obtain ⟨k, hk, rfl, G⟩ := hrel
    by_cases hk4 : k < 4
    · have hkt : k < t.length := by rw [HT.out]; exact hk4
      have hp := flat_part rowCells 6 rowCells_len t k hkt
      by_cases h0 : t[k].wait = 0
      · have G1 : Hid (Turned w wr b (tabO true (midT t (k + 1)))) := by rw [midT_same t k hkt h0]; exact G.out
        generalize t[k] = r at hp h0
        obtain ⟨r1, r2, r3, r4, r5, r6⟩ := r
        simp only at h0
        subst h0
        have HP : Hid (((t.flatMap rowCells).drop (k * 6)).take 6 = [.int .i64 r1, .int .i64 r2, .int .i64 r3, .int .i64 r4, .int .i64 r5, .int .i64 0]) := hp
        clear hp
        go_wp2_with (with_reducible refine index_agg rfl 50 (.tmp 10) (.tmp 11) rfl 4 49 Try.underlying50 _ Try.underlying49 rfl 6 size_row (t.flatMap rowCells) rfl .i64 k rfl hk4 _ HP.out ?_)
        go_wp2
        go_roundw
        case rel => exact ⟨k + 1, by omega, by go_num, (G1.out.alloc _).alloc _⟩
        case measure => simp [intOf]; omega
      · have G1 : Hid (∀ w2, Turned w w2 b (tabO true (midT t k)) → ∃ x0 x1 x2 x3 x4 x5, rowCells t[k] = [.int .i64 x0, .int .i64 x1, .int .i64 x2, .int .i64 x3, .int .i64 x4, .int .i64 x5]) := fun _ _ => ⟨_, _, _, _, _, _, rfl⟩
        have G2 : Hid (midT t (k + 1) = (midT t k).set k (forgetR t[k])) := midT_succ t k hkt
        have hm : k < (midT t k).length := by rw [midT_len]; exact hkt
        obtain ⟨c0, c1, c2, c3, c4, c5⟩ := row_cells G.out.at_ k hm
        have f0 : wr.frozen? ⟨b, 1 + k * 6, none⟩ = false := blk_free G.out.at_ _
        have f1 : wr.frozen? ⟨b, 1 + k * 6 + 1, none⟩ = false := blk_free G.out.at_ _
        have f2 : wr.frozen? ⟨b, 1 + k * 6 + 2, none⟩ = false := blk_free G.out.at_ _
        have f3 : wr.frozen? ⟨b, 1 + k * 6 + 3, none⟩ = false := blk_free G.out.at_ _
        have f4 : wr.frozen? ⟨b, 1 + k * 6 + 4, none⟩ = false := blk_free G.out.at_ _
        have f5 : wr.frozen? ⟨b, 1 + k * 6 + 5, none⟩ = false := blk_free G.out.at_ _
        have hbr : b < wr.heap.size := blk_lt G.out.at_
        have NE : b ≠ wr.heap.size := by omega
        have NE1 : b ≠ wr.heap.size + 1 := by omega
        generalize t[k] = r at hp h0 G2
        generalize (midT t k)[k] = z at c0 c1 c2 c3 c4 c5
        clear G1
        obtain ⟨r1, r2, r3, r4, r5, r6⟩ := r
        simp only at h0
        have HP : Hid (((t.flatMap rowCells).drop (k * 6)).take 6 = [.int .i64 r1, .int .i64 r2, .int .i64 r3, .int .i64 r4, .int .i64 r5, .int .i64 r6]) := hp
        have b6 : (0 == r6) = false := by simp; omega
        have hm' := Lib.hid hm
        clear hp h0 hm
        go_wp2_with (with_reducible refine index_agg rfl 50 (.tmp 10) (.tmp 11) rfl 4 49 Try.underlying50 _ Try.underlying49 rfl 6 size_row (t.flatMap rowCells) rfl .i64 k rfl hk4 _ HP.out ?_)
        go_wp2
        go_region
        all_goals go_wp2
        go_roundw
        case rel => exact ⟨k + 1, by omega, by go_num, by rw [G2.out]; exact (((turned_row G.out k hm'.out r1 r2 r3 r4 r5 0).alloc _).alloc _).drew⟩
        case measure => simp [intOf]; omega
    · obtain rfl : k = 4 := by omega
      go_wp2
      go_end0
      refine ⟨rfl, ?_⟩
      have g := G.out
      have e : midT t 4 = forgetT t := by unfold midT forgetT; rw [List.take_of_length_le (by have := HT.out; omega), List.drop_eq_nil_of_le (by have := HT.out; omega), List.append_nil]
      rw [e] at g
      exact g
set_option maxRecDepth 100000 in
theorem Copy_four {b : Nat} {r0 r1 r2 r3 : RowV} {w : World} (h : w.heap[b]? = some (tabO true [r0, r1, r2, r3])) :
    Calls Try.prog 15 #[.pointer (some ⟨b, 0, none⟩)] w fun e w' => e = .returned (.pointer (some ⟨w.heap.size, 0, none⟩)) ∧ w'.heap[w.heap.size]? = some (tabO true [r0, r1, r2, r3]) ∧ Below w.heap.size w w' := by
  have H := Lib.hid h
  have c0 : w.cell? ⟨b, 0, none⟩ = some (.bool true) := (blk_cell h 0).trans rfl
  have HC : Hid (∀ j v, ([.int .i64 r0.known, .int .i64 r0.err, .int .i64 r0.saga, .int .i64 r0.state, .int .i64 r0.step, .int .i64 r0.wait, .int .i64 r1.known, .int .i64 r1.err, .int .i64 r1.saga, .int .i64 r1.state, .int .i64 r1.step, .int .i64 r1.wait, .int .i64 r2.known, .int .i64 r2.err, .int .i64 r2.saga, .int .i64 r2.state, .int .i64 r2.step, .int .i64 r2.wait, .int .i64 r3.known, .int .i64 r3.err, .int .i64 r3.saga, .int .i64 r3.state, .int .i64 r3.step, .int .i64 r3.wait] : List Value)[j]? = some v → w.cell? ⟨b, 1 + j, none⟩ = some v) := fun j v hv => by
    rw [blk_cell h, List.getElem?_toArray, Nat.add_comm, List.getElem?_cons_succ]; exact hv
  have HS : Hid ((Try.prog.info? 50).map (·.size) = some ([.int .i64 r0.known, .int .i64 r0.err, .int .i64 r0.saga, .int .i64 r0.state, .int .i64 r0.step, .int .i64 r0.wait, .int .i64 r1.known, .int .i64 r1.err, .int .i64 r1.saga, .int .i64 r1.state, .int .i64 r1.step, .int .i64 r1.wait, .int .i64 r2.known, .int .i64 r2.err, .int .i64 r2.saga, .int .i64 r2.state, .int .i64 r2.step, .int .i64 r2.wait, .int .i64 r3.known, .int .i64 r3.err, .int .i64 r3.saga, .int .i64 r3.state, .int .i64 r3.step, .int .i64 r3.wait] : List Value).length) := size_tab
  clear h
  go_enter Try.func15, Try.ntmps15
  go_wp2_with (with_reducible refine load_agg rfl 50 (.tmp 15) rfl _ Try.underlying50 rfl b 1 rfl [.int .i64 r0.known, .int .i64 r0.err, .int .i64 r0.saga, .int .i64 r0.state, .int .i64 r0.step, .int .i64 r0.wait, .int .i64 r1.known, .int .i64 r1.err, .int .i64 r1.saga, .int .i64 r1.state, .int .i64 r1.step, .int .i64 r1.wait, .int .i64 r2.known, .int .i64 r2.err, .int .i64 r2.saga, .int .i64 r2.state, .int .i64 r2.step, .int .i64 r2.wait, .int .i64 r3.known, .int .i64 r3.err, .int .i64 r3.saga, .int .i64 r3.state, .int .i64 r3.step, .int .i64 r3.wait] HS.out HC.out ?_)
  go_ret
  exact ⟨rfl, heap_alloc_new _ _, (Below.refl _ _).alloc (Nat.le_refl _) _⟩
theorem four_of {t : List RowV} (h : t.length = 4) : ∃ r0 r1 r2 r3, t = [r0, r1, r2, r3] := by
  match t, h with
  | [r0, r1, r2, r3], _ => exact ⟨r0, r1, r2, r3, rfl⟩
theorem Copy_any {b : Nat} {t : List RowV} (ht : t.length = 4) {w : World} (h : w.heap[b]? = some (tabO true t)) :
    Calls Try.prog 15 #[.pointer (some ⟨b, 0, none⟩)] w fun e w' => e = .returned (.pointer (some ⟨w.heap.size, 0, none⟩)) ∧ w'.heap[w.heap.size]? = some (tabO true t) ∧ Below w.heap.size w w' := by
  obtain ⟨r0, r1, r2, r3, rfl⟩ := four_of ht
  exact Copy_four h
end Go.Proofs.Ytbolmekdbeincaa.M
