/- TableOnce: what the law computes. -/
import Derived.Test.YtbolmekdbeincaaTabW
import Derived.Test.YtbolmekdbeincaaStep
namespace Go.Proofs.Ytbolmekdbeincaa.M
open Go Go.RowKit
set_option linter.unusedVariables false
theorem start_new (t : List RowV) (ht : t.length = 4) {c q x k : Int} {t' : List RowV} {r : RowV} (hs : startT t c q = (x, t')) (ha : askT (rowT t c) (decide (inC c)) q = (k, r)) :
    (k = 1 → x = 0 ∧ lastR (rowT t' c) = q) ∧ (k ≠ 1 → x ≠ 0) ∧ (rowT t c).known ≤ (rowT t' c).known ∧ lastR (rowT t c) ≤ lastR (rowT t' c) := by
  unfold startT at hs
  by_cases ho : ¬ inC c ∨ q < 1
  · rw [if_pos ho] at hs
    obtain ⟨rfl, rfl⟩ := Prod.mk.inj hs
    rw [askT_out _ _ _ (by rcases ho with h | h; exact .inl (decide_eq_false h); exact .inr h)] at ha
    obtain ⟨rfl, rfl⟩ := Prod.mk.inj ha
    refine ⟨by omega, by omega, by omega, by omega⟩
  · rw [if_neg ho] at hs
    have hc : inC c := Decidable.byContradiction fun x => ho (.inl x)
    have hq : ¬ q < 1 := fun x => ho (.inr x)
    rw [decide_eq_true hc] at ha
    have hge := lastR_ge (rowT t c)
    by_cases hl : q ≤ lastR (rowT t c)
    · rw [if_pos hl] at hs
      obtain ⟨rfl, rfl⟩ := Prod.mk.inj hs
      have hk : k ≠ 1 := by
        by_cases h1 : q = (rowT t c).known
        · rw [askT_known _ q hq h1] at ha; obtain ⟨rfl, _⟩ := Prod.mk.inj ha; omega
        · by_cases h3 : q = lastR (rowT t c)
          · rw [askT_wait _ q hq h1 (by omega) h3] at ha; obtain ⟨rfl, _⟩ := Prod.mk.inj ha; omega
          · rw [askT_old _ q hq h1 (by omega) h3] at ha; obtain ⟨rfl, _⟩ := Prod.mk.inj ha; omega
      exact ⟨fun h => absurd h hk, fun _ => by omega, by omega, by omega⟩
    · rw [if_neg hl] at hs
      obtain ⟨rfl, rfl⟩ := Prod.mk.inj hs
      rw [askT_new _ q hq (by omega) (by omega)] at ha
      obtain ⟨rfl, _⟩ := Prod.mk.inj ha
      rw [rowT_set_self t ht hc]
      have hm : lastR { rowT t c with wait := q } = q := by unfold lastR at hl hge ⊢; simp only; omega
      exact ⟨fun _ => ⟨rfl, hm⟩, fun h => absurd rfl h, by simp, by omega⟩
theorem finish_new (t : List RowV) (ht : t.length = 4) {c q e1 e2 e3 e4 x : Int} {t' : List RowV} (hs : finishT t c q e1 e2 e3 e4 = (x, t')) :
    (x = 0 → (rowT t c).known < q ∧ (rowT t' c).known = q) ∧ (x ≠ 0 → t' = t) ∧ (rowT t c).known ≤ (rowT t' c).known ∧ lastR (rowT t c) ≤ lastR (rowT t' c) := by
  unfold finishT at hs
  by_cases ho : ¬ inC c ∨ q < 1
  · rw [if_pos ho] at hs
    obtain ⟨rfl, rfl⟩ := Prod.mk.inj hs
    exact ⟨by omega, fun _ => rfl, by omega, by omega⟩
  · rw [if_neg ho] at hs
    have hc : inC c := Decidable.byContradiction fun x => ho (.inl x)
    by_cases h1 : q < (rowT t c).known
    · rw [if_pos h1] at hs
      obtain ⟨rfl, rfl⟩ := Prod.mk.inj hs
      exact ⟨by omega, fun _ => rfl, by omega, by omega⟩
    · rw [if_neg h1] at hs
      by_cases h2 : q = (rowT t c).known
      · rw [if_pos h2] at hs
        obtain ⟨rfl, rfl⟩ := Prod.mk.inj hs
        exact ⟨by omega, fun _ => rfl, by omega, by omega⟩
      · rw [if_neg h2] at hs
        obtain ⟨rfl, rfl⟩ := Prod.mk.inj hs
        rw [rowT_set_self t ht hc]
        refine ⟨fun _ => ⟨by omega, rfl⟩, by omega, by simp only; omega, by unfold lastR; simp only; omega⟩
theorem ask_lit {r : RowV} {ok : Bool} {q k : Int} {z : RowV} (h : askT r ok q = (k, z)) (hk : k ≠ 1) : k = 2 ∨ k = 3 ∨ k = 4 := by
  unfold askT at h
  split at h
  · obtain ⟨rfl, _⟩ := Prod.mk.inj h; omega
  · split at h
    · obtain ⟨rfl, _⟩ := Prod.mk.inj h; omega
    · split at h
      · obtain ⟨rfl, _⟩ := Prod.mk.inj h; omega
      · split at h
        · obtain ⟨rfl, _⟩ := Prod.mk.inj h; omega
        · obtain ⟨rfl, _⟩ := Prod.mk.inj h; omega
theorem start_lit {t t' : List RowV} {c q x k : Int} {r : RowV} (hs : startT t c q = (x, t')) (ha : askT (rowT t c) (decide (inC c)) q = (k, r)) (hk : k ≠ 1) :
    (k = 4 ∧ x = 2) ∨ (k = 3 ∧ x = 10) ∨ (k = 2 ∧ x = 10) ∨ (k = 4 ∧ x = 10) := by
  unfold startT at hs
  by_cases ho : ¬ inC c ∨ q < 1
  · rw [if_pos ho] at hs
    obtain ⟨rfl, rfl⟩ := Prod.mk.inj hs
    rw [askT_out _ _ _ (by rcases ho with h | h; exact .inl (decide_eq_false h); exact .inr h)] at ha
    obtain ⟨rfl, rfl⟩ := Prod.mk.inj ha
    exact .inl ⟨rfl, rfl⟩
  · rw [if_neg ho] at hs
    have hc : inC c := Decidable.byContradiction fun x => ho (.inl x)
    have hq : ¬ q < 1 := fun x => ho (.inr x)
    rw [decide_eq_true hc] at ha
    have hge := lastR_ge (rowT t c)
    by_cases hl : q ≤ lastR (rowT t c)
    · rw [if_pos hl] at hs
      obtain ⟨rfl, rfl⟩ := Prod.mk.inj hs
      rcases ask_lit ha hk with h | h | h
      · exact .inr (.inr (.inl ⟨h, rfl⟩))
      · exact .inr (.inl ⟨h, rfl⟩)
      · exact .inr (.inr (.inr ⟨h, rfl⟩))
    · rw [if_neg hl] at hs
      rw [askT_new _ q hq (by omega) (by omega)] at ha
      obtain ⟨rfl, _⟩ := Prod.mk.inj ha
      exact absurd rfl hk
theorem finish_lit {t t' : List RowV} {c q e1 e2 e3 e4 x : Int} (h : finishT t c q e1 e2 e3 e4 = (x, t')) (hk : x ≠ 0) : x = 2 ∨ x = 10 ∨ x = 9 := by
  unfold finishT at h
  split at h
  · obtain ⟨rfl, _⟩ := Prod.mk.inj h; omega
  · split at h
    · obtain ⟨rfl, _⟩ := Prod.mk.inj h; omega
    · split at h
      · obtain ⟨rfl, _⟩ := Prod.mk.inj h; omega
      · obtain ⟨rfl, _⟩ := Prod.mk.inj h; omega
set_option maxHeartbeats 16000000 in
set_option maxRecDepth 100000 in
theorem once_in {w : World} {vx : Value} {len : Nat} {acts : List ActV} (hr : Reads w 7 vx len (acts.flatMap actCells)) (hL : acts.length = len) (hlen : len ≤ 200) :
    Calls Try.prog 3 #[vx] w fun e w' => e = .returned (.bool true) ∧ Below w.heap.size w w' := by
  have HR := Lib.hid hr
  have EL := Lib.hid hL
  obtain ⟨_, ao, cap, rfl, _, _⟩ := hr
  clear hL
  go_enter Try.func3, Try.ntmps3
  go_wp2_with fail
  refine Make_any.mono ?_
  rintro e w1 ⟨rfl, ha, hb⟩
  have L : Hid (HL w w1 [(w.heap.size, tabO true tab0)]) := (HL.nil w).made hb ha
  clear ha hb
  generalize w.heap.size = b at L ⊢
  go_wp2_with fail
  go_loopw [22] (fun i wr => ∃ (j : Nat) (t : List RowV), j ≤ len ∧ i = .int .i64 j ∧ Hid (t.length = 4) ∧ Hid (HL w wr [(b, tabO true t)])) (fun i _ => len - (intOf i).toNat)
  case atStart => exact ⟨0, tab0, by omega, rfl, rfl, L⟩
  case round =>
    clear L
    obtain ⟨j, t, hj, rfl, HT, L⟩ := hrel
    by_cases hjn : j < len
    · obtain ⟨ab, aoff, acap, e1, hc⟩ := acts_at (HR.out.below L.out.below (Nat.le_refl _)) EL.out j hjn
      cases e1
      generalize acts[j]'(by have := EL.out; omega) = a at hc
      obtain ⟨k0, k1, k2, k3, k4, k5, k6⟩ := a
      by_cases hk : k0 = 0
      · skip
        subst hk
        have HC : Hid (∀ i u, ([.int .i64 0, .int .i64 k1, .int .i64 k2, .int .i64 k3, .int .i64 k4, .int .i64 k5, .int .i64 k6] : List Value)[i]? = some u → wr.cell? ⟨ab, aoff + j * 7 + i, none⟩ = some u) := hc
        have HS : Hid ((Try.prog.info? 30).map (·.size) = some ([.int .i64 0, .int .i64 k1, .int .i64 k2, .int .i64 k3, .int .i64 k4, .int .i64 k5, .int .i64 k6] : List Value).length) := size_act
        clear hc
        go_wp2_with (with_reducible refine load_agg rfl 30 (.tmp 24) rfl _ Try.underlying30 rfl ab (aoff + j * 7) rfl [.int .i64 0, .int .i64 k1, .int .i64 k2, .int .i64 k3, .int .i64 k4, .int .i64 k5, .int .i64 k6] HS.out HC.out ?_)
        have L' : Hid (HL w (wr.alloc (Obj.cells #[.int .i64 0, .int .i64 k1, .int .i64 k2, .int .i64 k3, .int .i64 k4, .int .i64 k5, .int .i64 k6] 30)) [(wr.heap.size, Obj.cells #[.int .i64 0, .int .i64 k1, .int .i64 k2, .int .i64 k3, .int .i64 k4, .int .i64 k5, .int .i64 k6] 30), (b, tabO true t)]) := L.out.alloc _
        clear L
        have L := L'
        clear L'
        refine (Done_v (L.out.get 1 rfl) HT.out k1).mono ?_
        rintro e w2 ⟨x1, rfl, hx1, hb⟩
        have L' : Hid (HL w w2 [(wr.heap.size, Obj.cells #[.int .i64 0, .int .i64 k1, .int .i64 k2, .int .i64 k3, .int .i64 k4, .int .i64 k5, .int .i64 k6] 30), (b, tabO true t)]) := L.out.new hb
        clear L
        have L := L'
        clear L'
        clear hb
        have ad0 : w2.cell? ⟨wr.heap.size, 0, none⟩ = some (.int .i64 0) := blk_cell (L.out.get 0 rfl) 0
        have ad1 : w2.cell? ⟨wr.heap.size, 1, none⟩ = some (.int .i64 k1) := blk_cell (L.out.get 0 rfl) 1
        have ad2 : w2.cell? ⟨wr.heap.size, 2, none⟩ = some (.int .i64 k2) := blk_cell (L.out.get 0 rfl) 2
        have ad3 : w2.cell? ⟨wr.heap.size, 3, none⟩ = some (.int .i64 k3) := blk_cell (L.out.get 0 rfl) 3
        have ad4 : w2.cell? ⟨wr.heap.size, 4, none⟩ = some (.int .i64 k4) := blk_cell (L.out.get 0 rfl) 4
        have ad5 : w2.cell? ⟨wr.heap.size, 5, none⟩ = some (.int .i64 k5) := blk_cell (L.out.get 0 rfl) 5
        have ad6 : w2.cell? ⟨wr.heap.size, 6, none⟩ = some (.int .i64 k6) := blk_cell (L.out.get 0 rfl) 6
        have adlt : wr.heap.size < w2.heap.size := L.out.lt 0 rfl
        go_wp2_with fail
        refine (Last_v (L.out.get 1 rfl) HT.out k1).mono ?_
        rintro e w3 ⟨x2, rfl, hx2, hb⟩
        have L' : Hid (HL w w3 [(wr.heap.size, Obj.cells #[.int .i64 0, .int .i64 k1, .int .i64 k2, .int .i64 k3, .int .i64 k4, .int .i64 k5, .int .i64 k6] 30), (b, tabO true t)]) := L.out.new hb
        clear L
        have L := L'
        clear L'
        clear hb
        clear ad0 ad1 ad2 ad3 ad4 ad5 ad6 adlt
        have ad0 : w3.cell? ⟨wr.heap.size, 0, none⟩ = some (.int .i64 0) := blk_cell (L.out.get 0 rfl) 0
        have ad1 : w3.cell? ⟨wr.heap.size, 1, none⟩ = some (.int .i64 k1) := blk_cell (L.out.get 0 rfl) 1
        have ad2 : w3.cell? ⟨wr.heap.size, 2, none⟩ = some (.int .i64 k2) := blk_cell (L.out.get 0 rfl) 2
        have ad3 : w3.cell? ⟨wr.heap.size, 3, none⟩ = some (.int .i64 k3) := blk_cell (L.out.get 0 rfl) 3
        have ad4 : w3.cell? ⟨wr.heap.size, 4, none⟩ = some (.int .i64 k4) := blk_cell (L.out.get 0 rfl) 4
        have ad5 : w3.cell? ⟨wr.heap.size, 5, none⟩ = some (.int .i64 k5) := blk_cell (L.out.get 0 rfl) 5
        have ad6 : w3.cell? ⟨wr.heap.size, 6, none⟩ = some (.int .i64 k6) := blk_cell (L.out.get 0 rfl) 6
        have adlt : wr.heap.size < w3.heap.size := L.out.lt 0 rfl
        go_wp2_with fail
        refine (Ask_v (L.out.get 1 rfl) HT.out k1 x1).mono ?_
        rintro e w4 ⟨x3, r1, r2, r3, r4, rfl, hx3, hb⟩
        have L' : Hid (HL w w4 [(wr.heap.size, Obj.cells #[.int .i64 0, .int .i64 k1, .int .i64 k2, .int .i64 k3, .int .i64 k4, .int .i64 k5, .int .i64 k6] 30), (b, tabO true t)]) := L.out.new hb
        clear L
        have L := L'
        clear L'
        clear hb
        clear ad0 ad1 ad2 ad3 ad4 ad5 ad6 adlt
        have ad0 : w4.cell? ⟨wr.heap.size, 0, none⟩ = some (.int .i64 0) := blk_cell (L.out.get 0 rfl) 0
        have ad1 : w4.cell? ⟨wr.heap.size, 1, none⟩ = some (.int .i64 k1) := blk_cell (L.out.get 0 rfl) 1
        have ad2 : w4.cell? ⟨wr.heap.size, 2, none⟩ = some (.int .i64 k2) := blk_cell (L.out.get 0 rfl) 2
        have ad3 : w4.cell? ⟨wr.heap.size, 3, none⟩ = some (.int .i64 k3) := blk_cell (L.out.get 0 rfl) 3
        have ad4 : w4.cell? ⟨wr.heap.size, 4, none⟩ = some (.int .i64 k4) := blk_cell (L.out.get 0 rfl) 4
        have ad5 : w4.cell? ⟨wr.heap.size, 5, none⟩ = some (.int .i64 k5) := blk_cell (L.out.get 0 rfl) 5
        have ad6 : w4.cell? ⟨wr.heap.size, 6, none⟩ = some (.int .i64 k6) := blk_cell (L.out.get 0 rfl) 6
        have adlt : wr.heap.size < w4.heap.size := L.out.lt 0 rfl
        have L' : Hid (HL w (w4.alloc (Obj.cells #[.int .i64 r1, .int .i64 r2, .int .i64 r3, .int .i64 r4] 28)) [(w4.heap.size, Obj.cells #[.int .i64 r1, .int .i64 r2, .int .i64 r3, .int .i64 r4] 28), (wr.heap.size, Obj.cells #[.int .i64 0, .int .i64 k1, .int .i64 k2, .int .i64 k3, .int .i64 k4, .int .i64 k5, .int .i64 k6] 30), (b, tabO true t)]) := L.out.alloc _
        clear L
        have L := L'
        clear L'
        go_wp2_with fail
        refine (Ask_v (L.out.get 2 rfl) HT.out k1 k2).mono ?_
        rintro e w5 ⟨x4, s1, s2, s3, s4, rfl, hx4, hb⟩
        have L' : Hid (HL w w5 [(w4.heap.size, Obj.cells #[.int .i64 r1, .int .i64 r2, .int .i64 r3, .int .i64 r4] 28), (wr.heap.size, Obj.cells #[.int .i64 0, .int .i64 k1, .int .i64 k2, .int .i64 k3, .int .i64 k4, .int .i64 k5, .int .i64 k6] 30), (b, tabO true t)]) := L.out.new hb
        clear L
        have L := L'
        clear L'
        clear hb
        clear ad0 ad1 ad2 ad3 ad4 ad5 ad6 adlt
        have ad0 : w5.cell? ⟨wr.heap.size, 0, none⟩ = some (.int .i64 0) := blk_cell (L.out.get 1 rfl) 0
        have ad1 : w5.cell? ⟨wr.heap.size, 1, none⟩ = some (.int .i64 k1) := blk_cell (L.out.get 1 rfl) 1
        have ad2 : w5.cell? ⟨wr.heap.size, 2, none⟩ = some (.int .i64 k2) := blk_cell (L.out.get 1 rfl) 2
        have ad3 : w5.cell? ⟨wr.heap.size, 3, none⟩ = some (.int .i64 k3) := blk_cell (L.out.get 1 rfl) 3
        have ad4 : w5.cell? ⟨wr.heap.size, 4, none⟩ = some (.int .i64 k4) := blk_cell (L.out.get 1 rfl) 4
        have ad5 : w5.cell? ⟨wr.heap.size, 5, none⟩ = some (.int .i64 k5) := blk_cell (L.out.get 1 rfl) 5
        have ad6 : w5.cell? ⟨wr.heap.size, 6, none⟩ = some (.int .i64 k6) := blk_cell (L.out.get 1 rfl) 6
        have adlt : wr.heap.size < w5.heap.size := L.out.lt 1 rfl
        obtain ⟨y, t', hs⟩ : ∃ y t', Hid (startT t k1 k2 = (y, t')) := ⟨_, _, rfl⟩
        have HT2 : Hid (t'.length = 4) := by have := startT_len HT.out k1 k2; rw [hs.out] at this; exact this
        have F : Hid ((x4 = 1 → y = 0 ∧ lastR (rowT t' k1) = k2) ∧ (x4 ≠ 1 → y ≠ 0) ∧ (rowT t k1).known ≤ (rowT t' k1).known ∧ lastR (rowT t k1) ≤ lastR (rowT t' k1)) := by
          obtain ⟨_, _, hx⟩ := hx4.out
          exact start_new t HT.out hs.out hx
        obtain ⟨D, hD⟩ : ∃ D, Hid ((rowT t' k1).known = D) := ⟨_, rfl⟩
        obtain ⟨La, hLa⟩ : ∃ La, Hid (lastR (rowT t' k1) = La) := ⟨_, rfl⟩
        have g1 : decide (D < x1) = false := decide_eq_false (by rw [← hD.out, ← hx1.out]; have := F.out.2.2.1; omega)
        have g2 : decide (La < x2) = false := decide_eq_false (by rw [← hLa.out, ← hx2.out]; have := F.out.2.2.2; omega)
        have g3 : decide (La < D) = false := decide_eq_false (by rw [← hD.out, ← hLa.out]; have := lastR_ge (rowT t' k1); omega)
        by_cases hn : x4 = 1
        · skip
          obtain rfl : y = 0 := (F.out.1 hn).1
          have bq : (La != k2) = false := by rw [← hLa.out, (F.out.1 hn).2]; simp
          subst hn
          go_wp2_with fail
          have L' : Hid (HL w (w5.alloc (Obj.cells #[.int .i64 s1, .int .i64 s2, .int .i64 s3, .int .i64 s4] 28)) [(w5.heap.size, Obj.cells #[.int .i64 s1, .int .i64 s2, .int .i64 s3, .int .i64 s4] 28), (w4.heap.size, Obj.cells #[.int .i64 r1, .int .i64 r2, .int .i64 r3, .int .i64 r4] 28), (wr.heap.size, Obj.cells #[.int .i64 0, .int .i64 k1, .int .i64 k2, .int .i64 k3, .int .i64 k4, .int .i64 k5, .int .i64 k6] 30), (b, tabO true t)]) := L.out.alloc _
          clear L
          have L := L'
          clear L'
          have L' : Hid (HL w (w5.alloc (Obj.cells #[.int .i64 s1, .int .i64 s2, .int .i64 s3, .int .i64 s4] 28)).drew [(w5.heap.size, Obj.cells #[.int .i64 s1, .int .i64 s2, .int .i64 s3, .int .i64 s4] 28), (w4.heap.size, Obj.cells #[.int .i64 r1, .int .i64 r2, .int .i64 r3, .int .i64 r4] 28), (wr.heap.size, Obj.cells #[.int .i64 0, .int .i64 k1, .int .i64 k2, .int .i64 k3, .int .i64 k4, .int .i64 k5, .int .i64 k6] 30), (b, tabO true t)]) := L.out.drew
          clear L
          have L := L'
          clear L'
          clear ad0 ad1 ad2 ad3 ad4 ad5 ad6 adlt
          refine wp_region_held_drew (S := (fun w' => w'.cell? ⟨wr.heap.size, 1, none⟩ = some (.int .i64 k1) ∧ w'.cell? ⟨wr.heap.size, 2, none⟩ = some (.int .i64 k2))) (by kernel_rfl) ⟨blk_cell (L.out.get 2 rfl) 1, blk_cell (L.out.get 2 rfl) 2⟩ (fun hHeld => ?_)
          refine take_on (i := 0) (v := ?_) rfl (by kernel_rfl) (by kernel_rfl) (by kernel_rfl) (fun _ _ _ h => h) (by rfl) ?_ (by assumption) ?_
          rotate_left
          · (intro w hSw; (try dsimp only at hSw); go_simp; try with_reducible rfl)
          try simp only [Act.put, List.setIfInBounds_toArray, List.set_cons_zero, List.set_cons_succ]
          refine take_on (i := 1) (v := ?_) rfl (by kernel_rfl) (by kernel_rfl) (by kernel_rfl) (fun _ _ _ h => h) (by rfl) ?_ (by assumption) ?_
          rotate_left
          · (intro w hSw; (try dsimp only at hSw); go_simp; try with_reducible rfl)
          try simp only [Act.put, List.setIfInBounds_toArray, List.set_cons_zero, List.set_cons_succ]
          refine take_on (i := 2) (v := ?_) rfl (by kernel_rfl) (by kernel_rfl) (by kernel_rfl) (fun _ _ _ h => h) (by rfl) ?_ (by assumption) ?_
          rotate_left
          · (intro w hSw; (try dsimp only at hSw); go_simp; try with_reducible rfl)
          try simp only [Act.put, List.setIfInBounds_toArray, List.set_cons_zero, List.set_cons_succ]
          refine take_on (i := 3) (v := ?_) rfl (by kernel_rfl) (by kernel_rfl) (by kernel_rfl) (fun _ _ _ h => h) (by rfl) ?_ (by assumption) ?_
          rotate_left
          · (intro w hSw; (try dsimp only at hSw); go_simp; try with_reducible rfl)
          try simp only [Act.put, List.setIfInBounds_toArray, List.set_cons_zero, List.set_cons_succ]
          refine take_on (i := 4) (v := ?_) rfl (by kernel_rfl) (by kernel_rfl) (by kernel_rfl) (fun _ _ _ h => h) (by rfl) ?_ (by assumption) ?_
          rotate_left
          · (intro w hSw; (try dsimp only at hSw); go_simp; try with_reducible rfl)
          try simp only [Act.put, List.setIfInBounds_toArray, List.set_cons_zero, List.set_cons_succ]
          refine take_on (i := 7) (v := ?_) rfl (by kernel_rfl) (by kernel_rfl) (by kernel_rfl) (fun _ _ _ h => h) (by rfl) ?_ (by assumption) ?_
          rotate_left
          · (intro w hSw; (try dsimp only at hSw); go_simp; try with_reducible rfl)
          try simp only [Act.put, List.setIfInBounds_toArray, List.set_cons_zero, List.set_cons_succ]
          refine take_on (i := 8) (v := ?_) rfl (by kernel_rfl) (by kernel_rfl) (by kernel_rfl) (fun _ _ _ h => h) (by rfl) ?_ (by assumption) ?_
          rotate_left
          · (intro w hSw; (try dsimp only at hSw); go_simp; try with_reducible rfl)
          try simp only [Act.put, List.setIfInBounds_toArray, List.set_cons_zero, List.set_cons_succ]
          refine take_all (i := 5) (by kernel_rfl) rfl (fun K hK => ?_)
          go_simp
          (go_at_call 13; refine (Start_w (L.out.get 3 rfl) HT.out hs.out).mono ?_; rintro e w10 ⟨rfl, hu⟩; have L' : Hid (HL w w10 [(w5.heap.size, Obj.cells #[.int .i64 s1, .int .i64 s2, .int .i64 s3, .int .i64 s4] 28), (w4.heap.size, Obj.cells #[.int .i64 r1, .int .i64 r2, .int .i64 r3, .int .i64 r4] 28), (wr.heap.size, Obj.cells #[.int .i64 0, .int .i64 k1, .int .i64 k2, .int .i64 k3, .int .i64 k4, .int .i64 k5, .int .i64 k6] 30), (b, tabO true t')]) := (L.out.turn 3 rfl hu.only hu.at_); clear L hu; have L := L'; clear L')
          refine hK.out _ _ ⟨blk_cell (L.out.get 2 rfl) 1, blk_cell (L.out.get 2 rfl) 2⟩ (fun hHeld => ?_)
          clear hK K
          try simp only [Act.put, List.setIfInBounds_toArray, List.set_cons_zero, List.set_cons_succ]
          refine take_on (i := 6) (v := ?_) rfl (by kernel_rfl) (by kernel_rfl) (by kernel_rfl) (fun _ _ _ h => h) (by rfl) ?_ (by assumption) ?_
          rotate_left
          · (intro w hSw; (try dsimp only at hSw); go_simp; try with_reducible rfl)
          try simp only [Act.put, List.setIfInBounds_toArray, List.set_cons_zero, List.set_cons_succ]
          refine take_on (i := 9) (v := ?_) rfl (by kernel_rfl) (by kernel_rfl) (by kernel_rfl) (fun _ _ _ h => h) (by rfl) ?_ (by assumption) ?_
          rotate_left
          · (intro w hSw; (try dsimp only at hSw); go_simp; try with_reducible rfl)
          try simp only [Act.put, List.setIfInBounds_toArray, List.set_cons_zero, List.set_cons_succ]
          refine take_on (i := 10) (v := ?_) rfl (by kernel_rfl) (by kernel_rfl) (by kernel_rfl) (fun _ _ _ h => h) (by rfl) ?_ (by assumption) ?_
          rotate_left
          · (intro w hSw; (try dsimp only at hSw); go_simp; try with_reducible rfl)
          try simp only [Act.put, List.setIfInBounds_toArray, List.set_cons_zero, List.set_cons_succ]
          refine take_on (i := 11) (v := ?_) rfl (by kernel_rfl) (by kernel_rfl) (by kernel_rfl) (fun _ _ _ h => h) (by rfl) ?_ (by assumption) ?_
          rotate_left
          · (intro w hSw; (try dsimp only at hSw); go_simp; try with_reducible rfl)
          try simp only [Act.put, List.setIfInBounds_toArray, List.set_cons_zero, List.set_cons_succ]
          refine take_on (i := 12) (v := ?_) rfl (by kernel_rfl) (by kernel_rfl) (by kernel_rfl) (fun _ _ _ h => h) (by rfl) ?_ (by assumption) ?_
          rotate_left
          · (intro w hSw; (try dsimp only at hSw); go_simp; try with_reducible rfl)
          try simp only [Act.put, List.setIfInBounds_toArray, List.set_cons_zero, List.set_cons_succ]
          refine take_on (i := 13) (v := ?_) rfl (by kernel_rfl) (by kernel_rfl) (by kernel_rfl) (fun _ _ _ h => h) (by rfl) ?_ (by assumption) ?_
          rotate_left
          · (intro w hSw; (try dsimp only at hSw); go_simp; try with_reducible rfl)
          try simp only [Act.put, List.setIfInBounds_toArray, List.set_cons_zero, List.set_cons_succ]
          refine take_on (i := 14) (v := ?_) rfl (by kernel_rfl) (by kernel_rfl) (by kernel_rfl) (fun _ _ _ h => h) (by rfl) ?_ (by assumption) ?_
          rotate_left
          · (intro w hSw; (try dsimp only at hSw); go_simp; try with_reducible rfl)
          try simp only [Act.put, List.setIfInBounds_toArray, List.set_cons_zero, List.set_cons_succ]
          refine take_on (i := 15) (v := ?_) rfl (by kernel_rfl) (by kernel_rfl) (by kernel_rfl) (fun _ _ _ h => h) (by rfl) ?_ (by assumption) ?_
          rotate_left
          · (intro w hSw; (try dsimp only at hSw); go_simp; try with_reducible rfl)
          try simp only [Act.put, List.setIfInBounds_toArray, List.set_cons_zero, List.set_cons_succ]
          refine take_on (i := 16) (v := ?_) rfl (by kernel_rfl) (by kernel_rfl) (by kernel_rfl) (fun _ _ _ h => h) (by rfl) ?_ (by assumption) ?_
          rotate_left
          · (intro w hSw; (try dsimp only at hSw); go_simp; try with_reducible rfl)
          try simp only [Act.put, List.setIfInBounds_toArray, List.set_cons_zero, List.set_cons_succ]
          refine take_on (i := 18) (v := ?_) rfl (by kernel_rfl) (by kernel_rfl) (by kernel_rfl) (fun _ _ _ h => h) (by rfl) ?_ (by assumption) ?_
          rotate_left
          · (intro w hSw; (try dsimp only at hSw); go_simp; try with_reducible rfl)
          try simp only [Act.put, List.setIfInBounds_toArray, List.set_cons_zero, List.set_cons_succ]
          refine take_on (i := 19) (v := ?_) rfl (by kernel_rfl) (by kernel_rfl) (by kernel_rfl) (fun _ _ _ h => h) (by rfl) ?_ (by assumption) ?_
          rotate_left
          · (intro w hSw; (try dsimp only at hSw); go_simp; try with_reducible rfl)
          try simp only [Act.put, List.setIfInBounds_toArray, List.set_cons_zero, List.set_cons_succ]
          refine take_all (i := 17) (by kernel_rfl) rfl (fun K hK => ?_)
          go_simp
          (go_at_call 11; refine (Last_w (L.out.get 3 rfl) HT2.out hLa.out).mono ?_; rintro e w11 ⟨rfl, hb⟩; have L' : Hid (HL w w11 [(w5.heap.size, Obj.cells #[.int .i64 s1, .int .i64 s2, .int .i64 s3, .int .i64 s4] 28), (w4.heap.size, Obj.cells #[.int .i64 r1, .int .i64 r2, .int .i64 r3, .int .i64 r4] 28), (wr.heap.size, Obj.cells #[.int .i64 0, .int .i64 k1, .int .i64 k2, .int .i64 k3, .int .i64 k4, .int .i64 k5, .int .i64 k6] 30), (b, tabO true t')]) := L.out.new hb; clear L hb; have L := L'; clear L')
          refine hK.out _ _ ⟨blk_cell (L.out.get 2 rfl) 1, blk_cell (L.out.get 2 rfl) 2⟩ (fun hHeld => ?_)
          clear hK K
          try simp only [Act.put, List.setIfInBounds_toArray, List.set_cons_zero, List.set_cons_succ]
          refine take_on (i := 20) (v := ?_) rfl (by kernel_rfl) (by kernel_rfl) (by kernel_rfl) (fun _ _ _ h => h) (by rfl) ?_ (by assumption) ?_
          rotate_left
          · (intro w hSw; (try dsimp only at hSw); go_simp; try with_reducible rfl)
          try simp only [Act.put, List.setIfInBounds_toArray, List.set_cons_zero, List.set_cons_succ]
          refine take_on (i := 21) (v := ?_) rfl (by kernel_rfl) (by kernel_rfl) (by kernel_rfl) (fun _ _ _ h => h) (by rfl) ?_ (by assumption) ?_
          rotate_left
          · (intro w hSw; (try dsimp only at hSw); go_simp; try with_reducible rfl)
          try simp only [Act.put, List.setIfInBounds_toArray, List.set_cons_zero, List.set_cons_succ]
          refine take_on (i := 22) (v := ?_) rfl (by kernel_rfl) (by kernel_rfl) (by kernel_rfl) (fun _ _ _ h => h) (by rfl) ?_ (by assumption) ?_
          rotate_left
          · (intro w hSw; (try dsimp only at hSw); go_simp; try with_reducible rfl)
          try simp only [Act.put, List.setIfInBounds_toArray, List.set_cons_zero, List.set_cons_succ]
          refine wpAnyH_done (by kernel_rfl) ?_ _
          go_wp2_with fail
          have L' : Hid (HL w w11.drew [(w5.heap.size, Obj.cells #[.int .i64 s1, .int .i64 s2, .int .i64 s3, .int .i64 s4] 28), (w4.heap.size, Obj.cells #[.int .i64 r1, .int .i64 r2, .int .i64 r3, .int .i64 r4] 28), (wr.heap.size, Obj.cells #[.int .i64 0, .int .i64 k1, .int .i64 k2, .int .i64 k3, .int .i64 k4, .int .i64 k5, .int .i64 k6] 30), (b, tabO true t')]) := L.out.drew
          clear L
          have L := L'
          clear L'
          first
          | (go_region_held3 (fun w' => w'.cell? ⟨wr.heap.size, 1, none⟩ = some (.int .i64 k1)) (exact blk_cell (L.out.get 2 rfl) 1) (first | (go_at_call 10; refine (Done_w (L.out.get 3 rfl) HT2.out hD.out).mono ?_; rintro e w20 ⟨rfl, hb⟩; have L' : Hid (HL w w20 [(w5.heap.size, Obj.cells #[.int .i64 s1, .int .i64 s2, .int .i64 s3, .int .i64 s4] 28), (w4.heap.size, Obj.cells #[.int .i64 r1, .int .i64 r2, .int .i64 r3, .int .i64 r4] 28), (wr.heap.size, Obj.cells #[.int .i64 0, .int .i64 k1, .int .i64 k2, .int .i64 k3, .int .i64 k4, .int .i64 k5, .int .i64 k6] 30), (b, tabO true t')]) := L.out.new hb; clear L hb; have L := L'; clear L') | (go_at_call 11; refine (Last_w (L.out.get 3 rfl) HT2.out hLa.out).mono ?_; rintro e w20 ⟨rfl, hb⟩; have L' : Hid (HL w w20 [(w5.heap.size, Obj.cells #[.int .i64 s1, .int .i64 s2, .int .i64 s3, .int .i64 s4] 28), (w4.heap.size, Obj.cells #[.int .i64 r1, .int .i64 r2, .int .i64 r3, .int .i64 r4] 28), (wr.heap.size, Obj.cells #[.int .i64 0, .int .i64 k1, .int .i64 k2, .int .i64 k3, .int .i64 k4, .int .i64 k5, .int .i64 k6] 30), (b, tabO true t')]) := L.out.new hb; clear L hb; have L := L'; clear L')))
          | fail "held3"
          go_wp2
          go_roundw
          case rel => exact ⟨j + 1, t', by omega, by go_num, HT2, L.out.drop 3⟩
          case measure => simp [intOf]; omega
        · have hl := start_lit hs.out (Classical.choose_spec (Classical.choose_spec hx4.out)) hn
          clear hn F
          rcases hl with ⟨rfl, rfl⟩ | ⟨rfl, rfl⟩ | ⟨rfl, rfl⟩ | ⟨rfl, rfl⟩
          · skip
            go_wp2_with fail
            have L' : Hid (HL w (w5.alloc (Obj.cells #[.int .i64 s1, .int .i64 s2, .int .i64 s3, .int .i64 s4] 28)) [(w5.heap.size, Obj.cells #[.int .i64 s1, .int .i64 s2, .int .i64 s3, .int .i64 s4] 28), (w4.heap.size, Obj.cells #[.int .i64 r1, .int .i64 r2, .int .i64 r3, .int .i64 r4] 28), (wr.heap.size, Obj.cells #[.int .i64 0, .int .i64 k1, .int .i64 k2, .int .i64 k3, .int .i64 k4, .int .i64 k5, .int .i64 k6] 30), (b, tabO true t)]) := L.out.alloc _
            clear L
            have L := L'
            clear L'
            have L' : Hid (HL w (w5.alloc (Obj.cells #[.int .i64 s1, .int .i64 s2, .int .i64 s3, .int .i64 s4] 28)).drew [(w5.heap.size, Obj.cells #[.int .i64 s1, .int .i64 s2, .int .i64 s3, .int .i64 s4] 28), (w4.heap.size, Obj.cells #[.int .i64 r1, .int .i64 r2, .int .i64 r3, .int .i64 r4] 28), (wr.heap.size, Obj.cells #[.int .i64 0, .int .i64 k1, .int .i64 k2, .int .i64 k3, .int .i64 k4, .int .i64 k5, .int .i64 k6] 30), (b, tabO true t)]) := L.out.drew
            clear L
            have L := L'
            clear L'
            clear ad0 ad1 ad2 ad3 ad4 ad5 ad6 adlt
            refine wp_region_held_drew (S := (fun w' => w'.cell? ⟨wr.heap.size, 1, none⟩ = some (.int .i64 k1) ∧ w'.cell? ⟨wr.heap.size, 2, none⟩ = some (.int .i64 k2))) (by kernel_rfl) ⟨blk_cell (L.out.get 2 rfl) 1, blk_cell (L.out.get 2 rfl) 2⟩ (fun hHeld => ?_)
            refine take_on (i := 0) (v := ?_) rfl (by kernel_rfl) (by kernel_rfl) (by kernel_rfl) (fun _ _ _ h => h) (by rfl) ?_ (by assumption) ?_
            rotate_left
            · (intro w hSw; (try dsimp only at hSw); go_simp; try with_reducible rfl)
            try simp only [Act.put, List.setIfInBounds_toArray, List.set_cons_zero, List.set_cons_succ]
            refine take_on (i := 1) (v := ?_) rfl (by kernel_rfl) (by kernel_rfl) (by kernel_rfl) (fun _ _ _ h => h) (by rfl) ?_ (by assumption) ?_
            rotate_left
            · (intro w hSw; (try dsimp only at hSw); go_simp; try with_reducible rfl)
            try simp only [Act.put, List.setIfInBounds_toArray, List.set_cons_zero, List.set_cons_succ]
            refine take_on (i := 2) (v := ?_) rfl (by kernel_rfl) (by kernel_rfl) (by kernel_rfl) (fun _ _ _ h => h) (by rfl) ?_ (by assumption) ?_
            rotate_left
            · (intro w hSw; (try dsimp only at hSw); go_simp; try with_reducible rfl)
            try simp only [Act.put, List.setIfInBounds_toArray, List.set_cons_zero, List.set_cons_succ]
            refine take_on (i := 3) (v := ?_) rfl (by kernel_rfl) (by kernel_rfl) (by kernel_rfl) (fun _ _ _ h => h) (by rfl) ?_ (by assumption) ?_
            rotate_left
            · (intro w hSw; (try dsimp only at hSw); go_simp; try with_reducible rfl)
            try simp only [Act.put, List.setIfInBounds_toArray, List.set_cons_zero, List.set_cons_succ]
            refine take_on (i := 4) (v := ?_) rfl (by kernel_rfl) (by kernel_rfl) (by kernel_rfl) (fun _ _ _ h => h) (by rfl) ?_ (by assumption) ?_
            rotate_left
            · (intro w hSw; (try dsimp only at hSw); go_simp; try with_reducible rfl)
            try simp only [Act.put, List.setIfInBounds_toArray, List.set_cons_zero, List.set_cons_succ]
            refine take_on (i := 7) (v := ?_) rfl (by kernel_rfl) (by kernel_rfl) (by kernel_rfl) (fun _ _ _ h => h) (by rfl) ?_ (by assumption) ?_
            rotate_left
            · (intro w hSw; (try dsimp only at hSw); go_simp; try with_reducible rfl)
            try simp only [Act.put, List.setIfInBounds_toArray, List.set_cons_zero, List.set_cons_succ]
            refine take_on (i := 8) (v := ?_) rfl (by kernel_rfl) (by kernel_rfl) (by kernel_rfl) (fun _ _ _ h => h) (by rfl) ?_ (by assumption) ?_
            rotate_left
            · (intro w hSw; (try dsimp only at hSw); go_simp; try with_reducible rfl)
            try simp only [Act.put, List.setIfInBounds_toArray, List.set_cons_zero, List.set_cons_succ]
            refine take_all (i := 5) (by kernel_rfl) rfl (fun K hK => ?_)
            go_simp
            (go_at_call 13; refine (Start_w (L.out.get 3 rfl) HT.out hs.out).mono ?_; rintro e w10 ⟨rfl, hu⟩; have L' : Hid (HL w w10 [(w5.heap.size, Obj.cells #[.int .i64 s1, .int .i64 s2, .int .i64 s3, .int .i64 s4] 28), (w4.heap.size, Obj.cells #[.int .i64 r1, .int .i64 r2, .int .i64 r3, .int .i64 r4] 28), (wr.heap.size, Obj.cells #[.int .i64 0, .int .i64 k1, .int .i64 k2, .int .i64 k3, .int .i64 k4, .int .i64 k5, .int .i64 k6] 30), (b, tabO true t')]) := (L.out.turn 3 rfl hu.only hu.at_); clear L hu; have L := L'; clear L')
            refine hK.out _ _ ⟨blk_cell (L.out.get 2 rfl) 1, blk_cell (L.out.get 2 rfl) 2⟩ (fun hHeld => ?_)
            clear hK K
            try simp only [Act.put, List.setIfInBounds_toArray, List.set_cons_zero, List.set_cons_succ]
            refine take_on (i := 6) (v := ?_) rfl (by kernel_rfl) (by kernel_rfl) (by kernel_rfl) (fun _ _ _ h => h) (by rfl) ?_ (by assumption) ?_
            rotate_left
            · (intro w hSw; (try dsimp only at hSw); go_simp; try with_reducible rfl)
            try simp only [Act.put, List.setIfInBounds_toArray, List.set_cons_zero, List.set_cons_succ]
            refine take_on (i := 9) (v := ?_) rfl (by kernel_rfl) (by kernel_rfl) (by kernel_rfl) (fun _ _ _ h => h) (by rfl) ?_ (by assumption) ?_
            rotate_left
            · (intro w hSw; (try dsimp only at hSw); go_simp; try with_reducible rfl)
            try simp only [Act.put, List.setIfInBounds_toArray, List.set_cons_zero, List.set_cons_succ]
            refine take_on (i := 10) (v := ?_) rfl (by kernel_rfl) (by kernel_rfl) (by kernel_rfl) (fun _ _ _ h => h) (by rfl) ?_ (by assumption) ?_
            rotate_left
            · (intro w hSw; (try dsimp only at hSw); go_simp; try with_reducible rfl)
            try simp only [Act.put, List.setIfInBounds_toArray, List.set_cons_zero, List.set_cons_succ]
            refine take_on (i := 11) (v := ?_) rfl (by kernel_rfl) (by kernel_rfl) (by kernel_rfl) (fun _ _ _ h => h) (by rfl) ?_ (by assumption) ?_
            rotate_left
            · (intro w hSw; (try dsimp only at hSw); go_simp; try with_reducible rfl)
            try simp only [Act.put, List.setIfInBounds_toArray, List.set_cons_zero, List.set_cons_succ]
            refine take_on (i := 12) (v := ?_) rfl (by kernel_rfl) (by kernel_rfl) (by kernel_rfl) (fun _ _ _ h => h) (by rfl) ?_ (by assumption) ?_
            rotate_left
            · (intro w hSw; (try dsimp only at hSw); go_simp; try with_reducible rfl)
            try simp only [Act.put, List.setIfInBounds_toArray, List.set_cons_zero, List.set_cons_succ]
            refine take_on (i := 13) (v := ?_) rfl (by kernel_rfl) (by kernel_rfl) (by kernel_rfl) (fun _ _ _ h => h) (by rfl) ?_ (by assumption) ?_
            rotate_left
            · (intro w hSw; (try dsimp only at hSw); go_simp; try with_reducible rfl)
            try simp only [Act.put, List.setIfInBounds_toArray, List.set_cons_zero, List.set_cons_succ]
            refine take_off (i := 14) rfl (by kernel_rfl) (by kernel_rfl) (by kernel_rfl) (fun _ _ _ h => h) (by rfl) (by assumption) ?_
            try simp only [Act.put, List.setIfInBounds_toArray, List.set_cons_zero, List.set_cons_succ]
            refine take_off (i := 15) rfl (by kernel_rfl) (by kernel_rfl) (by kernel_rfl) (fun _ _ _ h => h) (by rfl) (by assumption) ?_
            try simp only [Act.put, List.setIfInBounds_toArray, List.set_cons_zero, List.set_cons_succ]
            refine take_off (i := 16) rfl (by kernel_rfl) (by kernel_rfl) (by kernel_rfl) (fun _ _ _ h => h) (by rfl) (by assumption) ?_
            try simp only [Act.put, List.setIfInBounds_toArray, List.set_cons_zero, List.set_cons_succ]
            refine take_off (i := 18) rfl (by kernel_rfl) (by kernel_rfl) (by kernel_rfl) (fun _ _ _ h => h) (by rfl) (by assumption) ?_
            try simp only [Act.put, List.setIfInBounds_toArray, List.set_cons_zero, List.set_cons_succ]
            refine take_off (i := 19) rfl (by kernel_rfl) (by kernel_rfl) (by kernel_rfl) (fun _ _ _ h => h) (by rfl) (by assumption) ?_
            try simp only [Act.put, List.setIfInBounds_toArray, List.set_cons_zero, List.set_cons_succ]
            refine take_off (i := 17) rfl (by kernel_rfl) (by kernel_rfl) (by kernel_rfl) (fun _ _ _ h => h) (by rfl) (by assumption) ?_
            try simp only [Act.put, List.setIfInBounds_toArray, List.set_cons_zero, List.set_cons_succ]
            refine take_off (i := 20) rfl (by kernel_rfl) (by kernel_rfl) (by kernel_rfl) (fun _ _ _ h => h) (by rfl) (by assumption) ?_
            try simp only [Act.put, List.setIfInBounds_toArray, List.set_cons_zero, List.set_cons_succ]
            refine take_on (i := 21) (v := ?_) rfl (by kernel_rfl) (by kernel_rfl) (by kernel_rfl) (fun _ _ _ h => h) (by rfl) ?_ (by assumption) ?_
            rotate_left
            · (intro w hSw; (try dsimp only at hSw); go_simp; try with_reducible rfl)
            try simp only [Act.put, List.setIfInBounds_toArray, List.set_cons_zero, List.set_cons_succ]
            refine take_on (i := 22) (v := ?_) rfl (by kernel_rfl) (by kernel_rfl) (by kernel_rfl) (fun _ _ _ h => h) (by rfl) ?_ (by assumption) ?_
            rotate_left
            · (intro w hSw; (try dsimp only at hSw); go_simp; try with_reducible rfl)
            try simp only [Act.put, List.setIfInBounds_toArray, List.set_cons_zero, List.set_cons_succ]
            refine wpAnyH_done (by kernel_rfl) ?_ _
            go_wp2_with fail
            have L' : Hid (HL w w10.drew [(w5.heap.size, Obj.cells #[.int .i64 s1, .int .i64 s2, .int .i64 s3, .int .i64 s4] 28), (w4.heap.size, Obj.cells #[.int .i64 r1, .int .i64 r2, .int .i64 r3, .int .i64 r4] 28), (wr.heap.size, Obj.cells #[.int .i64 0, .int .i64 k1, .int .i64 k2, .int .i64 k3, .int .i64 k4, .int .i64 k5, .int .i64 k6] 30), (b, tabO true t')]) := L.out.drew
            clear L
            have L := L'
            clear L'
            first
            | (go_region_held3 (fun w' => w'.cell? ⟨wr.heap.size, 1, none⟩ = some (.int .i64 k1)) (exact blk_cell (L.out.get 2 rfl) 1) (first | (go_at_call 10; refine (Done_w (L.out.get 3 rfl) HT2.out hD.out).mono ?_; rintro e w20 ⟨rfl, hb⟩; have L' : Hid (HL w w20 [(w5.heap.size, Obj.cells #[.int .i64 s1, .int .i64 s2, .int .i64 s3, .int .i64 s4] 28), (w4.heap.size, Obj.cells #[.int .i64 r1, .int .i64 r2, .int .i64 r3, .int .i64 r4] 28), (wr.heap.size, Obj.cells #[.int .i64 0, .int .i64 k1, .int .i64 k2, .int .i64 k3, .int .i64 k4, .int .i64 k5, .int .i64 k6] 30), (b, tabO true t')]) := L.out.new hb; clear L hb; have L := L'; clear L') | (go_at_call 11; refine (Last_w (L.out.get 3 rfl) HT2.out hLa.out).mono ?_; rintro e w20 ⟨rfl, hb⟩; have L' : Hid (HL w w20 [(w5.heap.size, Obj.cells #[.int .i64 s1, .int .i64 s2, .int .i64 s3, .int .i64 s4] 28), (w4.heap.size, Obj.cells #[.int .i64 r1, .int .i64 r2, .int .i64 r3, .int .i64 r4] 28), (wr.heap.size, Obj.cells #[.int .i64 0, .int .i64 k1, .int .i64 k2, .int .i64 k3, .int .i64 k4, .int .i64 k5, .int .i64 k6] 30), (b, tabO true t')]) := L.out.new hb; clear L hb; have L := L'; clear L')))
            | fail "held3"
            go_wp2
            go_roundw
            case rel => exact ⟨j + 1, t', by omega, by go_num, HT2, L.out.drop 3⟩
            case measure => simp [intOf]; omega
          · skip
            go_wp2_with fail
            have L' : Hid (HL w (w5.alloc (Obj.cells #[.int .i64 s1, .int .i64 s2, .int .i64 s3, .int .i64 s4] 28)) [(w5.heap.size, Obj.cells #[.int .i64 s1, .int .i64 s2, .int .i64 s3, .int .i64 s4] 28), (w4.heap.size, Obj.cells #[.int .i64 r1, .int .i64 r2, .int .i64 r3, .int .i64 r4] 28), (wr.heap.size, Obj.cells #[.int .i64 0, .int .i64 k1, .int .i64 k2, .int .i64 k3, .int .i64 k4, .int .i64 k5, .int .i64 k6] 30), (b, tabO true t)]) := L.out.alloc _
            clear L
            have L := L'
            clear L'
            have L' : Hid (HL w (w5.alloc (Obj.cells #[.int .i64 s1, .int .i64 s2, .int .i64 s3, .int .i64 s4] 28)).drew [(w5.heap.size, Obj.cells #[.int .i64 s1, .int .i64 s2, .int .i64 s3, .int .i64 s4] 28), (w4.heap.size, Obj.cells #[.int .i64 r1, .int .i64 r2, .int .i64 r3, .int .i64 r4] 28), (wr.heap.size, Obj.cells #[.int .i64 0, .int .i64 k1, .int .i64 k2, .int .i64 k3, .int .i64 k4, .int .i64 k5, .int .i64 k6] 30), (b, tabO true t)]) := L.out.drew
            clear L
            have L := L'
            clear L'
            clear ad0 ad1 ad2 ad3 ad4 ad5 ad6 adlt
            refine wp_region_held_drew (S := (fun w' => w'.cell? ⟨wr.heap.size, 1, none⟩ = some (.int .i64 k1) ∧ w'.cell? ⟨wr.heap.size, 2, none⟩ = some (.int .i64 k2))) (by kernel_rfl) ⟨blk_cell (L.out.get 2 rfl) 1, blk_cell (L.out.get 2 rfl) 2⟩ (fun hHeld => ?_)
            refine take_on (i := 0) (v := ?_) rfl (by kernel_rfl) (by kernel_rfl) (by kernel_rfl) (fun _ _ _ h => h) (by rfl) ?_ (by assumption) ?_
            rotate_left
            · (intro w hSw; (try dsimp only at hSw); go_simp; try with_reducible rfl)
            try simp only [Act.put, List.setIfInBounds_toArray, List.set_cons_zero, List.set_cons_succ]
            refine take_on (i := 1) (v := ?_) rfl (by kernel_rfl) (by kernel_rfl) (by kernel_rfl) (fun _ _ _ h => h) (by rfl) ?_ (by assumption) ?_
            rotate_left
            · (intro w hSw; (try dsimp only at hSw); go_simp; try with_reducible rfl)
            try simp only [Act.put, List.setIfInBounds_toArray, List.set_cons_zero, List.set_cons_succ]
            refine take_on (i := 2) (v := ?_) rfl (by kernel_rfl) (by kernel_rfl) (by kernel_rfl) (fun _ _ _ h => h) (by rfl) ?_ (by assumption) ?_
            rotate_left
            · (intro w hSw; (try dsimp only at hSw); go_simp; try with_reducible rfl)
            try simp only [Act.put, List.setIfInBounds_toArray, List.set_cons_zero, List.set_cons_succ]
            refine take_on (i := 3) (v := ?_) rfl (by kernel_rfl) (by kernel_rfl) (by kernel_rfl) (fun _ _ _ h => h) (by rfl) ?_ (by assumption) ?_
            rotate_left
            · (intro w hSw; (try dsimp only at hSw); go_simp; try with_reducible rfl)
            try simp only [Act.put, List.setIfInBounds_toArray, List.set_cons_zero, List.set_cons_succ]
            refine take_on (i := 4) (v := ?_) rfl (by kernel_rfl) (by kernel_rfl) (by kernel_rfl) (fun _ _ _ h => h) (by rfl) ?_ (by assumption) ?_
            rotate_left
            · (intro w hSw; (try dsimp only at hSw); go_simp; try with_reducible rfl)
            try simp only [Act.put, List.setIfInBounds_toArray, List.set_cons_zero, List.set_cons_succ]
            refine take_on (i := 7) (v := ?_) rfl (by kernel_rfl) (by kernel_rfl) (by kernel_rfl) (fun _ _ _ h => h) (by rfl) ?_ (by assumption) ?_
            rotate_left
            · (intro w hSw; (try dsimp only at hSw); go_simp; try with_reducible rfl)
            try simp only [Act.put, List.setIfInBounds_toArray, List.set_cons_zero, List.set_cons_succ]
            refine take_on (i := 8) (v := ?_) rfl (by kernel_rfl) (by kernel_rfl) (by kernel_rfl) (fun _ _ _ h => h) (by rfl) ?_ (by assumption) ?_
            rotate_left
            · (intro w hSw; (try dsimp only at hSw); go_simp; try with_reducible rfl)
            try simp only [Act.put, List.setIfInBounds_toArray, List.set_cons_zero, List.set_cons_succ]
            refine take_all (i := 5) (by kernel_rfl) rfl (fun K hK => ?_)
            go_simp
            (go_at_call 13; refine (Start_w (L.out.get 3 rfl) HT.out hs.out).mono ?_; rintro e w10 ⟨rfl, hu⟩; have L' : Hid (HL w w10 [(w5.heap.size, Obj.cells #[.int .i64 s1, .int .i64 s2, .int .i64 s3, .int .i64 s4] 28), (w4.heap.size, Obj.cells #[.int .i64 r1, .int .i64 r2, .int .i64 r3, .int .i64 r4] 28), (wr.heap.size, Obj.cells #[.int .i64 0, .int .i64 k1, .int .i64 k2, .int .i64 k3, .int .i64 k4, .int .i64 k5, .int .i64 k6] 30), (b, tabO true t')]) := (L.out.turn 3 rfl hu.only hu.at_); clear L hu; have L := L'; clear L')
            refine hK.out _ _ ⟨blk_cell (L.out.get 2 rfl) 1, blk_cell (L.out.get 2 rfl) 2⟩ (fun hHeld => ?_)
            clear hK K
            try simp only [Act.put, List.setIfInBounds_toArray, List.set_cons_zero, List.set_cons_succ]
            refine take_on (i := 6) (v := ?_) rfl (by kernel_rfl) (by kernel_rfl) (by kernel_rfl) (fun _ _ _ h => h) (by rfl) ?_ (by assumption) ?_
            rotate_left
            · (intro w hSw; (try dsimp only at hSw); go_simp; try with_reducible rfl)
            try simp only [Act.put, List.setIfInBounds_toArray, List.set_cons_zero, List.set_cons_succ]
            refine take_on (i := 9) (v := ?_) rfl (by kernel_rfl) (by kernel_rfl) (by kernel_rfl) (fun _ _ _ h => h) (by rfl) ?_ (by assumption) ?_
            rotate_left
            · (intro w hSw; (try dsimp only at hSw); go_simp; try with_reducible rfl)
            try simp only [Act.put, List.setIfInBounds_toArray, List.set_cons_zero, List.set_cons_succ]
            refine take_on (i := 10) (v := ?_) rfl (by kernel_rfl) (by kernel_rfl) (by kernel_rfl) (fun _ _ _ h => h) (by rfl) ?_ (by assumption) ?_
            rotate_left
            · (intro w hSw; (try dsimp only at hSw); go_simp; try with_reducible rfl)
            try simp only [Act.put, List.setIfInBounds_toArray, List.set_cons_zero, List.set_cons_succ]
            refine take_on (i := 11) (v := ?_) rfl (by kernel_rfl) (by kernel_rfl) (by kernel_rfl) (fun _ _ _ h => h) (by rfl) ?_ (by assumption) ?_
            rotate_left
            · (intro w hSw; (try dsimp only at hSw); go_simp; try with_reducible rfl)
            try simp only [Act.put, List.setIfInBounds_toArray, List.set_cons_zero, List.set_cons_succ]
            refine take_on (i := 12) (v := ?_) rfl (by kernel_rfl) (by kernel_rfl) (by kernel_rfl) (fun _ _ _ h => h) (by rfl) ?_ (by assumption) ?_
            rotate_left
            · (intro w hSw; (try dsimp only at hSw); go_simp; try with_reducible rfl)
            try simp only [Act.put, List.setIfInBounds_toArray, List.set_cons_zero, List.set_cons_succ]
            refine take_on (i := 13) (v := ?_) rfl (by kernel_rfl) (by kernel_rfl) (by kernel_rfl) (fun _ _ _ h => h) (by rfl) ?_ (by assumption) ?_
            rotate_left
            · (intro w hSw; (try dsimp only at hSw); go_simp; try with_reducible rfl)
            try simp only [Act.put, List.setIfInBounds_toArray, List.set_cons_zero, List.set_cons_succ]
            refine take_off (i := 14) rfl (by kernel_rfl) (by kernel_rfl) (by kernel_rfl) (fun _ _ _ h => h) (by rfl) (by assumption) ?_
            try simp only [Act.put, List.setIfInBounds_toArray, List.set_cons_zero, List.set_cons_succ]
            refine take_off (i := 15) rfl (by kernel_rfl) (by kernel_rfl) (by kernel_rfl) (fun _ _ _ h => h) (by rfl) (by assumption) ?_
            try simp only [Act.put, List.setIfInBounds_toArray, List.set_cons_zero, List.set_cons_succ]
            refine take_off (i := 16) rfl (by kernel_rfl) (by kernel_rfl) (by kernel_rfl) (fun _ _ _ h => h) (by rfl) (by assumption) ?_
            try simp only [Act.put, List.setIfInBounds_toArray, List.set_cons_zero, List.set_cons_succ]
            refine take_off (i := 18) rfl (by kernel_rfl) (by kernel_rfl) (by kernel_rfl) (fun _ _ _ h => h) (by rfl) (by assumption) ?_
            try simp only [Act.put, List.setIfInBounds_toArray, List.set_cons_zero, List.set_cons_succ]
            refine take_off (i := 19) rfl (by kernel_rfl) (by kernel_rfl) (by kernel_rfl) (fun _ _ _ h => h) (by rfl) (by assumption) ?_
            try simp only [Act.put, List.setIfInBounds_toArray, List.set_cons_zero, List.set_cons_succ]
            refine take_off (i := 17) rfl (by kernel_rfl) (by kernel_rfl) (by kernel_rfl) (fun _ _ _ h => h) (by rfl) (by assumption) ?_
            try simp only [Act.put, List.setIfInBounds_toArray, List.set_cons_zero, List.set_cons_succ]
            refine take_off (i := 20) rfl (by kernel_rfl) (by kernel_rfl) (by kernel_rfl) (fun _ _ _ h => h) (by rfl) (by assumption) ?_
            try simp only [Act.put, List.setIfInBounds_toArray, List.set_cons_zero, List.set_cons_succ]
            refine take_on (i := 21) (v := ?_) rfl (by kernel_rfl) (by kernel_rfl) (by kernel_rfl) (fun _ _ _ h => h) (by rfl) ?_ (by assumption) ?_
            rotate_left
            · (intro w hSw; (try dsimp only at hSw); go_simp; try with_reducible rfl)
            try simp only [Act.put, List.setIfInBounds_toArray, List.set_cons_zero, List.set_cons_succ]
            refine take_on (i := 22) (v := ?_) rfl (by kernel_rfl) (by kernel_rfl) (by kernel_rfl) (fun _ _ _ h => h) (by rfl) ?_ (by assumption) ?_
            rotate_left
            · (intro w hSw; (try dsimp only at hSw); go_simp; try with_reducible rfl)
            try simp only [Act.put, List.setIfInBounds_toArray, List.set_cons_zero, List.set_cons_succ]
            refine wpAnyH_done (by kernel_rfl) ?_ _
            go_wp2_with fail
            have L' : Hid (HL w w10.drew [(w5.heap.size, Obj.cells #[.int .i64 s1, .int .i64 s2, .int .i64 s3, .int .i64 s4] 28), (w4.heap.size, Obj.cells #[.int .i64 r1, .int .i64 r2, .int .i64 r3, .int .i64 r4] 28), (wr.heap.size, Obj.cells #[.int .i64 0, .int .i64 k1, .int .i64 k2, .int .i64 k3, .int .i64 k4, .int .i64 k5, .int .i64 k6] 30), (b, tabO true t')]) := L.out.drew
            clear L
            have L := L'
            clear L'
            first
            | (go_region_held3 (fun w' => w'.cell? ⟨wr.heap.size, 1, none⟩ = some (.int .i64 k1)) (exact blk_cell (L.out.get 2 rfl) 1) (first | (go_at_call 10; refine (Done_w (L.out.get 3 rfl) HT2.out hD.out).mono ?_; rintro e w20 ⟨rfl, hb⟩; have L' : Hid (HL w w20 [(w5.heap.size, Obj.cells #[.int .i64 s1, .int .i64 s2, .int .i64 s3, .int .i64 s4] 28), (w4.heap.size, Obj.cells #[.int .i64 r1, .int .i64 r2, .int .i64 r3, .int .i64 r4] 28), (wr.heap.size, Obj.cells #[.int .i64 0, .int .i64 k1, .int .i64 k2, .int .i64 k3, .int .i64 k4, .int .i64 k5, .int .i64 k6] 30), (b, tabO true t')]) := L.out.new hb; clear L hb; have L := L'; clear L') | (go_at_call 11; refine (Last_w (L.out.get 3 rfl) HT2.out hLa.out).mono ?_; rintro e w20 ⟨rfl, hb⟩; have L' : Hid (HL w w20 [(w5.heap.size, Obj.cells #[.int .i64 s1, .int .i64 s2, .int .i64 s3, .int .i64 s4] 28), (w4.heap.size, Obj.cells #[.int .i64 r1, .int .i64 r2, .int .i64 r3, .int .i64 r4] 28), (wr.heap.size, Obj.cells #[.int .i64 0, .int .i64 k1, .int .i64 k2, .int .i64 k3, .int .i64 k4, .int .i64 k5, .int .i64 k6] 30), (b, tabO true t')]) := L.out.new hb; clear L hb; have L := L'; clear L')))
            | fail "held3"
            go_wp2
            go_roundw
            case rel => exact ⟨j + 1, t', by omega, by go_num, HT2, L.out.drop 3⟩
            case measure => simp [intOf]; omega
          · skip
            go_wp2_with fail
            have L' : Hid (HL w (w5.alloc (Obj.cells #[.int .i64 s1, .int .i64 s2, .int .i64 s3, .int .i64 s4] 28)) [(w5.heap.size, Obj.cells #[.int .i64 s1, .int .i64 s2, .int .i64 s3, .int .i64 s4] 28), (w4.heap.size, Obj.cells #[.int .i64 r1, .int .i64 r2, .int .i64 r3, .int .i64 r4] 28), (wr.heap.size, Obj.cells #[.int .i64 0, .int .i64 k1, .int .i64 k2, .int .i64 k3, .int .i64 k4, .int .i64 k5, .int .i64 k6] 30), (b, tabO true t)]) := L.out.alloc _
            clear L
            have L := L'
            clear L'
            have L' : Hid (HL w (w5.alloc (Obj.cells #[.int .i64 s1, .int .i64 s2, .int .i64 s3, .int .i64 s4] 28)).drew [(w5.heap.size, Obj.cells #[.int .i64 s1, .int .i64 s2, .int .i64 s3, .int .i64 s4] 28), (w4.heap.size, Obj.cells #[.int .i64 r1, .int .i64 r2, .int .i64 r3, .int .i64 r4] 28), (wr.heap.size, Obj.cells #[.int .i64 0, .int .i64 k1, .int .i64 k2, .int .i64 k3, .int .i64 k4, .int .i64 k5, .int .i64 k6] 30), (b, tabO true t)]) := L.out.drew
            clear L
            have L := L'
            clear L'
            clear ad0 ad1 ad2 ad3 ad4 ad5 ad6 adlt
            refine wp_region_held_drew (S := (fun w' => w'.cell? ⟨wr.heap.size, 1, none⟩ = some (.int .i64 k1) ∧ w'.cell? ⟨wr.heap.size, 2, none⟩ = some (.int .i64 k2))) (by kernel_rfl) ⟨blk_cell (L.out.get 2 rfl) 1, blk_cell (L.out.get 2 rfl) 2⟩ (fun hHeld => ?_)
            refine take_on (i := 0) (v := ?_) rfl (by kernel_rfl) (by kernel_rfl) (by kernel_rfl) (fun _ _ _ h => h) (by rfl) ?_ (by assumption) ?_
            rotate_left
            · (intro w hSw; (try dsimp only at hSw); go_simp; try with_reducible rfl)
            try simp only [Act.put, List.setIfInBounds_toArray, List.set_cons_zero, List.set_cons_succ]
            refine take_on (i := 1) (v := ?_) rfl (by kernel_rfl) (by kernel_rfl) (by kernel_rfl) (fun _ _ _ h => h) (by rfl) ?_ (by assumption) ?_
            rotate_left
            · (intro w hSw; (try dsimp only at hSw); go_simp; try with_reducible rfl)
            try simp only [Act.put, List.setIfInBounds_toArray, List.set_cons_zero, List.set_cons_succ]
            refine take_on (i := 2) (v := ?_) rfl (by kernel_rfl) (by kernel_rfl) (by kernel_rfl) (fun _ _ _ h => h) (by rfl) ?_ (by assumption) ?_
            rotate_left
            · (intro w hSw; (try dsimp only at hSw); go_simp; try with_reducible rfl)
            try simp only [Act.put, List.setIfInBounds_toArray, List.set_cons_zero, List.set_cons_succ]
            refine take_on (i := 3) (v := ?_) rfl (by kernel_rfl) (by kernel_rfl) (by kernel_rfl) (fun _ _ _ h => h) (by rfl) ?_ (by assumption) ?_
            rotate_left
            · (intro w hSw; (try dsimp only at hSw); go_simp; try with_reducible rfl)
            try simp only [Act.put, List.setIfInBounds_toArray, List.set_cons_zero, List.set_cons_succ]
            refine take_on (i := 4) (v := ?_) rfl (by kernel_rfl) (by kernel_rfl) (by kernel_rfl) (fun _ _ _ h => h) (by rfl) ?_ (by assumption) ?_
            rotate_left
            · (intro w hSw; (try dsimp only at hSw); go_simp; try with_reducible rfl)
            try simp only [Act.put, List.setIfInBounds_toArray, List.set_cons_zero, List.set_cons_succ]
            refine take_on (i := 7) (v := ?_) rfl (by kernel_rfl) (by kernel_rfl) (by kernel_rfl) (fun _ _ _ h => h) (by rfl) ?_ (by assumption) ?_
            rotate_left
            · (intro w hSw; (try dsimp only at hSw); go_simp; try with_reducible rfl)
            try simp only [Act.put, List.setIfInBounds_toArray, List.set_cons_zero, List.set_cons_succ]
            refine take_on (i := 8) (v := ?_) rfl (by kernel_rfl) (by kernel_rfl) (by kernel_rfl) (fun _ _ _ h => h) (by rfl) ?_ (by assumption) ?_
            rotate_left
            · (intro w hSw; (try dsimp only at hSw); go_simp; try with_reducible rfl)
            try simp only [Act.put, List.setIfInBounds_toArray, List.set_cons_zero, List.set_cons_succ]
            refine take_all (i := 5) (by kernel_rfl) rfl (fun K hK => ?_)
            go_simp
            (go_at_call 13; refine (Start_w (L.out.get 3 rfl) HT.out hs.out).mono ?_; rintro e w10 ⟨rfl, hu⟩; have L' : Hid (HL w w10 [(w5.heap.size, Obj.cells #[.int .i64 s1, .int .i64 s2, .int .i64 s3, .int .i64 s4] 28), (w4.heap.size, Obj.cells #[.int .i64 r1, .int .i64 r2, .int .i64 r3, .int .i64 r4] 28), (wr.heap.size, Obj.cells #[.int .i64 0, .int .i64 k1, .int .i64 k2, .int .i64 k3, .int .i64 k4, .int .i64 k5, .int .i64 k6] 30), (b, tabO true t')]) := (L.out.turn 3 rfl hu.only hu.at_); clear L hu; have L := L'; clear L')
            refine hK.out _ _ ⟨blk_cell (L.out.get 2 rfl) 1, blk_cell (L.out.get 2 rfl) 2⟩ (fun hHeld => ?_)
            clear hK K
            try simp only [Act.put, List.setIfInBounds_toArray, List.set_cons_zero, List.set_cons_succ]
            refine take_on (i := 6) (v := ?_) rfl (by kernel_rfl) (by kernel_rfl) (by kernel_rfl) (fun _ _ _ h => h) (by rfl) ?_ (by assumption) ?_
            rotate_left
            · (intro w hSw; (try dsimp only at hSw); go_simp; try with_reducible rfl)
            try simp only [Act.put, List.setIfInBounds_toArray, List.set_cons_zero, List.set_cons_succ]
            refine take_on (i := 9) (v := ?_) rfl (by kernel_rfl) (by kernel_rfl) (by kernel_rfl) (fun _ _ _ h => h) (by rfl) ?_ (by assumption) ?_
            rotate_left
            · (intro w hSw; (try dsimp only at hSw); go_simp; try with_reducible rfl)
            try simp only [Act.put, List.setIfInBounds_toArray, List.set_cons_zero, List.set_cons_succ]
            refine take_on (i := 10) (v := ?_) rfl (by kernel_rfl) (by kernel_rfl) (by kernel_rfl) (fun _ _ _ h => h) (by rfl) ?_ (by assumption) ?_
            rotate_left
            · (intro w hSw; (try dsimp only at hSw); go_simp; try with_reducible rfl)
            try simp only [Act.put, List.setIfInBounds_toArray, List.set_cons_zero, List.set_cons_succ]
            refine take_on (i := 11) (v := ?_) rfl (by kernel_rfl) (by kernel_rfl) (by kernel_rfl) (fun _ _ _ h => h) (by rfl) ?_ (by assumption) ?_
            rotate_left
            · (intro w hSw; (try dsimp only at hSw); go_simp; try with_reducible rfl)
            try simp only [Act.put, List.setIfInBounds_toArray, List.set_cons_zero, List.set_cons_succ]
            refine take_on (i := 12) (v := ?_) rfl (by kernel_rfl) (by kernel_rfl) (by kernel_rfl) (fun _ _ _ h => h) (by rfl) ?_ (by assumption) ?_
            rotate_left
            · (intro w hSw; (try dsimp only at hSw); go_simp; try with_reducible rfl)
            try simp only [Act.put, List.setIfInBounds_toArray, List.set_cons_zero, List.set_cons_succ]
            refine take_on (i := 13) (v := ?_) rfl (by kernel_rfl) (by kernel_rfl) (by kernel_rfl) (fun _ _ _ h => h) (by rfl) ?_ (by assumption) ?_
            rotate_left
            · (intro w hSw; (try dsimp only at hSw); go_simp; try with_reducible rfl)
            try simp only [Act.put, List.setIfInBounds_toArray, List.set_cons_zero, List.set_cons_succ]
            refine take_off (i := 14) rfl (by kernel_rfl) (by kernel_rfl) (by kernel_rfl) (fun _ _ _ h => h) (by rfl) (by assumption) ?_
            try simp only [Act.put, List.setIfInBounds_toArray, List.set_cons_zero, List.set_cons_succ]
            refine take_off (i := 15) rfl (by kernel_rfl) (by kernel_rfl) (by kernel_rfl) (fun _ _ _ h => h) (by rfl) (by assumption) ?_
            try simp only [Act.put, List.setIfInBounds_toArray, List.set_cons_zero, List.set_cons_succ]
            refine take_off (i := 16) rfl (by kernel_rfl) (by kernel_rfl) (by kernel_rfl) (fun _ _ _ h => h) (by rfl) (by assumption) ?_
            try simp only [Act.put, List.setIfInBounds_toArray, List.set_cons_zero, List.set_cons_succ]
            refine take_off (i := 18) rfl (by kernel_rfl) (by kernel_rfl) (by kernel_rfl) (fun _ _ _ h => h) (by rfl) (by assumption) ?_
            try simp only [Act.put, List.setIfInBounds_toArray, List.set_cons_zero, List.set_cons_succ]
            refine take_off (i := 19) rfl (by kernel_rfl) (by kernel_rfl) (by kernel_rfl) (fun _ _ _ h => h) (by rfl) (by assumption) ?_
            try simp only [Act.put, List.setIfInBounds_toArray, List.set_cons_zero, List.set_cons_succ]
            refine take_off (i := 17) rfl (by kernel_rfl) (by kernel_rfl) (by kernel_rfl) (fun _ _ _ h => h) (by rfl) (by assumption) ?_
            try simp only [Act.put, List.setIfInBounds_toArray, List.set_cons_zero, List.set_cons_succ]
            refine take_off (i := 20) rfl (by kernel_rfl) (by kernel_rfl) (by kernel_rfl) (fun _ _ _ h => h) (by rfl) (by assumption) ?_
            try simp only [Act.put, List.setIfInBounds_toArray, List.set_cons_zero, List.set_cons_succ]
            refine take_on (i := 21) (v := ?_) rfl (by kernel_rfl) (by kernel_rfl) (by kernel_rfl) (fun _ _ _ h => h) (by rfl) ?_ (by assumption) ?_
            rotate_left
            · (intro w hSw; (try dsimp only at hSw); go_simp; try with_reducible rfl)
            try simp only [Act.put, List.setIfInBounds_toArray, List.set_cons_zero, List.set_cons_succ]
            refine take_on (i := 22) (v := ?_) rfl (by kernel_rfl) (by kernel_rfl) (by kernel_rfl) (fun _ _ _ h => h) (by rfl) ?_ (by assumption) ?_
            rotate_left
            · (intro w hSw; (try dsimp only at hSw); go_simp; try with_reducible rfl)
            try simp only [Act.put, List.setIfInBounds_toArray, List.set_cons_zero, List.set_cons_succ]
            refine wpAnyH_done (by kernel_rfl) ?_ _
            go_wp2_with fail
            have L' : Hid (HL w w10.drew [(w5.heap.size, Obj.cells #[.int .i64 s1, .int .i64 s2, .int .i64 s3, .int .i64 s4] 28), (w4.heap.size, Obj.cells #[.int .i64 r1, .int .i64 r2, .int .i64 r3, .int .i64 r4] 28), (wr.heap.size, Obj.cells #[.int .i64 0, .int .i64 k1, .int .i64 k2, .int .i64 k3, .int .i64 k4, .int .i64 k5, .int .i64 k6] 30), (b, tabO true t')]) := L.out.drew
            clear L
            have L := L'
            clear L'
            first
            | (go_region_held3 (fun w' => w'.cell? ⟨wr.heap.size, 1, none⟩ = some (.int .i64 k1)) (exact blk_cell (L.out.get 2 rfl) 1) (first | (go_at_call 10; refine (Done_w (L.out.get 3 rfl) HT2.out hD.out).mono ?_; rintro e w20 ⟨rfl, hb⟩; have L' : Hid (HL w w20 [(w5.heap.size, Obj.cells #[.int .i64 s1, .int .i64 s2, .int .i64 s3, .int .i64 s4] 28), (w4.heap.size, Obj.cells #[.int .i64 r1, .int .i64 r2, .int .i64 r3, .int .i64 r4] 28), (wr.heap.size, Obj.cells #[.int .i64 0, .int .i64 k1, .int .i64 k2, .int .i64 k3, .int .i64 k4, .int .i64 k5, .int .i64 k6] 30), (b, tabO true t')]) := L.out.new hb; clear L hb; have L := L'; clear L') | (go_at_call 11; refine (Last_w (L.out.get 3 rfl) HT2.out hLa.out).mono ?_; rintro e w20 ⟨rfl, hb⟩; have L' : Hid (HL w w20 [(w5.heap.size, Obj.cells #[.int .i64 s1, .int .i64 s2, .int .i64 s3, .int .i64 s4] 28), (w4.heap.size, Obj.cells #[.int .i64 r1, .int .i64 r2, .int .i64 r3, .int .i64 r4] 28), (wr.heap.size, Obj.cells #[.int .i64 0, .int .i64 k1, .int .i64 k2, .int .i64 k3, .int .i64 k4, .int .i64 k5, .int .i64 k6] 30), (b, tabO true t')]) := L.out.new hb; clear L hb; have L := L'; clear L')))
            | fail "held3"
            go_wp2
            go_roundw
            case rel => exact ⟨j + 1, t', by omega, by go_num, HT2, L.out.drop 3⟩
            case measure => simp [intOf]; omega
          · skip
            go_wp2_with fail
            have L' : Hid (HL w (w5.alloc (Obj.cells #[.int .i64 s1, .int .i64 s2, .int .i64 s3, .int .i64 s4] 28)) [(w5.heap.size, Obj.cells #[.int .i64 s1, .int .i64 s2, .int .i64 s3, .int .i64 s4] 28), (w4.heap.size, Obj.cells #[.int .i64 r1, .int .i64 r2, .int .i64 r3, .int .i64 r4] 28), (wr.heap.size, Obj.cells #[.int .i64 0, .int .i64 k1, .int .i64 k2, .int .i64 k3, .int .i64 k4, .int .i64 k5, .int .i64 k6] 30), (b, tabO true t)]) := L.out.alloc _
            clear L
            have L := L'
            clear L'
            have L' : Hid (HL w (w5.alloc (Obj.cells #[.int .i64 s1, .int .i64 s2, .int .i64 s3, .int .i64 s4] 28)).drew [(w5.heap.size, Obj.cells #[.int .i64 s1, .int .i64 s2, .int .i64 s3, .int .i64 s4] 28), (w4.heap.size, Obj.cells #[.int .i64 r1, .int .i64 r2, .int .i64 r3, .int .i64 r4] 28), (wr.heap.size, Obj.cells #[.int .i64 0, .int .i64 k1, .int .i64 k2, .int .i64 k3, .int .i64 k4, .int .i64 k5, .int .i64 k6] 30), (b, tabO true t)]) := L.out.drew
            clear L
            have L := L'
            clear L'
            clear ad0 ad1 ad2 ad3 ad4 ad5 ad6 adlt
            refine wp_region_held_drew (S := (fun w' => w'.cell? ⟨wr.heap.size, 1, none⟩ = some (.int .i64 k1) ∧ w'.cell? ⟨wr.heap.size, 2, none⟩ = some (.int .i64 k2))) (by kernel_rfl) ⟨blk_cell (L.out.get 2 rfl) 1, blk_cell (L.out.get 2 rfl) 2⟩ (fun hHeld => ?_)
            refine take_on (i := 0) (v := ?_) rfl (by kernel_rfl) (by kernel_rfl) (by kernel_rfl) (fun _ _ _ h => h) (by rfl) ?_ (by assumption) ?_
            rotate_left
            · (intro w hSw; (try dsimp only at hSw); go_simp; try with_reducible rfl)
            try simp only [Act.put, List.setIfInBounds_toArray, List.set_cons_zero, List.set_cons_succ]
            refine take_on (i := 1) (v := ?_) rfl (by kernel_rfl) (by kernel_rfl) (by kernel_rfl) (fun _ _ _ h => h) (by rfl) ?_ (by assumption) ?_
            rotate_left
            · (intro w hSw; (try dsimp only at hSw); go_simp; try with_reducible rfl)
            try simp only [Act.put, List.setIfInBounds_toArray, List.set_cons_zero, List.set_cons_succ]
            refine take_on (i := 2) (v := ?_) rfl (by kernel_rfl) (by kernel_rfl) (by kernel_rfl) (fun _ _ _ h => h) (by rfl) ?_ (by assumption) ?_
            rotate_left
            · (intro w hSw; (try dsimp only at hSw); go_simp; try with_reducible rfl)
            try simp only [Act.put, List.setIfInBounds_toArray, List.set_cons_zero, List.set_cons_succ]
            refine take_on (i := 3) (v := ?_) rfl (by kernel_rfl) (by kernel_rfl) (by kernel_rfl) (fun _ _ _ h => h) (by rfl) ?_ (by assumption) ?_
            rotate_left
            · (intro w hSw; (try dsimp only at hSw); go_simp; try with_reducible rfl)
            try simp only [Act.put, List.setIfInBounds_toArray, List.set_cons_zero, List.set_cons_succ]
            refine take_on (i := 4) (v := ?_) rfl (by kernel_rfl) (by kernel_rfl) (by kernel_rfl) (fun _ _ _ h => h) (by rfl) ?_ (by assumption) ?_
            rotate_left
            · (intro w hSw; (try dsimp only at hSw); go_simp; try with_reducible rfl)
            try simp only [Act.put, List.setIfInBounds_toArray, List.set_cons_zero, List.set_cons_succ]
            refine take_on (i := 7) (v := ?_) rfl (by kernel_rfl) (by kernel_rfl) (by kernel_rfl) (fun _ _ _ h => h) (by rfl) ?_ (by assumption) ?_
            rotate_left
            · (intro w hSw; (try dsimp only at hSw); go_simp; try with_reducible rfl)
            try simp only [Act.put, List.setIfInBounds_toArray, List.set_cons_zero, List.set_cons_succ]
            refine take_on (i := 8) (v := ?_) rfl (by kernel_rfl) (by kernel_rfl) (by kernel_rfl) (fun _ _ _ h => h) (by rfl) ?_ (by assumption) ?_
            rotate_left
            · (intro w hSw; (try dsimp only at hSw); go_simp; try with_reducible rfl)
            try simp only [Act.put, List.setIfInBounds_toArray, List.set_cons_zero, List.set_cons_succ]
            refine take_all (i := 5) (by kernel_rfl) rfl (fun K hK => ?_)
            go_simp
            (go_at_call 13; refine (Start_w (L.out.get 3 rfl) HT.out hs.out).mono ?_; rintro e w10 ⟨rfl, hu⟩; have L' : Hid (HL w w10 [(w5.heap.size, Obj.cells #[.int .i64 s1, .int .i64 s2, .int .i64 s3, .int .i64 s4] 28), (w4.heap.size, Obj.cells #[.int .i64 r1, .int .i64 r2, .int .i64 r3, .int .i64 r4] 28), (wr.heap.size, Obj.cells #[.int .i64 0, .int .i64 k1, .int .i64 k2, .int .i64 k3, .int .i64 k4, .int .i64 k5, .int .i64 k6] 30), (b, tabO true t')]) := (L.out.turn 3 rfl hu.only hu.at_); clear L hu; have L := L'; clear L')
            refine hK.out _ _ ⟨blk_cell (L.out.get 2 rfl) 1, blk_cell (L.out.get 2 rfl) 2⟩ (fun hHeld => ?_)
            clear hK K
            try simp only [Act.put, List.setIfInBounds_toArray, List.set_cons_zero, List.set_cons_succ]
            refine take_on (i := 6) (v := ?_) rfl (by kernel_rfl) (by kernel_rfl) (by kernel_rfl) (fun _ _ _ h => h) (by rfl) ?_ (by assumption) ?_
            rotate_left
            · (intro w hSw; (try dsimp only at hSw); go_simp; try with_reducible rfl)
            try simp only [Act.put, List.setIfInBounds_toArray, List.set_cons_zero, List.set_cons_succ]
            refine take_on (i := 9) (v := ?_) rfl (by kernel_rfl) (by kernel_rfl) (by kernel_rfl) (fun _ _ _ h => h) (by rfl) ?_ (by assumption) ?_
            rotate_left
            · (intro w hSw; (try dsimp only at hSw); go_simp; try with_reducible rfl)
            try simp only [Act.put, List.setIfInBounds_toArray, List.set_cons_zero, List.set_cons_succ]
            refine take_on (i := 10) (v := ?_) rfl (by kernel_rfl) (by kernel_rfl) (by kernel_rfl) (fun _ _ _ h => h) (by rfl) ?_ (by assumption) ?_
            rotate_left
            · (intro w hSw; (try dsimp only at hSw); go_simp; try with_reducible rfl)
            try simp only [Act.put, List.setIfInBounds_toArray, List.set_cons_zero, List.set_cons_succ]
            refine take_on (i := 11) (v := ?_) rfl (by kernel_rfl) (by kernel_rfl) (by kernel_rfl) (fun _ _ _ h => h) (by rfl) ?_ (by assumption) ?_
            rotate_left
            · (intro w hSw; (try dsimp only at hSw); go_simp; try with_reducible rfl)
            try simp only [Act.put, List.setIfInBounds_toArray, List.set_cons_zero, List.set_cons_succ]
            refine take_on (i := 12) (v := ?_) rfl (by kernel_rfl) (by kernel_rfl) (by kernel_rfl) (fun _ _ _ h => h) (by rfl) ?_ (by assumption) ?_
            rotate_left
            · (intro w hSw; (try dsimp only at hSw); go_simp; try with_reducible rfl)
            try simp only [Act.put, List.setIfInBounds_toArray, List.set_cons_zero, List.set_cons_succ]
            refine take_on (i := 13) (v := ?_) rfl (by kernel_rfl) (by kernel_rfl) (by kernel_rfl) (fun _ _ _ h => h) (by rfl) ?_ (by assumption) ?_
            rotate_left
            · (intro w hSw; (try dsimp only at hSw); go_simp; try with_reducible rfl)
            try simp only [Act.put, List.setIfInBounds_toArray, List.set_cons_zero, List.set_cons_succ]
            refine take_off (i := 14) rfl (by kernel_rfl) (by kernel_rfl) (by kernel_rfl) (fun _ _ _ h => h) (by rfl) (by assumption) ?_
            try simp only [Act.put, List.setIfInBounds_toArray, List.set_cons_zero, List.set_cons_succ]
            refine take_off (i := 15) rfl (by kernel_rfl) (by kernel_rfl) (by kernel_rfl) (fun _ _ _ h => h) (by rfl) (by assumption) ?_
            try simp only [Act.put, List.setIfInBounds_toArray, List.set_cons_zero, List.set_cons_succ]
            refine take_off (i := 16) rfl (by kernel_rfl) (by kernel_rfl) (by kernel_rfl) (fun _ _ _ h => h) (by rfl) (by assumption) ?_
            try simp only [Act.put, List.setIfInBounds_toArray, List.set_cons_zero, List.set_cons_succ]
            refine take_off (i := 18) rfl (by kernel_rfl) (by kernel_rfl) (by kernel_rfl) (fun _ _ _ h => h) (by rfl) (by assumption) ?_
            try simp only [Act.put, List.setIfInBounds_toArray, List.set_cons_zero, List.set_cons_succ]
            refine take_off (i := 19) rfl (by kernel_rfl) (by kernel_rfl) (by kernel_rfl) (fun _ _ _ h => h) (by rfl) (by assumption) ?_
            try simp only [Act.put, List.setIfInBounds_toArray, List.set_cons_zero, List.set_cons_succ]
            refine take_off (i := 17) rfl (by kernel_rfl) (by kernel_rfl) (by kernel_rfl) (fun _ _ _ h => h) (by rfl) (by assumption) ?_
            try simp only [Act.put, List.setIfInBounds_toArray, List.set_cons_zero, List.set_cons_succ]
            refine take_off (i := 20) rfl (by kernel_rfl) (by kernel_rfl) (by kernel_rfl) (fun _ _ _ h => h) (by rfl) (by assumption) ?_
            try simp only [Act.put, List.setIfInBounds_toArray, List.set_cons_zero, List.set_cons_succ]
            refine take_on (i := 21) (v := ?_) rfl (by kernel_rfl) (by kernel_rfl) (by kernel_rfl) (fun _ _ _ h => h) (by rfl) ?_ (by assumption) ?_
            rotate_left
            · (intro w hSw; (try dsimp only at hSw); go_simp; try with_reducible rfl)
            try simp only [Act.put, List.setIfInBounds_toArray, List.set_cons_zero, List.set_cons_succ]
            refine take_on (i := 22) (v := ?_) rfl (by kernel_rfl) (by kernel_rfl) (by kernel_rfl) (fun _ _ _ h => h) (by rfl) ?_ (by assumption) ?_
            rotate_left
            · (intro w hSw; (try dsimp only at hSw); go_simp; try with_reducible rfl)
            try simp only [Act.put, List.setIfInBounds_toArray, List.set_cons_zero, List.set_cons_succ]
            refine wpAnyH_done (by kernel_rfl) ?_ _
            go_wp2_with fail
            have L' : Hid (HL w w10.drew [(w5.heap.size, Obj.cells #[.int .i64 s1, .int .i64 s2, .int .i64 s3, .int .i64 s4] 28), (w4.heap.size, Obj.cells #[.int .i64 r1, .int .i64 r2, .int .i64 r3, .int .i64 r4] 28), (wr.heap.size, Obj.cells #[.int .i64 0, .int .i64 k1, .int .i64 k2, .int .i64 k3, .int .i64 k4, .int .i64 k5, .int .i64 k6] 30), (b, tabO true t')]) := L.out.drew
            clear L
            have L := L'
            clear L'
            first
            | (go_region_held3 (fun w' => w'.cell? ⟨wr.heap.size, 1, none⟩ = some (.int .i64 k1)) (exact blk_cell (L.out.get 2 rfl) 1) (first | (go_at_call 10; refine (Done_w (L.out.get 3 rfl) HT2.out hD.out).mono ?_; rintro e w20 ⟨rfl, hb⟩; have L' : Hid (HL w w20 [(w5.heap.size, Obj.cells #[.int .i64 s1, .int .i64 s2, .int .i64 s3, .int .i64 s4] 28), (w4.heap.size, Obj.cells #[.int .i64 r1, .int .i64 r2, .int .i64 r3, .int .i64 r4] 28), (wr.heap.size, Obj.cells #[.int .i64 0, .int .i64 k1, .int .i64 k2, .int .i64 k3, .int .i64 k4, .int .i64 k5, .int .i64 k6] 30), (b, tabO true t')]) := L.out.new hb; clear L hb; have L := L'; clear L') | (go_at_call 11; refine (Last_w (L.out.get 3 rfl) HT2.out hLa.out).mono ?_; rintro e w20 ⟨rfl, hb⟩; have L' : Hid (HL w w20 [(w5.heap.size, Obj.cells #[.int .i64 s1, .int .i64 s2, .int .i64 s3, .int .i64 s4] 28), (w4.heap.size, Obj.cells #[.int .i64 r1, .int .i64 r2, .int .i64 r3, .int .i64 r4] 28), (wr.heap.size, Obj.cells #[.int .i64 0, .int .i64 k1, .int .i64 k2, .int .i64 k3, .int .i64 k4, .int .i64 k5, .int .i64 k6] 30), (b, tabO true t')]) := L.out.new hb; clear L hb; have L := L'; clear L')))
            | fail "held3"
            go_wp2
            go_roundw
            case rel => exact ⟨j + 1, t', by omega, by go_num, HT2, L.out.drop 3⟩
            case measure => simp [intOf]; omega
      · have b0 : (k0 == 0) = false := by simpa using hk
        by_cases hk1 : k0 = 1
        · skip
          subst hk1
          have HC : Hid (∀ i u, ([.int .i64 1, .int .i64 k1, .int .i64 k2, .int .i64 k3, .int .i64 k4, .int .i64 k5, .int .i64 k6] : List Value)[i]? = some u → wr.cell? ⟨ab, aoff + j * 7 + i, none⟩ = some u) := hc
          have HS : Hid ((Try.prog.info? 30).map (·.size) = some ([.int .i64 1, .int .i64 k1, .int .i64 k2, .int .i64 k3, .int .i64 k4, .int .i64 k5, .int .i64 k6] : List Value).length) := size_act
          clear hc
          go_wp2_with (with_reducible refine load_agg rfl 30 (.tmp 24) rfl _ Try.underlying30 rfl ab (aoff + j * 7) rfl [.int .i64 1, .int .i64 k1, .int .i64 k2, .int .i64 k3, .int .i64 k4, .int .i64 k5, .int .i64 k6] HS.out HC.out ?_)
          have L' : Hid (HL w (wr.alloc (Obj.cells #[.int .i64 1, .int .i64 k1, .int .i64 k2, .int .i64 k3, .int .i64 k4, .int .i64 k5, .int .i64 k6] 30)) [(wr.heap.size, Obj.cells #[.int .i64 1, .int .i64 k1, .int .i64 k2, .int .i64 k3, .int .i64 k4, .int .i64 k5, .int .i64 k6] 30), (b, tabO true t)]) := L.out.alloc _
          clear L
          have L := L'
          clear L'
          refine (Done_v (L.out.get 1 rfl) HT.out k1).mono ?_
          rintro e w2 ⟨x1, rfl, hx1, hb⟩
          have L' : Hid (HL w w2 [(wr.heap.size, Obj.cells #[.int .i64 1, .int .i64 k1, .int .i64 k2, .int .i64 k3, .int .i64 k4, .int .i64 k5, .int .i64 k6] 30), (b, tabO true t)]) := L.out.new hb
          clear L
          have L := L'
          clear L'
          clear hb
          have ad0 : w2.cell? ⟨wr.heap.size, 0, none⟩ = some (.int .i64 1) := blk_cell (L.out.get 0 rfl) 0
          have ad1 : w2.cell? ⟨wr.heap.size, 1, none⟩ = some (.int .i64 k1) := blk_cell (L.out.get 0 rfl) 1
          have ad2 : w2.cell? ⟨wr.heap.size, 2, none⟩ = some (.int .i64 k2) := blk_cell (L.out.get 0 rfl) 2
          have ad3 : w2.cell? ⟨wr.heap.size, 3, none⟩ = some (.int .i64 k3) := blk_cell (L.out.get 0 rfl) 3
          have ad4 : w2.cell? ⟨wr.heap.size, 4, none⟩ = some (.int .i64 k4) := blk_cell (L.out.get 0 rfl) 4
          have ad5 : w2.cell? ⟨wr.heap.size, 5, none⟩ = some (.int .i64 k5) := blk_cell (L.out.get 0 rfl) 5
          have ad6 : w2.cell? ⟨wr.heap.size, 6, none⟩ = some (.int .i64 k6) := blk_cell (L.out.get 0 rfl) 6
          have adlt : wr.heap.size < w2.heap.size := L.out.lt 0 rfl
          go_wp2_with fail
          refine (Last_v (L.out.get 1 rfl) HT.out k1).mono ?_
          rintro e w3 ⟨x2, rfl, hx2, hb⟩
          have L' : Hid (HL w w3 [(wr.heap.size, Obj.cells #[.int .i64 1, .int .i64 k1, .int .i64 k2, .int .i64 k3, .int .i64 k4, .int .i64 k5, .int .i64 k6] 30), (b, tabO true t)]) := L.out.new hb
          clear L
          have L := L'
          clear L'
          clear hb
          clear ad0 ad1 ad2 ad3 ad4 ad5 ad6 adlt
          have ad0 : w3.cell? ⟨wr.heap.size, 0, none⟩ = some (.int .i64 1) := blk_cell (L.out.get 0 rfl) 0
          have ad1 : w3.cell? ⟨wr.heap.size, 1, none⟩ = some (.int .i64 k1) := blk_cell (L.out.get 0 rfl) 1
          have ad2 : w3.cell? ⟨wr.heap.size, 2, none⟩ = some (.int .i64 k2) := blk_cell (L.out.get 0 rfl) 2
          have ad3 : w3.cell? ⟨wr.heap.size, 3, none⟩ = some (.int .i64 k3) := blk_cell (L.out.get 0 rfl) 3
          have ad4 : w3.cell? ⟨wr.heap.size, 4, none⟩ = some (.int .i64 k4) := blk_cell (L.out.get 0 rfl) 4
          have ad5 : w3.cell? ⟨wr.heap.size, 5, none⟩ = some (.int .i64 k5) := blk_cell (L.out.get 0 rfl) 5
          have ad6 : w3.cell? ⟨wr.heap.size, 6, none⟩ = some (.int .i64 k6) := blk_cell (L.out.get 0 rfl) 6
          have adlt : wr.heap.size < w3.heap.size := L.out.lt 0 rfl
          go_wp2_with fail
          refine (Ask_v (L.out.get 1 rfl) HT.out k1 x1).mono ?_
          rintro e w4 ⟨x3, r1, r2, r3, r4, rfl, hx3, hb⟩
          have L' : Hid (HL w w4 [(wr.heap.size, Obj.cells #[.int .i64 1, .int .i64 k1, .int .i64 k2, .int .i64 k3, .int .i64 k4, .int .i64 k5, .int .i64 k6] 30), (b, tabO true t)]) := L.out.new hb
          clear L
          have L := L'
          clear L'
          clear hb
          clear ad0 ad1 ad2 ad3 ad4 ad5 ad6 adlt
          have ad0 : w4.cell? ⟨wr.heap.size, 0, none⟩ = some (.int .i64 1) := blk_cell (L.out.get 0 rfl) 0
          have ad1 : w4.cell? ⟨wr.heap.size, 1, none⟩ = some (.int .i64 k1) := blk_cell (L.out.get 0 rfl) 1
          have ad2 : w4.cell? ⟨wr.heap.size, 2, none⟩ = some (.int .i64 k2) := blk_cell (L.out.get 0 rfl) 2
          have ad3 : w4.cell? ⟨wr.heap.size, 3, none⟩ = some (.int .i64 k3) := blk_cell (L.out.get 0 rfl) 3
          have ad4 : w4.cell? ⟨wr.heap.size, 4, none⟩ = some (.int .i64 k4) := blk_cell (L.out.get 0 rfl) 4
          have ad5 : w4.cell? ⟨wr.heap.size, 5, none⟩ = some (.int .i64 k5) := blk_cell (L.out.get 0 rfl) 5
          have ad6 : w4.cell? ⟨wr.heap.size, 6, none⟩ = some (.int .i64 k6) := blk_cell (L.out.get 0 rfl) 6
          have adlt : wr.heap.size < w4.heap.size := L.out.lt 0 rfl
          have L' : Hid (HL w (w4.alloc (Obj.cells #[.int .i64 r1, .int .i64 r2, .int .i64 r3, .int .i64 r4] 28)) [(w4.heap.size, Obj.cells #[.int .i64 r1, .int .i64 r2, .int .i64 r3, .int .i64 r4] 28), (wr.heap.size, Obj.cells #[.int .i64 1, .int .i64 k1, .int .i64 k2, .int .i64 k3, .int .i64 k4, .int .i64 k5, .int .i64 k6] 30), (b, tabO true t)]) := L.out.alloc _
          clear L
          have L := L'
          clear L'
          go_wp2_with fail
          refine (Ask_v (L.out.get 2 rfl) HT.out k1 k2).mono ?_
          rintro e w5 ⟨x4, s1, s2, s3, s4, rfl, hx4, hb⟩
          have L' : Hid (HL w w5 [(w4.heap.size, Obj.cells #[.int .i64 r1, .int .i64 r2, .int .i64 r3, .int .i64 r4] 28), (wr.heap.size, Obj.cells #[.int .i64 1, .int .i64 k1, .int .i64 k2, .int .i64 k3, .int .i64 k4, .int .i64 k5, .int .i64 k6] 30), (b, tabO true t)]) := L.out.new hb
          clear L
          have L := L'
          clear L'
          clear hb
          clear ad0 ad1 ad2 ad3 ad4 ad5 ad6 adlt
          have ad0 : w5.cell? ⟨wr.heap.size, 0, none⟩ = some (.int .i64 1) := blk_cell (L.out.get 1 rfl) 0
          have ad1 : w5.cell? ⟨wr.heap.size, 1, none⟩ = some (.int .i64 k1) := blk_cell (L.out.get 1 rfl) 1
          have ad2 : w5.cell? ⟨wr.heap.size, 2, none⟩ = some (.int .i64 k2) := blk_cell (L.out.get 1 rfl) 2
          have ad3 : w5.cell? ⟨wr.heap.size, 3, none⟩ = some (.int .i64 k3) := blk_cell (L.out.get 1 rfl) 3
          have ad4 : w5.cell? ⟨wr.heap.size, 4, none⟩ = some (.int .i64 k4) := blk_cell (L.out.get 1 rfl) 4
          have ad5 : w5.cell? ⟨wr.heap.size, 5, none⟩ = some (.int .i64 k5) := blk_cell (L.out.get 1 rfl) 5
          have ad6 : w5.cell? ⟨wr.heap.size, 6, none⟩ = some (.int .i64 k6) := blk_cell (L.out.get 1 rfl) 6
          have adlt : wr.heap.size < w5.heap.size := L.out.lt 1 rfl
          obtain ⟨y, t', hs⟩ : ∃ y t', Hid (finishT t k1 k2 k3 k4 k5 k6 = (y, t')) := ⟨_, _, rfl⟩
          have HT2 : Hid (t'.length = 4) := by have := finishT_len HT.out k1 k2 k3 k4 k5 k6; rw [hs.out] at this; exact this
          have F := Lib.hid (finish_new t HT.out hs.out)
          obtain ⟨D, hD⟩ : ∃ D, Hid ((rowT t' k1).known = D) := ⟨_, rfl⟩
          obtain ⟨La, hLa⟩ : ∃ La, Hid (lastR (rowT t' k1) = La) := ⟨_, rfl⟩
          have g1 : decide (D < x1) = false := decide_eq_false (by rw [← hD.out, ← hx1.out]; have := F.out.2.2.1; omega)
          have g2 : decide (La < x2) = false := decide_eq_false (by rw [← hLa.out, ← hx2.out]; have := F.out.2.2.2; omega)
          have g3 : decide (La < D) = false := decide_eq_false (by rw [← hD.out, ← hLa.out]; have := lastR_ge (rowT t' k1); omega)
          have L' : Hid (HL w (w5.alloc (Obj.cells #[.int .i64 s1, .int .i64 s2, .int .i64 s3, .int .i64 s4] 28)) [(w5.heap.size, Obj.cells #[.int .i64 s1, .int .i64 s2, .int .i64 s3, .int .i64 s4] 28), (w4.heap.size, Obj.cells #[.int .i64 r1, .int .i64 r2, .int .i64 r3, .int .i64 r4] 28), (wr.heap.size, Obj.cells #[.int .i64 1, .int .i64 k1, .int .i64 k2, .int .i64 k3, .int .i64 k4, .int .i64 k5, .int .i64 k6] 30), (b, tabO true t)]) := L.out.alloc _
          clear L
          have L := L'
          clear L'
          go_wp2_with fail
          refine (Finish_w (L.out.get 3 rfl) HT.out hs.out).mono ?_
          rintro e w6 ⟨rfl, hu⟩
          have L' : Hid (HL w w6 [(w5.heap.size, Obj.cells #[.int .i64 s1, .int .i64 s2, .int .i64 s3, .int .i64 s4] 28), (w4.heap.size, Obj.cells #[.int .i64 r1, .int .i64 r2, .int .i64 r3, .int .i64 r4] 28), (wr.heap.size, Obj.cells #[.int .i64 1, .int .i64 k1, .int .i64 k2, .int .i64 k3, .int .i64 k4, .int .i64 k5, .int .i64 k6] 30), (b, tabO true t')]) := L.out.turn 3 rfl hu.only hu.at_
          clear L
          have L := L'
          clear L'
          clear hu
          clear ad0 ad1 ad2 ad3 ad4 ad5 ad6 adlt
          by_cases hn : y = 0
          · skip
            have bq : (D != k2) = false := by rw [← hD.out, (F.out.1 hn).2]; simp
            have b5 : decide (k2 ≤ x1) = false := decide_eq_false (by rw [← hx1.out]; have := (F.out.1 hn).1; omega)
            subst hn
            go_wp2_with fail
            have L' : Hid (HL w w6.drew [(w5.heap.size, Obj.cells #[.int .i64 s1, .int .i64 s2, .int .i64 s3, .int .i64 s4] 28), (w4.heap.size, Obj.cells #[.int .i64 r1, .int .i64 r2, .int .i64 r3, .int .i64 r4] 28), (wr.heap.size, Obj.cells #[.int .i64 1, .int .i64 k1, .int .i64 k2, .int .i64 k3, .int .i64 k4, .int .i64 k5, .int .i64 k6] 30), (b, tabO true t')]) := L.out.drew
            clear L
            have L := L'
            clear L'
            first
            | (go_region_held3 (fun w' => w'.cell? ⟨wr.heap.size, 1, none⟩ = some (.int .i64 k1) ∧ w'.cell? ⟨wr.heap.size, 2, none⟩ = some (.int .i64 k2)) (exact ⟨blk_cell (L.out.get 2 rfl) 1, blk_cell (L.out.get 2 rfl) 2⟩) (first | (go_at_call 10; refine (Done_w (L.out.get 3 rfl) HT2.out hD.out).mono ?_; rintro e w11 ⟨rfl, hb⟩; have L' : Hid (HL w w11 [(w5.heap.size, Obj.cells #[.int .i64 s1, .int .i64 s2, .int .i64 s3, .int .i64 s4] 28), (w4.heap.size, Obj.cells #[.int .i64 r1, .int .i64 r2, .int .i64 r3, .int .i64 r4] 28), (wr.heap.size, Obj.cells #[.int .i64 1, .int .i64 k1, .int .i64 k2, .int .i64 k3, .int .i64 k4, .int .i64 k5, .int .i64 k6] 30), (b, tabO true t')]) := L.out.new hb; clear L hb; have L := L'; clear L')))
            | fail "held3"
            go_wp2_with fail
            have L' : Hid (HL w w11.drew [(w5.heap.size, Obj.cells #[.int .i64 s1, .int .i64 s2, .int .i64 s3, .int .i64 s4] 28), (w4.heap.size, Obj.cells #[.int .i64 r1, .int .i64 r2, .int .i64 r3, .int .i64 r4] 28), (wr.heap.size, Obj.cells #[.int .i64 1, .int .i64 k1, .int .i64 k2, .int .i64 k3, .int .i64 k4, .int .i64 k5, .int .i64 k6] 30), (b, tabO true t')]) := L.out.drew
            clear L
            have L := L'
            clear L'
            first
            | (go_region_held3 (fun w' => w'.cell? ⟨wr.heap.size, 1, none⟩ = some (.int .i64 k1)) (exact blk_cell (L.out.get 2 rfl) 1) (first | (go_at_call 10; refine (Done_w (L.out.get 3 rfl) HT2.out hD.out).mono ?_; rintro e w20 ⟨rfl, hb⟩; have L' : Hid (HL w w20 [(w5.heap.size, Obj.cells #[.int .i64 s1, .int .i64 s2, .int .i64 s3, .int .i64 s4] 28), (w4.heap.size, Obj.cells #[.int .i64 r1, .int .i64 r2, .int .i64 r3, .int .i64 r4] 28), (wr.heap.size, Obj.cells #[.int .i64 1, .int .i64 k1, .int .i64 k2, .int .i64 k3, .int .i64 k4, .int .i64 k5, .int .i64 k6] 30), (b, tabO true t')]) := L.out.new hb; clear L hb; have L := L'; clear L') | (go_at_call 11; refine (Last_w (L.out.get 3 rfl) HT2.out hLa.out).mono ?_; rintro e w20 ⟨rfl, hb⟩; have L' : Hid (HL w w20 [(w5.heap.size, Obj.cells #[.int .i64 s1, .int .i64 s2, .int .i64 s3, .int .i64 s4] 28), (w4.heap.size, Obj.cells #[.int .i64 r1, .int .i64 r2, .int .i64 r3, .int .i64 r4] 28), (wr.heap.size, Obj.cells #[.int .i64 1, .int .i64 k1, .int .i64 k2, .int .i64 k3, .int .i64 k4, .int .i64 k5, .int .i64 k6] 30), (b, tabO true t')]) := L.out.new hb; clear L hb; have L := L'; clear L')))
            | fail "held3"
            go_wp2
            go_roundw
            case rel => exact ⟨j + 1, t', by omega, by go_num, HT2, L.out.drop 3⟩
            case measure => simp [intOf]; omega
          · obtain rfl := F.out.2.1 hn
            have hl := finish_lit hs.out hn
            obtain rfl : D = x1 := hD.out.symm.trans hx1.out
            clear hn F
            rcases hl with rfl | rfl | rfl
            · skip
              go_wp2_with fail
              go_quiet (fail)
              have L' : Hid (HL w (w6.drewN nq) [(w5.heap.size, Obj.cells #[.int .i64 s1, .int .i64 s2, .int .i64 s3, .int .i64 s4] 28), (w4.heap.size, Obj.cells #[.int .i64 r1, .int .i64 r2, .int .i64 r3, .int .i64 r4] 28), (wr.heap.size, Obj.cells #[.int .i64 1, .int .i64 k1, .int .i64 k2, .int .i64 k3, .int .i64 k4, .int .i64 k5, .int .i64 k6] 30), (b, tabO true t')]) := L.out.drewN nq
              clear L
              have L := L'
              clear L'
              have ae0 : w6.cell? ⟨wr.heap.size, 0, none⟩ = some (.int .i64 1) := blk_cell (L.out.get 2 rfl) 0
              have ae1 : w6.cell? ⟨wr.heap.size, 1, none⟩ = some (.int .i64 k1) := blk_cell (L.out.get 2 rfl) 1
              have ae2 : w6.cell? ⟨wr.heap.size, 2, none⟩ = some (.int .i64 k2) := blk_cell (L.out.get 2 rfl) 2
              have ae3 : w6.cell? ⟨wr.heap.size, 3, none⟩ = some (.int .i64 k3) := blk_cell (L.out.get 2 rfl) 3
              have ae4 : w6.cell? ⟨wr.heap.size, 4, none⟩ = some (.int .i64 k4) := blk_cell (L.out.get 2 rfl) 4
              have ae5 : w6.cell? ⟨wr.heap.size, 5, none⟩ = some (.int .i64 k5) := blk_cell (L.out.get 2 rfl) 5
              have ae6 : w6.cell? ⟨wr.heap.size, 6, none⟩ = some (.int .i64 k6) := blk_cell (L.out.get 2 rfl) 6
              have aelt : wr.heap.size < w6.heap.size := L.out.lt 2 rfl
              go_wp2_with fail
              refine (Ask_w (L.out.get 3 rfl) HT.out hx3.out).mono ?_
              rintro e w7 ⟨rfl, hb⟩
              have L' : Hid (HL w w7 [(w5.heap.size, Obj.cells #[.int .i64 s1, .int .i64 s2, .int .i64 s3, .int .i64 s4] 28), (w4.heap.size, Obj.cells #[.int .i64 r1, .int .i64 r2, .int .i64 r3, .int .i64 r4] 28), (wr.heap.size, Obj.cells #[.int .i64 1, .int .i64 k1, .int .i64 k2, .int .i64 k3, .int .i64 k4, .int .i64 k5, .int .i64 k6] 30), (b, tabO true t')]) := L.out.new hb
              clear L
              have L := L'
              clear L'
              clear hb
              clear ae0 ae1 ae2 ae3 ae4 ae5 ae6 aelt
              have ae0 : w7.cell? ⟨wr.heap.size, 0, none⟩ = some (.int .i64 1) := blk_cell (L.out.get 2 rfl) 0
              have ae1 : w7.cell? ⟨wr.heap.size, 1, none⟩ = some (.int .i64 k1) := blk_cell (L.out.get 2 rfl) 1
              have ae2 : w7.cell? ⟨wr.heap.size, 2, none⟩ = some (.int .i64 k2) := blk_cell (L.out.get 2 rfl) 2
              have ae3 : w7.cell? ⟨wr.heap.size, 3, none⟩ = some (.int .i64 k3) := blk_cell (L.out.get 2 rfl) 3
              have ae4 : w7.cell? ⟨wr.heap.size, 4, none⟩ = some (.int .i64 k4) := blk_cell (L.out.get 2 rfl) 4
              have ae5 : w7.cell? ⟨wr.heap.size, 5, none⟩ = some (.int .i64 k5) := blk_cell (L.out.get 2 rfl) 5
              have ae6 : w7.cell? ⟨wr.heap.size, 6, none⟩ = some (.int .i64 k6) := blk_cell (L.out.get 2 rfl) 6
              have aelt : wr.heap.size < w7.heap.size := L.out.lt 2 rfl
              have p0 : w7.cell? ⟨w4.heap.size, 0, none⟩ = some (.int .i64 r1) := blk_cell (L.out.get 1 rfl) 0
              have p1 : w7.cell? ⟨w4.heap.size, 1, none⟩ = some (.int .i64 r2) := blk_cell (L.out.get 1 rfl) 1
              have p2 : w7.cell? ⟨w4.heap.size, 2, none⟩ = some (.int .i64 r3) := blk_cell (L.out.get 1 rfl) 2
              have p3 : w7.cell? ⟨w4.heap.size, 3, none⟩ = some (.int .i64 r4) := blk_cell (L.out.get 1 rfl) 3
              have plt : w4.heap.size < w7.heap.size := L.out.lt 1 rfl
              have L' : Hid (HL w (w7.alloc (Obj.cells #[.int .i64 r1, .int .i64 r2, .int .i64 r3, .int .i64 r4] 28)) [(w7.heap.size, Obj.cells #[.int .i64 r1, .int .i64 r2, .int .i64 r3, .int .i64 r4] 28), (w5.heap.size, Obj.cells #[.int .i64 s1, .int .i64 s2, .int .i64 s3, .int .i64 s4] 28), (w4.heap.size, Obj.cells #[.int .i64 r1, .int .i64 r2, .int .i64 r3, .int .i64 r4] 28), (wr.heap.size, Obj.cells #[.int .i64 1, .int .i64 k1, .int .i64 k2, .int .i64 k3, .int .i64 k4, .int .i64 k5, .int .i64 k6] 30), (b, tabO true t')]) := L.out.alloc _
              clear L
              have L := L'
              clear L'
              go_wp2_with fail
              refine (Done_w (L.out.get 4 rfl) HT.out hx1.out).mono ?_
              rintro e w8 ⟨rfl, hb⟩
              have L' : Hid (HL w w8 [(w7.heap.size, Obj.cells #[.int .i64 r1, .int .i64 r2, .int .i64 r3, .int .i64 r4] 28), (w5.heap.size, Obj.cells #[.int .i64 s1, .int .i64 s2, .int .i64 s3, .int .i64 s4] 28), (w4.heap.size, Obj.cells #[.int .i64 r1, .int .i64 r2, .int .i64 r3, .int .i64 r4] 28), (wr.heap.size, Obj.cells #[.int .i64 1, .int .i64 k1, .int .i64 k2, .int .i64 k3, .int .i64 k4, .int .i64 k5, .int .i64 k6] 30), (b, tabO true t')]) := L.out.new hb
              clear L
              have L := L'
              clear L'
              clear hb
              clear ae0 ae1 ae2 ae3 ae4 ae5 ae6 aelt
              clear p0 p1 p2 p3 plt
              go_wp2_with fail
              have L' : Hid (HL w w8.drew [(w7.heap.size, Obj.cells #[.int .i64 r1, .int .i64 r2, .int .i64 r3, .int .i64 r4] 28), (w5.heap.size, Obj.cells #[.int .i64 s1, .int .i64 s2, .int .i64 s3, .int .i64 s4] 28), (w4.heap.size, Obj.cells #[.int .i64 r1, .int .i64 r2, .int .i64 r3, .int .i64 r4] 28), (wr.heap.size, Obj.cells #[.int .i64 1, .int .i64 k1, .int .i64 k2, .int .i64 k3, .int .i64 k4, .int .i64 k5, .int .i64 k6] 30), (b, tabO true t')]) := L.out.drew
              clear L
              have L := L'
              clear L'
              first
              | (go_region_held3 (fun w' => w'.cell? ⟨wr.heap.size, 1, none⟩ = some (.int .i64 k1)) (exact blk_cell (L.out.get 3 rfl) 1) (first | (go_at_call 10; refine (Done_w (L.out.get 4 rfl) HT.out hD.out).mono ?_; rintro e w20 ⟨rfl, hb⟩; have L' : Hid (HL w w20 [(w7.heap.size, Obj.cells #[.int .i64 r1, .int .i64 r2, .int .i64 r3, .int .i64 r4] 28), (w5.heap.size, Obj.cells #[.int .i64 s1, .int .i64 s2, .int .i64 s3, .int .i64 s4] 28), (w4.heap.size, Obj.cells #[.int .i64 r1, .int .i64 r2, .int .i64 r3, .int .i64 r4] 28), (wr.heap.size, Obj.cells #[.int .i64 1, .int .i64 k1, .int .i64 k2, .int .i64 k3, .int .i64 k4, .int .i64 k5, .int .i64 k6] 30), (b, tabO true t')]) := L.out.new hb; clear L hb; have L := L'; clear L') | (go_at_call 11; refine (Last_w (L.out.get 4 rfl) HT.out hLa.out).mono ?_; rintro e w20 ⟨rfl, hb⟩; have L' : Hid (HL w w20 [(w7.heap.size, Obj.cells #[.int .i64 r1, .int .i64 r2, .int .i64 r3, .int .i64 r4] 28), (w5.heap.size, Obj.cells #[.int .i64 s1, .int .i64 s2, .int .i64 s3, .int .i64 s4] 28), (w4.heap.size, Obj.cells #[.int .i64 r1, .int .i64 r2, .int .i64 r3, .int .i64 r4] 28), (wr.heap.size, Obj.cells #[.int .i64 1, .int .i64 k1, .int .i64 k2, .int .i64 k3, .int .i64 k4, .int .i64 k5, .int .i64 k6] 30), (b, tabO true t')]) := L.out.new hb; clear L hb; have L := L'; clear L')))
              | fail "held3"
              go_wp2
              go_roundw
              case rel => exact ⟨j + 1, t', by omega, by go_num, HT, L.out.drop 4⟩
              case measure => simp [intOf]; omega
            · skip
              go_wp2_with fail
              go_quiet (fail)
              have L' : Hid (HL w (w6.drewN nq) [(w5.heap.size, Obj.cells #[.int .i64 s1, .int .i64 s2, .int .i64 s3, .int .i64 s4] 28), (w4.heap.size, Obj.cells #[.int .i64 r1, .int .i64 r2, .int .i64 r3, .int .i64 r4] 28), (wr.heap.size, Obj.cells #[.int .i64 1, .int .i64 k1, .int .i64 k2, .int .i64 k3, .int .i64 k4, .int .i64 k5, .int .i64 k6] 30), (b, tabO true t')]) := L.out.drewN nq
              clear L
              have L := L'
              clear L'
              have ae0 : w6.cell? ⟨wr.heap.size, 0, none⟩ = some (.int .i64 1) := blk_cell (L.out.get 2 rfl) 0
              have ae1 : w6.cell? ⟨wr.heap.size, 1, none⟩ = some (.int .i64 k1) := blk_cell (L.out.get 2 rfl) 1
              have ae2 : w6.cell? ⟨wr.heap.size, 2, none⟩ = some (.int .i64 k2) := blk_cell (L.out.get 2 rfl) 2
              have ae3 : w6.cell? ⟨wr.heap.size, 3, none⟩ = some (.int .i64 k3) := blk_cell (L.out.get 2 rfl) 3
              have ae4 : w6.cell? ⟨wr.heap.size, 4, none⟩ = some (.int .i64 k4) := blk_cell (L.out.get 2 rfl) 4
              have ae5 : w6.cell? ⟨wr.heap.size, 5, none⟩ = some (.int .i64 k5) := blk_cell (L.out.get 2 rfl) 5
              have ae6 : w6.cell? ⟨wr.heap.size, 6, none⟩ = some (.int .i64 k6) := blk_cell (L.out.get 2 rfl) 6
              have aelt : wr.heap.size < w6.heap.size := L.out.lt 2 rfl
              go_wp2_with fail
              refine (Ask_w (L.out.get 3 rfl) HT.out hx3.out).mono ?_
              rintro e w7 ⟨rfl, hb⟩
              have L' : Hid (HL w w7 [(w5.heap.size, Obj.cells #[.int .i64 s1, .int .i64 s2, .int .i64 s3, .int .i64 s4] 28), (w4.heap.size, Obj.cells #[.int .i64 r1, .int .i64 r2, .int .i64 r3, .int .i64 r4] 28), (wr.heap.size, Obj.cells #[.int .i64 1, .int .i64 k1, .int .i64 k2, .int .i64 k3, .int .i64 k4, .int .i64 k5, .int .i64 k6] 30), (b, tabO true t')]) := L.out.new hb
              clear L
              have L := L'
              clear L'
              clear hb
              clear ae0 ae1 ae2 ae3 ae4 ae5 ae6 aelt
              have ae0 : w7.cell? ⟨wr.heap.size, 0, none⟩ = some (.int .i64 1) := blk_cell (L.out.get 2 rfl) 0
              have ae1 : w7.cell? ⟨wr.heap.size, 1, none⟩ = some (.int .i64 k1) := blk_cell (L.out.get 2 rfl) 1
              have ae2 : w7.cell? ⟨wr.heap.size, 2, none⟩ = some (.int .i64 k2) := blk_cell (L.out.get 2 rfl) 2
              have ae3 : w7.cell? ⟨wr.heap.size, 3, none⟩ = some (.int .i64 k3) := blk_cell (L.out.get 2 rfl) 3
              have ae4 : w7.cell? ⟨wr.heap.size, 4, none⟩ = some (.int .i64 k4) := blk_cell (L.out.get 2 rfl) 4
              have ae5 : w7.cell? ⟨wr.heap.size, 5, none⟩ = some (.int .i64 k5) := blk_cell (L.out.get 2 rfl) 5
              have ae6 : w7.cell? ⟨wr.heap.size, 6, none⟩ = some (.int .i64 k6) := blk_cell (L.out.get 2 rfl) 6
              have aelt : wr.heap.size < w7.heap.size := L.out.lt 2 rfl
              have p0 : w7.cell? ⟨w4.heap.size, 0, none⟩ = some (.int .i64 r1) := blk_cell (L.out.get 1 rfl) 0
              have p1 : w7.cell? ⟨w4.heap.size, 1, none⟩ = some (.int .i64 r2) := blk_cell (L.out.get 1 rfl) 1
              have p2 : w7.cell? ⟨w4.heap.size, 2, none⟩ = some (.int .i64 r3) := blk_cell (L.out.get 1 rfl) 2
              have p3 : w7.cell? ⟨w4.heap.size, 3, none⟩ = some (.int .i64 r4) := blk_cell (L.out.get 1 rfl) 3
              have plt : w4.heap.size < w7.heap.size := L.out.lt 1 rfl
              have L' : Hid (HL w (w7.alloc (Obj.cells #[.int .i64 r1, .int .i64 r2, .int .i64 r3, .int .i64 r4] 28)) [(w7.heap.size, Obj.cells #[.int .i64 r1, .int .i64 r2, .int .i64 r3, .int .i64 r4] 28), (w5.heap.size, Obj.cells #[.int .i64 s1, .int .i64 s2, .int .i64 s3, .int .i64 s4] 28), (w4.heap.size, Obj.cells #[.int .i64 r1, .int .i64 r2, .int .i64 r3, .int .i64 r4] 28), (wr.heap.size, Obj.cells #[.int .i64 1, .int .i64 k1, .int .i64 k2, .int .i64 k3, .int .i64 k4, .int .i64 k5, .int .i64 k6] 30), (b, tabO true t')]) := L.out.alloc _
              clear L
              have L := L'
              clear L'
              go_wp2_with fail
              refine (Done_w (L.out.get 4 rfl) HT.out hx1.out).mono ?_
              rintro e w8 ⟨rfl, hb⟩
              have L' : Hid (HL w w8 [(w7.heap.size, Obj.cells #[.int .i64 r1, .int .i64 r2, .int .i64 r3, .int .i64 r4] 28), (w5.heap.size, Obj.cells #[.int .i64 s1, .int .i64 s2, .int .i64 s3, .int .i64 s4] 28), (w4.heap.size, Obj.cells #[.int .i64 r1, .int .i64 r2, .int .i64 r3, .int .i64 r4] 28), (wr.heap.size, Obj.cells #[.int .i64 1, .int .i64 k1, .int .i64 k2, .int .i64 k3, .int .i64 k4, .int .i64 k5, .int .i64 k6] 30), (b, tabO true t')]) := L.out.new hb
              clear L
              have L := L'
              clear L'
              clear hb
              clear ae0 ae1 ae2 ae3 ae4 ae5 ae6 aelt
              clear p0 p1 p2 p3 plt
              go_wp2_with fail
              have L' : Hid (HL w w8.drew [(w7.heap.size, Obj.cells #[.int .i64 r1, .int .i64 r2, .int .i64 r3, .int .i64 r4] 28), (w5.heap.size, Obj.cells #[.int .i64 s1, .int .i64 s2, .int .i64 s3, .int .i64 s4] 28), (w4.heap.size, Obj.cells #[.int .i64 r1, .int .i64 r2, .int .i64 r3, .int .i64 r4] 28), (wr.heap.size, Obj.cells #[.int .i64 1, .int .i64 k1, .int .i64 k2, .int .i64 k3, .int .i64 k4, .int .i64 k5, .int .i64 k6] 30), (b, tabO true t')]) := L.out.drew
              clear L
              have L := L'
              clear L'
              first
              | (go_region_held3 (fun w' => w'.cell? ⟨wr.heap.size, 1, none⟩ = some (.int .i64 k1)) (exact blk_cell (L.out.get 3 rfl) 1) (first | (go_at_call 10; refine (Done_w (L.out.get 4 rfl) HT.out hD.out).mono ?_; rintro e w20 ⟨rfl, hb⟩; have L' : Hid (HL w w20 [(w7.heap.size, Obj.cells #[.int .i64 r1, .int .i64 r2, .int .i64 r3, .int .i64 r4] 28), (w5.heap.size, Obj.cells #[.int .i64 s1, .int .i64 s2, .int .i64 s3, .int .i64 s4] 28), (w4.heap.size, Obj.cells #[.int .i64 r1, .int .i64 r2, .int .i64 r3, .int .i64 r4] 28), (wr.heap.size, Obj.cells #[.int .i64 1, .int .i64 k1, .int .i64 k2, .int .i64 k3, .int .i64 k4, .int .i64 k5, .int .i64 k6] 30), (b, tabO true t')]) := L.out.new hb; clear L hb; have L := L'; clear L') | (go_at_call 11; refine (Last_w (L.out.get 4 rfl) HT.out hLa.out).mono ?_; rintro e w20 ⟨rfl, hb⟩; have L' : Hid (HL w w20 [(w7.heap.size, Obj.cells #[.int .i64 r1, .int .i64 r2, .int .i64 r3, .int .i64 r4] 28), (w5.heap.size, Obj.cells #[.int .i64 s1, .int .i64 s2, .int .i64 s3, .int .i64 s4] 28), (w4.heap.size, Obj.cells #[.int .i64 r1, .int .i64 r2, .int .i64 r3, .int .i64 r4] 28), (wr.heap.size, Obj.cells #[.int .i64 1, .int .i64 k1, .int .i64 k2, .int .i64 k3, .int .i64 k4, .int .i64 k5, .int .i64 k6] 30), (b, tabO true t')]) := L.out.new hb; clear L hb; have L := L'; clear L')))
              | fail "held3"
              go_wp2
              go_roundw
              case rel => exact ⟨j + 1, t', by omega, by go_num, HT, L.out.drop 4⟩
              case measure => simp [intOf]; omega
            · skip
              go_wp2_with fail
              go_quiet (fail)
              have L' : Hid (HL w (w6.drewN nq) [(w5.heap.size, Obj.cells #[.int .i64 s1, .int .i64 s2, .int .i64 s3, .int .i64 s4] 28), (w4.heap.size, Obj.cells #[.int .i64 r1, .int .i64 r2, .int .i64 r3, .int .i64 r4] 28), (wr.heap.size, Obj.cells #[.int .i64 1, .int .i64 k1, .int .i64 k2, .int .i64 k3, .int .i64 k4, .int .i64 k5, .int .i64 k6] 30), (b, tabO true t')]) := L.out.drewN nq
              clear L
              have L := L'
              clear L'
              have ae0 : w6.cell? ⟨wr.heap.size, 0, none⟩ = some (.int .i64 1) := blk_cell (L.out.get 2 rfl) 0
              have ae1 : w6.cell? ⟨wr.heap.size, 1, none⟩ = some (.int .i64 k1) := blk_cell (L.out.get 2 rfl) 1
              have ae2 : w6.cell? ⟨wr.heap.size, 2, none⟩ = some (.int .i64 k2) := blk_cell (L.out.get 2 rfl) 2
              have ae3 : w6.cell? ⟨wr.heap.size, 3, none⟩ = some (.int .i64 k3) := blk_cell (L.out.get 2 rfl) 3
              have ae4 : w6.cell? ⟨wr.heap.size, 4, none⟩ = some (.int .i64 k4) := blk_cell (L.out.get 2 rfl) 4
              have ae5 : w6.cell? ⟨wr.heap.size, 5, none⟩ = some (.int .i64 k5) := blk_cell (L.out.get 2 rfl) 5
              have ae6 : w6.cell? ⟨wr.heap.size, 6, none⟩ = some (.int .i64 k6) := blk_cell (L.out.get 2 rfl) 6
              have aelt : wr.heap.size < w6.heap.size := L.out.lt 2 rfl
              go_wp2_with fail
              refine (Ask_w (L.out.get 3 rfl) HT.out hx3.out).mono ?_
              rintro e w7 ⟨rfl, hb⟩
              have L' : Hid (HL w w7 [(w5.heap.size, Obj.cells #[.int .i64 s1, .int .i64 s2, .int .i64 s3, .int .i64 s4] 28), (w4.heap.size, Obj.cells #[.int .i64 r1, .int .i64 r2, .int .i64 r3, .int .i64 r4] 28), (wr.heap.size, Obj.cells #[.int .i64 1, .int .i64 k1, .int .i64 k2, .int .i64 k3, .int .i64 k4, .int .i64 k5, .int .i64 k6] 30), (b, tabO true t')]) := L.out.new hb
              clear L
              have L := L'
              clear L'
              clear hb
              clear ae0 ae1 ae2 ae3 ae4 ae5 ae6 aelt
              have ae0 : w7.cell? ⟨wr.heap.size, 0, none⟩ = some (.int .i64 1) := blk_cell (L.out.get 2 rfl) 0
              have ae1 : w7.cell? ⟨wr.heap.size, 1, none⟩ = some (.int .i64 k1) := blk_cell (L.out.get 2 rfl) 1
              have ae2 : w7.cell? ⟨wr.heap.size, 2, none⟩ = some (.int .i64 k2) := blk_cell (L.out.get 2 rfl) 2
              have ae3 : w7.cell? ⟨wr.heap.size, 3, none⟩ = some (.int .i64 k3) := blk_cell (L.out.get 2 rfl) 3
              have ae4 : w7.cell? ⟨wr.heap.size, 4, none⟩ = some (.int .i64 k4) := blk_cell (L.out.get 2 rfl) 4
              have ae5 : w7.cell? ⟨wr.heap.size, 5, none⟩ = some (.int .i64 k5) := blk_cell (L.out.get 2 rfl) 5
              have ae6 : w7.cell? ⟨wr.heap.size, 6, none⟩ = some (.int .i64 k6) := blk_cell (L.out.get 2 rfl) 6
              have aelt : wr.heap.size < w7.heap.size := L.out.lt 2 rfl
              have p0 : w7.cell? ⟨w4.heap.size, 0, none⟩ = some (.int .i64 r1) := blk_cell (L.out.get 1 rfl) 0
              have p1 : w7.cell? ⟨w4.heap.size, 1, none⟩ = some (.int .i64 r2) := blk_cell (L.out.get 1 rfl) 1
              have p2 : w7.cell? ⟨w4.heap.size, 2, none⟩ = some (.int .i64 r3) := blk_cell (L.out.get 1 rfl) 2
              have p3 : w7.cell? ⟨w4.heap.size, 3, none⟩ = some (.int .i64 r4) := blk_cell (L.out.get 1 rfl) 3
              have plt : w4.heap.size < w7.heap.size := L.out.lt 1 rfl
              have L' : Hid (HL w (w7.alloc (Obj.cells #[.int .i64 r1, .int .i64 r2, .int .i64 r3, .int .i64 r4] 28)) [(w7.heap.size, Obj.cells #[.int .i64 r1, .int .i64 r2, .int .i64 r3, .int .i64 r4] 28), (w5.heap.size, Obj.cells #[.int .i64 s1, .int .i64 s2, .int .i64 s3, .int .i64 s4] 28), (w4.heap.size, Obj.cells #[.int .i64 r1, .int .i64 r2, .int .i64 r3, .int .i64 r4] 28), (wr.heap.size, Obj.cells #[.int .i64 1, .int .i64 k1, .int .i64 k2, .int .i64 k3, .int .i64 k4, .int .i64 k5, .int .i64 k6] 30), (b, tabO true t')]) := L.out.alloc _
              clear L
              have L := L'
              clear L'
              go_wp2_with fail
              refine (Done_w (L.out.get 4 rfl) HT.out hx1.out).mono ?_
              rintro e w8 ⟨rfl, hb⟩
              have L' : Hid (HL w w8 [(w7.heap.size, Obj.cells #[.int .i64 r1, .int .i64 r2, .int .i64 r3, .int .i64 r4] 28), (w5.heap.size, Obj.cells #[.int .i64 s1, .int .i64 s2, .int .i64 s3, .int .i64 s4] 28), (w4.heap.size, Obj.cells #[.int .i64 r1, .int .i64 r2, .int .i64 r3, .int .i64 r4] 28), (wr.heap.size, Obj.cells #[.int .i64 1, .int .i64 k1, .int .i64 k2, .int .i64 k3, .int .i64 k4, .int .i64 k5, .int .i64 k6] 30), (b, tabO true t')]) := L.out.new hb
              clear L
              have L := L'
              clear L'
              clear hb
              clear ae0 ae1 ae2 ae3 ae4 ae5 ae6 aelt
              clear p0 p1 p2 p3 plt
              go_wp2_with fail
              have L' : Hid (HL w w8.drew [(w7.heap.size, Obj.cells #[.int .i64 r1, .int .i64 r2, .int .i64 r3, .int .i64 r4] 28), (w5.heap.size, Obj.cells #[.int .i64 s1, .int .i64 s2, .int .i64 s3, .int .i64 s4] 28), (w4.heap.size, Obj.cells #[.int .i64 r1, .int .i64 r2, .int .i64 r3, .int .i64 r4] 28), (wr.heap.size, Obj.cells #[.int .i64 1, .int .i64 k1, .int .i64 k2, .int .i64 k3, .int .i64 k4, .int .i64 k5, .int .i64 k6] 30), (b, tabO true t')]) := L.out.drew
              clear L
              have L := L'
              clear L'
              first
              | (go_region_held3 (fun w' => w'.cell? ⟨wr.heap.size, 1, none⟩ = some (.int .i64 k1)) (exact blk_cell (L.out.get 3 rfl) 1) (first | (go_at_call 10; refine (Done_w (L.out.get 4 rfl) HT.out hD.out).mono ?_; rintro e w20 ⟨rfl, hb⟩; have L' : Hid (HL w w20 [(w7.heap.size, Obj.cells #[.int .i64 r1, .int .i64 r2, .int .i64 r3, .int .i64 r4] 28), (w5.heap.size, Obj.cells #[.int .i64 s1, .int .i64 s2, .int .i64 s3, .int .i64 s4] 28), (w4.heap.size, Obj.cells #[.int .i64 r1, .int .i64 r2, .int .i64 r3, .int .i64 r4] 28), (wr.heap.size, Obj.cells #[.int .i64 1, .int .i64 k1, .int .i64 k2, .int .i64 k3, .int .i64 k4, .int .i64 k5, .int .i64 k6] 30), (b, tabO true t')]) := L.out.new hb; clear L hb; have L := L'; clear L') | (go_at_call 11; refine (Last_w (L.out.get 4 rfl) HT.out hLa.out).mono ?_; rintro e w20 ⟨rfl, hb⟩; have L' : Hid (HL w w20 [(w7.heap.size, Obj.cells #[.int .i64 r1, .int .i64 r2, .int .i64 r3, .int .i64 r4] 28), (w5.heap.size, Obj.cells #[.int .i64 s1, .int .i64 s2, .int .i64 s3, .int .i64 s4] 28), (w4.heap.size, Obj.cells #[.int .i64 r1, .int .i64 r2, .int .i64 r3, .int .i64 r4] 28), (wr.heap.size, Obj.cells #[.int .i64 1, .int .i64 k1, .int .i64 k2, .int .i64 k3, .int .i64 k4, .int .i64 k5, .int .i64 k6] 30), (b, tabO true t')]) := L.out.new hb; clear L hb; have L := L'; clear L')))
              | fail "held3"
              go_wp2
              go_roundw
              case rel => exact ⟨j + 1, t', by omega, by go_num, HT, L.out.drop 4⟩
              case measure => simp [intOf]; omega
        · have b1 : (k0 == 1) = false := by simpa using hk1
          have HC : Hid (∀ i u, ([.int .i64 k0, .int .i64 k1, .int .i64 k2, .int .i64 k3, .int .i64 k4, .int .i64 k5, .int .i64 k6] : List Value)[i]? = some u → wr.cell? ⟨ab, aoff + j * 7 + i, none⟩ = some u) := hc
          have HS : Hid ((Try.prog.info? 30).map (·.size) = some ([.int .i64 k0, .int .i64 k1, .int .i64 k2, .int .i64 k3, .int .i64 k4, .int .i64 k5, .int .i64 k6] : List Value).length) := size_act
          clear hc
          go_wp2_with (with_reducible refine load_agg rfl 30 (.tmp 24) rfl _ Try.underlying30 rfl ab (aoff + j * 7) rfl [.int .i64 k0, .int .i64 k1, .int .i64 k2, .int .i64 k3, .int .i64 k4, .int .i64 k5, .int .i64 k6] HS.out HC.out ?_)
          have L' : Hid (HL w (wr.alloc (Obj.cells #[.int .i64 k0, .int .i64 k1, .int .i64 k2, .int .i64 k3, .int .i64 k4, .int .i64 k5, .int .i64 k6] 30)) [(wr.heap.size, Obj.cells #[.int .i64 k0, .int .i64 k1, .int .i64 k2, .int .i64 k3, .int .i64 k4, .int .i64 k5, .int .i64 k6] 30), (b, tabO true t)]) := L.out.alloc _
          clear L
          have L := L'
          clear L'
          refine (Done_v (L.out.get 1 rfl) HT.out k1).mono ?_
          rintro e w2 ⟨x1, rfl, hx1, hb⟩
          have L' : Hid (HL w w2 [(wr.heap.size, Obj.cells #[.int .i64 k0, .int .i64 k1, .int .i64 k2, .int .i64 k3, .int .i64 k4, .int .i64 k5, .int .i64 k6] 30), (b, tabO true t)]) := L.out.new hb
          clear L
          have L := L'
          clear L'
          clear hb
          have ad0 : w2.cell? ⟨wr.heap.size, 0, none⟩ = some (.int .i64 k0) := blk_cell (L.out.get 0 rfl) 0
          have ad1 : w2.cell? ⟨wr.heap.size, 1, none⟩ = some (.int .i64 k1) := blk_cell (L.out.get 0 rfl) 1
          have ad2 : w2.cell? ⟨wr.heap.size, 2, none⟩ = some (.int .i64 k2) := blk_cell (L.out.get 0 rfl) 2
          have ad3 : w2.cell? ⟨wr.heap.size, 3, none⟩ = some (.int .i64 k3) := blk_cell (L.out.get 0 rfl) 3
          have ad4 : w2.cell? ⟨wr.heap.size, 4, none⟩ = some (.int .i64 k4) := blk_cell (L.out.get 0 rfl) 4
          have ad5 : w2.cell? ⟨wr.heap.size, 5, none⟩ = some (.int .i64 k5) := blk_cell (L.out.get 0 rfl) 5
          have ad6 : w2.cell? ⟨wr.heap.size, 6, none⟩ = some (.int .i64 k6) := blk_cell (L.out.get 0 rfl) 6
          have adlt : wr.heap.size < w2.heap.size := L.out.lt 0 rfl
          go_wp2_with fail
          refine (Last_v (L.out.get 1 rfl) HT.out k1).mono ?_
          rintro e w3 ⟨x2, rfl, hx2, hb⟩
          have L' : Hid (HL w w3 [(wr.heap.size, Obj.cells #[.int .i64 k0, .int .i64 k1, .int .i64 k2, .int .i64 k3, .int .i64 k4, .int .i64 k5, .int .i64 k6] 30), (b, tabO true t)]) := L.out.new hb
          clear L
          have L := L'
          clear L'
          clear hb
          clear ad0 ad1 ad2 ad3 ad4 ad5 ad6 adlt
          have ad0 : w3.cell? ⟨wr.heap.size, 0, none⟩ = some (.int .i64 k0) := blk_cell (L.out.get 0 rfl) 0
          have ad1 : w3.cell? ⟨wr.heap.size, 1, none⟩ = some (.int .i64 k1) := blk_cell (L.out.get 0 rfl) 1
          have ad2 : w3.cell? ⟨wr.heap.size, 2, none⟩ = some (.int .i64 k2) := blk_cell (L.out.get 0 rfl) 2
          have ad3 : w3.cell? ⟨wr.heap.size, 3, none⟩ = some (.int .i64 k3) := blk_cell (L.out.get 0 rfl) 3
          have ad4 : w3.cell? ⟨wr.heap.size, 4, none⟩ = some (.int .i64 k4) := blk_cell (L.out.get 0 rfl) 4
          have ad5 : w3.cell? ⟨wr.heap.size, 5, none⟩ = some (.int .i64 k5) := blk_cell (L.out.get 0 rfl) 5
          have ad6 : w3.cell? ⟨wr.heap.size, 6, none⟩ = some (.int .i64 k6) := blk_cell (L.out.get 0 rfl) 6
          have adlt : wr.heap.size < w3.heap.size := L.out.lt 0 rfl
          go_wp2_with fail
          refine (Ask_v (L.out.get 1 rfl) HT.out k1 x1).mono ?_
          rintro e w4 ⟨x3, r1, r2, r3, r4, rfl, hx3, hb⟩
          have L' : Hid (HL w w4 [(wr.heap.size, Obj.cells #[.int .i64 k0, .int .i64 k1, .int .i64 k2, .int .i64 k3, .int .i64 k4, .int .i64 k5, .int .i64 k6] 30), (b, tabO true t)]) := L.out.new hb
          clear L
          have L := L'
          clear L'
          clear hb
          clear ad0 ad1 ad2 ad3 ad4 ad5 ad6 adlt
          have ad0 : w4.cell? ⟨wr.heap.size, 0, none⟩ = some (.int .i64 k0) := blk_cell (L.out.get 0 rfl) 0
          have ad1 : w4.cell? ⟨wr.heap.size, 1, none⟩ = some (.int .i64 k1) := blk_cell (L.out.get 0 rfl) 1
          have ad2 : w4.cell? ⟨wr.heap.size, 2, none⟩ = some (.int .i64 k2) := blk_cell (L.out.get 0 rfl) 2
          have ad3 : w4.cell? ⟨wr.heap.size, 3, none⟩ = some (.int .i64 k3) := blk_cell (L.out.get 0 rfl) 3
          have ad4 : w4.cell? ⟨wr.heap.size, 4, none⟩ = some (.int .i64 k4) := blk_cell (L.out.get 0 rfl) 4
          have ad5 : w4.cell? ⟨wr.heap.size, 5, none⟩ = some (.int .i64 k5) := blk_cell (L.out.get 0 rfl) 5
          have ad6 : w4.cell? ⟨wr.heap.size, 6, none⟩ = some (.int .i64 k6) := blk_cell (L.out.get 0 rfl) 6
          have adlt : wr.heap.size < w4.heap.size := L.out.lt 0 rfl
          have L' : Hid (HL w (w4.alloc (Obj.cells #[.int .i64 r1, .int .i64 r2, .int .i64 r3, .int .i64 r4] 28)) [(w4.heap.size, Obj.cells #[.int .i64 r1, .int .i64 r2, .int .i64 r3, .int .i64 r4] 28), (wr.heap.size, Obj.cells #[.int .i64 k0, .int .i64 k1, .int .i64 k2, .int .i64 k3, .int .i64 k4, .int .i64 k5, .int .i64 k6] 30), (b, tabO true t)]) := L.out.alloc _
          clear L
          have L := L'
          clear L'
          go_wp2_with fail
          refine (Ask_v (L.out.get 2 rfl) HT.out k1 k2).mono ?_
          rintro e w5 ⟨x4, s1, s2, s3, s4, rfl, hx4, hb⟩
          have L' : Hid (HL w w5 [(w4.heap.size, Obj.cells #[.int .i64 r1, .int .i64 r2, .int .i64 r3, .int .i64 r4] 28), (wr.heap.size, Obj.cells #[.int .i64 k0, .int .i64 k1, .int .i64 k2, .int .i64 k3, .int .i64 k4, .int .i64 k5, .int .i64 k6] 30), (b, tabO true t)]) := L.out.new hb
          clear L
          have L := L'
          clear L'
          clear hb
          clear ad0 ad1 ad2 ad3 ad4 ad5 ad6 adlt
          have ad0 : w5.cell? ⟨wr.heap.size, 0, none⟩ = some (.int .i64 k0) := blk_cell (L.out.get 1 rfl) 0
          have ad1 : w5.cell? ⟨wr.heap.size, 1, none⟩ = some (.int .i64 k1) := blk_cell (L.out.get 1 rfl) 1
          have ad2 : w5.cell? ⟨wr.heap.size, 2, none⟩ = some (.int .i64 k2) := blk_cell (L.out.get 1 rfl) 2
          have ad3 : w5.cell? ⟨wr.heap.size, 3, none⟩ = some (.int .i64 k3) := blk_cell (L.out.get 1 rfl) 3
          have ad4 : w5.cell? ⟨wr.heap.size, 4, none⟩ = some (.int .i64 k4) := blk_cell (L.out.get 1 rfl) 4
          have ad5 : w5.cell? ⟨wr.heap.size, 5, none⟩ = some (.int .i64 k5) := blk_cell (L.out.get 1 rfl) 5
          have ad6 : w5.cell? ⟨wr.heap.size, 6, none⟩ = some (.int .i64 k6) := blk_cell (L.out.get 1 rfl) 6
          have adlt : wr.heap.size < w5.heap.size := L.out.lt 1 rfl
          obtain ⟨D, hD⟩ : ∃ D, Hid ((rowT t k1).known = D) := ⟨_, rfl⟩
          obtain ⟨La, hLa⟩ : ∃ La, Hid (lastR (rowT t k1) = La) := ⟨_, rfl⟩
          have g1 : decide (D < x1) = false := decide_eq_false (by rw [← hD.out, ← hx1.out]; have := Int.le_refl 0; omega)
          have g2 : decide (La < x2) = false := decide_eq_false (by rw [← hLa.out, ← hx2.out]; have := Int.le_refl 0; omega)
          have g3 : decide (La < D) = false := decide_eq_false (by rw [← hD.out, ← hLa.out]; have := lastR_ge (rowT t k1); omega)
          have L' : Hid (HL w (w5.alloc (Obj.cells #[.int .i64 s1, .int .i64 s2, .int .i64 s3, .int .i64 s4] 28)) [(w5.heap.size, Obj.cells #[.int .i64 s1, .int .i64 s2, .int .i64 s3, .int .i64 s4] 28), (w4.heap.size, Obj.cells #[.int .i64 r1, .int .i64 r2, .int .i64 r3, .int .i64 r4] 28), (wr.heap.size, Obj.cells #[.int .i64 k0, .int .i64 k1, .int .i64 k2, .int .i64 k3, .int .i64 k4, .int .i64 k5, .int .i64 k6] 30), (b, tabO true t)]) := L.out.alloc _
          clear L
          have L := L'
          clear L'
          go_wp2_with fail
          have L' : Hid (HL w (w5.alloc (Obj.cells #[.int .i64 s1, .int .i64 s2, .int .i64 s3, .int .i64 s4] 28)).drew [(w5.heap.size, Obj.cells #[.int .i64 s1, .int .i64 s2, .int .i64 s3, .int .i64 s4] 28), (w4.heap.size, Obj.cells #[.int .i64 r1, .int .i64 r2, .int .i64 r3, .int .i64 r4] 28), (wr.heap.size, Obj.cells #[.int .i64 k0, .int .i64 k1, .int .i64 k2, .int .i64 k3, .int .i64 k4, .int .i64 k5, .int .i64 k6] 30), (b, tabO true t)]) := L.out.drew
          clear L
          have L := L'
          clear L'
          first
          | (go_region_held3 (fun w' => w'.cell? ⟨wr.heap.size, 1, none⟩ = some (.int .i64 k1)) (exact blk_cell (L.out.get 2 rfl) 1) (first | (go_at_call 10; refine (Done_w (L.out.get 3 rfl) HT.out hD.out).mono ?_; rintro e w20 ⟨rfl, hb⟩; have L' : Hid (HL w w20 [(w5.heap.size, Obj.cells #[.int .i64 s1, .int .i64 s2, .int .i64 s3, .int .i64 s4] 28), (w4.heap.size, Obj.cells #[.int .i64 r1, .int .i64 r2, .int .i64 r3, .int .i64 r4] 28), (wr.heap.size, Obj.cells #[.int .i64 k0, .int .i64 k1, .int .i64 k2, .int .i64 k3, .int .i64 k4, .int .i64 k5, .int .i64 k6] 30), (b, tabO true t)]) := L.out.new hb; clear L hb; have L := L'; clear L') | (go_at_call 11; refine (Last_w (L.out.get 3 rfl) HT.out hLa.out).mono ?_; rintro e w20 ⟨rfl, hb⟩; have L' : Hid (HL w w20 [(w5.heap.size, Obj.cells #[.int .i64 s1, .int .i64 s2, .int .i64 s3, .int .i64 s4] 28), (w4.heap.size, Obj.cells #[.int .i64 r1, .int .i64 r2, .int .i64 r3, .int .i64 r4] 28), (wr.heap.size, Obj.cells #[.int .i64 k0, .int .i64 k1, .int .i64 k2, .int .i64 k3, .int .i64 k4, .int .i64 k5, .int .i64 k6] 30), (b, tabO true t)]) := L.out.new hb; clear L hb; have L := L'; clear L')))
          | fail "held3"
          go_wp2
          go_roundw
          case rel => exact ⟨j + 1, t, by omega, by go_num, HT, L.out.drop 3⟩
          case measure => simp [intOf]; omega
    · obtain rfl : j = len := by omega
      go_wp2_with fail
      refine (lives_any _).mono ?_
      rintro e w2 ⟨rfl, hb⟩
      have B : Hid (Below w.heap.size w w2) := (L.out.new hb).below
      clear hb
      go_wp2
      go_ret
      exact ⟨rfl, B.out⟩
theorem once_out {w : World} {ao : Option Addr} {len cap : Nat} (hlen : 200 < len) :
    Calls Try.prog 3 #[.slice ao len cap] w fun e w' => e = .returned (.bool true) ∧ Below w.heap.size w w' := by
  go_enter Try.func3, Try.ntmps3
  go_wp2_with (go_at_call 8; ((with_reducible refine (lives_any _).mono ?_); rintro e w3 ⟨rfl, hb⟩; have B := Lib.hid hb; clear hb))
  go_ret
  exact ⟨rfl, B.out⟩
theorem tableOnce_law (w : World) (v : Value) (h : Shape.okAll w [.slice actShape] [v]) :
    Calls Try.prog 3 #[v] w fun e w' => e = .returned (.bool true) ∧ Below w.heap.size w w' := by
  obtain ⟨n, L, hL, hr⟩ := acts_of h
  by_cases hn : n ≤ 200
  · exact once_in hr hL hn
  · have hr' := hr
    obtain ⟨_, ao, cap, rfl, _, _⟩ := hr'
    exact once_out (by omega)
end Go.Proofs.Ytbolmekdbeincaa.M
