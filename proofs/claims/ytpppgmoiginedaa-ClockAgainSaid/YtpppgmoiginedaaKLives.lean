/- The document's examples of the clock. -/
import Derived.Test.YtpppgmoiginedaaKInts
namespace Go.Proofs.Ytpppgmoiginedaa.Q
open Go Go.RowKit
set_option linter.unusedSimpArgs false
set_option linter.unusedVariables false
theorem tick_split {D tm' tm : Tms} {T : Int} (hp : (D ++ tm').Perm tm) (hD : ∀ e ∈ D, e.2 ≤ T) (ht : ∀ e ∈ tm', T < e.2) : D.Perm (tm.filter fun e => decide (e.2 ≤ T)) ∧ tm'.Perm (tm.filter fun e => decide (T < e.2)) := by
  have a1 : D.filter (fun e => decide (e.2 ≤ T)) = D := List.filter_eq_self.2 fun e he => by simpa using hD e he
  have a2 : tm'.filter (fun e => decide (e.2 ≤ T)) = [] := List.filter_eq_nil_iff.2 fun e he => by have := ht e he; simp; omega
  have a3 : D.filter (fun e => decide (T < e.2)) = [] := List.filter_eq_nil_iff.2 fun e he => by have := hD e he; simp; omega
  have a4 : tm'.filter (fun e => decide (T < e.2)) = tm' := List.filter_eq_self.2 fun e he => by simpa using ht e he
  have b1 := hp.filter (fun e => decide (e.2 ≤ T))
  have b2 := hp.filter (fun e => decide (T < e.2))
  rw [List.filter_append, a1, a2, List.append_nil] at b1
  rw [List.filter_append, a3, a4, List.nil_append] at b2
  exact ⟨b1, b2⟩
/-- a clock with what it must be: the clock at c of h tells now, its timers are tm, and it was pushed to at most N times -/
structure Ck (h : Heap) (c : Nat) (now : Int) (tm : Tms) (N : Nat) : Prop where
  ex : ∃ l, Clk h c now (ents tm) l ∧ HeapOK l ∧ l.length ≤ N ∧ ∀ e ∈ tm, (e.2, e.1) ∈ l
  nod : (tm.map (·.1)).Nodup
  now0 : 0 ≤ now
  late : ∀ e ∈ tm, now < e.2 ∧ e.2 ≤ now + 100000
theorem tput_mem {n a : Int} : ∀ {tm : Tms}, (tm.map (·.1)).Nodup → ∀ e, e ∈ tput tm n a → e = (n, a) ∨ (e ∈ tm ∧ e.1 ≠ n)
  | [], _, e, h => by simp [tput] at h; exact .inl h
  | (k, v) :: es, hn, e, h => by
    rw [List.map_cons, List.nodup_cons] at hn
    unfold tput at h
    split at h
    · rename_i ek
      subst ek
      rcases List.mem_cons.1 h with h | h
      · exact .inl h
      · exact .inr ⟨List.mem_cons_of_mem _ h, fun e2 => hn.1 (by rw [← e2]; exact List.mem_map.2 ⟨e, h, rfl⟩)⟩
    · rename_i ek
      rcases List.mem_cons.1 h with rfl | h
      · exact .inr ⟨by simp, ek⟩
      · rcases tput_mem hn.2 e h with h | h
        · exact .inl h
        · exact .inr ⟨List.mem_cons_of_mem _ h.1, h.2⟩
theorem tput_nod {n a : Int} : ∀ {tm : Tms}, (tm.map (·.1)).Nodup → ((tput tm n a).map (·.1)).Nodup
  | [], _ => by simp [tput]
  | (k, v) :: es, hn => by
    have hn' := hn
    rw [List.map_cons, List.nodup_cons] at hn
    unfold tput
    split
    · rename_i ek
      subst ek
      simpa using hn'
    · rename_i ek
      rw [List.map_cons, List.nodup_cons]
      refine ⟨fun h => ?_, tput_nod hn.2⟩
      obtain ⟨e, he, e2⟩ := List.mem_map.1 h
      rcases tput_mem hn.2 e he with h | h
      · rw [h] at e2; exact ek e2.symm
      · exact hn.1 (by rw [← e2]; exact List.mem_map.2 ⟨e, h.1, rfl⟩)
theorem New_ck (F : Heap) : Tr Try.prog 9 [] F fun v H' => ∃ c h', v = .ptr c 4 0 0 ∧ H' = h'.un F ∧ h'.dj F ∧ Ck h' c 0 [] 0 := by
  refine (New_any F).mono ?_
  rintro v H' ⟨c, h', rfl, rfl, hd, hC⟩
  exact ⟨c, h', rfl, rfl, hd, ⟨[], hC, fun i h0 hi => by simp at hi, by simp, by simp⟩, by simp, by omega, by simp⟩
theorem Set_ck {h F : Heap} {c N : Nat} {now : Int} {tm : Tms} (hC : Ck h c now tm N) (hd : h.dj F) (hN : N < 1000000) (hnow : now ≤ 1000000) (n a : Int) (k1 : ¬ a < 1) (k2 : ¬ a > 100000) (hr : (tget tm n).isSome ∨ ¬ ((tm.length : Nat) : Int) ≥ 100) :
    Tr Try.prog 10 [.ptr c 4 0 0, .val (.int .i64 n), .val (.int .i64 a)] (h.un F) fun v H' => v = .val (.int .i64 0) ∧ ∃ h', H' = h'.un F ∧ h'.dj F ∧ Ck h' c now (tput tm n (now + a)) (N + 1) := by
  obtain ⟨⟨l, hC, hO, hl, hcov⟩, hnod, hn0, hlate⟩ := hC
  refine (Set_ok hC hO (by omega) hd n a k1 k2 ⟨hn0, hnow⟩ hr).mono ?_
  rintro v H' ⟨rfl, h', l', rfl, hd', hC', hO', hp⟩
  refine ⟨rfl, h', rfl, hd', ⟨l', hC', hO', ?_, ?_⟩, tput_nod hnod, hn0, ?_⟩
  · rcases hp with hp | ⟨rfl, _⟩
    · have := hp.length_eq; simp at this; omega
    · omega
  · intro e he
    rcases tput_mem hnod e he with rfl | ⟨h1, h2⟩
    · rcases hp with hp | ⟨rfl, hp⟩
      · exact hp.mem_iff.2 (by simp)
      · exact hcov (n, now + a) (tget_mem hp)
    · rcases hp with hp | ⟨rfl, hp⟩
      · exact hp.mem_iff.2 (List.mem_cons_of_mem _ (hcov e h1))
      · exact hcov e h1
  · intro e he
    rcases tput_mem hnod e he with rfl | ⟨h1, h2⟩
    · simp only; omega
    · exact hlate e h1
theorem Tick_ck {h F : Heap} {c N : Nat} {now : Int} {tm : Tms} (hC : Ck h c now tm N) (hd : h.dj F) (hN : N < 1000000) (hnow : now ≤ 1000000) (htl : tm.length < 1000000) :
    Tr Try.prog 12 [.ptr c 4 0 0] (h.un F) fun v H' => ∃ (h' : Heap) (tm' D : Tms), v = .seq 1 (ints (sorted (D.map (·.1)))) ∧ H' = h'.un F ∧ h'.dj F ∧ Ck h' c (now + 1) tm' N ∧ D.Perm (tm.filter fun e => decide (e.2 ≤ now + 1)) ∧ tm'.Perm (tm.filter fun e => decide (now + 1 < e.2)) := by
  obtain ⟨⟨l, hC, hO, hl, hcov⟩, hnod, hn0, hlate⟩ := hC
  refine (Tick_any hC hO (by omega) hd ⟨hn0, hnow⟩ hnod htl hcov).mono ?_
  rintro v H' ⟨h', tm', l', D, rfl, rfl, hd', hC', hO', hp, hD, ht, hcov', hl'⟩
  obtain ⟨p1, p2⟩ := tick_split hp hD ht
  refine ⟨h', tm', D, rfl, rfl, hd', ⟨⟨l', hC', hO', by omega, hcov'⟩, ?_, by omega, ?_⟩, p1, p2⟩
  · have h5 := (hp.map (·.1)).nodup_iff.2 hnod
    rw [List.map_append] at h5
    exact (List.nodup_append.1 h5).2.1
  · intro e he
    have h1 := ht e he
    have h2 := hlate e ((List.mem_filter.1 (p2.mem_iff.1 he)).1)
    omega
end Go.Proofs.Ytpppgmoiginedaa.Q
