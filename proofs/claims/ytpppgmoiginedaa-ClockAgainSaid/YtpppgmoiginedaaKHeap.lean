/- A heap of timers, plain: what sifting up and down keeps. -/
import Derived.RowKit3
namespace Go.Proofs.Ytpppgmoiginedaa.Q
set_option linter.unusedVariables false
/-- a timer: its tick and its name -/
abbrev Due := Int × Int
def lt (a b : Due) : Bool := decide (a.1 < b.1) || (decide (a.1 = b.1) && decide (a.2 < b.2))
theorem lt_iff {a b : Due} : lt a b = true ↔ a.1 < b.1 ∨ (a.1 = b.1 ∧ a.2 < b.2) := by simp [lt]
theorem lt_false {a b : Due} : lt a b = false ↔ b.1 < a.1 ∨ (a.1 = b.1 ∧ b.2 ≤ a.2) := by
  rw [← Bool.not_eq_true, lt_iff]
  omega
theorem le_trans {a b c : Due} (h : lt a b = false) (k : lt b c = false) : lt a c = false := by
  rw [lt_false] at *
  omega
theorem le_of_lt {a b : Due} (h : lt a b = true) : lt b a = false := by
  rw [lt_false]
  rw [lt_iff] at h
  omega
theorem le_refl (a : Due) : lt a a = false := by rw [lt_false]; omega
def g (l : List Due) (i : Nat) : Due := l.getD i (0, 0)
def HeapOK (l : List Due) : Prop := ∀ i, 0 < i → i < l.length → lt (g l i) (g l ((i - 1) / 2)) = false
def swap (l : List Due) (i j : Nat) : List Due := (l.set i (g l j)).set j (g l i)
theorem swap_len (l : List Due) (i j : Nat) : (swap l i j).length = l.length := by simp [swap]
theorem g_set {l : List Due} {i k : Nat} {v : Due} : g (l.set i v) k = if k = i ∧ i < l.length then v else g l k := by
  unfold g
  simp only [List.getD_eq_getElem?_getD, List.getElem?_set]
  by_cases h : i = k
  · subst h
    by_cases hl : i < l.length <;> simp [hl]
  · simp [h, Ne.symm h]
theorem g_swap {l : List Due} {i j k : Nat} (hi : i < l.length) (hj : j < l.length) : g (swap l i j) k = if k = j then g l i else if k = i then g l j else g l k := by
  unfold swap
  rw [g_set, g_set]
  simp only [List.length_set, hi, hj, and_true]
theorem g_eq {l : List Due} {i : Nat} (h : i < l.length) : g l i = l[i] := by simp [g, h]
theorem swap_perm {l : List Due} {i j : Nat} (hi : i < l.length) (hj : j < l.length) : (swap l i j).Perm l := by
  have h := (Array.swap_perm (xs := l.toArray) (i := i) (j := j) (by simpa using hi) (by simpa using hj)).toList
  have e : (l.toArray.swap i j (by simpa using hi) (by simpa using hj)).toList = swap l i j := by
    unfold swap
    rw [g_eq hi, g_eq hj]
    simp [Array.swap]
  rw [e] at h
  simpa using h
/-- the root is none later than any -/
theorem root_min {l : List Due} (h : HeapOK l) : ∀ i, i < l.length → lt (g l i) (g l 0) = false := by
  intro i
  induction i using Nat.strongRecOn with
  | _ i ih =>
    intro hi
    by_cases h0 : i = 0
    · subst h0; exact le_refl _
    · exact le_trans (h i (by omega) hi) (ih ((i - 1) / 2) (by omega) (by omega))
structure UpInv (l : List Due) (k : Nat) : Prop where
  lt_ : k < l.length
  other : ∀ i, 0 < i → i < l.length → i ≠ k → lt (g l i) (g l ((i - 1) / 2)) = false
  below : ∀ j, 0 < j → j < l.length → (j - 1) / 2 = k → 0 < k → lt (g l j) (g l ((k - 1) / 2)) = false
theorem up_init {l : List Due} (h : HeapOK l) (d : Due) : UpInv (l ++ [d]) l.length := by
  have hg : ∀ i, i < l.length → g (l ++ [d]) i = g l i := fun i hi => by simp [g, List.getD_eq_getElem?_getD, List.getElem?_append_left hi]
  refine ⟨by simp, fun i h0 hi hne => ?_, fun j h0 hj hp hk => ?_⟩
  · simp at hi
    rw [hg i (by omega), hg _ (by omega)]
    exact h i h0 (by omega)
  · simp at hj
    omega
theorem up_done {l : List Due} {k : Nat} (h : UpInv l k) (hk : k = 0 ∨ lt (g l k) (g l ((k - 1) / 2)) = false) : HeapOK l := fun i h0 hi => by
  by_cases e : i = k
  · subst e
    rcases hk with rfl | hk
    · omega
    · exact hk
  · exact h.other i h0 hi e
theorem up_step {l : List Due} {k : Nat} (h : UpInv l k) (h0 : 0 < k) (hk : lt (g l k) (g l ((k - 1) / 2)) = true) : UpInv (swap l k ((k - 1) / 2)) ((k - 1) / 2) := by
  have hkl := h.lt_
  have hpl : (k - 1) / 2 < l.length := by omega
  have hle := le_of_lt hk
  refine ⟨by rw [swap_len]; exact hpl, fun i hi0 hi hne => ?_, fun j hj0 hj hp hk0 => ?_⟩
  · rw [swap_len] at hi
    rw [g_swap hkl hpl, g_swap hkl hpl, if_neg hne]
    by_cases e : i = k
    · subst e
      rw [if_pos rfl, if_pos rfl]
      exact hle
    · rw [if_neg e]
      by_cases e2 : (i - 1) / 2 = (k - 1) / 2
      · rw [if_pos e2]
        have := h.other i hi0 hi e
        rw [e2] at this
        exact le_trans this hle
      · rw [if_neg e2]
        by_cases e3 : (i - 1) / 2 = k
        · rw [if_pos e3]
          exact h.below i hi0 hi e3 h0
        · rw [if_neg e3]
          exact h.other i hi0 hi e
  · rw [swap_len] at hj
    rw [g_swap hkl hpl, g_swap hkl hpl, if_neg (show ¬ ((k - 1) / 2 - 1) / 2 = (k - 1) / 2 by omega), if_neg (show ¬ ((k - 1) / 2 - 1) / 2 = k by omega)]
    have hpp := h.other ((k - 1) / 2) hk0 hpl (by omega)
    by_cases e1 : j = (k - 1) / 2
    · omega
    · rw [if_neg e1]
      by_cases e2 : j = k
      · rw [if_pos e2]; exact hpp
      · rw [if_neg e2]
        have := h.other j hj0 hj e2
        rw [hp] at this
        exact le_trans this hpp
structure DownInv (l : List Due) (k : Nat) : Prop where
  other : ∀ i, 0 < i → i < l.length → (i - 1) / 2 ≠ k → lt (g l i) (g l ((i - 1) / 2)) = false
  below : ∀ j, 0 < j → j < l.length → (j - 1) / 2 = k → 0 < k → lt (g l j) (g l ((k - 1) / 2)) = false
theorem down_done {l : List Due} {k : Nat} (h : DownInv l k) (hk : ∀ j, 0 < j → j < l.length → (j - 1) / 2 = k → lt (g l j) (g l k) = false) : HeapOK l := fun i h0 hi => by
  by_cases e : (i - 1) / 2 = k
  · rw [e]; exact hk i h0 hi e
  · exact h.other i h0 hi e
theorem down_step {l : List Due} {k c : Nat} (h : DownInv l k) (hc : c < l.length) (hc0 : 0 < c) (hp : (c - 1) / 2 = k) (hmin : ∀ j, 0 < j → j < l.length → (j - 1) / 2 = k → lt (g l j) (g l c) = false) (hck : lt (g l c) (g l k) = true) : DownInv (swap l k c) c := by
  have hkl : k < l.length := by omega
  have hle := le_of_lt hck
  refine ⟨fun i hi0 hi hne => ?_, fun j hj0 hj hjp hk0 => ?_⟩
  · rw [swap_len] at hi
    rw [g_swap hkl hc, g_swap hkl hc, if_neg hne]
    by_cases e1 : i = c
    · subst e1
      rw [if_pos rfl, if_pos hp]
      exact hle
    · rw [if_neg e1]
      by_cases e2 : (i - 1) / 2 = k
      · rw [if_pos e2, if_neg (by omega)]
        exact hmin i hi0 hi e2
      · rw [if_neg e2]
        by_cases e3 : i = k
        · subst e3
          rw [if_pos rfl]
          exact h.below c hc0 hc hp hi0
        · rw [if_neg e3]
          exact h.other i hi0 hi e2
  · rw [swap_len] at hj
    rw [hp, g_swap hkl hc, g_swap hkl hc, if_neg (by omega), if_pos rfl, if_neg (by omega), if_neg (by omega)]
    have := h.other j hj0 hj (by omega)
    rw [hjp] at this
    exact this
/-- the last one in the first one's place -/
def cutTop (l : List Due) : List Due := (l.set 0 (g l (l.length - 1))).take (l.length - 1)
theorem cutTop_len (l : List Due) : (cutTop l).length = l.length - 1 := by simp [cutTop]
theorem g_cutTop {l : List Due} {i : Nat} (hi : i < l.length - 1) : g (cutTop l) i = if i = 0 then g l (l.length - 1) else g l i := by
  have e : g (cutTop l) i = g (l.set 0 (g l (l.length - 1))) i := by
    simp only [g, cutTop, List.getD_eq_getElem?_getD, List.getElem?_take, if_pos hi]
  rw [e, g_set]
  by_cases h : i = 0
  · rw [if_pos h, if_pos ⟨h, by omega⟩]
  · rw [if_neg h, if_neg (by omega)]
theorem down_init {l : List Due} (h : HeapOK l) : DownInv (cutTop l) 0 := by
  refine ⟨fun i h0 hi hp => ?_, fun j h0 hj hp hk => by omega⟩
  rw [cutTop_len] at hi
  rw [g_cutTop hi, g_cutTop (by omega), if_neg (by omega), if_neg hp]
  exact h i h0 (by omega)
theorem cutTop_perm {l : List Due} (hl : 0 < l.length) : (g l 0 :: cutTop l).Perm l := by
  cases l with
  | nil => simp at hl
  | cons a t =>
    have e0 : g (a :: t) 0 = a := rfl
    rw [e0]
    refine List.Perm.cons _ ?_
    unfold cutTop
    simp only [List.length_cons, Nat.add_sub_cancel, List.set_cons_zero]
    rcases List.eq_nil_or_concat t with rfl | ⟨t', z, rfl⟩
    · simp
    · have e1 : g (a :: (t' ++ [z])) (t' ++ [z]).length = z := by
        simp [g, List.getD_eq_getElem?_getD]
      rw [List.concat_eq_append] at *
      rw [e1]
      have e2 : (z :: (t' ++ [z])).take (t' ++ [z]).length = z :: t' := by
        simp
      rw [e2]
      exact (List.perm_append_comm (l₁ := [z]) (l₂ := t'))
end Go.Proofs.Ytpppgmoiginedaa.Q
