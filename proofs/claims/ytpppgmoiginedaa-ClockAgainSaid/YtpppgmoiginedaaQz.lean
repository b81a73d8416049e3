/- Heaps side by side; slices of a call's own; what may be forgotten at a function's end. -/
import Derived.Test.YtpppgmoiginedaaQx
namespace Go.Proofs.Ytpppgmoiginedaa.Q
open Go Go.RowKit
set_option linter.unusedVariables false

def Heap.un (h F : Heap) : Heap := fun k => (h k).or (F k)
def Heap.dj (h F : Heap) : Prop := ∀ k, h k = none ∨ F k = none
def Heap.nil : Heap := fun _ => none
section
variable {h F G : Heap} {k b : Nat} {o : Ob}
theorem un_some (hk : h k = some o) : (h.un F) k = some o := by simp [Heap.un, hk]
theorem un_right (hk : h k = none) : (h.un F) k = F k := by simp [Heap.un, hk]
theorem un_none (hk : (h.un F) k = none) : h k = none ∧ F k = none := by
  unfold Heap.un at hk
  cases h1 : h k with
  | none => rw [h1] at hk; exact ⟨rfl, by simpa using hk⟩
  | some x => rw [h1] at hk; simp at hk
theorem un_set (h F : Heap) (b : Nat) (o : Ob) : (h.un F).set b o = (h.set b o).un F := by
  funext k
  simp only [Heap.set, Heap.un]
  split <;> simp
theorem un_set_right (hb : h b = none) : (h.un F).set b o = h.un (F.set b o) := by
  funext k
  simp only [Heap.set, Heap.un]
  split
  · rename_i e; subst e; simp [hb]
  · rfl
theorem un_del (hb : F b = none) : (h.un F).del b = (h.del b).un F := by
  funext k
  simp only [Heap.del, Heap.un]
  split
  · rename_i e; subst e; simp [hb]
  · rfl
theorem un_del_right (hb : h b = none) : (h.un F).del b = h.un (F.del b) := by
  funext k
  simp only [Heap.del, Heap.un]
  split
  · rename_i e; subst e; simp [hb]
  · rfl
theorem un_comm (hd : h.dj F) : h.un F = F.un h := by
  funext k
  simp only [Heap.un]
  rcases hd k with e | e <;> simp [e]
theorem un_assoc (h F G : Heap) : (h.un F).un G = h.un (F.un G) := by
  funext k
  simp only [Heap.un]
  cases h k <;> simp
theorem nil_un (F : Heap) : Heap.nil.un F = F := by funext k; simp [Heap.un, Heap.nil]
theorem un_nil (F : Heap) : F.un Heap.nil = F := by funext k; simp [Heap.un, Heap.nil]
theorem dj_nil (h : Heap) : h.dj Heap.nil := fun k => .inr rfl
theorem dj_nil' (h : Heap) : Heap.nil.dj h := fun k => .inl rfl
theorem dj_comm (hd : h.dj F) : F.dj h := fun k => (hd k).symm
theorem dj_set (hd : h.dj F) (hb : F b = none) : (h.set b o).dj F := fun k => by
  by_cases e : k = b
  · subst e; exact .inr hb
  · rcases hd k with h1 | h1
    · left; simpa [Heap.set, e] using h1
    · exact .inr h1
theorem dj_del (hd : h.dj F) : (h.del b).dj F := fun k => by
  rcases hd k with h1 | h1
  · left; simp [Heap.del, h1]
  · exact .inr h1
theorem dj_some (hd : h.dj F) (hb : h b = some o) : F b = none := by
  rcases hd b with h1 | h1
  · rw [h1] at hb; cases hb
  · exact h1
theorem dj_un (h1 : h.dj F) (h2 : h.dj G) : h.dj (F.un G) := fun k => by
  rcases h1 k with e | e
  · exact .inl e
  · rcases h2 k with e2 | e2
    · exact .inl e2
    · right; simp [Heap.un, e, e2]
theorem set_del (H : Heap) (b : Nat) (o : Ob) : (H.set b o).del b = H.del b := by
  funext k
  simp only [Heap.set, Heap.del]
  split <;> rfl
theorem del_fresh (hb : h b = none) : h.del b = h := by
  funext k
  simp only [Heap.del]
  split
  · rename_i e; subst e; exact hb.symm
  · rfl
theorem set_set (H : Heap) (b : Nat) (o o' : Ob) : (H.set b o).set b o' = H.set b o' := by
  funext k
  simp only [Heap.set]
  split <;> rfl
theorem set_comm {c : Nat} (H : Heap) (o o' : Ob) (hne : b ≠ c) : (H.set b o).set c o' = (H.set c o').set b o := by
  funext k
  simp only [Heap.set]
  by_cases e1 : k = b
  · subst e1; simp [hne]
  · simp [e1]
theorem set_del_ne {c : Nat} (H : Heap) (o : Ob) (hne : b ≠ c) : (H.set b o).del c = (H.del c).set b o := by
  funext k
  simp only [Heap.set, Heap.del]
  by_cases e1 : k = b
  · subst e1; simp [hne]
  · simp [e1]
theorem ne_of_some_none {H : Heap} {a b : Nat} {o : Ob} (ha : H a = some o) (hb : H b = none) : a ≠ b := by
  rintro rfl
  rw [ha] at hb
  cases hb
theorem ne_of_ob {H : Heap} {a b : Nat} {o o' : Ob} (ha : H a = some o) (hb : H b = some o') (h : o ≠ o') : a ≠ b := by
  rintro rfl
  rw [ha] at hb
  exact h (Option.some.inj hb)
end

/-! ### Forgetting -/
theorem Frz.refl (H : Heap) (c : V) : Frz H H c c := fun w x hS hx => ⟨hS, hx, fun _ h => h⟩
theorem Frz.trans {H1 H2 H3 : Heap} {c1 c2 c3 : V} (h : Frz H1 H2 c1 c2) (k : Frz H2 H3 c2 c3) : Frz H1 H3 c1 c3 := fun w x hS hx =>
  let ⟨a1, a2, a3⟩ := h w x hS hx
  let ⟨b1, b2, b3⟩ := k w x a1 a2
  ⟨b1, b2, fun b hb => b3 b (a3 b hb)⟩
theorem keeps_sub {w : World} {H H' : Heap} (h : ∀ k, H' k = none ∨ H' k = H k) : Keeps w (imm w H) w (imm w H') := fun b hb => ⟨rfl, hb.1, by
  rcases h b with e | e
  · exact e
  · rw [e]; exact hb.2⟩
theorem sim_sub {w : World} {H H' : Heap} (h : ∀ k, H' k = none ∨ H' k = H k) (hS : Sim w H) : Sim w H' := fun b o ho => by
  rcases h b with e | e
  · rw [e] at ho; cases ho
  · rw [e] at ho
    exact Ob.real_same (keeps_sub h) rfl o (hS b o ho)
/-- a block is forgotten -/
theorem Frz.forget {H H' : Heap} (c : V) (h : ∀ k, H' k = none ∨ H' k = H k) : Frz H H' c c := fun w x hS hx => ⟨sim_sub h hS, real_keeps (keeps_sub h) _ _ hx, fun b hb => by
  rcases h b with e | e
  · exact e
  · rw [e]; exact hb⟩
theorem del_sub (H : Heap) (b : Nat) : ∀ k, (H.del b) k = none ∨ (H.del b) k = H k := fun k => by
  simp only [Heap.del]
  split
  · exact .inl rfl
  · exact .inr rfl
/-- a slice that nobody will write any more -/
theorem Frz.own {H : Heap} {b s n cap : Nat} {L : List (List V)} {c : Nat} (hb : H b = some (.row s L c)) (hn : n ≤ L.length) : Frz H (H.del b) (.own b s 0 n cap) (.seq s (L.take n)) := fun w x hS hx => by
  refine ⟨sim_sub (del_sub H b) hS, ?_, fun k hk => by rcases del_sub H b k with e | e <;> simp [e, hk]⟩
  unfold real at hx ⊢
  obtain ⟨o, rfl, hc, ho⟩ := hx
  obtain ⟨arr, t, h1, h2, h3, h4⟩ := hS b _ hb
  refine ⟨_, n, cap, rfl, by rw [List.length_take]; omega, hc, ?_⟩
  rcases ho with rfl | ⟨rfl, rfl⟩
  · right
    refine ⟨b, _, rfl, ⟨lt_of_block h1, del_same H b⟩, ?_⟩
    have := rows_take n h4
    rw [Nat.zero_mul]
    exact rows_same (keeps_sub (del_sub H b)) rfl _ _ this
  · left; simp
theorem Frz.nils {H : Heap} (s : Nat) : Frz H H .nils (.seq s []) := fun w x hS hx => by
  refine ⟨hS, ?_, fun _ h => h⟩
  unfold real at hx ⊢
  obtain ⟨a, rfl⟩ := hx
  exact ⟨a, 0, 0, rfl, rfl, Nat.le_refl _, .inl rfl⟩

/-- a slice of the call's own, or one without room: its elements -/
def Slc (s : Nat) (H : Heap) (v : V) (L : List (List V)) : Prop := (v = .nils ∧ L = []) ∨ ∃ b n cap L', v = .own b s 0 n cap ∧ H b = some (.row s L' cap) ∧ L'.take n = L ∧ n ≤ L'.length
end Go.Proofs.Ytpppgmoiginedaa.Q
