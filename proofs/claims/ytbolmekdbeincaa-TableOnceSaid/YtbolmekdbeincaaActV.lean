/- Layer 7 (table): a law's acts; the contracts with their answers hidden. -/
import Derived.Test.YtbolmekdbeincaaLives
namespace Go.Proofs.Ytbolmekdbeincaa.M
open Go Go.RowKit
set_option linter.unusedVariables false
structure ActV where
  kind : Int
  client : Int
  request : Int
  err : Int
  saga : Int
  state : Int
  step : Int
def actCells (a : ActV) : List Value := [.int .i64 a.kind, .int .i64 a.client, .int .i64 a.request, .int .i64 a.err, .int .i64 a.saga, .int .i64 a.state, .int .i64 a.step]
theorem actCells_len (a : ActV) : (actCells a).length = 7 := rfl
def actShape : List Shape := [.int .i64, .int .i64, .int .i64, .int .i64, .int .i64, .int .i64, .int .i64]
theorem okAll_int {w : World} {k : IntKind} {ss : List Shape} {cs : List Value} (h : Shape.okAll w (.int k :: ss) cs) : ∃ n vs, cs = .int k n :: vs ∧ Shape.okAll w ss vs := by
  cases cs with
  | nil => simp [Shape.okAll] at h
  | cons v vs =>
    simp only [Shape.okAll, Shape.ok] at h
    obtain ⟨⟨n, rfl, _⟩, h⟩ := h
    exact ⟨n, vs, rfl, h⟩
theorem okAll_end {w : World} {cs : List Value} (h : Shape.okAll w [] cs) : cs = [] := by
  cases cs with
  | nil => rfl
  | cons v vs => simp [Shape.okAll] at h
theorem act_of {w : World} : ∀ cs, Shape.okAll w actShape cs → ∃ a, actCells a = cs := by
  intro cs h
  obtain ⟨a, cs0, rfl, h0⟩ := okAll_int h
  obtain ⟨b, cs1, rfl, h1⟩ := okAll_int h0
  obtain ⟨c, cs2, rfl, h2⟩ := okAll_int h1
  obtain ⟨d, cs3, rfl, h3⟩ := okAll_int h2
  obtain ⟨e, cs4, rfl, h4⟩ := okAll_int h3
  obtain ⟨f, cs5, rfl, h5⟩ := okAll_int h4
  obtain ⟨g, cs6, rfl, h6⟩ := okAll_int h5
  obtain rfl := okAll_end h6
  exact ⟨⟨a, b, c, d, e, f, g⟩, rfl⟩
theorem acts_of {w : World} {v : Value} (h : Shape.okAll w [.slice actShape] [v]) : ∃ (n : Nat) (L : List ActV), L.length = n ∧ Reads w 7 v n (L.flatMap actCells) := by
  simp only [Shape.okAll] at h
  obtain ⟨n, L, h1, _, h3, _⟩ := rows_of actCells (by decide) act_of h.1
  exact ⟨n, L, h1, h3⟩
theorem acts_at {w : World} {v : Value} {n : Nat} {L : List ActV} (h : Reads w 7 v n (L.flatMap actCells)) (hL : L.length = n) (j : Nat) (hj : j < n) :
    ∃ b off cap, v = .slice (some ⟨b, off, none⟩) n cap ∧ ∀ i u, (actCells (L[j]'(by omega)))[i]? = some u → w.cell? ⟨b, off + j * 7 + i, none⟩ = some u := by
  obtain ⟨b, off, cap, rfl, _, hc⟩ := h.at (by omega) (by omega)
  refine ⟨b, off, cap, rfl, fun i u hu => ?_⟩
  have hi : i < 7 := (List.getElem?_eq_some_iff.1 hu).1
  have h1 : j * 7 + i < n * 7 := by omega
  rw [Nat.add_assoc, hc _ h1, flat_get actCells 7 actCells_len L j (by omega) i hi]
  exact hu
theorem size_act : (Try.prog.info? 30).map (·.size) = some 7 := by kernel_rfl
section
variable {w : World} {b : Nat} {t : List RowV}
theorem Start_v (h : w.heap[b]? = some (tabO true t)) (ht : t.length = 4) (c q : Int) : Calls Try.prog 13 #[.pointer (some ⟨b, 0, none⟩), .int .i64 c, .int .i64 q] w fun e w' =>
    ∃ x t', e = .returned (.int .i64 x) ∧ Hid (startT t c q = (x, t')) ∧ Hid (t'.length = 4) ∧ Turned w w' b (tabO true t') :=
  (Start_any h ht c q).mono fun _ _ ⟨he, hu⟩ => ⟨_, _, he, rfl, startT_len ht c q, hu⟩
theorem Finish_v (h : w.heap[b]? = some (tabO true t)) (ht : t.length = 4) (c q e1 e2 e3 e4 : Int) : Calls Try.prog 14 #[.pointer (some ⟨b, 0, none⟩), .int .i64 c, .int .i64 q, .agg #[.int .i64 e1, .int .i64 e2, .int .i64 e3, .int .i64 e4]] w fun e w' =>
    ∃ x t', e = .returned (.int .i64 x) ∧ Hid (finishT t c q e1 e2 e3 e4 = (x, t')) ∧ Hid (t'.length = 4) ∧ Turned w w' b (tabO true t') :=
  (Finish_any h ht c q e1 e2 e3 e4).mono fun _ _ ⟨he, hu⟩ => ⟨_, _, he, rfl, finishT_len ht c q e1 e2 e3 e4, hu⟩
theorem Ask_v (h : w.heap[b]? = some (tabO true t)) (ht : t.length = 4) (c q : Int) : Calls Try.prog 12 #[.pointer (some ⟨b, 0, none⟩), .int .i64 c, .int .i64 q] w fun e w' =>
    ∃ k r1 r2 r3 r4, e = .returned (.tuple #[.int .i64 k, .agg #[.int .i64 r1, .int .i64 r2, .int .i64 r3, .int .i64 r4]]) ∧ Hid (∃ a z, askT (rowT t c) (decide (inC c)) q = (k, ⟨a, r1, r2, r3, r4, z⟩)) ∧ Below w.heap.size w w' :=
  (Ask_any h ht c q).mono fun _ _ ⟨he, hu⟩ => ⟨_, _, _, _, _, he, ⟨_, _, rfl⟩, hu⟩
theorem Last_v (h : w.heap[b]? = some (tabO true t)) (ht : t.length = 4) (c : Int) : Calls Try.prog 11 #[.pointer (some ⟨b, 0, none⟩), .int .i64 c] w fun e w' =>
    ∃ x, e = .returned (.int .i64 x) ∧ Hid (lastR (rowT t c) = x) ∧ Below w.heap.size w w' :=
  (Last_any h ht c).mono fun _ _ ⟨he, hu⟩ => ⟨_, he, rfl, hu⟩
theorem Done_v (h : w.heap[b]? = some (tabO true t)) (ht : t.length = 4) (c : Int) : Calls Try.prog 10 #[.pointer (some ⟨b, 0, none⟩), .int .i64 c] w fun e w' =>
    ∃ x, e = .returned (.int .i64 x) ∧ Hid ((rowT t c).known = x) ∧ Below w.heap.size w w' :=
  (Done_any h ht c).mono fun _ _ ⟨he, hu⟩ => ⟨_, he, rfl, hu ▸ Below.refl _ _⟩
theorem Forget_v (h : w.heap[b]? = some (tabO true t)) (ht : t.length = 4) : Calls Try.prog 16 #[.pointer (some ⟨b, 0, none⟩)] w fun e w' => e = .returned (.tuple #[]) ∧ Turned w w' b (tabO true (forgetT t)) :=
  Forget_any ht h
end
theorem rowT_set_other (t : List RowV) (ht : t.length = 4) {c d : Int} (hc : inC c) (hne : c ≠ d) (r : RowV) : rowT (setT t c r) d = rowT t d := by
  unfold rowT
  by_cases hd : inC d
  · rw [if_pos hd, if_pos hd]
    unfold setT
    have : (c - 1).toNat ≠ (d - 1).toNat := by unfold inC at hc hd; omega
    simp only [List.getD, List.getElem?_set_ne this]
  · rw [if_neg hd, if_neg hd]
theorem start_other (t : List RowV) (ht : t.length = 4) {c q d x : Int} {t' : List RowV} (h : startT t c q = (x, t')) (hne : c ≠ d) : rowT t' d = rowT t d := by
  unfold startT at h
  split at h
  · obtain ⟨_, rfl⟩ := Prod.mk.inj h; rfl
  · split at h
    · obtain ⟨_, rfl⟩ := Prod.mk.inj h; rfl
    · rename_i h1 _
      obtain ⟨_, rfl⟩ := Prod.mk.inj h
      exact rowT_set_other t ht (Decidable.byContradiction fun x => h1 (.inl x)) hne _
theorem finish_other (t : List RowV) (ht : t.length = 4) {c q e1 e2 e3 e4 d x : Int} {t' : List RowV} (h : finishT t c q e1 e2 e3 e4 = (x, t')) (hne : c ≠ d) : rowT t' d = rowT t d := by
  unfold finishT at h
  split at h
  · obtain ⟨_, rfl⟩ := Prod.mk.inj h; rfl
  · split at h
    · obtain ⟨_, rfl⟩ := Prod.mk.inj h; rfl
    · split at h
      · obtain ⟨_, rfl⟩ := Prod.mk.inj h; rfl
      · rename_i h1 _ _
        obtain ⟨_, rfl⟩ := Prod.mk.inj h
        exact rowT_set_other t ht (Decidable.byContradiction fun x => h1 (.inl x)) hne _
theorem ask_same {X Y : Int × RowV} (e : X = Y) {k r1 r2 r3 r4 k' s1 s2 s3 s4 : Int} (h : ∃ a z, X = (k, ⟨a, r1, r2, r3, r4, z⟩)) (h' : ∃ a z, Y = (k', ⟨a, s1, s2, s3, s4, z⟩)) : k = k' ∧ r1 = s1 ∧ r2 = s2 ∧ r3 = s3 ∧ r4 = s4 := by
  obtain ⟨a, z, h⟩ := h
  obtain ⟨a', z', h'⟩ := h'
  rw [e, h'] at h
  obtain ⟨h1, h2⟩ := Prod.mk.inj h
  obtain ⟨_, h3, h4, h5, h6, _⟩ := RowV.mk.inj h2
  exact ⟨h1.symm, h3.symm, h4.symm, h5.symm, h6.symm⟩
end Go.Proofs.Ytbolmekdbeincaa.M
