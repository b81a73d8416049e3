/- Layer 7 (table): a table that a law made, from call to call; the document's examples; a law's acts. -/
import Derived.Test.YtbolmekdbeincaaRtab
import Derived.Test.YtbolmekdbeincaaShape
namespace Go.Proofs.Ytbolmekdbeincaa.M
open Go Go.RowKit
set_option linter.unusedVariables false
set_option linter.unusedSimpArgs false
structure TabS (W w : World) (b : Nat) (t : List RowV) : Prop where
  below : Below W.heap.size W w
  lo : W.heap.size ≤ b
  at_ : w.heap[b]? = some (tabO true t)
  len : t.length = 4
theorem TabS.new {W w w' : World} {b : Nat} {t : List RowV} (h : TabS W w b t) (hb : Below w.heap.size w w') : TabS W w' b t :=
  ⟨h.below.trans (hb.mono h.below.size), h.lo, keep_below hb h.at_ (blk_lt h.at_), h.len⟩
theorem TabS.alloc {W w : World} {b : Nat} {t : List RowV} (h : TabS W w b t) (o : Obj) : TabS W (w.alloc o) b t := h.new ((Below.refl _ _).alloc (Nat.le_refl _) _)
theorem TabS.turn {W w w' : World} {b : Nat} {t t' : List RowV} (h : TabS W w b t) (u : Turned w w' b (tabO true t')) (hl : t'.length = 4) : TabS W w' b t' :=
  ⟨h.below.trans (u.only.below (fun k e => by have := h.lo; omega) h.below.size), h.lo, u.at_, hl⟩
theorem startT_len {t : List RowV} (h : t.length = 4) (c q : Int) : (startT t c q).2.length = 4 := by unfold startT; split <;> (try split) <;> simp [setT_len, h]
theorem finishT_len {t : List RowV} (h : t.length = 4) (c q e1 e2 e3 e4 : Int) : (finishT t c q e1 e2 e3 e4).2.length = 4 := by unfold finishT; split <;> (try split) <;> (try split) <;> simp [setT_len, h]
theorem forgetT_len {t : List RowV} (h : t.length = 4) : (forgetT t).length = 4 := by simp [forgetT, h]
section
variable {W w : World} {b : Nat} {t : List RowV}
theorem Make_ex : Calls Try.prog 9 #[] w fun e w' => e = .returned (.pointer (some ⟨w.heap.size, 0, none⟩)) ∧ TabS w w' w.heap.size tab0 :=
  Make_any.mono fun _ _ ⟨he, ha, hb⟩ => ⟨he, hb, Nat.le_refl _, ha, rfl⟩
theorem Start_ex (h : TabS W w b t) (c q : Int) : Calls Try.prog 13 #[.pointer (some ⟨b, 0, none⟩), .int .i64 c, .int .i64 q] w fun e w' =>
    ∃ x t', e = .returned (.int .i64 x) ∧ Hid (startT t c q = (x, t')) ∧ TabS W w' b t' ∧ Only (· = b) w w' :=
  (Start_any h.at_ h.len c q).mono fun _ _ ⟨he, hu⟩ => ⟨_, _, he, rfl, h.turn hu (startT_len h.len c q), hu.only⟩
theorem Finish_ex (h : TabS W w b t) (c q e1 e2 e3 e4 : Int) : Calls Try.prog 14 #[.pointer (some ⟨b, 0, none⟩), .int .i64 c, .int .i64 q, .agg #[.int .i64 e1, .int .i64 e2, .int .i64 e3, .int .i64 e4]] w fun e w' =>
    ∃ x t', e = .returned (.int .i64 x) ∧ Hid (finishT t c q e1 e2 e3 e4 = (x, t')) ∧ TabS W w' b t' ∧ Only (· = b) w w' :=
  (Finish_any h.at_ h.len c q e1 e2 e3 e4).mono fun _ _ ⟨he, hu⟩ => ⟨_, _, he, rfl, h.turn hu (finishT_len h.len c q e1 e2 e3 e4), hu.only⟩
theorem Ask_ex (h : TabS W w b t) (c q : Int) : Calls Try.prog 12 #[.pointer (some ⟨b, 0, none⟩), .int .i64 c, .int .i64 q] w fun e w' =>
    ∃ k r1 r2 r3 r4, e = .returned (.tuple #[.int .i64 k, .agg #[.int .i64 r1, .int .i64 r2, .int .i64 r3, .int .i64 r4]]) ∧ Hid (∃ a z, askT (rowT t c) (decide (inC c)) q = (k, ⟨a, r1, r2, r3, r4, z⟩)) ∧ TabS W w' b t ∧ Only (· = b) w w' :=
  (Ask_any h.at_ h.len c q).mono fun _ _ ⟨he, hu⟩ => ⟨_, _, _, _, _, he, ⟨_, _, rfl⟩, h.new hu, only_of_new hu _⟩
theorem Last_ex (h : TabS W w b t) (c : Int) : Calls Try.prog 11 #[.pointer (some ⟨b, 0, none⟩), .int .i64 c] w fun e w' =>
    ∃ x, e = .returned (.int .i64 x) ∧ Hid (lastR (rowT t c) = x) ∧ TabS W w' b t ∧ Only (· = b) w w' :=
  (Last_any h.at_ h.len c).mono fun _ _ ⟨he, hu⟩ => ⟨_, he, rfl, h.new hu, only_of_new hu _⟩
theorem Done_ex (h : TabS W w b t) (c : Int) : Calls Try.prog 10 #[.pointer (some ⟨b, 0, none⟩), .int .i64 c] w fun e w' =>
    ∃ x, e = .returned (.int .i64 x) ∧ Hid ((rowT t c).known = x) ∧ TabS W w' b t ∧ Only (· = b) w w' :=
  (Done_any h.at_ h.len c).mono fun _ _ ⟨he, hu⟩ => ⟨_, he, rfl, hu ▸ h, hu ▸ Only.refl _ _⟩
theorem Forget_ex (h : TabS W w b t) : Calls Try.prog 16 #[.pointer (some ⟨b, 0, none⟩)] w fun e w' => e = .returned (.tuple #[]) ∧ TabS W w' b (forgetT t) ∧ Only (· = b) w w' :=
  (Forget_any h.len h.at_).mono fun _ _ ⟨he, hu⟩ => ⟨he, h.turn hu (forgetT_len h.len), hu.only⟩
end
end Go.Proofs.Ytbolmekdbeincaa.M
