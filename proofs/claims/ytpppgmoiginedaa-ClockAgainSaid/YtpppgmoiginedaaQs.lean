/- These operations do come to that: the model's own run of each. -/
import Derived.Test.YtpppgmoiginedaaQo
namespace Go.Proofs.Ytpppgmoiginedaa.Q
open Go Go.RowKit
set_option linter.unusedVariables false
set_option linter.unusedSimpArgs false

section
variable {P : Program} {w : World} {H : Heap} {D : Nat → Prop}
theorem row_cells (hS : Sim w H) {b s : Nat} {L : List (List V)} {cap : Nat} (hb : H b = some (.row s L cap)) {i : Nat} {r : List V} (hi : L[i]? = some r) (f : Nat) :
    r.length = s ∧ cellsAt w (imm w H) (r.drop f) b (i * s + f) := by
  obtain ⟨arr, t, h1, h2, h3, h4⟩ := hS b _ hb
  obtain ⟨h5, h6⟩ := rows_get i h4 hi
  exact ⟨h5, by simpa using cells_drop f h6⟩
theorem ldAt_sound (hS : Sim w H) {t : TypeId} {X c : V} {x : Value} (hx : real w (imm w H) X x) (h : ldAt P H t X = some c) :
    ∃ v, (Instr.loadAt t x).run P w = .ok v w ∧ real w (imm w H) c v := by
  unfold ldAt at h
  obtain ⟨n, hn, h0⟩ := Option.bind_eq_some_iff.1 h
  obtain ⟨g, hg, h1⟩ := Option.bind_eq_some_iff.1 h0
  clear h h0
  cases X with
  | iptr cs =>
    simp only at h1
    unfold real at hx
    obtain ⟨b, off, rfl, hb, hc⟩ := hx
    obtain ⟨v, h2, h3⟩ := run_loadVar (P := P) hg hn hc h1
    exact ⟨v, by simpa [Instr.loadAt, Instr.sureAddr] using h2, h3⟩
  | ptr b s i f =>
    simp only at h1
    unfold real at hx
    subst hx
    split at h1
    · rename_i s' L cap hb
      split at h1
      · rename_i e
        subst e
        obtain ⟨r, hr, h2⟩ := Option.bind_eq_some_iff.1 h1
        obtain ⟨v, h3, h4⟩ := run_loadVar (P := P) hg hn (row_cells hS hb hr f).2 h2
        exact ⟨v, by simpa [Instr.loadAt, Instr.sureAddr] using h3, h4⟩
      · simp at h1
    · simp at h1
  | _ => simp at h1
theorem eqGuard_plain {op : BinOp} {t : TypeId} {x y : Operand} {a b : Value} (h1 : ∀ c, a ≠ .agg c) (h2 : a ≠ .nilIface) : (eqGuard op t x y a b).run P w = .ok () w := by
  unfold eqGuard
  cases op <;> simp only [Bool.not_false, Bool.not_true, if_true, Bool.false_eq_true, if_false, Sem.run_pure] <;> (cases a <;> first | rfl | exact absurd rfl (h1 _) | exact absurd rfl h2)
theorem real_val {v : Value} (h : v.oneCell' = true) : real w D (.val v) v := by unfold real; exact ⟨rfl, h⟩
theorem qint_sound {op : BinOp} {k k' : IntKind} {a b : Int} {t : TypeId} {c : V} (h : qint op k a k' b = some c) :
    ∃ v, (binOp op t (.int k a) (.int k' b)).run P w = .ok v w ∧ real w D c v := by
  cases op <;> simp only [qint] at h
  case shl =>
    split at h
    · simp at h
    · rename_i hb
      obtain rfl := Option.some.inj h
      exact ⟨_, by simp [binOp, Op.shift, hb], real_val rfl⟩
  case shr =>
    split at h
    · simp at h
    · rename_i hb
      obtain rfl := Option.some.inj h
      exact ⟨_, by simp [binOp, Op.shift, hb], real_val rfl⟩
  all_goals
    split at h
    · rename_i hk
      subst hk
      first
        | (obtain rfl := Option.some.inj h; exact ⟨_, by simp [binOp, Op.intArith, Op.intBits, Op.intCmp], real_val rfl⟩)
        | (split at h
           · simp at h
           · rename_i hb
             obtain rfl := Option.some.inj h
             exact ⟨_, by simp [binOp, Op.intDiv, hb], real_val rfl⟩)
    · simp at h
theorem qstr_sound {op : BinOp} {a b : ByteArray} {t : TypeId} {c : V} (h : qstr op a b = some c) :
    ∃ v, (binOp op t (.string a) (.string b)).run P w = .ok v w ∧ real w D c v := by
  cases op <;> simp only [qstr] at h
  case add =>
    split at h
    · rename_i hb
      obtain rfl := Option.some.inj h
      have hmx : (a.size : Int) + (b.size : Int) ≤ 9223372036854775807 := by omega
      exact ⟨_, by simp [binOp, Op.stringOp, hmx], real_val rfl⟩
    · simp at h
  all_goals first
    | (simp at h; done)
    | (obtain rfl := Option.some.inj h; exact ⟨_, by simp [binOp, Op.stringOp], real_val rfl⟩)
theorem cmp_run {op : BinOp} {t : TypeId} {x y : Value} {r : Bool} {c : V} (h : qcmp op r = some c) (h1 : ∀ k n, x ≠ .int k n) (h2 : ∀ k n, x ≠ .float k n) (h3 : ∀ k n m, x ≠ .complex k n m) (h4 : (∀ z, x ≠ .string z) ∨ ∀ z, y ≠ .string z)
    (he : (Op.equal t x y).run P w = .ok r w) : ∃ v, (binOp op t x y).run P w = .ok v w ∧ real w D c v := by
  cases op <;> simp only [qcmp] at h <;> first
    | (simp at h; done)
    | (obtain rfl := Option.some.inj h
       refine ⟨_, ?_, real_val rfl⟩
       cases x <;> first
         | exact absurd rfl (h1 _ _)
         | exact absurd rfl (h2 _ _)
         | exact absurd rfl (h3 _ _ _)
         | (cases y <;> first
             | (simp [binOp, he]; done)
             | (rcases h4 with h4 | h4 <;> exact absurd rfl (h4 _))))
theorem isBoolT_spec {t : TypeId} (h : isBoolT P t = true) : P.underlying t = some .bool := by
  unfold isBoolT at h
  split at h <;> simp_all
theorem isPtr_spec {t : TypeId} (h : isPtr P t = true) : ∃ e, P.underlying t = some (.pointer e) := by
  unfold isPtr at h
  split at h
  · exact ⟨_, by assumption⟩
  · simp at h
theorem equal_bool {t : TypeId} (h : P.underlying t = some .bool) (a b : Bool) : (Op.equal t (.bool a) (.bool b)).run P w = .ok (a == b) w := run_equalIn_bool' w 9999 t a b h
theorem equalIn_nil {t e : TypeId} (d : Nat) (h : P.underlying t = some (.pointer e)) (a : Option Addr) : (Op.equalIn (d + 1) t (.pointer a) (.pointer none)).run P w = .ok a.isNone w := by
  cases a <;> simp [Op.equalIn, run_underlying h]
theorem equal_nil {t e : TypeId} (h : P.underlying t = some (.pointer e)) (a : Option Addr) : (Op.equal t (.pointer a) (.pointer none)).run P w = .ok a.isNone w := equalIn_nil 9999 h a
theorem ldV_agg {t : TypeId} {g : Bool} {n : Nat} (hg : agT P t = some g) (hn : szT P t = some n) {cs : List V} {arr : Array Value} (hr : reals w D cs arr.toList) {off : Nat} {c : V} (h : ldV g n (cs.drop off) = some c) :
    ∃ x, (part t arr off).run P w = .ok x w ∧ real w D c x := by
  unfold ldV at h
  cases g with
  | true =>
    simp only [if_true] at h
    split at h
    · obtain rfl := Option.some.inj h
      refine ⟨.agg (arr.extract off (off + n)), by simp [part, run_isAgg hg, run_sizeOf hn], ?_⟩
      unfold real
      refine ⟨_, rfl, ?_⟩
      have := reals_take n (reals_drop off hr)
      simpa [List.drop_take] using this
    · simp at h
  | false =>
    simp only [Bool.false_eq_true, if_false, List.getElem?_drop, Nat.add_zero] at h
    obtain ⟨v, h2, h3, h4⟩ := reals_get off hr h
    exact ⟨v, by simp [part, run_isAgg hg, show arr[off]? = some v by simpa using h2], h3⟩
def EqP (P : Program) (d e : Nat) (eq : TypeId → V → V → Option Bool) : Prop := ∀ (w : World) (t : TypeId) (D : Nat → Prop) (X Y : V) (x y : Value) (r : Bool), real w D X x → real w D Y y → eq t X Y = some r → (Op.equalIn d t x y).run P w = .ok r w
theorem eqFs_run {d e : Nat} {eq : TypeId → V → V → Option Bool} (he : EqP P d e eq) {X Y : List V} {xs ys : Array Value} (hx : reals w D X xs.toList) (hy : reals w D Y ys.toList) : ∀ (fs : List Field) (r : Bool), eqFs P eq X Y fs = some r → (Op.eqFields d xs ys fs).run P w = .ok r w
  | [], r, h => by
    obtain rfl := Option.some.inj h
    simp [Op.eqFields]
  | f :: fs, r, h => by
    unfold eqFs at h
    split at h
    · rename_i hn
      simp only [Op.eqFields, hn, ne_eq, not_true_eq_false, if_false]
      exact eqFs_run he hx hy fs r h
    · rename_i hn
      obtain ⟨g, hg, h⟩ := Option.bind_eq_some_iff.1 h
      obtain ⟨n, hs, h⟩ := Option.bind_eq_some_iff.1 h
      obtain ⟨a, ha, h⟩ := Option.bind_eq_some_iff.1 h
      obtain ⟨b, hb, h⟩ := Option.bind_eq_some_iff.1 h
      obtain ⟨r1, h1, h⟩ := Option.bind_eq_some_iff.1 h
      obtain ⟨r2, h2, rfl⟩ := Option.map_eq_some_iff.1 h
      obtain ⟨va, p1, q1⟩ := ldV_agg hg hs hx ha
      obtain ⟨vb, p2, q2⟩ := ldV_agg hg hs hy hb
      have p3 := he w f.type D a b va vb r1 q1 q2 h1
      have p4 := eqFs_run he hx hy fs r2 h2
      simp only [Op.eqFields, hn, ne_eq, not_false_eq_true, if_true, Sem.run_bind, p1, p2, p3, Result.andThen_ok]
      cases r1 <;> simp [p4]
theorem eqIs_run {d e : Nat} {eq : TypeId → V → V → Option Bool} (he : EqP P d e eq) {X Y : List V} {xs ys : Array Value} (hx : reals w D X xs.toList) (hy : reals w D Y ys.toList) {t : TypeId} {g : Bool} {n : Nat} (hg : agT P t = some g) (hs : szT P t = some n) : ∀ (is : List Nat) (r : Bool), eqIs P eq X Y t g n is = some r → (Op.eqItems d t n xs ys is).run P w = .ok r w
  | [], r, h => by
    obtain rfl := Option.some.inj h
    simp [Op.eqItems]
  | i :: is, r, h => by
    unfold eqIs at h
    obtain ⟨a, ha, h⟩ := Option.bind_eq_some_iff.1 h
    obtain ⟨b, hb, h⟩ := Option.bind_eq_some_iff.1 h
    obtain ⟨r1, h1, h⟩ := Option.bind_eq_some_iff.1 h
    obtain ⟨r2, h2, rfl⟩ := Option.map_eq_some_iff.1 h
    obtain ⟨va, p1, q1⟩ := ldV_agg hg hs hx ha
    obtain ⟨vb, p2, q2⟩ := ldV_agg hg hs hy hb
    have p3 := he w t D a b va vb r1 q1 q2 h1
    have p4 := eqIs_run he hx hy hg hs is r2 h2
    simp only [Op.eqItems, Sem.run_bind, p1, p2, p3, Result.andThen_ok]
    cases r1 <;> simp [p4]
theorem eqT_run (e : Nat) : ∀ d, EqP P (d + e) e (eqT P d)
  | 0 => by intro w t D X Y x y r hx hy h; simp [eqT] at h
  | d + 1 => by
    intro w t D X Y x y r hx hy h
    have ih := eqT_run e d
    rw [show d + 1 + e = (d + e) + 1 by omega]
    unfold eqT at h
    split at h
    · rename_i hu
      unfold real at hx hy
      obtain ⟨rfl, _⟩ := hx; obtain ⟨rfl, _⟩ := hy
      obtain rfl := Option.some.inj h
      simp [Op.equalIn, run_underlying hu]
    · rename_i hu
      unfold real at hx hy
      obtain ⟨rfl, _⟩ := hx; obtain ⟨rfl, _⟩ := hy
      split at h
      · rename_i hk
        obtain rfl := Option.some.inj h
        simp [Op.equalIn, run_underlying hu, hk]
      · cases h
    · rename_i hu
      unfold real at hx hy
      obtain ⟨rfl, _⟩ := hx; obtain ⟨rfl, _⟩ := hy
      obtain rfl := Option.some.inj h
      simp [Op.equalIn, run_underlying hu]
    · rename_i fs xs ys hu
      split at h
      · cases h
      · rename_i hst
        unfold real at hx hy
        obtain ⟨ax, rfl, hx⟩ := hx; obtain ⟨ay, rfl, hy⟩ := hy
        have hfs : P.fieldsOf t = fs := by simp [Program.fieldsOf, hu]
        rw [run_equalIn_struct w (d + e) t ax ay (by rw [hfs]; exact hu) (by simpa using hst), hfs]
        exact eqFs_run ih hx hy _ _ h
    · rename_i n e' xs ys hu
      obtain ⟨g, hg, h⟩ := Option.bind_eq_some_iff.1 h
      obtain ⟨m, hs, h⟩ := Option.bind_eq_some_iff.1 h
      unfold real at hx hy
      obtain ⟨ax, rfl, hx⟩ := hx; obtain ⟨ay, rfl, hy⟩ := hy
      obtain ⟨i, hi, rfl⟩ := Option.map_eq_some_iff.1 hs
      rw [run_equalIn_array w (d + e) ax ay hu hi]
      have hc : P.cellsOf e' = i.size := by simp [Program.cellsOf, hi]
      rw [hc]
      exact eqIs_run ih hx hy hg (by simp [szT, hi]) _ _ h
    · cases h
theorem eqGuard_agg {op : BinOp} {t : TypeId} {x y : Operand} {a b : Array Value} (h : P.eqGuardType P.depth t = false) : (eqGuard op t x y (.agg a) (.agg b)).run P w = .ok () w := by
  unfold eqGuard
  cases op <;> simp [h]
theorem qbin_sound {op : BinOp} {t : TypeId} {X Y c : V} {x y : Value} {ox oy : Operand} (hx : real w D X x) (hy : real w D Y y) (h : qbin P op t X Y = some c) :
    (eqGuard op t ox oy x y).run P w = .ok () w ∧ ∃ v, (binOp op t x y).run P w = .ok v w ∧ real w D c v := by
  unfold qbin at h
  split at h
  · unfold real at hx hy
    obtain ⟨rfl, _⟩ := hx
    obtain ⟨rfl, _⟩ := hy
    exact ⟨eqGuard_plain (by simp) (by simp), qint_sound h⟩
  · unfold real at hx hy
    obtain ⟨rfl, _⟩ := hx
    obtain ⟨rfl, _⟩ := hy
    exact ⟨eqGuard_plain (by simp) (by simp), qstr_sound h⟩
  · unfold real at hx hy
    obtain ⟨rfl, _⟩ := hx
    obtain ⟨rfl, _⟩ := hy
    split at h
    · rename_i ht
      exact ⟨eqGuard_plain (by simp) (by simp), cmp_run h (by simp) (by simp) (by simp) (.inl (by simp)) (equal_bool (isBoolT_spec ht) _ _)⟩
    · simp at h
  · unfold real at hx hy
    subst hx
    obtain ⟨rfl, _⟩ := hy
    split at h
    · rename_i ht
      obtain ⟨e, he⟩ := isPtr_spec ht
      exact ⟨eqGuard_plain (by simp) (by simp), cmp_run h (by simp) (by simp) (by simp) (.inl (by simp)) (equal_nil he _)⟩
    · simp at h
  · unfold real at hx hy
    obtain ⟨b, off, rfl, _⟩ := hx
    obtain ⟨rfl, _⟩ := hy
    split at h
    · rename_i ht
      obtain ⟨e, he⟩ := isPtr_spec ht
      exact ⟨eqGuard_plain (by simp) (by simp), cmp_run h (by simp) (by simp) (by simp) (.inl (by simp)) (equal_nil he _)⟩
    · simp at h
  · unfold real at hx hy
    obtain ⟨rfl, _⟩ := hx
    obtain ⟨rfl, _⟩ := hy
    split at h
    · rename_i ht
      obtain ⟨e, he⟩ := isPtr_spec ht
      exact ⟨eqGuard_plain (by simp) (by simp), cmp_run h (by simp) (by simp) (by simp) (.inl (by simp)) (equal_nil he _)⟩
    · simp at h
  · unfold qagg at h
    split at h
    · cases h
    · rename_i hg
      obtain ⟨r, h1, h⟩ := Option.bind_eq_some_iff.1 h
      have he := eqT_run (P := P) 9992 8 w t D _ _ x y r hx hy h1
      unfold real at hx hy
      obtain ⟨ax, rfl, hx⟩ := hx; obtain ⟨ay, rfl, hy⟩ := hy
      exact ⟨eqGuard_agg (by simpa using hg), cmp_run h (by simp) (by simp) (by simp) (.inl (by simp)) he⟩
  · simp at h
theorem qun_sound {op : UnOp} {X c : V} {x : Value} (hx : real w D X x) (h : qun op X = some c) : ∃ v, (Op.unary op x).run P w = .ok v w ∧ real w D c v := by
  unfold qun at h
  split at h
  · unfold real at hx
    obtain ⟨rfl, _⟩ := hx
    obtain rfl := Option.some.inj h
    exact ⟨_, by simp [Op.unary, Op.intArith], real_val rfl⟩
  · unfold real at hx
    obtain ⟨rfl, _⟩ := hx
    obtain rfl := Option.some.inj h
    exact ⟨_, by simp [Op.unary], real_val rfl⟩
  · simp at h
theorem qconv_sound {s d : TypeId} {X c : V} {x : Value} (hx : real w D X x) (h : qconv P s d X = some c) : ∃ v, (convert s d x).run P w = .ok v w ∧ real w D c v := by
  unfold qconv at h
  split at h
  · rename_i h1 h2
    unfold real at hx
    obtain ⟨rfl, _⟩ := hx
    obtain rfl := Option.some.inj h
    exact ⟨_, by simp [convert, run_underlying h1, run_underlying h2, Conv.intToInt], real_val rfl⟩
  · rename_i h1 h2
    unfold real at hx
    obtain ⟨rfl, _⟩ := hx
    obtain rfl := Option.some.inj h
    exact ⟨_, by simp [convert, run_underlying h1, run_underlying h2], real_val rfl⟩
  · simp at h
theorem offT_spec {t : TypeId} {k : Nat} {r : Nat × Nat × TypeId} (h : offT P t k = some r) : ∃ fs f, P.underlying t = some (.struct fs) ∧ fs[k]? = some f ∧ szT P f.type = some r.2.1 ∧ f.offset = r.1 ∧ f.type = r.2.2 := by
  unfold offT at h
  split at h
  · rename_i fs hu
    obtain ⟨f, hf, h1⟩ := Option.bind_eq_some_iff.1 h
    obtain ⟨n, hn, rfl⟩ := Option.map_eq_some_iff.1 h1
    exact ⟨fs, f, hu, hf, hn, rfl, rfl⟩
  · simp at h
theorem qfield_sound {T : TypeId} {k : Nat} {X c : V} {x : Value} (hx : real w D X x) (h : qfield P T k X = some c) : ∃ v, (Instr.fieldAt T x k).run P w = .ok v w ∧ real w D c v := by
  unfold qfield at h
  obtain ⟨⟨fo, n, ty⟩, hr, h1⟩ := Option.bind_eq_some_iff.1 h
  obtain ⟨fs, f, h2, h3, h4, h5, h6⟩ := offT_spec hr
  simp only at h1 h4 h5 h6
  clear h hr
  split at h1
  · simp at h1
  · rename_i hn
    have run : ∀ b o, (Instr.fieldAt T (.pointer (some ⟨b, o, none⟩)) k).run P w = .ok (.pointer (some ⟨b, o + fo, none⟩)) w := fun b o => by
      simp [Instr.fieldAt, run_underlying h2, h3, Instr.sureAddr, fieldPlace, run_sizeOf h4, hn, addr_add, h5]
    split at h1
    · unfold real at hx
      obtain ⟨b, off, rfl, hb, hc⟩ := hx
      obtain rfl := Option.some.inj h1
      exact ⟨_, run _ _, by unfold real; exact ⟨b, _, rfl, hb, cells_drop _ hc⟩⟩
    · unfold real at hx
      subst hx
      obtain rfl := Option.some.inj h1
      exact ⟨_, run _ _, by unfold real; simp [Nat.add_assoc]⟩
    · simp at h1
theorem qpart_sound {T : TypeId} {k : Nat} {X c : V} {x : Value} (hx : real w D X x) (h : qpart P T k X = some c) : ∃ v, (Instr.field T x k).run P w = .ok v w ∧ real w D c v := by
  unfold qpart at h
  obtain ⟨⟨fo, n, ty⟩, hr, h1⟩ := Option.bind_eq_some_iff.1 h
  obtain ⟨fs, f, h2, h3, h4, h5, h6⟩ := offT_spec hr
  simp only at h1 h4 h5 h6
  clear h hr
  obtain ⟨g, hg, h7⟩ := Option.bind_eq_some_iff.1 h1
  split at h7
  · unfold real at hx
    obtain ⟨arr, rfl, hc⟩ := hx
    obtain ⟨v, h8, h9⟩ := ldV_agg (P := P) (t := ty) hg (by rw [← h6]; exact h4) hc h7
    exact ⟨v, by simp only [Instr.field, Sem.run_bind, run_underlying h2, Result.andThen_ok, h3, asAgg, Sem.run_pure, h5, h6]; exact h8, h9⟩
  · simp at h7
theorem idxT_spec {t : TypeId} {len : Option Nat} {e : TypeId} {n : Nat} (h : idxT P t = some (len, e, n)) : szT P e = some n ∧ ((len = none ∧ P.underlying t = some (.slice e)) ∨ ∃ k, len = some k ∧ P.underlying t = some (.array k e)) := by
  unfold idxT at h
  split at h
  · rename_i e' hu
    obtain ⟨m, hm, h1⟩ := Option.map_eq_some_iff.1 h
    simp only [Prod.mk.injEq] at h1
    obtain ⟨rfl, rfl, rfl⟩ := h1
    exact ⟨hm, .inl ⟨rfl, hu⟩⟩
  · rename_i k e' hu
    obtain ⟨m, hm, h1⟩ := Option.map_eq_some_iff.1 h
    simp only [Prod.mk.injEq] at h1
    obtain ⟨rfl, rfl, rfl⟩ := h1
    exact ⟨hm, .inr ⟨k, rfl, hu⟩⟩
  · simp at h
theorem qindexAddr_sound {T : TypeId} {X I c : V} {x i : Value} (hx : real w D X x) (hi : real w D I i) (h : qindexAddr P T X I = some c) : ∃ v, (Instr.indexAt T x i).run P w = .ok v w ∧ real w D c v := by
  unfold qindexAddr at h
  obtain ⟨⟨len, e, s⟩, hr, h1⟩ := Option.bind_eq_some_iff.1 h
  obtain ⟨hs, hu⟩ := idxT_spec hr
  simp only at h1
  split at h1
  · rename_i k n
    unfold real at hi
    obtain ⟨rfl, _⟩ := hi
    split at h1
    · rename_i s' L
      obtain ⟨_, hu⟩ := hu.resolve_right (by simp)
      split at h1
      · rename_i hc
        obtain ⟨rfl, h0⟩ := hc
        obtain ⟨r, hL, rfl⟩ := Option.map_eq_some_iff.1 h1
        unfold real at hx
        obtain ⟨a, m, cap, rfl, rfl, _, hl⟩ := hx
        have hlt := (List.getElem?_eq_some_iff.1 hL).1
        rcases hl with rfl | ⟨b, off, rfl, hb, hrow⟩
        · simp at hL
        · have hin : n < (L.length : Int) := by omega
          obtain ⟨h2, h3⟩ := rows_get _ hrow hL
          refine ⟨.pointer (some ⟨b, off + n.toNat * s', none⟩), ?_, ?_⟩
          · simp [Instr.indexAt, asIntOf, run_underlying hu, h0, hin, run_sizeOf hs, addr_add]
          · unfold real; exact ⟨b, _, rfl, hb, h3⟩
      · simp at h1
    · rename_i b s' lo m cap
      obtain ⟨_, hu⟩ := hu.resolve_right (by simp)
      split at h1
      · rename_i hc
        obtain ⟨rfl, h0, hlt⟩ := hc
        obtain rfl := Option.some.inj h1
        unfold real at hx
        obtain ⟨o, rfl, hcap, ho⟩ := hx
        rcases ho with rfl | ⟨h2, h3⟩
        · refine ⟨.pointer (some ⟨b, lo * s' + n.toNat * s', none⟩), ?_, ?_⟩
          · simp [Instr.indexAt, asIntOf, run_underlying hu, h0, hlt, run_sizeOf hs, addr_add]
          · unfold real; simp [Nat.add_mul]
        · omega
      · simp at h1
    · rename_i m b s' j f
      obtain ⟨k', e1, hu⟩ := hu.resolve_left (by simp)
      obtain rfl := Option.some.inj e1
      split at h1
      · rename_i hc
        obtain rfl := Option.some.inj h1
        unfold real at hx
        subst hx
        refine ⟨.pointer (some ⟨b, j * s' + f + n.toNat * s, none⟩), ?_, ?_⟩
        · simp [Instr.indexAt, asIntOf, run_underlying hu, Instr.sureAddr, hc.1, hc.2, run_sizeOf hs, addr_add]
        · unfold real; simp [Nat.add_assoc]
      · simp at h1
    · rename_i m cs
      obtain ⟨k', e1, hu⟩ := hu.resolve_left (by simp)
      obtain rfl := Option.some.inj e1
      split at h1
      · rename_i hc
        obtain rfl := Option.some.inj h1
        unfold real at hx
        obtain ⟨b, off, rfl, hb, hcs⟩ := hx
        refine ⟨.pointer (some ⟨b, off + n.toNat * s, none⟩), ?_, ?_⟩
        · simp [Instr.indexAt, asIntOf, run_underlying hu, Instr.sureAddr, hc.1, hc.2, run_sizeOf hs, addr_add]
        · unfold real; exact ⟨b, _, rfl, hb, cells_drop _ hcs⟩
      · simp at h1
    · simp at h1
  · simp at h1
theorem qindex_sound {T : TypeId} {X I c : V} {x i : Value} (hx : real w D X x) (hi : real w D I i) (h : qindex P T X I = some c) : ∃ v, (Instr.index T x i).run P w = .ok v w ∧ real w D c v := by
  unfold qindex at h
  split at h
  · rename_i k n
    unfold real at hi
    obtain ⟨rfl, _⟩ := hi
    split at h
    · rename_i z hu
      unfold real at hx
      obtain ⟨rfl, _⟩ := hx
      split at h
      · rename_i h0
        obtain ⟨b, hb, rfl⟩ := Option.map_eq_some_iff.1 h
        exact ⟨_, by simp [Instr.index, asIntOf, run_underlying hu, h0, hb], real_val rfl⟩
      · simp at h
    · rename_i m e cs hu
      unfold real at hx
      obtain ⟨arr, rfl, hr⟩ := hx
      split at h
      · rename_i hc
        obtain ⟨n', hn, h1⟩ := Option.bind_eq_some_iff.1 h
        obtain ⟨g, hg, h2⟩ := Option.bind_eq_some_iff.1 h1
        obtain ⟨v, h3, h4⟩ := ldV_agg (P := P) hg hn hr h2
        exact ⟨v, by simp [Instr.index, asIntOf, run_underlying hu, hc.1, hc.2, run_sizeOf hn, h3], h4⟩
      · simp at h
    · simp at h
  · simp at h
end
end Go.Proofs.Ytpppgmoiginedaa.Q
