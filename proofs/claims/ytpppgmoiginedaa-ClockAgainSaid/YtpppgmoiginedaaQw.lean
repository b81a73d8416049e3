/- A walk in values serves for the code itself. -/
import Derived.Test.YtpppgmoiginedaaQc
import Derived.Tactics
namespace Go.Proofs.Ytpppgmoiginedaa.Q
open Go Go.RowKit
set_option linter.unusedVariables false
set_option linter.unusedSimpArgs false

def thenA (next : Env → Heap → Prop) (Q : Exit → Env → Heap → Prop) : Exit → Env → Heap → Prop
  | .normal, ρ, H => next ρ H
  | e, ρ, H => Q e ρ H
def blockA (id : Nat) (Q : Exit → Env → Heap → Prop) : Exit → Env → Heap → Prop
  | .exit i, ρ, H => if i = id then Q .normal ρ H else Q (.exit i) ρ H
  | e, ρ, H => Q e ρ H
def condA (v : V) (A B : Env → Heap → Prop) (ρ : Env) (H : Heap) : Prop :=
  match v with
  | .val (.bool b) => (b = true → A ρ H) ∧ (b = false → B ρ H)
  | _ => False
/-- behind a round -/
def roundA (I : Nat → Env → Heap → Prop) (n : Nat) (ρ : Env) (H : Heap) : Prop := ∃ m, m < n ∧ I m ρ H
def awp (P : Program) (M : List Nat) : Code → (Exit → Env → Heap → Prop) → Env → Heap → Prop
  | .skip, Q, ρ, H => Q .normal ρ H
  | .region _ ops draw, Q, ρ, H => if draw then awpD P M ops (Q .normal) ρ H else awpL P M ops (Q .normal) ops.toList ρ H
  | .seq a b, Q, ρ, H => awp P M a (thenA (awp P M b Q) Q) ρ H
  | .cond c x y, Q, ρ, H => condA (ev ρ c) (awp P M x Q) (awp P M y Q) ρ H
  | .block id c, Q, ρ, H => awp P M c (blockA id Q) ρ H
  | .loop c, Q, ρ, H => ∃ (I : Nat → Env → Heap → Prop) (n : Nat), I n ρ H ∧ ∀ n ρ H, I n ρ H → awp P M c (thenA (roundA I n) Q) ρ H
  | .exit id, Q, ρ, H => Q (.exit id) ρ H
  | .ret, Q, ρ, H => Q .ret ρ H
  | _, _, _, _ => False
def fitsO (N : Nat) (ops : Array Oper) : Bool := ops.all fun o => Op.oks o.op && (match o.dst with | some d => decide (d < N) | none => true)
def fitsC (N : Nat) : Code → Bool
  | .region _ ops _ => fitsO N ops
  | .seq a b => fitsC N a && fitsC N b
  | .cond c x y => Operand.ok c && fitsC N x && fitsC N y
  | .block _ c | .loop c => fitsC N c
  | _ => true

theorem isTrue_spec {w : World} {D : Nat → Prop} {want : Bool} {X : V} {x : Value} (h : real w D X x) : isTrue want X = true ↔ x = .bool want := by
  constructor
  · intro ht
    unfold isTrue at ht
    split at ht
    · unfold real at h
      rw [h.1, eq_of_beq ht]
    · simp at ht
  · rintro rfl
    cases X with
    | val v => unfold real at h; rw [← h.1]; simp [isTrue]
    | seq s L => unfold real at h; obtain ⟨a, n, cap, e, _⟩ := h; cases e
    | agg cs => unfold real at h; obtain ⟨arr, e, _⟩ := h; cases e
    | iptr cs => unfold real at h; obtain ⟨b, off, e, _⟩ := h; cases e
    | ptr b s i f => unfold real at h; cases h
    | own b s lo n cap => unfold real at h; obtain ⟨o, e, _⟩ := h; cases e
    | func f caps => unfold real at h; obtain ⟨arr, e, _⟩ := h; cases e
    | tup vs => unfold real at h; obtain ⟨arr, e, _⟩ := h; cases e
    | nils => unfold real at h; obtain ⟨a, e⟩ := h; cases e
theorem wanted_spec {w : World} {H : Heap} {ρ : Env} {a : Act} (hR : RA w H ρ a) (ops : Array Oper) (o : Oper) : Region.wanted o (yielded ops a.tmps) = wanted ops ρ o.guard := by
  unfold Region.wanted wanted
  cases o.guard with
  | none => rfl
  | some gw =>
    obtain ⟨j, want⟩ := gw
    simp only
    unfold yielded gdst
    cases hd : (ops[j]?).bind (·.dst) with
    | none => simp
    | some d =>
      simp only [Option.bind_some]
      have hr := hR.get d
      rw [Bool.eq_iff_iff, isTrue_spec hr, beq_iff_eq]
      cases ht : a.tmps[d]? with
      | none =>
        have : a.tmps.getD d undef = undef := by simp [Array.getD_eq_getD_getElem?, ht]
        rw [this]
        simp [undef]
      | some v =>
        have : a.tmps.getD d undef = v := by simp [Array.getD_eq_getD_getElem?, ht]
        rw [this]
        cases v <;> simp
section
variable {P : Program} {M : List Nat} {ops : Array Oper} {N : Nat}
theorem fitsO_spec (h : fitsO N ops = true) {o : Oper} (ho : o ∈ ops.toList) : Op.oks o.op = true ∧ ∀ d, o.dst = some d → d < N := by
  unfold fitsO at h
  simp only [Array.all_eq_true_iff_forall_mem] at h
  have := h o (by simpa using ho)
  simp only [Bool.and_eq_true] at this
  refine ⟨this.1, fun d hd => ?_⟩
  have h2 := this.2
  rw [hd] at h2
  simpa using h2
theorem stepA_sound {o : Oper} (hok : Op.oks o.op = true) (hd : ∀ d, o.dst = some d → d < N) {K : Env → Heap → Prop} {ρ : Env} {H : Heap} (h : stepA P M ops o K ρ H) {w : World} {a : Act} (hS : Sim w H) (hR : RA w H ρ a) (hN : a.tmps.size = N)
    {next : Act → World → Prop} {Q : Exit → Act → World → Prop} (hn : ∀ a' w' ρ' H', Evo w H w' H' → Sim w' H' → RA w' H' ρ' a' → a'.tmps.size = N → K ρ' H' → next a' w') :
    if Region.wanted o (yielded ops a.tmps) then o.wp P a w next Q ∨ (o.asks P a w ∧ LetsOut Q) else next (a.put o.dst undef) w := by
  have hsz : ∀ v, (a.put o.dst v).tmps.size = N := fun v => by
    cases hdd : o.dst <;> simp [Act.put, hN]
  have hlt : ∀ k, o.dst = some k → k < a.tmps.size := fun k hk => by rw [hN]; exact hd k hk
  unfold stepA at h
  rw [wanted_spec hR]
  split
  · rename_i hw
    rw [if_pos hw] at h
    left
    split at h
    · exact eop_sound hR hS hok h fun v c w' H' h1 h2 h3 h4 => hn _ _ (ρ.put o.dst c) H' h1 h2 ((hR.evo h1).put h3 hlt) (hsz v) h4
    · obtain ⟨c, h1, h2⟩ := h
      obtain ⟨v, w', h3, h4, h5, h6⟩ := qop_sound hR hS hok h1
      unfold Oper.wp
      rw [h3]
      exact hn _ _ (ρ.put o.dst c) H h4 h5 ((hR.evo h4).put h6 hlt) (hsz v) h2
  · rename_i hw
    rw [if_neg hw] at h
    exact hn _ _ (ρ.put o.dst (.tup [])) H (Evo.refl _ _) hS (hR.put real_undef hlt) (hsz _) h
theorem awpL_sound : ∀ (l : List Oper), (∀ o ∈ l, Op.oks o.op = true ∧ ∀ d, o.dst = some d → d < N) → ∀ {K : Env → Heap → Prop} {ρ : Env} {H : Heap}, awpL P M ops K l ρ H → ∀ {w : World} {a : Act}, Sim w H → RA w H ρ a → a.tmps.size = N →
    ∀ {Q : Exit → Act → World → Prop}, (∀ a' w' ρ' H', Evo w H w' H' → Sim w' H' → RA w' H' ρ' a' → a'.tmps.size = N → K ρ' H' → Q .normal a' w') → wpList P ops Q l a w
  | [], _, K, ρ, H, h, w, a, hS, hR, hN, Q, hn => hn a w ρ H (Evo.refl _ _) hS hR hN h
  | o :: l, hl, K, ρ, H, h, w, a, hS, hR, hN, Q, hn => by
    unfold wpList
    exact stepA_sound (hl o (by simp)).1 (hl o (by simp)).2 h hS hR hN fun a' w' ρ' H' h1 h2 h3 h4 h5 =>
      awpL_sound l (fun o ho => hl o (by simp [ho])) h5 h2 h3 h4 fun a2 w2 ρ2 H2 g1 g2 g3 g4 g5 => hn a2 w2 ρ2 H2 (h1.trans g1) g2 g3 g4 g5
theorem anyA_sound (hl : ∀ o ∈ ops.toList, Op.oks o.op = true ∧ ∀ d, o.dst = some d → d < N) {K : Env → Heap → Prop} : ∀ (fuel : Nat) (obs : List Obl) (listed : Array Bool) (ρ : Env) (H : Heap), anyA P M ops K fuel obs listed ρ H → ∀ {w : World} {a : Act}, Sim w H → RA w H ρ a → a.tmps.size = N →
    ∀ {Q : Exit → Act → World → Prop}, (∀ a' w' ρ' H', Evo w H w' H' → Sim w' H' → RA w' H' ρ' a' → a'.tmps.size = N → K ρ' H' → Q .normal a' w') → wpAny P .any ops Q fuel listed a w
  | 0, obs, listed, ρ, H, h, w, a, hS, hR, hN, Q, hn => ⟨h.1, hn a w ρ H (Evo.refl _ _) hS hR hN h.2⟩
  | fuel + 1, obs, listed, ρ, H, h, w, a, hS, hR, hN, Q, hn => by
    refine ⟨fun h0 => hn a w ρ H (Evo.refl _ _) hS hR hN (h.1 h0), fun i hi => ?_⟩
    have h1 := h.2 i hi
    unfold stepI at h1
    unfold wpOp
    cases ho : ops[i]? with
    | none =>
      rw [ho] at h1
      exact anyA_sound hl fuel _ _ ρ H h1.2 hS hR hN hn
    | some o =>
      rw [ho] at h1
      have hm := hl o (by
        have := Array.mem_of_getElem? ho
        simpa using this)
      exact stepA_sound hm.1 hm.2 h1 hS hR hN fun a' w' ρ' H' g1 g2 g3 g4 g5 =>
        anyA_sound hl fuel _ _ ρ' H' g5.2 g2 g3 g4 fun a2 w2 ρ2 H2 k1 k2 k3 k4 k5 => hn a2 w2 ρ2 H2 (g1.trans k1) k2 k3 k4 k5
theorem evo_draws {w : World} {H : Heap} (d : Nat) : Evo w H { w with drawn := d } H := ⟨rfl, rfl, rfl, Nat.le_refl _, fun _ h => ⟨rfl, h⟩⟩
theorem sim_draws {w : World} {H : Heap} (d : Nat) (hS : Sim w H) : Sim { w with drawn := d } H := fun b o h => Ob.real_same (evo_draws d).keeps rfl o (hS b o h)
theorem awp_sound (hm : P.follows .mixedOrders = true) : ∀ (c : Code), fitsC N c = true → ∀ {Q : Exit → Env → Heap → Prop} {ρ : Env} {H : Heap}, awp P M c Q ρ H → ∀ {w : World} {a : Act}, Sim w H → RA w H ρ a → a.tmps.size = N →
    ∀ {R : Exit → Act → World → Prop}, (∀ e a' w' ρ' H', Evo w H w' H' → Sim w' H' → RA w' H' ρ' a' → a'.tmps.size = N → Q e ρ' H' → R e a' w') → c.wp P R a w
  | .skip, _, Q, ρ, H, h, w, a, hS, hR, hN, R, hn => wp_skip (hn _ a w ρ H (Evo.refl _ _) hS hR hN h)
  | .exit id, _, Q, ρ, H, h, w, a, hS, hR, hN, R, hn => wp_exit (hn _ a w ρ H (Evo.refl _ _) hS hR hN h)
  | .ret, _, Q, ρ, H, h, w, a, hS, hR, hN, R, hn => wp_ret (hn _ a w ρ H (Evo.refl _ _) hS hR hN h)
  | .region id ops draw, hf, Q, ρ, H, h, w, a, hS, hR, hN, R, hn => by
    unfold awp at h
    cases draw with
    | false => exact wp_region_list (awpL_sound ops.toList (fun o ho => fitsO_spec hf ho) h hS hR hN fun a' w' ρ' H' h1 h2 h3 h4 h5 => hn _ a' w' ρ' H' h1 h2 h3 h4 h5)
    | true =>
      obtain ⟨sched, h1, h2⟩ := h
      unfold okSched at h1
      simp only [Bool.and_eq_true, beq_iff_eq] at h1
      have hany := anyA_of_sched h1.1.1 sched [] _ ρ H h1.2 (by simp) h2
      rw [h1.1.2] at hany
      exact wp_region_any hm (anyA_sound (fun o ho => fitsO_spec hf ho) _ _ _ ρ H hany (sim_draws _ hS) (hR.evo (evo_draws _)) hN fun a' w' ρ' H' g1 g2 g3 g4 g5 => hn _ a' w' ρ' H' ((evo_draws _).trans g1) g2 g3 g4 g5)
  | .seq x y, hf, Q, ρ, H, h, w, a, hS, hR, hN, R, hn => by
    simp only [fitsC, Bool.and_eq_true] at hf
    unfold awp at h
    refine wp_seq (awp_sound hm x hf.1 h hS hR hN fun e a' w' ρ' H' g1 g2 g3 g4 g5 => ?_)
    cases e with
    | normal => exact awp_sound hm y hf.2 g5 g2 g3 g4 fun e a2 w2 ρ2 H2 k1 k2 k3 k4 k5 => hn e a2 w2 ρ2 H2 (g1.trans k1) k2 k3 k4 k5
    | _ => exact hn _ a' w' ρ' H' g1 g2 g3 g4 g5
  | .cond c x y, hf, Q, ρ, H, h, w, a, hS, hR, hN, R, hn => by
    simp only [fitsC, Bool.and_eq_true] at hf
    unfold awp condA at h
    have hc := hR.ev hf.1.1
    split at h
    · rename_i b hv
      rw [hv] at hc
      unfold real at hc
      exact wp_cond_split hc.1 (fun hb => awp_sound hm x hf.1.2 (h.1 hb) hS hR hN hn) (fun hb => awp_sound hm y hf.2 (h.2 hb) hS hR hN hn)
    · exact h.elim
  | .block id c, hf, Q, ρ, H, h, w, a, hS, hR, hN, R, hn => by
    simp only [fitsC] at hf
    unfold awp at h
    refine wp_block (awp_sound hm c hf h hS hR hN fun e a' w' ρ' H' g1 g2 g3 g4 g5 => ?_)
    cases e with
    | exit i =>
      simp only [blockA] at g5
      simp only [Exit.inBlock]
      split
      · rename_i hi
        rw [if_pos hi] at g5
        exact hn _ a' w' ρ' H' g1 g2 g3 g4 g5
      · rename_i hi
        rw [if_neg hi] at g5
        exact hn _ a' w' ρ' H' g1 g2 g3 g4 g5
    | _ => exact hn _ a' w' ρ' H' g1 g2 g3 g4 g5
  | .loop c, hf, Q, ρ, H, h, w, a, hS, hR, hN, R, hn => by
    simp only [fitsC] at hf
    unfold awp at h
    obtain ⟨I, n0, h0, hround⟩ := h
    intro b k cs
    have key : ∀ n a' w' ρ' H', I n ρ' H' → Evo w H w' H' → Sim w' H' → RA w' H' ρ' a' → a'.tmps.size = N →
        ∃ e a2 w2, R e a2 w2 ∧ Arrives P (lone (b.at a' (.code c :: .inLoop c :: k)) cs w') b k cs e a2 w2 := by
      intro n
      induction n using Nat.strongRecOn with
      | _ n ih =>
        intro a' w' ρ' H' hI hE hS' hR' hN'
        obtain ⟨e, a₁, w₁, hq, harr⟩ := awp_sound hm c hf (hround n ρ' H' hI) hS' hR' hN' (R := fun e a1 w1 => match e with | .normal => ∃ m ρ1 H1, m < n ∧ I m ρ1 H1 ∧ Evo w H w1 H1 ∧ Sim w1 H1 ∧ RA w1 H1 ρ1 a1 ∧ a1.tmps.size = N | e => R e a1 w1) (fun e a1 w1 ρ1 H1 g1 g2 g3 g4 g5 => by
          cases e with
          | normal =>
            obtain ⟨m, hm1, hm2⟩ := g5
            exact ⟨m, ρ1, H1, hm1, hm2, hE.trans g1, g2, g3, g4⟩
          | _ => exact hn _ a1 w1 ρ1 H1 (hE.trans g1) g2 g3 g4 g5) b (.inLoop c :: k) cs
        cases e with
        | normal =>
          obtain ⟨m, ρ1, H1, hlt, hI₁, g1, g2, g3, g4⟩ := hq
          obtain ⟨e₂, a₂, w₂, hq₂, harr₂⟩ := ih m hlt a₁ w₁ ρ1 H1 hI₁ g1 g2 g3 g4
          exact ⟨e₂, a₂, w₂, hq₂, .of_steps (Steps.trans harr (.one step_inLoop)) harr₂⟩
        | exit id => exact ⟨_, a₁, w₁, hq, .pass (x := .inLoop c) rfl (fun _ _ => .inl (by simp)) harr⟩
        | goto l => exact ⟨_, a₁, w₁, hq, .pass (x := .inLoop c) rfl (fun _ _ => .inl (by simp)) harr⟩
        | ret => exact ⟨_, a₁, w₁, hq, .pass (x := .inLoop c) rfl (fun _ _ => .inl (by simp)) harr⟩
        | panic ch => exact ⟨_, a₁, w₁, hq, .pass (x := .inLoop c) rfl (fun _ _ => .inl (by simp)) harr⟩
        | outgrown => exact ⟨_, a₁, w₁, hq, .pass (x := .inLoop c) rfl (fun _ _ => .inl (by simp)) harr⟩
    obtain ⟨e, a', w', hq, harr⟩ := key n0 a w ρ H h0 (Evo.refl _ _) hS hR hN
    exact ⟨e, a', w', hq, .of_steps (.one step_loop) harr⟩
  | .rangeFunc .., _, _, _, _, h, _, _, _, _, _, _, _ => h.elim
  | .scope _, _, _, _, _, h, _, _, _, _, _, _, _ => h.elim
  | .label _, _, _, _, _, h, _, _, _, _, _, _, _ => h.elim
  | .goto _, _, _, _, _, h, _, _, _, _, _, _, _ => h.elim
  | .refuse _, _, _, _, _, h, _, _, _, _, _, _, _ => h.elim

/-! ### Functions -/
/-- a heap that forgets, and slices that nobody will write any more -/
def Frz (H H' : Heap) (c c' : V) : Prop := ∀ w x, Sim w H → real w (imm w H) c x → Sim w H' ∧ real w (imm w H') c' x ∧ ∀ b, H b = none → H' b = none
def finQ (Q : V → Heap → Prop) (H : Heap) (c : V) : Prop := ∃ c' H', Frz H H' c c' ∧ Q c' H'
def resV (P : Program) (H : Heap) (ρ : Env) : List ResultVar → Option (List V)
  | [] => some []
  | .tmp t :: rs => (resV P H ρ rs).map fun cs => ρ t :: cs
  | .cell t T :: rs => (ldAt P H T (ρ t)).bind fun c => (resV P H ρ rs).map fun cs => c :: cs
def oneV : List V → V
  | [c] => c
  | cs => .tup cs
def retA (P : Program) (rs : List ResultVar) (Q : V → Heap → Prop) : Exit → Env → Heap → Prop
  | .normal, ρ, H | .ret, ρ, H => optK ((resV P H ρ rs).map oneV) (finQ Q H)
  | _, _, _ => False
theorem res_sound {w : World} {H : Heap} {ρ : Env} {a : Act} (hR : RA w H ρ a) (hS : Sim w H) : ∀ (rs : List ResultVar) (cs : List V), resV P H ρ rs = some cs → ∃ vs : List Value, (rs.mapM fun | .tmp t => pure (a.tmps.getD t undef) | .cell t T => do loadVar T (← asAddr (a.tmps.getD t undef)) : Sem (List Value)).run P w = .ok vs w ∧ realt w (imm w H) cs vs
  | [], cs, h => by
    obtain rfl := Option.some.inj h
    exact ⟨[], by simp, by unfold realt; rfl⟩
  | .tmp t :: rs, cs, h => by
    unfold resV at h
    obtain ⟨cs', h1, rfl⟩ := Option.map_eq_some_iff.1 h
    obtain ⟨vs, h2, h3⟩ := res_sound hR hS rs cs' h1
    refine ⟨a.tmps.getD t undef :: vs, ?_, by unfold realt; exact ⟨_, _, rfl, hR.get t, h3⟩⟩
    rw [List.mapM_cons]
    simp only [Sem.run_bind, Sem.run_pure, Result.andThen_ok, h2]
  | .cell t T :: rs, cs, h => by
    unfold resV at h
    obtain ⟨c, h0, h⟩ := Option.bind_eq_some_iff.1 h
    obtain ⟨cs', h1, rfl⟩ := Option.map_eq_some_iff.1 h
    obtain ⟨vs, h2, h3⟩ := res_sound hR hS rs cs' h1
    obtain ⟨v, h4, h5⟩ := ldAt_sound (P := P) hS (hR.get t) h0
    refine ⟨v :: vs, ?_, by unfold realt; exact ⟨_, _, rfl, h5, h3⟩⟩
    have h6 : (do loadVar T (← asAddr (a.tmps.getD t undef)) : Sem Value).run P w = .ok v w := by
      have hx := hR.get t
      generalize a.tmps.getD t undef = x at hx h4 ⊢
      unfold ldAt at h0
      obtain ⟨n, _, h0⟩ := Option.bind_eq_some_iff.1 h0
      obtain ⟨g, _, h0⟩ := Option.bind_eq_some_iff.1 h0
      generalize ρ t = X at hx h0
      cases X with
      | iptr cs => unfold real at hx; obtain ⟨b, off, rfl, _⟩ := hx; simpa [Instr.loadAt, Instr.sureAddr, asAddr] using h4
      | ptr b s i f => unfold real at hx; subst hx; simpa [Instr.loadAt, Instr.sureAddr, asAddr] using h4
      | _ => simp at h0
    rw [List.mapM_cons]
    simp only [Sem.run_bind, Sem.run_pure, Result.andThen_ok] at h6 ⊢
    rw [h6]
    simp only [Result.andThen_ok, h2]
theorem realt_len {w : World} {D : Nat → Prop} : ∀ {cs : List V} {l : List Value}, realt w D cs l → l.length = cs.length
  | [], l, h => by unfold realt at h; simp [h]
  | c :: cs, l, h => by
    unfold realt at h
    obtain ⟨v, l', rfl, _, h2⟩ := h
    simp [realt_len h2]
/-- the slots at the begin -/
def env0 (args : List V) : Env := fun k => (args[k]?).getD (.tup [])
theorem ra0 {w : World} {H : Heap} {args : List V} {vs : Array Value} (h : argsReal w (imm w H) args vs.toList) (n : Nat) : RA w H (env0 args) { tmps := vs ++ Array.replicate n undef, defers := [] } := by
  refine ⟨fun k => ?_, rfl⟩
  have key : ∀ (args : List V) (l : List Value) (k : Nat), argsReal w (imm w H) args l → real w (imm w H) ((args[k]?).getD (.tup [])) ((l[k]?).getD undef) := by
    intro args
    induction args with
    | nil => intro l k hl; cases l <;> first | exact hl.elim | (simp; exact real_undef)
    | cons X Xs ih =>
      intro l k hl
      cases l with
      | nil => exact hl.elim
      | cons x xs =>
        cases k with
        | zero => simpa using hl.1
        | succ k => simpa using ih xs k hl.2
  have hk := key args vs.toList k h
  have e : (vs ++ Array.replicate n undef).getD k undef = (vs.toList[k]?).getD undef := by
    rw [Array.getD_eq_getD_getElem?, Array.getElem?_append]
    split
    · simp
    · rename_i hge
      rw [Array.getElem?_replicate]
      have : vs.toList[k]? = none := List.getElem?_eq_none (by simpa using hge)
      rw [this]
      split <;> rfl
  show real w (imm w H) (env0 args k) ((vs ++ Array.replicate n undef).getD k undef)
  rw [e]
  exact hk
theorem Tr_of (hm : P.follows .mixedOrders = true) {f : FuncId} {fn : Func} {c : Code} (hf : P.funcs[f]? = some fn) (hb : fn.body = some c) (hc : callable P f = true) (M : List Nat) (hfit : fitsC fn.ntmps c = true) {args : List V} (hargs : args.length ≤ fn.ntmps) {H : Heap} {Q : V → Heap → Prop}
    (h : awp P M c (retA P fn.results.toList Q) (env0 args) H) : Tr P f args H Q := by
  refine ⟨hc, fun w vs hS hA => calls_of_wp hf hb ?_⟩
  have hal : ∀ (args : List V) (l : List Value), argsReal w (imm w H) args l → l.length = args.length := by
    intro args
    induction args with
    | nil => intro l hl; cases l <;> first | exact hl.elim | rfl
    | cons X Xs ih =>
      intro l hl
      cases l with
      | nil => exact hl.elim
      | cons x xs => simp [ih xs hl.2]
  have hvl := hal _ _ hA
  rw [Array.length_toList] at hvl
  refine awp_sound hm c hfit h hS (ra0 hA _) (by simp; omega) fun e a' w' ρ' H' h1 h2 h3 h4 h5 => ?_
  have fin : optK ((resV P H' ρ' fn.results.toList).map oneV) (finQ Q H') → a'.defers = [] ∧ ∃ v, (results fn a'.tmps).run P w' = .ok v w' ∧ ∃ v' c H', Ending.returned v = .returned v' ∧ Evo w H w' H' ∧ Sim w' H' ∧ real w' (imm w' H') c v' ∧ Q c H' := by
    rintro ⟨c0, hc0, c', H2, hz, hQ⟩
    obtain ⟨cs, hcs, rfl⟩ := Option.map_eq_some_iff.1 hc0
    obtain ⟨vs', g1, g2⟩ := res_sound (P := P) h3 h2 _ _ hcs
    have hl := realt_len g2
    refine ⟨h3.defers, if h : vs'.toArray.size = 1 then vs'.toArray[0] else .tuple vs'.toArray, ?_, ?_⟩
    · unfold results
      rw [Array.mapM_eq_mapM_toList]
      simp only [Sem.run_bind, Sem.run_map, Sem.run_pure]
      exact congrArg (fun r : Result (List Value) => (r.andThen fun a w' => Result.ok a.toArray w').andThen fun a w' => Result.ok (if h : a.size = 1 then a[0] else Value.tuple a) w') g1
    · have hreal : real w' (imm w' H') (oneV cs) (if h : vs'.toArray.size = 1 then vs'.toArray[0] else .tuple vs'.toArray) := by
        match cs, vs', g2, hl with
        | [], [], g2, _ => unfold oneV real; exact ⟨#[], by simp, g2⟩
        | [c1], [v1], g2, _ =>
          unfold realt at g2
          obtain ⟨v, l', e, h6, _⟩ := g2
          simp only [List.cons.injEq] at e
          rw [e.1]
          simpa [oneV] using h6
        | c1 :: c2 :: cs, v1 :: v2 :: vs, g2, _ =>
          unfold oneV real
          exact ⟨(v1 :: v2 :: vs).toArray, by simp, g2⟩
      obtain ⟨k1, k2, k3⟩ := hz w' _ h2 hreal
      refine ⟨_, c', H2, rfl, ⟨h1.os, h1.tape, h1.output, h1.size, fun b hb => ?_⟩, k1, k2, hQ⟩
      have := h1.keep b hb
      exact ⟨this.1, this.2.1, k3 b this.2.2⟩
  cases e with
  | normal => exact fin h5
  | ret => exact fin h5
  | _ => exact h5.elim
end
end Go.Proofs.Ytpppgmoiginedaa.Q
