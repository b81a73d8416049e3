/- Operations that make or write memory, or call, do what eop says. -/
import Derived.Test.YtpppgmoiginedaaQg
namespace Go.Proofs.Ytpppgmoiginedaa.Q
open Go Go.RowKit
set_option linter.unusedVariables false
set_option linter.unusedSimpArgs false
theorem real_undef {w : World} {D : Nat → Prop} : real w D (.tup []) undef := by
  unfold real
  exact ⟨#[], rfl, by unfold realt; rfl⟩
theorem eop_sound {P : Program} {w : World} {H : Heap} {ρ : Env} {a : Act} {o : Oper} {K : V → Heap → Prop} (hR : RA w H ρ a) (hS : Sim w H) (hok : Op.oks o.op = true) (h : eop P ρ H K o.op)
    {next : Act → World → Prop} {Q : Exit → Act → World → Prop} (hn : ∀ v c w' H', Evo w H w' H' → Sim w' H' → real w' (imm w' H') c v → K c H' → next (a.put o.dst v) w') : o.wp P a w next Q := by
  obtain ⟨dst, op, type, pos, after, guard⟩ := o
  simp only at hok h hn
  have hm := fun x hx => Op.oks_mem hok (x := x) hx
  unfold Oper.wp
  have val : ∀ {v w' c H'}, (execOp a.eval ⟨dst, op, type, pos, after, guard⟩).run P w = .ok (.value v) w' → Evo w H w' H' → Sim w' H' → real w' (imm w' H') c v → K c H' → Oper.upon P ⟨dst, op, type, pos, after, guard⟩ a next Q ((execOp a.eval ⟨dst, op, type, pos, after, guard⟩).run P w) := by
    intro v w' c H' h1 h2 h3 h4 h5
    rw [h1]
    exact hn v c w' H' h2 h3 h4 h5
  have skp : ∀ {w' H'}, (execOp a.eval ⟨dst, op, type, pos, after, guard⟩).run P w = .ok .skip w' → Evo w H w' H' → Sim w' H' → K (.tup []) H' → Oper.upon P ⟨dst, op, type, pos, after, guard⟩ a next Q ((execOp a.eval ⟨dst, op, type, pos, after, guard⟩).run P w) := by
    intro w' H' h1 h2 h3 h5
    rw [h1]
    exact hn undef _ w' H' h2 h3 real_undef h5
  cases op <;> simp only [eop] at h
  case store T p x =>
    obtain ⟨H', h1, h2⟩ := h
    obtain ⟨w', h3, h4, h5⟩ := qstore_sound (P := P) hS (hR.ev (hm p (by simp [Op.operands]))) (hR.ev (hm x (by simp [Op.operands]))) h1
    exact skp (by simp [execOp, h3]) h4 h5 h2
  case alloc T =>
    obtain ⟨z, h1, h2⟩ := h
    obtain ⟨zv, hz1, hz2, _⟩ := zeroT_spec (w := w) (D := imm w H) h1
    have hzl := reals_len hz2
    rw [Array.length_toList] at hzl
    obtain ⟨g1, g2, g3⟩ := fresh_alloc hS (arr := zv.cells) (t := T) (s := z.length) (cap := 1) (L := [z]) (by simp) (by omega) (by simp) (by
      rw [List.take_of_length_le (by simp; omega)]
      simpa using hz2)
    exact val (v := .pointer (some ⟨w.heap.size, 0, none⟩)) (by simp [execOp, Instr.alloc, hz1, newVar, newRow]) g2 g3 (by unfold real; simp) (h2 _ g1)
  case box T x =>
    obtain ⟨h1, h2⟩ := h
    have hx := real_cells (hR.ev (hm x (by simp [Op.operands]))) (noTup_spec h1)
    have hxl := reals_len hx
    rw [Array.length_toList] at hxl
    obtain ⟨g1, g2, g3⟩ := fresh_alloc hS (arr := (a.eval x).cells) (t := T) (s := (ev ρ x).cells.length) (cap := 1) (L := [(ev ρ x).cells]) (by simp) (by omega) (by simp) (by
      rw [List.take_of_length_le (by simp; omega)]
      simpa using hx)
    exact val (v := .pointer (some ⟨w.heap.size, 0, none⟩)) (by simp [execOp, Instr.box, newVar, newRow]) g2 g3 (by unfold real; simp) (h2 _ g1)
  case buildSlice T n ps =>
    obtain ⟨c, h1, h2⟩ := h
    split at h2
    · rename_i s L
      have hp := parts_map hR ps.toList fun x hx => hm x.2 (by simp only [Op.operands]; exact List.mem_map.2 ⟨x, hx, rfl⟩)
      unfold qbuildSlice at h1
      split at h1
      · rename_i hT
        obtain ⟨e, hu⟩ := isSliceT_spec hT
        obtain ⟨⟨len, e', s'⟩, hi', h1⟩ := Option.bind_eq_some_iff.1 h1
        obtain ⟨rfl, hsz⟩ := idx_slice hu hi'
        simp only at h1
        split at h1
        · simp at h1
        · split at h1
          · rename_i hc
            obtain ⟨z, hz, h3⟩ := Option.bind_eq_some_iff.1 h1
            split at h3
            · rename_i hzl
              obtain ⟨L', hL, e2⟩ := Option.map_eq_some_iff.1 h3
              simp only [V.seq.injEq] at e2
              obtain ⟨rfl, rfl⟩ := e2
              obtain ⟨zv, hz1, hz2, _⟩ := zeroT_spec (w := w) (D := imm w H) hz
              have hzs : zv.cells.size = s' := by rw [← hzl, ← reals_len hz2, Array.length_toList]
              obtain ⟨g3, g4, g5⟩ := bldRows_flat (s := s') (fun r hr => by rw [List.eq_of_mem_replicate hr]; exact hzl) hL
              obtain ⟨arr', g6, g7⟩ := fill_run (p := fun i => some (i * s', s')) hp (zeros_real hz2 (by omega) n) g3
              have hle : ¬ (16777216 < n * s') := by omega
              have hl5 : L'.length = n := by simpa using g5
              have harr : arr'.size = n * s' := by
                have := reals_len g7
                rw [Array.length_toList, flat_len g4, hl5] at this
                exact this
              obtain ⟨f1, f2, f3⟩ := fresh_alloc hS (arr := arr') (t := e') (s := s') (cap := n) (L := L') (by omega) harr g4 (by
                rw [List.take_of_length_le (by simp [harr, hl5])]
                exact g7)
              have hne : ¬ (n * s' = 0) := by
                intro h0
                rcases Nat.mul_eq_zero.1 h0 with h0 | h0
                · subst h0
                  cases hps : ps.toList with
                  | nil => rename_i hcc _; simp [hps] at hcc
                  | cons p ps' => rw [hps] at hL; simp [bldRows] at hL
                · omega
              have h24 : ¬ (n * s' > 2 ^ 24) := by
                have : (2 : Nat) ^ 24 = 16777216 := by decide
                omega
              rw [hzs] at g6
              have hrun : (Instr.buildSlice T n (ps.map fun x => (x.1, a.eval x.2))).run P w = .ok (.slice (some ⟨w.heap.size, 0, none⟩) n n) (w.alloc (.cells arr' e')) := by
                have g6' : Instr.fill (fun i => some (i * s', s')) (Array.map (fun x => zv.cells[x % s']!) (Array.range (n * s'))) (ps.map fun x => (x.1, a.eval x.2)).toList = some arr' := by simpa using g6
                simp only [Instr.buildSlice, Sem.run_bind, run_underlying hu, Result.andThen_ok, run_sizeOf hsz, if_neg h24, if_neg hne, Sem.run_pure, hz1, hzs, g6', newRow, run_newObj]
                rfl
              exact val (v := .slice (some ⟨w.heap.size, 0, none⟩) n n) (by simp only [execOp, Sem.run_bind, hrun, Result.andThen_ok, Sem.run_pure]) f2 f3 (by unfold real; exact ⟨0, rfl, Nat.le_refl _, .inl (by simp)⟩) (h2 _ f1)
            · simp at h3
          · simp at h1
      · simp at h1
    · exact h2.elim
  case makeSlice T l c =>
    have hl := hR.ev (hm l (by simp [Op.operands]))
    have hc := hR.ev (hm c (by simp [Op.operands]))
    split at h
    · rename_i k1 n1 k2 n2 e1 e2
      rw [e1] at hl
      rw [e2] at hc
      unfold real at hl hc
      obtain ⟨⟨len, e, s⟩, h1, h⟩ := h
      obtain ⟨z, h2, h⟩ := h
      obtain ⟨by_, h3, rfl, h0, hmx, hbm, hT, hzl, hs, hK⟩ := h
      dsimp only at h2 h3 hzl hs hK
      obtain ⟨e', hu⟩ := isSliceT_spec hT
      obtain ⟨rfl, hsz⟩ := idx_slice hu h1
      obtain ⟨info, hi, rfl, rfl⟩ := byT_spec hsz h3
      obtain ⟨zv, hz1, hz2, info', hi', hz3⟩ := zeroT_spec (w := w) (D := imm w H) h2
      rw [hi] at hi'
      obtain rfl := Option.some.inj hi'
      have hzs : zv.cells.size = info.size := by rw [← hzl, ← reals_len hz2, Array.length_toList]
      have hb : (info.bytes : Int) * n2 ≤ 281474976710656 := by
        have h5 : (info.bytes : Int) * n2 ≤ 1000000 * 1000000 := Int.mul_le_mul (by omega) hmx h0 (by omega)
        omega
      have hrun := run_make (P := P) w T e info zv hu hi hz3 k1 k2 n2 n2 h0 (Int.le_refl _) hb (by omega)
      have hsz' : (madeCells zv.cells (n2.toNat * info.size)).size = n2.toNat * info.size := size_madeCells _ _
      have hzr := zeros_real hz2 (by omega) n2.toNat
      rw [hzs] at hzr
      obtain ⟨f1, f2, f3⟩ := fresh_alloc hS (arr := madeCells zv.cells (n2.toNat * info.size)) (t := e) (s := info.size) (cap := n2.toNat) (L := List.replicate n2.toNat z) (by simp) hsz' (fun r hr => by rw [List.eq_of_mem_replicate hr]; exact hzl) (by
        rw [List.take_of_length_le (by simp [hsz'])]
        unfold madeCells
        rw [hzs]
        exact hzr)
      exact val (v := .slice (some ⟨w.heap.size, 0, none⟩) n2.toNat n2.toNat) (by simp [execOp, hl.1, hc.1, hrun]) f2 f3 (by unfold real; exact ⟨0, rfl, Nat.le_refl _, .inl (by simp)⟩) (hK _ f1)
    · exact h.elim
  case makeMap T r =>
    cases r with
    | none =>
      simp only at h
      obtain ⟨f1, f2, f3⟩ := evo_new hS (.map #[] 0) (.map []) fun H2 _ => ⟨#[], 0, alloc_at w _, by simp [entsAt], by simp, by simp⟩
      exact val (v := .map (some w.heap.size)) (by simp [execOp, Instr.makeMap]) f2 f3 (real_val rfl) (h _ f1)
    | some r => exact h.elim
  case mapUpdate T m k x =>
    have hmm := hR.ev (hm m (by simp [Op.operands]))
    have hkk := hR.ev (hm k (by simp [Op.operands]))
    have hx := hR.ev (hm x (by simp [Op.operands]))
    split at h
    · rename_i b n e1 e2
      rw [e1] at hmm
      rw [e2] at hkk
      unfold real at hmm hkk
      split at h
      · rename_i es hb
        obtain ⟨h1, h2, h3⟩ := h
        obtain ⟨w', g1, g2, g3⟩ := mapUpdate_sound (P := P) (T := T) hS hb h1 (n := n) hx
        exact skp (by simp [execOp, hmm.1, hkk.1, g1]) g2 g3 h3
      · exact h.elim
    · exact h.elim
  case call cl =>
    obtain ⟨callee, args, ts⟩ := cl
    have ha := args_map hR args.toList fun x hx => hm x (by simp [Op.operands, Call.operands]; exact .inr (by simpa using hx))
    have hargs : args.map a.eval = (args.toList.map a.eval).toArray := by apply Array.toList_inj.1; simp
    cases callee with
    | invoke r mth => simp only [eop] at h
    | value g =>
      simp only [eop] at h
      have hg := hR.ev (hm g (by simp [Op.operands, Call.operands]))
      split at h
      · rename_i f caps e1
        rw [e1] at hg
        unfold real at hg
        obtain ⟨arr, hge, hr⟩ := hg
        have hcl := h.1
        unfold callable at hcl
        cases hfn : P.funcs[f]? with
        | none => simp [hfn] at hcl
        | some fn =>
          simp only [hfn, Option.any_some, Bool.and_eq_true, bne_iff_ne, ne_eq] at hcl
          have hb : fn.body.isNone = false := by
            cases hbb : fn.body with
            | none => simp [hbb] at hcl
            | some _ => rfl
          have hrun : (execOp a.eval ⟨dst, .call { callee := .value g, args, argTypes := ts }, type, pos, after, guard⟩).run P w = .ok (.enter f (args.map a.eval ++ arr)) w := by
            have hb' : fn.body ≠ none := by intro e; rw [e] at hb; simp at hb
            simp [execOp, resolve, hge, Deferred.ofValue, invoke, callFunc, hfn, hb', hcl.2]
          rw [hrun]
          have hall : argsReal w (imm w H) (args.toList.map (ev ρ) ++ caps) (args.map a.eval ++ arr).toList := by
            have key : ∀ (Xs : List V) (xs : List Value) (cs : List V) (l : List Value), argsReal w (imm w H) Xs xs → reals w (imm w H) cs l → argsReal w (imm w H) (Xs ++ cs) (xs ++ l) := by
              intro Xs
              induction Xs with
              | nil =>
                intro xs cs
                cases xs with
                | cons _ _ => intro l h; exact h.elim
                | nil =>
                  induction cs with
                  | nil => intro l _ hr; unfold reals at hr; subst hr; trivial
                  | cons c cs ih =>
                    intro l _ hr
                    unfold reals at hr
                    obtain ⟨v, l', rfl, h1, h2⟩ := hr
                    exact ⟨h1.1, ih l' trivial h2⟩
              | cons X Xs ih =>
                intro xs cs l h hr
                cases xs with
                | nil => exact h.elim
                | cons x xs => exact ⟨h.1, ih xs cs l h.2 hr⟩
            have := key _ _ _ _ ha hr
            simpa using this
          refine (h.2 w (args.map a.eval ++ arr) hS hall).mono ?_
          rintro e w' ⟨v, c, H', rfl, h1, h2, h3, h4⟩
          exact hn v c w' H' h1 h2 h3 h4
      · exact h.elim
    | builtin b =>
      cases b <;> simp only [eop] at h
      case append =>
        generalize hXs : args.toList.map (ev ρ) = Xs at h ha
        generalize hxs : args.toList.map a.eval = xs at ha hargs
        split at h
        · rename_i S X
          obtain ⟨T, t1, T', t2, ⟨len, e, sz⟩, t3, z, t4, by_, t5, ⟨bo, L⟩, t6, M, t7, h1, h2, h3, h4, h5, h6, h7, h8⟩ := h
          obtain ⟨e', hu⟩ := isSliceT_spec h1
          obtain ⟨e'', hu'⟩ := isSliceT_spec h2
          obtain ⟨rfl, hsz⟩ := idx_slice hu t3
          cases xs with
          | nil => exact ha.elim
          | cons sv xs => cases xs with
            | nil => exact ha.2.elim
            | cons xv xs => cases xs with
              | cons _ _ => exact ha.2.2.elim
              | nil =>
                simp only [argsReal] at ha
                have hts : ∃ rest, ts = ⟨T :: T' :: rest⟩ := by
                  obtain ⟨ts⟩ := ts
                  cases ts with
                  | nil => simp at t1
                  | cons a1 ts => cases ts with
                    | nil => simp at t2
                    | cons a2 ts =>
                      simp at t1 t2
                      subst t1; subst t2
                      exact ⟨ts, rfl⟩
                obtain ⟨rest, rfl⟩ := hts
                obtain ⟨v, w', c, H', g1, g2, g3, g4, g5⟩ := append_sound (P := P) (T := T) (T' := T') (ty := type) hu hu' hsz t4 h3 h4 t5 h5 hS ha.1 ha.2.1 t6 t7 h6
                have g1' : (Builtin.append_ ⟨T :: T' :: rest⟩ type #[sv, xv]).run P w = .ok v w' := by
                  have : Builtin.append_ ⟨T :: T' :: rest⟩ type #[sv, xv] = Builtin.append_ #[T, T'] type #[sv, xv] := by
                    simp [Builtin.append_]
                  rw [this]
                  exact g1
                refine val (v := v) (by simp [execOp, resolve, invoke, builtin, hargs, g1']) g2 g3 g4 ?_
                rcases g5 with ⟨rfl, rfl, rfl, rfl⟩ | ⟨hne, b, cap, b1, b2, rfl, rfl⟩
                · exact h7 rfl rfl
                · exact h8 hne b cap b1 b2
        · exact h.elim
      case delete =>
        generalize hXs : args.toList.map (ev ρ) = Xs at h ha
        generalize hxs : args.toList.map a.eval = xs at ha hargs
        split at h
        · rename_i b n
          obtain ⟨T, t1, h⟩ := h
          split at h
          · rename_i es hb
            cases xs with
            | nil => exact ha.elim
            | cons mv xs => cases xs with
              | nil => exact ha.2.elim
              | cons kv xs => cases xs with
                | cons _ _ => exact ha.2.2.elim
                | nil =>
                  simp only [argsReal, real] at ha
                  obtain ⟨⟨rfl, _⟩, ⟨rfl, _⟩, _⟩ := ha
                  obtain ⟨w', g1, g2, g3⟩ := delete_sound (P := P) (ty := type) t1 hS hb h.1 (n := n)
                  exact val (v := .tuple #[]) (by simp [execOp, resolve, invoke, builtin, hargs, g1]) g2 g3 real_undef h.2
          · exact h.elim
        · exact h.elim
      all_goals exact h.elim
  all_goals exact h.elim
end Go.Proofs.Ytpppgmoiginedaa.Q
