/- The document's examples of the clock: they are as it says. -/
import Derived.Test.YtpppgmoiginedaaKLives
namespace Go.Proofs.Ytpppgmoiginedaa.Q
open Go Go.RowKit
set_option linter.unusedSimpArgs false
set_option linter.unusedVariables false
theorem Now_ck {h F : Heap} {c N : Nat} {now : Int} {tm : Tms} (hC : Ck h c now tm N) : Tr Try.prog 15 [.ptr c 4 0 0] (h.un F) fun v H' => v = .val (.int .i64 now) ∧ H' = h.un F := by
  obtain ⟨l, ⟨m, hv, h1, h2, h3⟩, _⟩ := hC.ex
  exact Now_yes (un_some h1)
theorem sorted_one (n : Int) : sorted [n] = [n] := by simp [sorted]
def livesQ (F : Heap) : V → Heap → Prop := fun v H' => v = .val (.bool true) ∧ H' = F
theorem lives_any (F : Heap) : Tr Try.prog 13 [] F (livesQ F) := by
  have i2 := fun H => Ints_any H [2] [2] (by simp)
  have i1 := fun H => Ints_any H [1] [1] (by simp)
  have d2 : ints [2] = [[.val (.int .i64 2)]] := rfl
  have d1 : ints [1] = [[.val (.int .i64 1)]] := rfl
  rw [d2] at i2
  rw [d1] at i1
  refine Tr_of follows Try.func13 rfl (by kernel_rfl) [] (by kernel_rfl) (of_decide_eq_true (by kernel_rfl)) ?_
  have post : ∀ h : Heap, h.dj F → finQ (livesQ F) (h.un F) (.val (.bool true)) := fun h hd =>
    fin_frz (Frz.forget _ (fun k => by rcases hd k with e | e <;> cases fk : F k <;> simp [Heap.un, e, fk] <;> (rw [fk] at e; cases e))) ⟨rfl, rfl⟩
  iterate 24 (all_goals first
    | (simp only [st_skip, st_seq, st_cond, st_block, st_exit, st_ret, st_region, st_draw, st_then, st_then_exit, st_then_ret, st_in, st_in_exit, st_in_ret, st_cond_t, st_cond_f, st_retA, st_endA, st_nil, st_op, st_off, st_q, st_e, st_contK, st_contQ, st_T_nil, st_T_op, st_T_e, st_T_q, st_T_eoff, st_T_qoff, st_contE, st_contT, st_put, st_put_none, st_unguarded, st_set, st_del, optK_some, optK_none, optK_ite, optK_bind, optK_map, env0_at, envAt, ev, ofVal, ofVal1, isE, readsH, st_notAhead, onB, bindsG, List.filter_cons, st_store, st_alloc, st_allocK, st_allocB, st_box, st_buildSlice, st_bsK, st_rowB, st_makeMap, st_mapB, st_makeSlice, qmakeS, st_msK, st_mapUpdate, qmapU, st_delete, qdelete, st_append, qapp, st_app_own, st_app_nil, st_app_none, st_appB, st_call, st_callV, set_set, qop, obls, Obl.ok, wanted, gdst, isTrue, ldAt, ldV, qint, qstr, qcmp, qbin, qun, qconv, qfield, qpart, qindexAddr, qindex, bnd, qslice, setAt, noTup, bld, plc, qbuild, bldRows, qbuildSlice, lenV, qbuiltin, qlen, qmax, qmin, mapOf, okV, qlookup, qstore, delO, baseV, addV, resV, oneV, V.cells, List.map_cons, List.map_nil, List.getElem?_cons_zero, List.getElem?_cons_succ, List.getElem?_toArray, List.drop_succ_cons, List.drop_zero, List.drop_nil, List.take_succ_cons, List.take_zero, List.take_nil, List.length_cons, List.length_nil, List.set_cons_succ, List.set_cons_zero, List.append_nil, List.nil_append, List.cons_append, List.replicate_succ, List.replicate_zero, List.contains_cons, List.contains_nil, List.filter_nil, List.any_cons, List.any_nil, List.any_toArray, List.elem_cons, List.elem_nil, List.size_toArray, List.all_cons, List.all_nil, Option.map_some, Option.map_none, Option.bind_some, Option.bind_none, Option.getD_some, Option.getD_none, Option.isSome_some, Option.isSome_none, Option.isNone_some, Option.isNone_none, Nat.reduceAdd, Nat.reduceMul, Nat.reduceSub, Nat.reduceEqDiff, Nat.reduceLT, Nat.reduceLeDiff, Nat.reduceBEq, Nat.zero_add, Nat.add_zero, Nat.zero_mul, Nat.mul_one, Nat.one_mul, Nat.le_refl, Int.toNat_zero, Int.toNat_one, Int.natCast_nonneg, Int.toNat_natCast, Int.reduceLE, Int.reduceLT, Int.reduceEq, Int.reduceToNat, beq_true, beq_false, decide_true, decide_false, eq_self, if_true, if_false, true_and, and_true, false_and, and_false, true_implies, false_implies, implies_true, not_true_eq_false, not_false_eq_true, Bool.false_eq_true, Bool.true_eq_false, ↓reduceIte, reduceCtorEq, beq_self_eq_true, Bool.not_true, Bool.not_false, Bool.or_false, Bool.or_true, Bool.false_or, Bool.true_or, Bool.and_true, Bool.true_and, Bool.and_false, Bool.false_and, ne_eq, ite_self, forall_const, ty3_zr, ty28_ix, ty28_sl, Go.Proofs.Try.results13, List.map_cons, List.map_nil, sorted_one, d1, d2, *])
    | (refine guardL_splitN (fun h => ?_) (fun h => ?_))
    | (refine guardL_split (fun h => ?_) (fun h => ?_))
    | (refine condA_splitN (fun h => ?_) (fun h => ?_))
    | (refine condA_split (fun h => ?_) (fun h => ?_))
    | (refine guardT_splitN (fun h => ?_) (fun h => ?_))
    | (refine guardT_split (fun h => ?_) (fun h => ?_))
    | (refine (New_ck _).mono ?_; rintro _ _ ⟨c, h0, rfl, rfl, hd0, hC0⟩) | (refine (Set_ck hC0 hd0 (by omega) (by omega) 1 2 (by omega) (by omega) (.inr (by simp))).mono ?_; rintro _ _ ⟨rfl, h1, rfl, hd1, hC1⟩) | (refine (Set_ck hC1 hd1 (by omega) (by omega) 2 1 (by omega) (by omega) (.inr (by simp [tput]))).mono ?_; rintro _ _ ⟨rfl, h2, rfl, hd2, hC2⟩) | (refine (Tick_ck hC2 hd2 (by omega) (by omega) (by simp [tput])).mono ?_; rintro _ _ ⟨h3, tm3, D3, rfl, rfl, hd3, hC3, p3, q3⟩; obtain rfl : D3 = [(2, 1)] := List.perm_singleton.1 (by simpa [tput] using p3); obtain rfl : tm3 = [(1, 2)] := List.perm_singleton.1 (by simpa [tput] using q3)) | (refine (Tick_ck hC3 hd3 (by omega) (by omega) (by simp)).mono ?_; rintro _ _ ⟨h4, tm4, D4, rfl, rfl, hd4, hC4, p4, q4⟩; obtain rfl : D4 = [(1, 2)] := List.perm_singleton.1 (by simpa using p4)) | (refine (i2 _).mono ?_; rintro _ _ ⟨rfl, rfl⟩) | (refine (i1 _).mono ?_; rintro _ _ ⟨rfl, rfl⟩) | (refine (Now_ck hC4).mono ?_; rintro _ _ ⟨rfl, rfl⟩)
    | skip)
  have he : ((0 : Int) + 1 + 1 == 2) = true := rfl
  rw [he]
  exact post _ hd4
end Go.Proofs.Ytpppgmoiginedaa.Q
