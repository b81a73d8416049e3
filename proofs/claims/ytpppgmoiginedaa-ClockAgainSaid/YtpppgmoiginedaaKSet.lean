/- The program's clock: New, Now, Left, Stop, Set. -/
import Derived.Test.YtpppgmoiginedaaKPop
namespace Go.Proofs.Ytpppgmoiginedaa.Q
open Go Go.RowKit
set_option linter.unusedSimpArgs false
set_option linter.unusedVariables false
/-- the timers that run: name and tick -/
abbrev Tms := List (Int × Int)
def tget : Tms → Int → Option Int
  | [], _ => none
  | (k, v) :: es, n => if k = n then some v else tget es n
def tput : Tms → Int → Int → Tms
  | [], n, x => [(n, x)]
  | (k, v) :: es, n, x => if k = n then (n, x) :: es else (k, v) :: tput es n x
def tdel : Tms → Int → Tms
  | [], _ => []
  | (k, v) :: es, n => if k = n then es else (k, v) :: tdel es n
def ents (tm : Tms) : List (Int × V) := tm.map fun p => (p.1, .val (.int .i64 p.2))
theorem ents_get (n : Int) : ∀ tm : Tms, mget (ents tm) n = (tget tm n).map fun a => .val (.int .i64 a)
  | [] => rfl
  | (k, v) :: es => by
    have ih := ents_get n es
    simp only [ents, List.map_cons, mget, tget] at ih ⊢
    split
    · rfl
    · exact ih
theorem ents_put (n x : Int) : ∀ tm : Tms, mput (ents tm) n (.val (.int .i64 x)) = ents (tput tm n x)
  | [] => rfl
  | (k, v) :: es => by
    have ih := ents_put n x es
    simp only [ents, List.map_cons, mput, tput] at ih ⊢
    split
    · rfl
    · rw [ih]; rfl
theorem ents_del (n : Int) : ∀ tm : Tms, mdel (ents tm) n = ents (tdel tm n)
  | [] => rfl
  | (k, v) :: es => by
    have ih := ents_del n es
    simp only [ents, List.map_cons, mdel, tdel] at ih ⊢
    split
    · rfl
    · rw [ih]; rfl
theorem ents_len (tm : Tms) : (ents tm).length = tm.length := by simp [ents]
theorem made_yes {H : Heap} {c : Nat} {now : Int} {is : Bool} {x y : V} (hc : H c = some (.row 4 [[.val (.int .i64 now), .val (.bool is), x, y]] 1)) : Tr Try.prog 23 [.ptr c 4 0 0] H fun v H' => v = .val (.bool is) ∧ H' = H := by
  refine Tr_of follows Try.func23 rfl (by kernel_rfl) [] (by kernel_rfl) (of_decide_eq_true (by kernel_rfl)) ?_
  iterate 6 (all_goals first
    | (simp only [st_skip, st_seq, st_cond, st_block, st_exit, st_ret, st_region, st_draw, st_then, st_then_exit, st_then_ret, st_in, st_in_exit, st_in_ret, st_cond_t, st_cond_f, st_retA, st_endA, st_nil, st_op, st_off, st_q, st_e, st_contK, st_contQ, st_T_nil, st_T_op, st_T_e, st_T_q, st_T_eoff, st_T_qoff, st_contE, st_contT, st_put, st_put_none, st_unguarded, st_set, st_del, optK_some, optK_none, optK_ite, optK_bind, optK_map, env0_at, envAt, ev, ofVal, ofVal1, isE, readsH, st_notAhead, onB, bindsG, List.filter_cons, st_store, st_alloc, st_allocK, st_allocB, st_box, st_buildSlice, st_bsK, st_rowB, st_makeMap, st_mapB, st_makeSlice, qmakeS, st_msK, st_mapUpdate, qmapU, st_delete, qdelete, st_append, qapp, st_app_own, st_app_nil, st_app_none, st_appB, st_call, st_callV, set_set, qop, obls, Obl.ok, wanted, gdst, isTrue, ldAt, ldV, qint, qstr, qcmp, qbin, qun, qconv, qfield, qpart, qindexAddr, qindex, bnd, qslice, setAt, noTup, bld, plc, qbuild, bldRows, qbuildSlice, lenV, qbuiltin, qlen, qmax, qmin, mapOf, okV, qlookup, qstore, delO, baseV, addV, resV, oneV, V.cells, List.map_cons, List.map_nil, List.getElem?_cons_zero, List.getElem?_cons_succ, List.getElem?_toArray, List.drop_succ_cons, List.drop_zero, List.drop_nil, List.take_succ_cons, List.take_zero, List.take_nil, List.length_cons, List.length_nil, List.set_cons_succ, List.set_cons_zero, List.append_nil, List.nil_append, List.cons_append, List.replicate_succ, List.replicate_zero, List.contains_cons, List.contains_nil, List.filter_nil, List.any_cons, List.any_nil, List.any_toArray, List.elem_cons, List.elem_nil, List.size_toArray, List.all_cons, List.all_nil, Option.map_some, Option.map_none, Option.bind_some, Option.bind_none, Option.getD_some, Option.getD_none, Option.isSome_some, Option.isSome_none, Option.isNone_some, Option.isNone_none, Nat.reduceAdd, Nat.reduceMul, Nat.reduceSub, Nat.reduceEqDiff, Nat.reduceLT, Nat.reduceLeDiff, Nat.reduceBEq, Nat.zero_add, Nat.add_zero, Nat.zero_mul, Nat.mul_one, Nat.one_mul, Nat.le_refl, Int.toNat_zero, Int.toNat_one, Int.natCast_nonneg, Int.toNat_natCast, Int.reduceLE, Int.reduceLT, Int.reduceEq, Int.reduceToNat, beq_true, beq_false, decide_true, decide_false, eq_self, if_true, if_false, true_and, and_true, false_and, and_false, true_implies, false_implies, implies_true, not_true_eq_false, not_false_eq_true, Bool.false_eq_true, Bool.true_eq_false, ↓reduceIte, reduceCtorEq, beq_self_eq_true, Bool.not_true, Bool.not_false, Bool.or_false, Bool.or_true, Bool.false_or, Bool.true_or, Bool.and_true, Bool.true_and, Bool.and_false, Bool.false_and, ne_eq, ite_self, forall_const, ty4_ag, ty4_sz, ty23_pt, ty52_of1, Go.Proofs.Try.results23, *])
    | (refine guardL_splitN (fun h => ?_) (fun h => ?_))
    | (refine guardL_split (fun h => ?_) (fun h => ?_))
    | (refine condA_splitN (fun h => ?_) (fun h => ?_))
    | (refine condA_split (fun h => ?_) (fun h => ?_))
    | (refine guardT_splitN (fun h => ?_) (fun h => ?_))
    | (refine guardT_split (fun h => ?_) (fun h => ?_))
    | skip)
  all_goals exact fin_id ⟨rfl, rfl⟩
theorem made_nil {H : Heap} : Tr Try.prog 23 [.val (.pointer none)] H fun v H' => v = .val (.bool false) ∧ H' = H := by
  refine Tr_of follows Try.func23 rfl (by kernel_rfl) [] (by kernel_rfl) (of_decide_eq_true (by kernel_rfl)) ?_
  iterate 6 (all_goals first
    | (simp only [st_skip, st_seq, st_cond, st_block, st_exit, st_ret, st_region, st_draw, st_then, st_then_exit, st_then_ret, st_in, st_in_exit, st_in_ret, st_cond_t, st_cond_f, st_retA, st_endA, st_nil, st_op, st_off, st_q, st_e, st_contK, st_contQ, st_T_nil, st_T_op, st_T_e, st_T_q, st_T_eoff, st_T_qoff, st_contE, st_contT, st_put, st_put_none, st_unguarded, st_set, st_del, optK_some, optK_none, optK_ite, optK_bind, optK_map, env0_at, envAt, ev, ofVal, ofVal1, isE, readsH, st_notAhead, onB, bindsG, List.filter_cons, st_store, st_alloc, st_allocK, st_allocB, st_box, st_buildSlice, st_bsK, st_rowB, st_makeMap, st_mapB, st_makeSlice, qmakeS, st_msK, st_mapUpdate, qmapU, st_delete, qdelete, st_append, qapp, st_app_own, st_app_nil, st_app_none, st_appB, st_call, st_callV, set_set, qop, obls, Obl.ok, wanted, gdst, isTrue, ldAt, ldV, qint, qstr, qcmp, qbin, qun, qconv, qfield, qpart, qindexAddr, qindex, bnd, qslice, setAt, noTup, bld, plc, qbuild, bldRows, qbuildSlice, lenV, qbuiltin, qlen, qmax, qmin, mapOf, okV, qlookup, qstore, delO, baseV, addV, resV, oneV, V.cells, List.map_cons, List.map_nil, List.getElem?_cons_zero, List.getElem?_cons_succ, List.getElem?_toArray, List.drop_succ_cons, List.drop_zero, List.drop_nil, List.take_succ_cons, List.take_zero, List.take_nil, List.length_cons, List.length_nil, List.set_cons_succ, List.set_cons_zero, List.append_nil, List.nil_append, List.cons_append, List.replicate_succ, List.replicate_zero, List.contains_cons, List.contains_nil, List.filter_nil, List.any_cons, List.any_nil, List.any_toArray, List.elem_cons, List.elem_nil, List.size_toArray, List.all_cons, List.all_nil, Option.map_some, Option.map_none, Option.bind_some, Option.bind_none, Option.getD_some, Option.getD_none, Option.isSome_some, Option.isSome_none, Option.isNone_some, Option.isNone_none, Nat.reduceAdd, Nat.reduceMul, Nat.reduceSub, Nat.reduceEqDiff, Nat.reduceLT, Nat.reduceLeDiff, Nat.reduceBEq, Nat.zero_add, Nat.add_zero, Nat.zero_mul, Nat.mul_one, Nat.one_mul, Nat.le_refl, Int.toNat_zero, Int.toNat_one, Int.natCast_nonneg, Int.toNat_natCast, Int.reduceLE, Int.reduceLT, Int.reduceEq, Int.reduceToNat, beq_true, beq_false, decide_true, decide_false, eq_self, if_true, if_false, true_and, and_true, false_and, and_false, true_implies, false_implies, implies_true, not_true_eq_false, not_false_eq_true, Bool.false_eq_true, Bool.true_eq_false, ↓reduceIte, reduceCtorEq, beq_self_eq_true, Bool.not_true, Bool.not_false, Bool.or_false, Bool.or_true, Bool.false_or, Bool.true_or, Bool.and_true, Bool.true_and, Bool.and_false, Bool.false_and, ne_eq, ite_self, forall_const, ty4_ag, ty4_sz, ty23_pt, ty52_of1, Go.Proofs.Try.results23, *])
    | (refine guardL_splitN (fun h => ?_) (fun h => ?_))
    | (refine guardL_split (fun h => ?_) (fun h => ?_))
    | (refine condA_splitN (fun h => ?_) (fun h => ?_))
    | (refine condA_split (fun h => ?_) (fun h => ?_))
    | (refine guardT_splitN (fun h => ?_) (fun h => ?_))
    | (refine guardT_split (fun h => ?_) (fun h => ?_))
    | skip)
  all_goals exact fin_id ⟨rfl, rfl⟩
theorem New_any (F : Heap) : Tr Try.prog 9 [] F fun v H' => ∃ c h', v = .ptr c 4 0 0 ∧ H' = h'.un F ∧ h'.dj F ∧ Clk h' c 0 (ents []) [] := by
  refine Tr_of follows Try.func9 rfl (by kernel_rfl) [3] (by kernel_rfl) (of_decide_eq_true (by kernel_rfl)) ?_
  iterate 8 (all_goals first
    | (simp only [st_skip, st_seq, st_cond, st_block, st_exit, st_ret, st_region, st_draw, st_then, st_then_exit, st_then_ret, st_in, st_in_exit, st_in_ret, st_cond_t, st_cond_f, st_retA, st_endA, st_nil, st_op, st_off, st_q, st_e, st_contK, st_contQ, st_T_nil, st_T_op, st_T_e, st_T_q, st_T_eoff, st_T_qoff, st_contE, st_contT, st_put, st_put_none, st_unguarded, st_set, st_del, optK_some, optK_none, optK_ite, optK_bind, optK_map, env0_at, envAt, ev, ofVal, ofVal1, isE, readsH, st_notAhead, onB, bindsG, List.filter_cons, st_store, st_alloc, st_allocK, st_allocB, st_box, st_buildSlice, st_bsK, st_rowB, st_makeMap, st_mapB, st_makeSlice, qmakeS, st_msK, st_mapUpdate, qmapU, st_delete, qdelete, st_append, qapp, st_app_own, st_app_nil, st_app_none, st_appB, st_call, st_callV, set_set, qop, obls, Obl.ok, wanted, gdst, isTrue, ldAt, ldV, qint, qstr, qcmp, qbin, qun, qconv, qfield, qpart, qindexAddr, qindex, bnd, qslice, setAt, noTup, bld, plc, qbuild, bldRows, qbuildSlice, lenV, qbuiltin, qlen, qmax, qmin, mapOf, okV, qlookup, qstore, delO, baseV, addV, resV, oneV, V.cells, List.map_cons, List.map_nil, List.getElem?_cons_zero, List.getElem?_cons_succ, List.getElem?_toArray, List.drop_succ_cons, List.drop_zero, List.drop_nil, List.take_succ_cons, List.take_zero, List.take_nil, List.length_cons, List.length_nil, List.set_cons_succ, List.set_cons_zero, List.append_nil, List.nil_append, List.cons_append, List.replicate_succ, List.replicate_zero, List.contains_cons, List.contains_nil, List.filter_nil, List.any_cons, List.any_nil, List.any_toArray, List.elem_cons, List.elem_nil, List.size_toArray, List.all_cons, List.all_nil, Option.map_some, Option.map_none, Option.bind_some, Option.bind_none, Option.getD_some, Option.getD_none, Option.isSome_some, Option.isSome_none, Option.isNone_some, Option.isNone_none, Nat.reduceAdd, Nat.reduceMul, Nat.reduceSub, Nat.reduceEqDiff, Nat.reduceLT, Nat.reduceLeDiff, Nat.reduceBEq, Nat.zero_add, Nat.add_zero, Nat.zero_mul, Nat.mul_one, Nat.one_mul, Nat.le_refl, Int.toNat_zero, Int.toNat_one, Int.natCast_nonneg, Int.toNat_natCast, Int.reduceLE, Int.reduceLT, Int.reduceEq, Int.reduceToNat, beq_true, beq_false, decide_true, decide_false, eq_self, if_true, if_false, true_and, and_true, false_and, and_false, true_implies, false_implies, implies_true, not_true_eq_false, not_false_eq_true, Bool.false_eq_true, Bool.true_eq_false, ↓reduceIte, reduceCtorEq, beq_self_eq_true, Bool.not_true, Bool.not_false, Bool.or_false, Bool.or_true, Bool.false_or, Bool.true_or, Bool.and_true, Bool.true_and, Bool.and_false, Bool.false_and, ne_eq, ite_self, forall_const, ty52_pl, ty52_zr, Go.Proofs.Try.results9, *])
    | (refine guardL_splitN (fun h => ?_) (fun h => ?_))
    | (refine guardL_split (fun h => ?_) (fun h => ?_))
    | (refine condA_splitN (fun h => ?_) (fun h => ?_))
    | (refine condA_split (fun h => ?_) (fun h => ?_))
    | (refine guardT_splitN (fun h => ?_) (fun h => ?_))
    | (refine guardT_split (fun h => ?_) (fun h => ?_))
    | (refine allB_by fun c hc => ?_; have nmc : m ≠ c := ne_of_some_none (set_same _ _ _) hc) | (refine allB_by fun m hm => ?_)
    | skip)
  rw [set_ne _ _ nmc.symm] at hc
  refine fin_id ⟨c, (Heap.nil.set m (.map [])).set c (.row 4 [[.val (.int .i64 0), .val (.bool true), .val (.map (some m)), .nils]] 1), rfl, ?_, ?_, m, .nils, set_same _ _ _, by rw [set_ne _ _ nmc, set_same]; rfl, .inl ⟨rfl, rfl⟩⟩
  · rw [← un_set, ← un_set, nil_un]
  · exact dj_set (dj_set (dj_nil' F) hm) hc
theorem Now_yes {H : Heap} {c : Nat} {now : Int} {x y : V} (hc : H c = some (.row 4 [[.val (.int .i64 now), .val (.bool true), x, y]] 1)) : Tr Try.prog 15 [.ptr c 4 0 0] H fun v H' => v = .val (.int .i64 now) ∧ H' = H := by
  refine Tr_of follows Try.func15 rfl (by kernel_rfl) [] (by kernel_rfl) (of_decide_eq_true (by kernel_rfl)) ?_
  iterate 8 (all_goals first
    | (simp only [st_skip, st_seq, st_cond, st_block, st_exit, st_ret, st_region, st_draw, st_then, st_then_exit, st_then_ret, st_in, st_in_exit, st_in_ret, st_cond_t, st_cond_f, st_retA, st_endA, st_nil, st_op, st_off, st_q, st_e, st_contK, st_contQ, st_T_nil, st_T_op, st_T_e, st_T_q, st_T_eoff, st_T_qoff, st_contE, st_contT, st_put, st_put_none, st_unguarded, st_set, st_del, optK_some, optK_none, optK_ite, optK_bind, optK_map, env0_at, envAt, ev, ofVal, ofVal1, isE, readsH, st_notAhead, onB, bindsG, List.filter_cons, st_store, st_alloc, st_allocK, st_allocB, st_box, st_buildSlice, st_bsK, st_rowB, st_makeMap, st_mapB, st_makeSlice, qmakeS, st_msK, st_mapUpdate, qmapU, st_delete, qdelete, st_append, qapp, st_app_own, st_app_nil, st_app_none, st_appB, st_call, st_callV, set_set, qop, obls, Obl.ok, wanted, gdst, isTrue, ldAt, ldV, qint, qstr, qcmp, qbin, qun, qconv, qfield, qpart, qindexAddr, qindex, bnd, qslice, setAt, noTup, bld, plc, qbuild, bldRows, qbuildSlice, lenV, qbuiltin, qlen, qmax, qmin, mapOf, okV, qlookup, qstore, delO, baseV, addV, resV, oneV, V.cells, List.map_cons, List.map_nil, List.getElem?_cons_zero, List.getElem?_cons_succ, List.getElem?_toArray, List.drop_succ_cons, List.drop_zero, List.drop_nil, List.take_succ_cons, List.take_zero, List.take_nil, List.length_cons, List.length_nil, List.set_cons_succ, List.set_cons_zero, List.append_nil, List.nil_append, List.cons_append, List.replicate_succ, List.replicate_zero, List.contains_cons, List.contains_nil, List.filter_nil, List.any_cons, List.any_nil, List.any_toArray, List.elem_cons, List.elem_nil, List.size_toArray, List.all_cons, List.all_nil, Option.map_some, Option.map_none, Option.bind_some, Option.bind_none, Option.getD_some, Option.getD_none, Option.isSome_some, Option.isSome_none, Option.isNone_some, Option.isNone_none, Nat.reduceAdd, Nat.reduceMul, Nat.reduceSub, Nat.reduceEqDiff, Nat.reduceLT, Nat.reduceLeDiff, Nat.reduceBEq, Nat.zero_add, Nat.add_zero, Nat.zero_mul, Nat.mul_one, Nat.one_mul, Nat.le_refl, Int.toNat_zero, Int.toNat_one, Int.natCast_nonneg, Int.toNat_natCast, Int.reduceLE, Int.reduceLT, Int.reduceEq, Int.reduceToNat, beq_true, beq_false, decide_true, decide_false, eq_self, if_true, if_false, true_and, and_true, false_and, and_false, true_implies, false_implies, implies_true, not_true_eq_false, not_false_eq_true, Bool.false_eq_true, Bool.true_eq_false, ↓reduceIte, reduceCtorEq, beq_self_eq_true, Bool.not_true, Bool.not_false, Bool.or_false, Bool.or_true, Bool.false_or, Bool.true_or, Bool.and_true, Bool.true_and, Bool.and_false, Bool.false_and, ne_eq, ite_self, forall_const, ty3_ag, ty3_sz, ty52_of0, Go.Proofs.Try.results15, *])
    | (refine guardL_splitN (fun h => ?_) (fun h => ?_))
    | (refine guardL_split (fun h => ?_) (fun h => ?_))
    | (refine condA_splitN (fun h => ?_) (fun h => ?_))
    | (refine condA_split (fun h => ?_) (fun h => ?_))
    | (refine guardT_splitN (fun h => ?_) (fun h => ?_))
    | (refine guardT_split (fun h => ?_) (fun h => ?_))
    | (refine (made_yes hc).mono ?_; rintro _ _ ⟨rfl, rfl⟩)
    | skip)
  all_goals exact fin_id ⟨rfl, rfl⟩
def leftOf (now : Int) (tm : Tms) (n : Int) : Int := match tget tm n with | some a => a - now | none => 0
theorem Left_any {h F : Heap} {c : Nat} {now : Int} {tm : Tms} {l : List Due} (hC : Clk h c now (ents tm) l) (n : Int) (hw : ∀ a, tget tm n = some a → now ≤ a ∧ a ≤ now + 100000) :
    Tr Try.prog 14 [.ptr c 4 0 0, .val (.int .i64 n)] (h.un F) fun v H' => v = .val (.int .i64 (leftOf now tm n)) ∧ H' = h.un F := by
  obtain ⟨m, hv, h1, h2, h3⟩ := hC
  have e1 := un_some (F := F) h1
  have e2 := un_some (F := F) h2
  have eg := ents_get n tm
  have hmade := made_yes e1
  refine Tr_of follows Try.func14 rfl (by kernel_rfl) [] (by kernel_rfl) (of_decide_eq_true (by kernel_rfl)) ?_
  rcases hg : tget tm n with _ | a
  ·
    iterate 8 (all_goals first
      | (simp only [st_skip, st_seq, st_cond, st_block, st_exit, st_ret, st_region, st_draw, st_then, st_then_exit, st_then_ret, st_in, st_in_exit, st_in_ret, st_cond_t, st_cond_f, st_retA, st_endA, st_nil, st_op, st_off, st_q, st_e, st_contK, st_contQ, st_T_nil, st_T_op, st_T_e, st_T_q, st_T_eoff, st_T_qoff, st_contE, st_contT, st_put, st_put_none, st_unguarded, st_set, st_del, optK_some, optK_none, optK_ite, optK_bind, optK_map, env0_at, envAt, ev, ofVal, ofVal1, isE, readsH, st_notAhead, onB, bindsG, List.filter_cons, st_store, st_alloc, st_allocK, st_allocB, st_box, st_buildSlice, st_bsK, st_rowB, st_makeMap, st_mapB, st_makeSlice, qmakeS, st_msK, st_mapUpdate, qmapU, st_delete, qdelete, st_append, qapp, st_app_own, st_app_nil, st_app_none, st_appB, st_call, st_callV, set_set, qop, obls, Obl.ok, wanted, gdst, isTrue, ldAt, ldV, qint, qstr, qcmp, qbin, qun, qconv, qfield, qpart, qindexAddr, qindex, bnd, qslice, setAt, noTup, bld, plc, qbuild, bldRows, qbuildSlice, lenV, qbuiltin, qlen, qmax, qmin, mapOf, okV, qlookup, qstore, delO, baseV, addV, resV, oneV, V.cells, List.map_cons, List.map_nil, List.getElem?_cons_zero, List.getElem?_cons_succ, List.getElem?_toArray, List.drop_succ_cons, List.drop_zero, List.drop_nil, List.take_succ_cons, List.take_zero, List.take_nil, List.length_cons, List.length_nil, List.set_cons_succ, List.set_cons_zero, List.append_nil, List.nil_append, List.cons_append, List.replicate_succ, List.replicate_zero, List.contains_cons, List.contains_nil, List.filter_nil, List.any_cons, List.any_nil, List.any_toArray, List.elem_cons, List.elem_nil, List.size_toArray, List.all_cons, List.all_nil, Option.map_some, Option.map_none, Option.bind_some, Option.bind_none, Option.getD_some, Option.getD_none, Option.isSome_some, Option.isSome_none, Option.isNone_some, Option.isNone_none, Nat.reduceAdd, Nat.reduceMul, Nat.reduceSub, Nat.reduceEqDiff, Nat.reduceLT, Nat.reduceLeDiff, Nat.reduceBEq, Nat.zero_add, Nat.add_zero, Nat.zero_mul, Nat.mul_one, Nat.one_mul, Nat.le_refl, Int.toNat_zero, Int.toNat_one, Int.natCast_nonneg, Int.toNat_natCast, Int.reduceLE, Int.reduceLT, Int.reduceEq, Int.reduceToNat, beq_true, beq_false, decide_true, decide_false, eq_self, if_true, if_false, true_and, and_true, false_and, and_false, true_implies, false_implies, implies_true, not_true_eq_false, not_false_eq_true, Bool.false_eq_true, Bool.true_eq_false, ↓reduceIte, reduceCtorEq, beq_self_eq_true, Bool.not_true, Bool.not_false, Bool.or_false, Bool.or_true, Bool.false_or, Bool.true_or, Bool.and_true, Bool.true_and, Bool.and_false, Bool.false_and, ne_eq, ite_self, forall_const, ty3_ag, ty3_sz, ty49_ag, ty49_mp, ty49_sz, ty52_of0, ty52_of2, Go.Proofs.Try.results14, *])
      | (refine guardL_splitN (fun h => ?_) (fun h => ?_))
      | (refine guardL_split (fun h => ?_) (fun h => ?_))
      | (refine condA_splitN (fun h => ?_) (fun h => ?_))
      | (refine condA_split (fun h => ?_) (fun h => ?_))
      | (refine guardT_splitN (fun h => ?_) (fun h => ?_))
      | (refine guardT_split (fun h => ?_) (fun h => ?_))
      | (refine hmade.mono ?_; rintro _ _ ⟨rfl, rfl⟩)
      | skip)
    all_goals exact fin_id ⟨by simp [leftOf, hg], rfl⟩
  · have hb := hw a hg
    have w1 : IntKind.i64.wrap (a - now) = a - now := wrap_id (by omega)
    iterate 8 (all_goals first
      | (simp only [st_skip, st_seq, st_cond, st_block, st_exit, st_ret, st_region, st_draw, st_then, st_then_exit, st_then_ret, st_in, st_in_exit, st_in_ret, st_cond_t, st_cond_f, st_retA, st_endA, st_nil, st_op, st_off, st_q, st_e, st_contK, st_contQ, st_T_nil, st_T_op, st_T_e, st_T_q, st_T_eoff, st_T_qoff, st_contE, st_contT, st_put, st_put_none, st_unguarded, st_set, st_del, optK_some, optK_none, optK_ite, optK_bind, optK_map, env0_at, envAt, ev, ofVal, ofVal1, isE, readsH, st_notAhead, onB, bindsG, List.filter_cons, st_store, st_alloc, st_allocK, st_allocB, st_box, st_buildSlice, st_bsK, st_rowB, st_makeMap, st_mapB, st_makeSlice, qmakeS, st_msK, st_mapUpdate, qmapU, st_delete, qdelete, st_append, qapp, st_app_own, st_app_nil, st_app_none, st_appB, st_call, st_callV, set_set, qop, obls, Obl.ok, wanted, gdst, isTrue, ldAt, ldV, qint, qstr, qcmp, qbin, qun, qconv, qfield, qpart, qindexAddr, qindex, bnd, qslice, setAt, noTup, bld, plc, qbuild, bldRows, qbuildSlice, lenV, qbuiltin, qlen, qmax, qmin, mapOf, okV, qlookup, qstore, delO, baseV, addV, resV, oneV, V.cells, List.map_cons, List.map_nil, List.getElem?_cons_zero, List.getElem?_cons_succ, List.getElem?_toArray, List.drop_succ_cons, List.drop_zero, List.drop_nil, List.take_succ_cons, List.take_zero, List.take_nil, List.length_cons, List.length_nil, List.set_cons_succ, List.set_cons_zero, List.append_nil, List.nil_append, List.cons_append, List.replicate_succ, List.replicate_zero, List.contains_cons, List.contains_nil, List.filter_nil, List.any_cons, List.any_nil, List.any_toArray, List.elem_cons, List.elem_nil, List.size_toArray, List.all_cons, List.all_nil, Option.map_some, Option.map_none, Option.bind_some, Option.bind_none, Option.getD_some, Option.getD_none, Option.isSome_some, Option.isSome_none, Option.isNone_some, Option.isNone_none, Nat.reduceAdd, Nat.reduceMul, Nat.reduceSub, Nat.reduceEqDiff, Nat.reduceLT, Nat.reduceLeDiff, Nat.reduceBEq, Nat.zero_add, Nat.add_zero, Nat.zero_mul, Nat.mul_one, Nat.one_mul, Nat.le_refl, Int.toNat_zero, Int.toNat_one, Int.natCast_nonneg, Int.toNat_natCast, Int.reduceLE, Int.reduceLT, Int.reduceEq, Int.reduceToNat, beq_true, beq_false, decide_true, decide_false, eq_self, if_true, if_false, true_and, and_true, false_and, and_false, true_implies, false_implies, implies_true, not_true_eq_false, not_false_eq_true, Bool.false_eq_true, Bool.true_eq_false, ↓reduceIte, reduceCtorEq, beq_self_eq_true, Bool.not_true, Bool.not_false, Bool.or_false, Bool.or_true, Bool.false_or, Bool.true_or, Bool.and_true, Bool.true_and, Bool.and_false, Bool.false_and, ne_eq, ite_self, forall_const, ty3_ag, ty3_sz, ty49_ag, ty49_mp, ty49_sz, ty52_of0, ty52_of2, Go.Proofs.Try.results14, *])
      | (refine guardL_splitN (fun h => ?_) (fun h => ?_))
      | (refine guardL_split (fun h => ?_) (fun h => ?_))
      | (refine condA_splitN (fun h => ?_) (fun h => ?_))
      | (refine condA_split (fun h => ?_) (fun h => ?_))
      | (refine guardT_splitN (fun h => ?_) (fun h => ?_))
      | (refine guardT_split (fun h => ?_) (fun h => ?_))
      | (refine hmade.mono ?_; rintro _ _ ⟨rfl, rfl⟩)
      | skip)
    all_goals exact fin_id ⟨by simp [leftOf, hg], rfl⟩
theorem forget_right {X F : Heap} {a : Nat} {o : Ob} (hF : F a = none) (hX : X a = none) : ∀ k, (X.un F) k = none ∨ (X.un F) k = (X.un (F.set a o)) k := fun k => by
  by_cases h : k = a
  · subst h
    left
    simp [Heap.un, hX, hF]
  · right
    simp [Heap.un, Heap.set, h]
theorem Stop_any {h F : Heap} {c : Nat} {now : Int} {tm : Tms} {l : List Due} (hC : Clk h c now (ents tm) l) (hd : h.dj F) (n : Int) :
    Tr Try.prog 11 [.ptr c 4 0 0, .val (.int .i64 n)] (h.un F) fun v H' => v = .val (.bool (tget tm n).isSome) ∧ ∃ h', H' = h'.un F ∧ h'.dj F ∧ Clk h' c now (ents (tdel tm n)) l := by
  obtain ⟨m, hv, h1, h2, h3⟩ := hC
  have e1 := un_some (F := F) h1
  have e2 := un_some (F := F) h2
  have eg := ents_get n tm
  have ed := ents_del n tm
  have hmade := made_yes e1
  have nmc : m ≠ c := (ne_of_ob h1 h2 (by simp)).symm
  have ncm := nmc.symm
  have hd2 := dj_some hd h2
  have hS : Slc 2 (h.set m (.map (ents (tdel tm n)))) hv (dues l) := by
    rcases h3 with h3 | ⟨b, n', cap, L, rfl, hb, hL, hn⟩
    · exact .inl h3
    · exact .inr ⟨b, n', cap, L, rfl, by rw [set_ne _ _ (ne_of_ob hb h2 (by simp))]; exact hb, hL, hn⟩
  have post : ∀ v : V, v = .val (.bool (tget tm n).isSome) → finQ (fun v H' => v = .val (.bool (tget tm n).isSome) ∧ ∃ h', H' = h'.un F ∧ h'.dj F ∧ Clk h' c now (ents (tdel tm n)) l) ((h.un F).set m (.map (ents (tdel tm n)))) v := by
    intro v hv'
    exact fin_id ⟨hv', h.set m (.map (ents (tdel tm n))), un_set _ _ _ _, dj_set hd hd2, m, hv, by rw [set_ne _ _ ncm]; exact h1, set_same _ _ _, hS⟩
  refine Tr_of follows Try.func11 rfl (by kernel_rfl) [] (by kernel_rfl) (of_decide_eq_true (by kernel_rfl)) ?_
  rcases hg : tget tm n with _ | a
  ·
    iterate 8 (all_goals first
      | (simp only [st_skip, st_seq, st_cond, st_block, st_exit, st_ret, st_region, st_draw, st_then, st_then_exit, st_then_ret, st_in, st_in_exit, st_in_ret, st_cond_t, st_cond_f, st_retA, st_endA, st_nil, st_op, st_off, st_q, st_e, st_contK, st_contQ, st_T_nil, st_T_op, st_T_e, st_T_q, st_T_eoff, st_T_qoff, st_contE, st_contT, st_put, st_put_none, st_unguarded, st_set, st_del, optK_some, optK_none, optK_ite, optK_bind, optK_map, env0_at, envAt, ev, ofVal, ofVal1, isE, readsH, st_notAhead, onB, bindsG, List.filter_cons, st_store, st_alloc, st_allocK, st_allocB, st_box, st_buildSlice, st_bsK, st_rowB, st_makeMap, st_mapB, st_makeSlice, qmakeS, st_msK, st_mapUpdate, qmapU, st_delete, qdelete, st_append, qapp, st_app_own, st_app_nil, st_app_none, st_appB, st_call, st_callV, set_set, qop, obls, Obl.ok, wanted, gdst, isTrue, ldAt, ldV, qint, qstr, qcmp, qbin, qun, qconv, qfield, qpart, qindexAddr, qindex, bnd, qslice, setAt, noTup, bld, plc, qbuild, bldRows, qbuildSlice, lenV, qbuiltin, qlen, qmax, qmin, mapOf, okV, qlookup, qstore, delO, baseV, addV, resV, oneV, V.cells, List.map_cons, List.map_nil, List.getElem?_cons_zero, List.getElem?_cons_succ, List.getElem?_toArray, List.drop_succ_cons, List.drop_zero, List.drop_nil, List.take_succ_cons, List.take_zero, List.take_nil, List.length_cons, List.length_nil, List.set_cons_succ, List.set_cons_zero, List.append_nil, List.nil_append, List.cons_append, List.replicate_succ, List.replicate_zero, List.contains_cons, List.contains_nil, List.filter_nil, List.any_cons, List.any_nil, List.any_toArray, List.elem_cons, List.elem_nil, List.size_toArray, List.all_cons, List.all_nil, Option.map_some, Option.map_none, Option.bind_some, Option.bind_none, Option.getD_some, Option.getD_none, Option.isSome_some, Option.isSome_none, Option.isNone_some, Option.isNone_none, Nat.reduceAdd, Nat.reduceMul, Nat.reduceSub, Nat.reduceEqDiff, Nat.reduceLT, Nat.reduceLeDiff, Nat.reduceBEq, Nat.zero_add, Nat.add_zero, Nat.zero_mul, Nat.mul_one, Nat.one_mul, Nat.le_refl, Int.toNat_zero, Int.toNat_one, Int.natCast_nonneg, Int.toNat_natCast, Int.reduceLE, Int.reduceLT, Int.reduceEq, Int.reduceToNat, beq_true, beq_false, decide_true, decide_false, eq_self, if_true, if_false, true_and, and_true, false_and, and_false, true_implies, false_implies, implies_true, not_true_eq_false, not_false_eq_true, Bool.false_eq_true, Bool.true_eq_false, ↓reduceIte, reduceCtorEq, beq_self_eq_true, Bool.not_true, Bool.not_false, Bool.or_false, Bool.or_true, Bool.false_or, Bool.true_or, Bool.and_true, Bool.true_and, Bool.and_false, Bool.false_and, ne_eq, ite_self, forall_const, ty49_ag, ty49_mp, ty49_sz, ty52_of2, Go.Proofs.Try.results11, *])
      | (refine guardL_splitN (fun h => ?_) (fun h => ?_))
      | (refine guardL_split (fun h => ?_) (fun h => ?_))
      | (refine condA_splitN (fun h => ?_) (fun h => ?_))
      | (refine condA_split (fun h => ?_) (fun h => ?_))
      | (refine guardT_splitN (fun h => ?_) (fun h => ?_))
      | (refine guardT_split (fun h => ?_) (fun h => ?_))
      | (refine hmade.mono ?_; rintro _ _ ⟨rfl, rfl⟩)
      | skip)
    all_goals (rw [hg] at post; exact post _ rfl)
  ·
    iterate 8 (all_goals first
      | (simp only [st_skip, st_seq, st_cond, st_block, st_exit, st_ret, st_region, st_draw, st_then, st_then_exit, st_then_ret, st_in, st_in_exit, st_in_ret, st_cond_t, st_cond_f, st_retA, st_endA, st_nil, st_op, st_off, st_q, st_e, st_contK, st_contQ, st_T_nil, st_T_op, st_T_e, st_T_q, st_T_eoff, st_T_qoff, st_contE, st_contT, st_put, st_put_none, st_unguarded, st_set, st_del, optK_some, optK_none, optK_ite, optK_bind, optK_map, env0_at, envAt, ev, ofVal, ofVal1, isE, readsH, st_notAhead, onB, bindsG, List.filter_cons, st_store, st_alloc, st_allocK, st_allocB, st_box, st_buildSlice, st_bsK, st_rowB, st_makeMap, st_mapB, st_makeSlice, qmakeS, st_msK, st_mapUpdate, qmapU, st_delete, qdelete, st_append, qapp, st_app_own, st_app_nil, st_app_none, st_appB, st_call, st_callV, set_set, qop, obls, Obl.ok, wanted, gdst, isTrue, ldAt, ldV, qint, qstr, qcmp, qbin, qun, qconv, qfield, qpart, qindexAddr, qindex, bnd, qslice, setAt, noTup, bld, plc, qbuild, bldRows, qbuildSlice, lenV, qbuiltin, qlen, qmax, qmin, mapOf, okV, qlookup, qstore, delO, baseV, addV, resV, oneV, V.cells, List.map_cons, List.map_nil, List.getElem?_cons_zero, List.getElem?_cons_succ, List.getElem?_toArray, List.drop_succ_cons, List.drop_zero, List.drop_nil, List.take_succ_cons, List.take_zero, List.take_nil, List.length_cons, List.length_nil, List.set_cons_succ, List.set_cons_zero, List.append_nil, List.nil_append, List.cons_append, List.replicate_succ, List.replicate_zero, List.contains_cons, List.contains_nil, List.filter_nil, List.any_cons, List.any_nil, List.any_toArray, List.elem_cons, List.elem_nil, List.size_toArray, List.all_cons, List.all_nil, Option.map_some, Option.map_none, Option.bind_some, Option.bind_none, Option.getD_some, Option.getD_none, Option.isSome_some, Option.isSome_none, Option.isNone_some, Option.isNone_none, Nat.reduceAdd, Nat.reduceMul, Nat.reduceSub, Nat.reduceEqDiff, Nat.reduceLT, Nat.reduceLeDiff, Nat.reduceBEq, Nat.zero_add, Nat.add_zero, Nat.zero_mul, Nat.mul_one, Nat.one_mul, Nat.le_refl, Int.toNat_zero, Int.toNat_one, Int.natCast_nonneg, Int.toNat_natCast, Int.reduceLE, Int.reduceLT, Int.reduceEq, Int.reduceToNat, beq_true, beq_false, decide_true, decide_false, eq_self, if_true, if_false, true_and, and_true, false_and, and_false, true_implies, false_implies, implies_true, not_true_eq_false, not_false_eq_true, Bool.false_eq_true, Bool.true_eq_false, ↓reduceIte, reduceCtorEq, beq_self_eq_true, Bool.not_true, Bool.not_false, Bool.or_false, Bool.or_true, Bool.false_or, Bool.true_or, Bool.and_true, Bool.true_and, Bool.and_false, Bool.false_and, ne_eq, ite_self, forall_const, ty49_ag, ty49_mp, ty49_sz, ty52_of2, Go.Proofs.Try.results11, *])
      | (refine guardL_splitN (fun h => ?_) (fun h => ?_))
      | (refine guardL_split (fun h => ?_) (fun h => ?_))
      | (refine condA_splitN (fun h => ?_) (fun h => ?_))
      | (refine condA_split (fun h => ?_) (fun h => ?_))
      | (refine guardT_splitN (fun h => ?_) (fun h => ?_))
      | (refine guardT_split (fun h => ?_) (fun h => ?_))
      | (refine hmade.mono ?_; rintro _ _ ⟨rfl, rfl⟩)
      | skip)
    all_goals (rw [hg] at post; exact post _ rfl)
end Go.Proofs.Ytpppgmoiginedaa.Q
