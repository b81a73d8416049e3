/- The program's clock: what is over, as a row beside the clock; sorted. -/
import Derived.Test.YtpppgmoiginedaaKSe2
import Derived.Test.YtpppgmoiginedaaQsort
import Derived.Test.YtpppgmoiginedaaKSrt
import Derived.Shelf.Slices.In.SortNone
namespace Go.Proofs.Ytpppgmoiginedaa.Q
open Go Go.RowKit
set_option linter.unusedSimpArgs false
set_option linter.unusedVariables false
/-- a list of ints that the function keeps in G -/
def Ov (G : Heap) (ov : V) (zs : List Int) : Prop := (ov = .nils ∧ zs = []) ∨ ∃ b cap c : Nat, ov = .own b 1 0 zs.length c ∧ G b = some (.row 1 (ints zs) c)
theorem Tr_sort_nils {P : Program} {ρ : Go.Shelf.Ren} (Ly : Lays.n189 P ρ) (hcall : callable P (ρ.f 189) = true) (H : Heap) :
    Tr P (ρ.f 189) [.nils] H fun v H' => v = .tup [] ∧ H' = H := by
  refine ⟨hcall, fun w vs hS hA => ?_⟩
  obtain ⟨xs⟩ := vs
  match xs, hA with
  | [x], hA =>
    unfold argsReal at hA
    have hx := hA.1
    unfold real at hx
    obtain ⟨a, rfl⟩ := hx
    refine (Any.slices_Sort_int_none Ly a 0 w).mono ?_
    rintro e w' ⟨rfl, rfl⟩
    exact ⟨.tuple #[], .tup [], H, rfl, Evo.refl _ _, hS, by unfold real; exact ⟨#[], rfl, by unfold realt; rfl⟩, rfl, rfl⟩
theorem Sort_ov {h F G : Heap} {ov : V} {zs : List Int} (hov : Ov G ov zs) (hd : h.dj (F.un G)) (hF : F.dj G) (hsz : zs.length < 4611686018427387904) :
    Tr Try.prog 27 [ov] (h.un (F.un G)) fun v H' => v = .tup [] ∧ ∃ G', H' = h.un (F.un G') ∧ Ov G' ov (sorted zs) ∧ h.dj (F.un G') ∧ F.dj G' := by
  rcases hov with ⟨rfl, rfl⟩ | ⟨b, cap, c, rfl, hb⟩
  · refine (Tr_sort_nils (ρ := Try.lays189_ren) Try.lays189 (by kernel_rfl) _).mono ?_
    rintro v H' ⟨rfl, rfl⟩
    exact ⟨rfl, G, rfl, .inl ⟨rfl, by simp [sorted]⟩, hd, hF⟩
  · have hFb : F b = none := dj_some (dj_comm hF) hb
    have e1 : (F.un G) b = some (.row 1 (ints zs) c) := by rw [un_right hFb]; exact hb
    have hhb : h b = none := dj_some (dj_comm hd) e1
    have e2 : (h.un (F.un G)) b = some (.row 1 (ints zs) c) := by rw [un_right hhb]; exact e1
    refine (Tr_sort_ints (ρ := Try.lays189_ren) Try.lays189 (by kernel_rfl) zs e2 hsz).mono ?_
    rintro v H' ⟨rfl, rfl⟩
    refine ⟨rfl, G.set b (.row 1 (ints (sorted zs)) c), by rw [un_set_right hhb, un_set_right hFb], .inr ⟨b, cap, c, by rw [sorted_len], set_same _ _ _⟩, ?_, dj_comm (dj_set (dj_comm hF) hFb)⟩
    rw [← un_set_right hFb]
    exact dj_comm (dj_set (dj_comm hd) hhb)
theorem Ov_fin {h F G : Heap} {ov : V} {zs : List Int} {Q : V → Heap → Prop} (hov : Ov G ov zs) (hd : h.dj (F.un G)) (hF : F.dj G) (hQ : Q (.seq 1 (ints zs)) (h.un F)) : finQ Q (h.un (F.un G)) ov := by
  have hsub : ∀ G' : Heap, (∀ k, G' k = none ∨ G' k = G k) → ∀ k, (h.un (F.un Heap.nil)) k = none ∨ (h.un (F.un Heap.nil)) k = (h.un (F.un G')) k := by
    intro G' hG k
    simp only [Heap.un, Heap.nil]
    cases hk : h k <;> cases fk : F k <;> simp
  rcases hov with ⟨rfl, rfl⟩ | ⟨b, cap, c, rfl, hb⟩
  · refine fin_frz (c' := .seq 1 []) (H' := h.un F) ((Frz.nils 1).trans ?_) hQ
    have := Frz.forget (.seq 1 []) (hsub G fun k => .inr rfl)
    rwa [un_nil] at this
  · have hFb : F b = none := dj_some (dj_comm hF) hb
    have e1 : (F.un G) b = some (.row 1 (ints zs) c) := by rw [un_right hFb]; exact hb
    have hhb : h b = none := dj_some (dj_comm hd) e1
    have e2 : (h.un (F.un G)) b = some (.row 1 (ints zs) c) := by rw [un_right hhb]; exact e1
    have f1 := Frz.own (n := zs.length) (cap := c) e2 (by simp [ints])
    have hl : (ints zs).take zs.length = ints zs := List.take_of_length_le (by simp [ints])
    rw [hl] at f1
    refine fin_frz (c' := .seq 1 (ints zs)) (H' := h.un F) (f1.trans ?_) hQ
    rw [un_del_right hhb, un_del_right hFb]
    have := Frz.forget (.seq 1 (ints zs)) (hsub (G.del b) (del_sub G b))
    rwa [un_nil] at this
theorem runs_any {H : Heap} {c m : Nat} {now : Int} {tm : Tms} {hv : V} (h1 : H c = some (.row 4 [[.val (.int .i64 now), .val (.bool true), .val (.map (some m)), hv]] 1)) (h2 : H m = some (.map (ents tm))) (a n : Int) :
    Tr Try.prog 25 [.agg [.val (.int .i64 a), .val (.int .i64 n)], .iptr [.ptr c 4 0 0]] H fun v H' => v = .val (.bool (tget tm n == some a)) ∧ H' = H := by
  have eg := ents_get n tm
  refine Tr_of follows Try.func25 rfl (by kernel_rfl) [] (by kernel_rfl) (of_decide_eq_true (by kernel_rfl)) ?_
  rcases hg : tget tm n with _ | a0
  ·
    iterate 8 (all_goals first
      | (simp only [st_skip, st_seq, st_cond, st_block, st_exit, st_ret, st_region, st_draw, st_then, st_then_exit, st_then_ret, st_in, st_in_exit, st_in_ret, st_cond_t, st_cond_f, st_retA, st_endA, st_nil, st_op, st_off, st_q, st_e, st_contK, st_contQ, st_T_nil, st_T_op, st_T_e, st_T_q, st_T_eoff, st_T_qoff, st_contE, st_contT, st_put, st_put_none, st_unguarded, st_set, st_del, optK_some, optK_none, optK_ite, optK_bind, optK_map, env0_at, envAt, ev, ofVal, ofVal1, isE, readsH, st_notAhead, onB, bindsG, List.filter_cons, st_store, st_alloc, st_allocK, st_allocB, st_box, st_buildSlice, st_bsK, st_rowB, st_makeMap, st_mapB, st_makeSlice, qmakeS, st_msK, st_mapUpdate, qmapU, st_delete, qdelete, st_append, qapp, st_app_own, st_app_nil, st_app_none, st_appB, st_call, st_callV, set_set, qop, obls, Obl.ok, wanted, gdst, isTrue, ldAt, ldV, qint, qstr, qcmp, qbin, qun, qconv, qfield, qpart, qindexAddr, qindex, bnd, qslice, setAt, noTup, bld, plc, qbuild, bldRows, qbuildSlice, lenV, qbuiltin, qlen, qmax, qmin, mapOf, okV, qlookup, qstore, delO, baseV, addV, resV, oneV, V.cells, List.map_cons, List.map_nil, List.getElem?_cons_zero, List.getElem?_cons_succ, List.getElem?_toArray, List.drop_succ_cons, List.drop_zero, List.drop_nil, List.take_succ_cons, List.take_zero, List.take_nil, List.length_cons, List.length_nil, List.set_cons_succ, List.set_cons_zero, List.append_nil, List.nil_append, List.cons_append, List.replicate_succ, List.replicate_zero, List.contains_cons, List.contains_nil, List.filter_nil, List.any_cons, List.any_nil, List.any_toArray, List.elem_cons, List.elem_nil, List.size_toArray, List.all_cons, List.all_nil, Option.map_some, Option.map_none, Option.bind_some, Option.bind_none, Option.getD_some, Option.getD_none, Option.isSome_some, Option.isSome_none, Option.isNone_some, Option.isNone_none, Nat.reduceAdd, Nat.reduceMul, Nat.reduceSub, Nat.reduceEqDiff, Nat.reduceLT, Nat.reduceLeDiff, Nat.reduceBEq, Nat.zero_add, Nat.add_zero, Nat.zero_mul, Nat.mul_one, Nat.one_mul, Nat.le_refl, Int.toNat_zero, Int.toNat_one, Int.natCast_nonneg, Int.toNat_natCast, Int.reduceLE, Int.reduceLT, Int.reduceEq, Int.reduceToNat, beq_true, beq_false, decide_true, decide_false, eq_self, if_true, if_false, true_and, and_true, false_and, and_false, true_implies, false_implies, implies_true, not_true_eq_false, not_false_eq_true, Bool.false_eq_true, Bool.true_eq_false, ↓reduceIte, reduceCtorEq, beq_self_eq_true, Bool.not_true, Bool.not_false, Bool.or_false, Bool.or_true, Bool.false_or, Bool.true_or, Bool.and_true, Bool.true_and, Bool.and_false, Bool.false_and, ne_eq, ite_self, forall_const, ty3_ag, ty3_sz, ty23_ag, ty23_sz, ty49_ag, ty49_mp, ty49_sz, ty52_of2, ty57_of0, ty57_of1, Go.Proofs.Try.results25, *])
      | (refine guardL_splitN (fun h => ?_) (fun h => ?_))
      | (refine guardL_split (fun h => ?_) (fun h => ?_))
      | (refine condA_splitN (fun h => ?_) (fun h => ?_))
      | (refine condA_split (fun h => ?_) (fun h => ?_))
      | (refine guardT_splitN (fun h => ?_) (fun h => ?_))
      | (refine guardT_split (fun h => ?_) (fun h => ?_))
      | (with_reducible refine awpDi_by 1 [0, 1, 2, 3, 4, 5, 6, 7, 8, 9, 10, 11] ?_ ?_; · kernel_rfl)
      | skip)
    all_goals exact fin_id ⟨by simp, rfl⟩
  ·
    iterate 8 (all_goals first
      | (simp only [st_skip, st_seq, st_cond, st_block, st_exit, st_ret, st_region, st_draw, st_then, st_then_exit, st_then_ret, st_in, st_in_exit, st_in_ret, st_cond_t, st_cond_f, st_retA, st_endA, st_nil, st_op, st_off, st_q, st_e, st_contK, st_contQ, st_T_nil, st_T_op, st_T_e, st_T_q, st_T_eoff, st_T_qoff, st_contE, st_contT, st_put, st_put_none, st_unguarded, st_set, st_del, optK_some, optK_none, optK_ite, optK_bind, optK_map, env0_at, envAt, ev, ofVal, ofVal1, isE, readsH, st_notAhead, onB, bindsG, List.filter_cons, st_store, st_alloc, st_allocK, st_allocB, st_box, st_buildSlice, st_bsK, st_rowB, st_makeMap, st_mapB, st_makeSlice, qmakeS, st_msK, st_mapUpdate, qmapU, st_delete, qdelete, st_append, qapp, st_app_own, st_app_nil, st_app_none, st_appB, st_call, st_callV, set_set, qop, obls, Obl.ok, wanted, gdst, isTrue, ldAt, ldV, qint, qstr, qcmp, qbin, qun, qconv, qfield, qpart, qindexAddr, qindex, bnd, qslice, setAt, noTup, bld, plc, qbuild, bldRows, qbuildSlice, lenV, qbuiltin, qlen, qmax, qmin, mapOf, okV, qlookup, qstore, delO, baseV, addV, resV, oneV, V.cells, List.map_cons, List.map_nil, List.getElem?_cons_zero, List.getElem?_cons_succ, List.getElem?_toArray, List.drop_succ_cons, List.drop_zero, List.drop_nil, List.take_succ_cons, List.take_zero, List.take_nil, List.length_cons, List.length_nil, List.set_cons_succ, List.set_cons_zero, List.append_nil, List.nil_append, List.cons_append, List.replicate_succ, List.replicate_zero, List.contains_cons, List.contains_nil, List.filter_nil, List.any_cons, List.any_nil, List.any_toArray, List.elem_cons, List.elem_nil, List.size_toArray, List.all_cons, List.all_nil, Option.map_some, Option.map_none, Option.bind_some, Option.bind_none, Option.getD_some, Option.getD_none, Option.isSome_some, Option.isSome_none, Option.isNone_some, Option.isNone_none, Nat.reduceAdd, Nat.reduceMul, Nat.reduceSub, Nat.reduceEqDiff, Nat.reduceLT, Nat.reduceLeDiff, Nat.reduceBEq, Nat.zero_add, Nat.add_zero, Nat.zero_mul, Nat.mul_one, Nat.one_mul, Nat.le_refl, Int.toNat_zero, Int.toNat_one, Int.natCast_nonneg, Int.toNat_natCast, Int.reduceLE, Int.reduceLT, Int.reduceEq, Int.reduceToNat, beq_true, beq_false, decide_true, decide_false, eq_self, if_true, if_false, true_and, and_true, false_and, and_false, true_implies, false_implies, implies_true, not_true_eq_false, not_false_eq_true, Bool.false_eq_true, Bool.true_eq_false, ↓reduceIte, reduceCtorEq, beq_self_eq_true, Bool.not_true, Bool.not_false, Bool.or_false, Bool.or_true, Bool.false_or, Bool.true_or, Bool.and_true, Bool.true_and, Bool.and_false, Bool.false_and, ne_eq, ite_self, forall_const, ty3_ag, ty3_sz, ty23_ag, ty23_sz, ty49_ag, ty49_mp, ty49_sz, ty52_of2, ty57_of0, ty57_of1, Go.Proofs.Try.results25, *])
      | (refine guardL_splitN (fun h => ?_) (fun h => ?_))
      | (refine guardL_split (fun h => ?_) (fun h => ?_))
      | (refine condA_splitN (fun h => ?_) (fun h => ?_))
      | (refine condA_split (fun h => ?_) (fun h => ?_))
      | (refine guardT_splitN (fun h => ?_) (fun h => ?_))
      | (refine guardT_split (fun h => ?_) (fun h => ?_))
      | (with_reducible refine awpDi_by 1 [0, 1, 2, 3, 4, 5, 6, 7, 8, 9, 10, 11] ?_ ?_; · kernel_rfl)
      | skip)
    all_goals exact fin_id ⟨by simp_all, rfl⟩
end Go.Proofs.Ytpppgmoiginedaa.Q
