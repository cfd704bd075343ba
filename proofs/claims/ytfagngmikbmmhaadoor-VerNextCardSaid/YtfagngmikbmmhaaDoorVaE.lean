/- IndexFunc, ContainsFunc, Or, Compare at strings, marks, CompareFunc. -/
import Derived.Test.YtfagngmikbmmhaaDoorVaD
namespace Go.Proofs.YtfagngmikbmmhaaDoor.A
open Go Go.RowKit
set_option maxRecDepth 100000
set_option linter.unusedSimpArgs false
set_option linter.unusedVariables false

theorem strs_getD {l : List (List UInt8)} {k : Nat} (h : k < l.length) : (strs l).getD k [] = [.str (l.getD k [])] := by
  simp [strs, List.getD_eq_getElem?_getD, List.getElem?_map, List.getElem?_eq_getElem h]
theorem indexFunc_ok (f : FuncId) (p : List UInt8 → Bool) (l : List (List UInt8)) (t : Tag) (σ : List AE) (hl : l.length ≤ 9223372036854775806) (hf : ∀ x ∈ l, Gives Tryd.prog f [.str x] σ (.bool (p x))) :
    Gives Tryd.prog 50 [.sl t (strs l), .fn f []] σ (.int .i64 (match l.findIdx? p with | some i => (i : Int) | none => -1)) := by
  refine ACalls_body Tryd.func50 rfl rfl ?_
  simp only [Tryd.ntmps50, Tryd.results50, List.length_cons, List.length_nil, Nat.reduceAdd, Nat.reduceSub, List.replicate_succ, List.replicate_zero, List.cons_append, List.nil_append, List.toList_toArray]
  repeat first
    | (with_reducible first
        | refine AWP_seq ?_ | refine then_n ?_ | refine then_r ?_ | refine then_x ?_ | refine AWP_block ?_ | refine blk_n ?_ | refine blk_r ?_ | refine blk_x ?_ | refine blk_y rfl ?_ | refine AWP_skip ?_
        | refine AWP_ret ?_ | refine AWP_exit ?_ | refine AWP_true rfl ?_ | refine AWP_false rfl ?_ | refine AOps_nil ?_ | refine LexA_nil ?_ | refine AWP_region ?_ | refine AWP_draw mixed_ok (by kernel_rfl) ?_)
    | ((first
        | refine AOps_pre rfl (by simp only [postL, isCallV, SL]; exact rfl) fun K2 hK2 => ?_
        | refine LexA_pre rfl rfl (by simp only [postL, isCallV, SL]; exact rfl) fun K2 hK2 => ?_)
       simp (disch := omega) only [SL, evalOps, evalOp, evalG, isPure, gdB, ung, pickG, gv, pt, cv, retV, biV, lenV, boT, bo, intBo, strBo, boolBo, isSh, uo, pickV, nilV, extV, ixOf, mkfV, mmV, mm, preL, postL, isCallV, boxS, cellsV, allocS, storeS, loadV, readT, ptrCells, ofs, fieldAddrV, fieldV, wr, buildV, fillA, buildSliceV, chunks, tagCut, indexV, indexAddrV, sliceV, sliceStr, sliceSl, bnd, if_true, if_false, ite_true, ite_false, and_self, and_true, true_and, beq_self_eq_true, nn, nc0, nc1, nc2, nc3, nc4, nc8, nc10, nc32, Int.toNat_natCast, eq_self, decide_true, decide_false, reduceIte, Nat.reduceAdd, Nat.reduceMul, Nat.reduceSub, Nat.reduceLeDiff, Nat.reduceLT, Nat.reduceEqDiff, Nat.reduceMod, Int.reduceBEq, Int.reduceBNe, Int.reduceNeg, Int.reduceNegSucc, Int.reduceLT, Int.reduceLE, Int.reduceToNat, F9, F23, F33, strs_len, if_pos]
       refine ⟨_, _, rfl, ?_⟩
       refine hK2 _ _ ?_
       clear hK2 K2)
  refine AWP_loop (α := { k : Nat // k ≤ l.length ∧ ∀ x ∈ l.take k, p x = false }) (fun k => [.sl t (strs l), .fn f [], .junk, .junk, .int .i64 0, .junk, .junk, .int .i64 l.length, .int .i64 (k.1 : Int), .junk, .junk, .junk, .junk, .junk, .junk, .junk, .junk, .junk, .junk]) (fun _ => σ) (fun k => l.length - k.1) ⟨0, by omega, by simp⟩ (.same ?_) (fun _ => Nat.le_refl _) ?_
  · (repeat' (first | exact trivial | refine And.intro ?_ ?_)
     all_goals first | with_reducible exact Vle.junk _ | with_reducible exact Vle.refl _ | exact Vle.refl _ | exact Vle.ro _ _)
  · rintro ⟨k, hk, hd⟩
    repeat first
      | (with_reducible first
          | refine AWP_seq ?_ | refine then_n ?_ | refine then_r ?_ | refine then_x ?_ | refine AWP_block ?_ | refine blk_n ?_ | refine blk_r ?_ | refine blk_x ?_ | refine blk_y rfl ?_ | refine AWP_skip ?_
          | refine AWP_ret ?_ | refine AWP_exit ?_ | refine AWP_true rfl ?_ | refine AWP_false rfl ?_ | refine AOps_nil ?_ | refine LexA_nil ?_ | refine AWP_region ?_ | refine AWP_draw mixed_ok (by kernel_rfl) ?_)
      | ((first
          | refine AOps_pre rfl (by simp only [postL, isCallV, SL]; exact rfl) fun K2 hK2 => ?_
          | refine LexA_pre rfl rfl (by simp only [postL, isCallV, SL]; exact rfl) fun K2 hK2 => ?_)
         simp (disch := omega) only [SL, evalOps, evalOp, evalG, isPure, gdB, ung, pickG, gv, pt, cv, retV, biV, lenV, boT, bo, intBo, strBo, boolBo, isSh, uo, pickV, nilV, extV, ixOf, mkfV, mmV, mm, preL, postL, isCallV, boxS, cellsV, allocS, storeS, loadV, readT, ptrCells, ofs, fieldAddrV, fieldV, wr, buildV, fillA, buildSliceV, chunks, tagCut, indexV, indexAddrV, sliceV, sliceStr, sliceSl, bnd, if_true, if_false, ite_true, ite_false, and_self, and_true, true_and, beq_self_eq_true, nn, nc0, nc1, nc2, nc3, nc4, nc8, nc10, nc32, Int.toNat_natCast, eq_self, decide_true, decide_false, reduceIte, Nat.reduceAdd, Nat.reduceMul, Nat.reduceSub, Nat.reduceLeDiff, Nat.reduceLT, Nat.reduceEqDiff, Nat.reduceMod, Int.reduceBEq, Int.reduceBNe, Int.reduceNeg, Int.reduceNegSucc, Int.reduceLT, Int.reduceLE, Int.reduceToNat, F9, F23, F33, if_pos]
         refine ⟨_, _, rfl, ?_⟩
         refine hK2 _ _ ?_
         clear hK2 K2)
    refine AWP_cond rfl (fun h => ?_) (fun h => ?_)
    · have hlt : k < l.length := by simpa using h
      have hmem : l.getD k [] ∈ l := by rw [List.getD_eq_getElem?_getD, List.getElem?_eq_getElem hlt]; exact List.getElem_mem _
      repeat first
        | (with_reducible first
            | refine AWP_seq ?_ | refine then_n ?_ | refine then_r ?_ | refine then_x ?_ | refine AWP_block ?_ | refine blk_n ?_ | refine blk_r ?_ | refine blk_x ?_ | refine blk_y rfl ?_ | refine AWP_skip ?_
            | refine AWP_ret ?_ | refine AWP_exit ?_ | refine AWP_true rfl ?_ | refine AWP_false rfl ?_ | refine AOps_nil ?_ | refine LexA_nil ?_ | refine AWP_region ?_ | refine AWP_draw mixed_ok (by kernel_rfl) ?_)
        | ((first
            | refine AOps_pre rfl (by simp only [postL, isCallV, SL]; exact rfl) fun K2 hK2 => ?_
            | refine LexA_pre rfl rfl (by simp only [postL, isCallV, SL]; exact rfl) fun K2 hK2 => ?_)
           simp (disch := omega) only [SL, evalOps, evalOp, evalG, isPure, gdB, ung, pickG, gv, pt, cv, retV, biV, lenV, boT, bo, intBo, strBo, boolBo, isSh, uo, pickV, nilV, extV, ixOf, mkfV, mmV, mm, preL, postL, isCallV, boxS, cellsV, allocS, storeS, loadV, readT, ptrCells, ofs, fieldAddrV, fieldV, wr, buildV, fillA, buildSliceV, chunks, tagCut, indexV, indexAddrV, sliceV, sliceStr, sliceSl, bnd, if_true, if_false, ite_true, ite_false, and_self, and_true, true_and, beq_self_eq_true, nn, nc0, nc1, nc2, nc3, nc4, nc8, nc10, nc32, Int.toNat_natCast, eq_self, decide_true, decide_false, reduceIte, Nat.reduceAdd, Nat.reduceMul, Nat.reduceSub, Nat.reduceLeDiff, Nat.reduceLT, Nat.reduceEqDiff, Nat.reduceMod, Int.reduceBEq, Int.reduceBNe, Int.reduceNeg, Int.reduceNegSucc, Int.reduceLT, Int.reduceLE, Int.reduceToNat, F9, F23, F33, hlt, strs_len, strs_flat, strs_getD hlt, if_pos]
           refine ⟨_, _, rfl, ?_⟩
           refine hK2 _ _ ?_
           clear hK2 K2)
      first
        | refine AOps_callU (hf _ hmem) rfl rfl rfl rfl (by first | rfl | (simp only [gv, ung, cv, SL]; done) | (simp only [gv, ung, cv, SL]; exact rfl)) ?_
        | refine AOps_callG rfl (fun hg => hf _ hmem) rfl rfl rfl (by first | rfl | (simp only [gv, ung, cv, SL]; done) | (simp only [gv, ung, cv, SL]; exact rfl)) ?_
        | refine LexA_callU (hf _ hmem) rfl rfl rfl rfl (by first | rfl | (simp only [gv, ung, cv, SL]; done) | (simp only [gv, ung, cv, SL]; exact rfl)) ?_
        | refine LexA_callG rfl (fun hg => hf _ hmem) rfl rfl rfl (by first | rfl | (simp only [gv, ung, cv, SL]; done) | (simp only [gv, ung, cv, SL]; exact rfl)) ?_
      simp only [pt, SL]
      repeat first
        | (with_reducible first
            | refine AWP_seq ?_ | refine then_n ?_ | refine then_r ?_ | refine then_x ?_ | refine AWP_block ?_ | refine blk_n ?_ | refine blk_r ?_ | refine blk_x ?_ | refine blk_y rfl ?_ | refine AWP_skip ?_
            | refine AWP_ret ?_ | refine AWP_exit ?_ | refine AWP_true rfl ?_ | refine AWP_false rfl ?_ | refine AOps_nil ?_ | refine LexA_nil ?_ | refine AWP_region ?_ | refine AWP_draw mixed_ok (by kernel_rfl) ?_)
        | ((first
            | refine AOps_pre rfl (by simp only [postL, isCallV, SL]; exact rfl) fun K2 hK2 => ?_
            | refine LexA_pre rfl rfl (by simp only [postL, isCallV, SL]; exact rfl) fun K2 hK2 => ?_)
           simp (disch := omega) only [SL, evalOps, evalOp, evalG, isPure, gdB, ung, pickG, gv, pt, cv, retV, biV, lenV, boT, bo, intBo, strBo, boolBo, isSh, uo, pickV, nilV, extV, ixOf, mkfV, mmV, mm, preL, postL, isCallV, boxS, cellsV, allocS, storeS, loadV, readT, ptrCells, ofs, fieldAddrV, fieldV, wr, buildV, fillA, buildSliceV, chunks, tagCut, indexV, indexAddrV, sliceV, sliceStr, sliceSl, bnd, if_true, if_false, ite_true, ite_false, and_self, and_true, true_and, beq_self_eq_true, nn, nc0, nc1, nc2, nc3, nc4, nc8, nc10, nc32, Int.toNat_natCast, eq_self, decide_true, decide_false, reduceIte, Nat.reduceAdd, Nat.reduceMul, Nat.reduceSub, Nat.reduceLeDiff, Nat.reduceLT, Nat.reduceEqDiff, Nat.reduceMod, Int.reduceBEq, Int.reduceBNe, Int.reduceNeg, Int.reduceNegSucc, Int.reduceLT, Int.reduceLE, Int.reduceToNat, F9, F23, F33, if_pos]
           refine ⟨_, _, rfl, ?_⟩
           refine hK2 _ _ ?_
           clear hK2 K2)
      refine AWP_cond rfl (fun h => ?_) (fun h => ?_)
      · repeat first
          | (with_reducible first
              | refine AWP_seq ?_ | refine then_n ?_ | refine then_r ?_ | refine then_x ?_ | refine AWP_block ?_ | refine blk_n ?_ | refine blk_r ?_ | refine blk_x ?_ | refine blk_y rfl ?_ | refine AWP_skip ?_
              | refine AWP_ret ?_ | refine AWP_exit ?_ | refine AWP_true rfl ?_ | refine AWP_false rfl ?_ | refine AOps_nil ?_ | refine LexA_nil ?_ | refine AWP_region ?_ | refine AWP_draw mixed_ok (by kernel_rfl) ?_)
          | ((first
              | refine AOps_pre rfl (by simp only [postL, isCallV, SL]; exact rfl) fun K2 hK2 => ?_
              | refine LexA_pre rfl rfl (by simp only [postL, isCallV, SL]; exact rfl) fun K2 hK2 => ?_)
             simp (disch := omega) only [SL, evalOps, evalOp, evalG, isPure, gdB, ung, pickG, gv, pt, cv, retV, biV, lenV, boT, bo, intBo, strBo, boolBo, isSh, uo, pickV, nilV, extV, ixOf, mkfV, mmV, mm, preL, postL, isCallV, boxS, cellsV, allocS, storeS, loadV, readT, ptrCells, ofs, fieldAddrV, fieldV, wr, buildV, fillA, buildSliceV, chunks, tagCut, indexV, indexAddrV, sliceV, sliceStr, sliceSl, bnd, if_true, if_false, ite_true, ite_false, and_self, and_true, true_and, beq_self_eq_true, nn, nc0, nc1, nc2, nc3, nc4, nc8, nc10, nc32, Int.toNat_natCast, eq_self, decide_true, decide_false, reduceIte, Nat.reduceAdd, Nat.reduceMul, Nat.reduceSub, Nat.reduceLeDiff, Nat.reduceLT, Nat.reduceEqDiff, Nat.reduceMod, Int.reduceBEq, Int.reduceBNe, Int.reduceNeg, Int.reduceNegSucc, Int.reduceLT, Int.reduceLE, Int.reduceToNat, F9, F23, F33, if_pos]
             refine ⟨_, _, rfl, ?_⟩
             refine hK2 _ _ ?_
             clear hK2 K2)
        refine body_r (by simp only [resA, ptrCells, readT, if_true, SL, Nat.reduceAdd, Nat.reduceLeDiff, F9, F23, F33]; exact rfl) ?_
        dsimp only [outV]
        refine ⟨?_, rfl⟩
        have : l.findIdx? p = some k := by
          rw [List.findIdx?_eq_some_iff_getElem]
          refine ⟨hlt, by simpa [List.getD_eq_getElem?_getD, List.getElem?_eq_getElem hlt] using h, fun j hj => ?_⟩
          have := hd (l[j]'(by omega)) (List.mem_take_iff_getElem.2 ⟨j, by omega, rfl⟩)
          simp [this]
        rw [this]
      · repeat first
          | (with_reducible first
              | refine AWP_seq ?_ | refine then_n ?_ | refine then_r ?_ | refine then_x ?_ | refine AWP_block ?_ | refine blk_n ?_ | refine blk_r ?_ | refine blk_x ?_ | refine blk_y rfl ?_ | refine AWP_skip ?_
              | refine AWP_ret ?_ | refine AWP_exit ?_ | refine AWP_true rfl ?_ | refine AWP_false rfl ?_ | refine AOps_nil ?_ | refine LexA_nil ?_ | refine AWP_region ?_ | refine AWP_draw mixed_ok (by kernel_rfl) ?_)
          | ((first
              | refine AOps_pre rfl (by simp only [postL, isCallV, SL]; exact rfl) fun K2 hK2 => ?_
              | refine LexA_pre rfl rfl (by simp only [postL, isCallV, SL]; exact rfl) fun K2 hK2 => ?_)
             simp (disch := omega) only [SL, evalOps, evalOp, evalG, isPure, gdB, ung, pickG, gv, pt, cv, retV, biV, lenV, boT, bo, intBo, strBo, boolBo, isSh, uo, pickV, nilV, extV, ixOf, mkfV, mmV, mm, preL, postL, isCallV, boxS, cellsV, allocS, storeS, loadV, readT, ptrCells, ofs, fieldAddrV, fieldV, wr, buildV, fillA, buildSliceV, chunks, tagCut, indexV, indexAddrV, sliceV, sliceStr, sliceSl, bnd, if_true, if_false, ite_true, ite_false, and_self, and_true, true_and, beq_self_eq_true, nn, nc0, nc1, nc2, nc3, nc4, nc8, nc10, nc32, Int.toNat_natCast, eq_self, decide_true, decide_false, reduceIte, Nat.reduceAdd, Nat.reduceMul, Nat.reduceSub, Nat.reduceLeDiff, Nat.reduceLT, Nat.reduceEqDiff, Nat.reduceMod, Int.reduceBEq, Int.reduceBNe, Int.reduceNeg, Int.reduceNegSucc, Int.reduceLT, Int.reduceLE, Int.reduceToNat, F9, F23, F33, if_pos]
             refine ⟨_, _, rfl, ?_⟩
             refine hK2 _ _ ?_
             clear hK2 K2)
        refine ⟨⟨k + 1, by omega, fun x hx => ?_⟩, by simp; omega, ?_⟩
        · rw [List.take_succ_eq_append_getElem hlt] at hx
          rcases List.mem_append.1 hx with hx | hx
          · exact hd x hx
          · rw [List.mem_singleton.1 hx]
            simpa [List.getD_eq_getElem?_getD, List.getElem?_eq_getElem hlt] using h
        · rw [wrap_in (by omega) (by omega)]
          exact .same (by (repeat' (first | exact trivial | refine And.intro ?_ ?_)
                           all_goals first | with_reducible exact Vle.junk _ | with_reducible exact Vle.refl _ | exact Vle.refl _ | exact Vle.ro _ _))
    · have hk' : k = l.length := by have : ¬ k < l.length := by simpa using h
                                    omega
      subst hk'
      repeat first
        | (with_reducible first
            | refine AWP_seq ?_ | refine then_n ?_ | refine then_r ?_ | refine then_x ?_ | refine AWP_block ?_ | refine blk_n ?_ | refine blk_r ?_ | refine blk_x ?_ | refine blk_y rfl ?_ | refine AWP_skip ?_
            | refine AWP_ret ?_ | refine AWP_exit ?_ | refine AWP_true rfl ?_ | refine AWP_false rfl ?_ | refine AOps_nil ?_ | refine LexA_nil ?_ | refine AWP_region ?_ | refine AWP_draw mixed_ok (by kernel_rfl) ?_)
        | ((first
            | refine AOps_pre rfl (by simp only [postL, isCallV, SL]; exact rfl) fun K2 hK2 => ?_
            | refine LexA_pre rfl rfl (by simp only [postL, isCallV, SL]; exact rfl) fun K2 hK2 => ?_)
           simp (disch := omega) only [SL, evalOps, evalOp, evalG, isPure, gdB, ung, pickG, gv, pt, cv, retV, biV, lenV, boT, bo, intBo, strBo, boolBo, isSh, uo, pickV, nilV, extV, ixOf, mkfV, mmV, mm, preL, postL, isCallV, boxS, cellsV, allocS, storeS, loadV, readT, ptrCells, ofs, fieldAddrV, fieldV, wr, buildV, fillA, buildSliceV, chunks, tagCut, indexV, indexAddrV, sliceV, sliceStr, sliceSl, bnd, if_true, if_false, ite_true, ite_false, and_self, and_true, true_and, beq_self_eq_true, nn, nc0, nc1, nc2, nc3, nc4, nc8, nc10, nc32, Int.toNat_natCast, eq_self, decide_true, decide_false, reduceIte, Nat.reduceAdd, Nat.reduceMul, Nat.reduceSub, Nat.reduceLeDiff, Nat.reduceLT, Nat.reduceEqDiff, Nat.reduceMod, Int.reduceBEq, Int.reduceBNe, Int.reduceNeg, Int.reduceNegSucc, Int.reduceLT, Int.reduceLE, Int.reduceToNat, F9, F23, F33, if_pos]
           refine ⟨_, _, rfl, ?_⟩
           refine hK2 _ _ ?_
           clear hK2 K2)
      refine body_r (by simp only [resA, ptrCells, readT, if_true, SL, Nat.reduceAdd, Nat.reduceLeDiff, F9, F23, F33]; exact rfl) ?_
      dsimp only [outV]
      refine ⟨?_, rfl⟩
      have : l.findIdx? p = none := by
        rw [List.findIdx?_eq_none_iff]
        rw [List.take_length] at hd
        simpa using hd
      rw [this]
theorem containsFunc_ok (f : FuncId) (p : List UInt8 → Bool) (l : List (List UInt8)) (t : Tag) (σ : List AE) (hl : l.length ≤ 9223372036854775806) (hf : ∀ x ∈ l, Gives Tryd.prog f [.str x] σ (.bool (p x))) :
    Gives Tryd.prog 27 [.sl t (strs l), .fn f []] σ (.bool (l.any p)) := by
  refine ACalls_body Tryd.func27 rfl rfl ?_
  simp only [Tryd.ntmps27, Tryd.results27, List.length_cons, List.length_nil, Nat.reduceAdd, Nat.reduceSub, List.replicate_succ, List.replicate_zero, List.cons_append, List.nil_append, List.toList_toArray]
  repeat first
    | (with_reducible first
        | refine AWP_seq ?_ | refine then_n ?_ | refine then_r ?_ | refine then_x ?_ | refine AWP_block ?_ | refine blk_n ?_ | refine blk_r ?_ | refine blk_x ?_ | refine blk_y rfl ?_ | refine AWP_skip ?_
        | refine AWP_ret ?_ | refine AWP_exit ?_ | refine AWP_true rfl ?_ | refine AWP_false rfl ?_ | refine AOps_nil ?_ | refine LexA_nil ?_ | refine AWP_region ?_ | refine AWP_draw mixed_ok (by kernel_rfl) ?_)
    | ((first
        | refine AOps_pre rfl (by simp only [postL, isCallV, SL]; exact rfl) fun K2 hK2 => ?_
        | refine LexA_pre rfl rfl (by simp only [postL, isCallV, SL]; exact rfl) fun K2 hK2 => ?_)
       simp (disch := omega) only [SL, evalOps, evalOp, evalG, isPure, gdB, ung, pickG, gv, pt, cv, retV, biV, lenV, boT, bo, intBo, strBo, boolBo, isSh, uo, pickV, nilV, extV, ixOf, mkfV, mmV, mm, preL, postL, isCallV, boxS, cellsV, allocS, storeS, loadV, readT, ptrCells, ofs, fieldAddrV, fieldV, wr, buildV, fillA, buildSliceV, chunks, tagCut, indexV, indexAddrV, sliceV, sliceStr, sliceSl, bnd, if_true, if_false, ite_true, ite_false, and_self, and_true, true_and, beq_self_eq_true, nn, nc0, nc1, nc2, nc3, nc4, nc8, nc10, nc32, Int.toNat_natCast, eq_self, decide_true, decide_false, reduceIte, Nat.reduceAdd, Nat.reduceMul, Nat.reduceSub, Nat.reduceLeDiff, Nat.reduceLT, Nat.reduceEqDiff, Nat.reduceMod, Int.reduceBEq, Int.reduceBNe, Int.reduceNeg, Int.reduceNegSucc, Int.reduceLT, Int.reduceLE, Int.reduceToNat, F9, F23, F33, if_pos]
       refine ⟨_, _, rfl, ?_⟩
       refine hK2 _ _ ?_
       clear hK2 K2)
  first
    | refine AOps_callU (indexFunc_ok f p l t σ hl hf) rfl rfl rfl rfl (by first | rfl | (simp only [gv, ung, cv, SL]; done) | (simp only [gv, ung, cv, SL]; exact rfl)) ?_
    | refine AOps_callG rfl (fun hg => indexFunc_ok f p l t σ hl hf) rfl rfl rfl (by first | rfl | (simp only [gv, ung, cv, SL]; done) | (simp only [gv, ung, cv, SL]; exact rfl)) ?_
    | refine LexA_callU (indexFunc_ok f p l t σ hl hf) rfl rfl rfl rfl (by first | rfl | (simp only [gv, ung, cv, SL]; done) | (simp only [gv, ung, cv, SL]; exact rfl)) ?_
    | refine LexA_callG rfl (fun hg => indexFunc_ok f p l t σ hl hf) rfl rfl rfl (by first | rfl | (simp only [gv, ung, cv, SL]; done) | (simp only [gv, ung, cv, SL]; exact rfl)) ?_
  simp only [pt, SL]
  repeat first
    | (with_reducible first
        | refine AWP_seq ?_ | refine then_n ?_ | refine then_r ?_ | refine then_x ?_ | refine AWP_block ?_ | refine blk_n ?_ | refine blk_r ?_ | refine blk_x ?_ | refine blk_y rfl ?_ | refine AWP_skip ?_
        | refine AWP_ret ?_ | refine AWP_exit ?_ | refine AWP_true rfl ?_ | refine AWP_false rfl ?_ | refine AOps_nil ?_ | refine LexA_nil ?_ | refine AWP_region ?_ | refine AWP_draw mixed_ok (by kernel_rfl) ?_)
    | ((first
        | refine AOps_pre rfl (by simp only [postL, isCallV, SL]; exact rfl) fun K2 hK2 => ?_
        | refine LexA_pre rfl rfl (by simp only [postL, isCallV, SL]; exact rfl) fun K2 hK2 => ?_)
       simp (disch := omega) only [SL, evalOps, evalOp, evalG, isPure, gdB, ung, pickG, gv, pt, cv, retV, biV, lenV, boT, bo, intBo, strBo, boolBo, isSh, uo, pickV, nilV, extV, ixOf, mkfV, mmV, mm, preL, postL, isCallV, boxS, cellsV, allocS, storeS, loadV, readT, ptrCells, ofs, fieldAddrV, fieldV, wr, buildV, fillA, buildSliceV, chunks, tagCut, indexV, indexAddrV, sliceV, sliceStr, sliceSl, bnd, if_true, if_false, ite_true, ite_false, and_self, and_true, true_and, beq_self_eq_true, nn, nc0, nc1, nc2, nc3, nc4, nc8, nc10, nc32, Int.toNat_natCast, eq_self, decide_true, decide_false, reduceIte, Nat.reduceAdd, Nat.reduceMul, Nat.reduceSub, Nat.reduceLeDiff, Nat.reduceLT, Nat.reduceEqDiff, Nat.reduceMod, Int.reduceBEq, Int.reduceBNe, Int.reduceNeg, Int.reduceNegSucc, Int.reduceLT, Int.reduceLE, Int.reduceToNat, F9, F23, F33, if_pos]
       refine ⟨_, _, rfl, ?_⟩
       refine hK2 _ _ ?_
       clear hK2 K2)
  refine body_r (by simp only [resA, ptrCells, readT, if_true, SL, Nat.reduceAdd, Nat.reduceLeDiff, F9, F23, F33]; exact rfl) ?_
  dsimp only [outV]
  refine ⟨?_, rfl⟩
  congr 2
  cases h : l.findIdx? p with
  | none =>
    rw [List.findIdx?_eq_none_iff] at h
    have : l.any p = false := by simpa using h
    simp [this]
  | some i =>
    rw [List.findIdx?_eq_some_iff_getElem] at h
    obtain ⟨hi, h1, _⟩ := h
    have : l.any p = true := List.any_eq_true.2 ⟨_, List.getElem_mem hi, h1⟩
    simp [this]
def ints (l : List Int) : List (List V) := l.map fun n => [.int .i64 n]
theorem ints_len (l : List Int) : (ints l).length = l.length := by simp [ints]
theorem ints_flat (l : List Int) : flat 1 (ints l) = true := by simp [ints, flat]
theorem ints_getD {l : List Int} {k : Nat} (h : k < l.length) : (ints l).getD k [] = [.int .i64 (l.getD k 0)] := by
  simp [ints, List.getD_eq_getElem?_getD, List.getElem?_map, List.getElem?_eq_getElem h]
/-- The first that is not 0. -/
def orI : List Int → Int
  | [] => 0
  | n :: l => if n ≠ 0 then n else orI l
theorem orI_drop {l : List Int} {k : Nat} (h : k < l.length) : orI (l.drop k) = if l.getD k 0 ≠ 0 then l.getD k 0 else orI (l.drop (k + 1)) := by
  rw [List.drop_eq_getElem_cons h]
  simp [orI, List.getD_eq_getElem?_getD, List.getElem?_eq_getElem h]
theorem or_ok (l : List Int) (t : Tag) (σ : List AE) (hl : l.length ≤ 9223372036854775806) : Gives Tryd.prog 36 [.sl t (ints l)] σ (.int .i64 (orI l)) := by
  refine ACalls_body Tryd.func36 rfl rfl ?_
  simp only [Tryd.ntmps36, Tryd.results36, List.length_cons, List.length_nil, Nat.reduceAdd, Nat.reduceSub, List.replicate_succ, List.replicate_zero, List.cons_append, List.nil_append, List.toList_toArray]
  repeat first
    | (with_reducible first
        | refine AWP_seq ?_ | refine then_n ?_ | refine then_r ?_ | refine then_x ?_ | refine AWP_block ?_ | refine blk_n ?_ | refine blk_r ?_ | refine blk_x ?_ | refine blk_y rfl ?_ | refine AWP_skip ?_
        | refine AWP_ret ?_ | refine AWP_exit ?_ | refine AWP_true rfl ?_ | refine AWP_false rfl ?_ | refine AOps_nil ?_ | refine LexA_nil ?_ | refine AWP_region ?_ | refine AWP_draw mixed_ok (by kernel_rfl) ?_)
    | ((first
        | refine AOps_pre rfl (by simp only [postL, isCallV, SL]; exact rfl) fun K2 hK2 => ?_
        | refine LexA_pre rfl rfl (by simp only [postL, isCallV, SL]; exact rfl) fun K2 hK2 => ?_)
       simp (disch := omega) only [SL, evalOps, evalOp, evalG, isPure, gdB, ung, pickG, gv, pt, cv, retV, biV, lenV, boT, bo, intBo, strBo, boolBo, isSh, uo, pickV, nilV, extV, ixOf, mkfV, mmV, mm, preL, postL, isCallV, boxS, cellsV, allocS, storeS, loadV, readT, ptrCells, ofs, fieldAddrV, fieldV, wr, buildV, fillA, buildSliceV, chunks, tagCut, indexV, indexAddrV, sliceV, sliceStr, sliceSl, bnd, if_true, if_false, ite_true, ite_false, and_self, and_true, true_and, beq_self_eq_true, nn, nc0, nc1, nc2, nc3, nc4, nc8, nc10, nc32, Int.toNat_natCast, eq_self, decide_true, decide_false, reduceIte, Nat.reduceAdd, Nat.reduceMul, Nat.reduceSub, Nat.reduceLeDiff, Nat.reduceLT, Nat.reduceEqDiff, Nat.reduceMod, Int.reduceBEq, Int.reduceBNe, Int.reduceNeg, Int.reduceNegSucc, Int.reduceLT, Int.reduceLE, Int.reduceToNat, F3, F40, ints_len, if_pos]
       refine ⟨_, _, rfl, ?_⟩
       refine hK2 _ _ ?_
       clear hK2 K2)
  refine AWP_loop (α := { k : Nat // k ≤ l.length ∧ orI l = orI (l.drop k) }) (fun k => [.junk, .junk, .junk, .int .i64 0, .junk, .junk, .sl t (ints l), .int .i64 l.length, .int .i64 (k.1 : Int), .junk, .junk, .junk, .junk, .junk, .junk, .junk, .junk, .junk]) (fun _ => σ) (fun k => l.length - k.1) ⟨0, by omega, by simp⟩ (.same ?_) (fun _ => Nat.le_refl _) ?_
  · (repeat' (first | exact trivial | refine And.intro ?_ ?_)
     all_goals first | with_reducible exact Vle.junk _ | with_reducible exact Vle.refl _ | exact Vle.refl _ | exact Vle.ro _ _)
  · rintro ⟨k, hk, hd⟩
    repeat first
      | (with_reducible first
          | refine AWP_seq ?_ | refine then_n ?_ | refine then_r ?_ | refine then_x ?_ | refine AWP_block ?_ | refine blk_n ?_ | refine blk_r ?_ | refine blk_x ?_ | refine blk_y rfl ?_ | refine AWP_skip ?_
          | refine AWP_ret ?_ | refine AWP_exit ?_ | refine AWP_true rfl ?_ | refine AWP_false rfl ?_ | refine AOps_nil ?_ | refine LexA_nil ?_ | refine AWP_region ?_ | refine AWP_draw mixed_ok (by kernel_rfl) ?_)
      | ((first
          | refine AOps_pre rfl (by simp only [postL, isCallV, SL]; exact rfl) fun K2 hK2 => ?_
          | refine LexA_pre rfl rfl (by simp only [postL, isCallV, SL]; exact rfl) fun K2 hK2 => ?_)
         simp (disch := omega) only [SL, evalOps, evalOp, evalG, isPure, gdB, ung, pickG, gv, pt, cv, retV, biV, lenV, boT, bo, intBo, strBo, boolBo, isSh, uo, pickV, nilV, extV, ixOf, mkfV, mmV, mm, preL, postL, isCallV, boxS, cellsV, allocS, storeS, loadV, readT, ptrCells, ofs, fieldAddrV, fieldV, wr, buildV, fillA, buildSliceV, chunks, tagCut, indexV, indexAddrV, sliceV, sliceStr, sliceSl, bnd, if_true, if_false, ite_true, ite_false, and_self, and_true, true_and, beq_self_eq_true, nn, nc0, nc1, nc2, nc3, nc4, nc8, nc10, nc32, Int.toNat_natCast, eq_self, decide_true, decide_false, reduceIte, Nat.reduceAdd, Nat.reduceMul, Nat.reduceSub, Nat.reduceLeDiff, Nat.reduceLT, Nat.reduceEqDiff, Nat.reduceMod, Int.reduceBEq, Int.reduceBNe, Int.reduceNeg, Int.reduceNegSucc, Int.reduceLT, Int.reduceLE, Int.reduceToNat, F3, F40, if_pos]
         refine ⟨_, _, rfl, ?_⟩
         refine hK2 _ _ ?_
         clear hK2 K2)
    refine AWP_cond rfl (fun h => ?_) (fun h => ?_)
    · have hlt : k < l.length := by simpa using h
      rw [orI_drop hlt] at hd
      repeat first
        | (with_reducible first
            | refine AWP_seq ?_ | refine then_n ?_ | refine then_r ?_ | refine then_x ?_ | refine AWP_block ?_ | refine blk_n ?_ | refine blk_r ?_ | refine blk_x ?_ | refine blk_y rfl ?_ | refine AWP_skip ?_
            | refine AWP_ret ?_ | refine AWP_exit ?_ | refine AWP_true rfl ?_ | refine AWP_false rfl ?_ | refine AOps_nil ?_ | refine LexA_nil ?_ | refine AWP_region ?_ | refine AWP_draw mixed_ok (by kernel_rfl) ?_)
        | ((first
            | refine AOps_pre rfl (by simp only [postL, isCallV, SL]; exact rfl) fun K2 hK2 => ?_
            | refine LexA_pre rfl rfl (by simp only [postL, isCallV, SL]; exact rfl) fun K2 hK2 => ?_)
           simp (disch := omega) only [SL, evalOps, evalOp, evalG, isPure, gdB, ung, pickG, gv, pt, cv, retV, biV, lenV, boT, bo, intBo, strBo, boolBo, isSh, uo, pickV, nilV, extV, ixOf, mkfV, mmV, mm, preL, postL, isCallV, boxS, cellsV, allocS, storeS, loadV, readT, ptrCells, ofs, fieldAddrV, fieldV, wr, buildV, fillA, buildSliceV, chunks, tagCut, indexV, indexAddrV, sliceV, sliceStr, sliceSl, bnd, if_true, if_false, ite_true, ite_false, and_self, and_true, true_and, beq_self_eq_true, nn, nc0, nc1, nc2, nc3, nc4, nc8, nc10, nc32, Int.toNat_natCast, eq_self, decide_true, decide_false, reduceIte, Nat.reduceAdd, Nat.reduceMul, Nat.reduceSub, Nat.reduceLeDiff, Nat.reduceLT, Nat.reduceEqDiff, Nat.reduceMod, Int.reduceBEq, Int.reduceBNe, Int.reduceNeg, Int.reduceNegSucc, Int.reduceLT, Int.reduceLE, Int.reduceToNat, F3, F40, hlt, ints_len, ints_flat, ints_getD hlt, if_pos]
           refine ⟨_, _, rfl, ?_⟩
           refine hK2 _ _ ?_
           clear hK2 K2)
      refine AWP_cond rfl (fun h => ?_) (fun h => ?_)
      · repeat first
          | (with_reducible first
              | refine AWP_seq ?_ | refine then_n ?_ | refine then_r ?_ | refine then_x ?_ | refine AWP_block ?_ | refine blk_n ?_ | refine blk_r ?_ | refine blk_x ?_ | refine blk_y rfl ?_ | refine AWP_skip ?_
              | refine AWP_ret ?_ | refine AWP_exit ?_ | refine AWP_true rfl ?_ | refine AWP_false rfl ?_ | refine AOps_nil ?_ | refine LexA_nil ?_ | refine AWP_region ?_ | refine AWP_draw mixed_ok (by kernel_rfl) ?_)
          | ((first
              | refine AOps_pre rfl (by simp only [postL, isCallV, SL]; exact rfl) fun K2 hK2 => ?_
              | refine LexA_pre rfl rfl (by simp only [postL, isCallV, SL]; exact rfl) fun K2 hK2 => ?_)
             simp (disch := omega) only [SL, evalOps, evalOp, evalG, isPure, gdB, ung, pickG, gv, pt, cv, retV, biV, lenV, boT, bo, intBo, strBo, boolBo, isSh, uo, pickV, nilV, extV, ixOf, mkfV, mmV, mm, preL, postL, isCallV, boxS, cellsV, allocS, storeS, loadV, readT, ptrCells, ofs, fieldAddrV, fieldV, wr, buildV, fillA, buildSliceV, chunks, tagCut, indexV, indexAddrV, sliceV, sliceStr, sliceSl, bnd, if_true, if_false, ite_true, ite_false, and_self, and_true, true_and, beq_self_eq_true, nn, nc0, nc1, nc2, nc3, nc4, nc8, nc10, nc32, Int.toNat_natCast, eq_self, decide_true, decide_false, reduceIte, Nat.reduceAdd, Nat.reduceMul, Nat.reduceSub, Nat.reduceLeDiff, Nat.reduceLT, Nat.reduceEqDiff, Nat.reduceMod, Int.reduceBEq, Int.reduceBNe, Int.reduceNeg, Int.reduceNegSucc, Int.reduceLT, Int.reduceLE, Int.reduceToNat, F3, F40, if_pos]
             refine ⟨_, _, rfl, ?_⟩
             refine hK2 _ _ ?_
             clear hK2 K2)
        refine body_r (by simp only [resA, ptrCells, readT, if_true, SL, Nat.reduceAdd, Nat.reduceLeDiff, F3, F40]; exact rfl) ?_
        dsimp only [outV]
        refine ⟨?_, rfl⟩
        rw [hd, if_pos (by simpa using h)]
      · repeat first
          | (with_reducible first
              | refine AWP_seq ?_ | refine then_n ?_ | refine then_r ?_ | refine then_x ?_ | refine AWP_block ?_ | refine blk_n ?_ | refine blk_r ?_ | refine blk_x ?_ | refine blk_y rfl ?_ | refine AWP_skip ?_
              | refine AWP_ret ?_ | refine AWP_exit ?_ | refine AWP_true rfl ?_ | refine AWP_false rfl ?_ | refine AOps_nil ?_ | refine LexA_nil ?_ | refine AWP_region ?_ | refine AWP_draw mixed_ok (by kernel_rfl) ?_)
          | ((first
              | refine AOps_pre rfl (by simp only [postL, isCallV, SL]; exact rfl) fun K2 hK2 => ?_
              | refine LexA_pre rfl rfl (by simp only [postL, isCallV, SL]; exact rfl) fun K2 hK2 => ?_)
             simp (disch := omega) only [SL, evalOps, evalOp, evalG, isPure, gdB, ung, pickG, gv, pt, cv, retV, biV, lenV, boT, bo, intBo, strBo, boolBo, isSh, uo, pickV, nilV, extV, ixOf, mkfV, mmV, mm, preL, postL, isCallV, boxS, cellsV, allocS, storeS, loadV, readT, ptrCells, ofs, fieldAddrV, fieldV, wr, buildV, fillA, buildSliceV, chunks, tagCut, indexV, indexAddrV, sliceV, sliceStr, sliceSl, bnd, if_true, if_false, ite_true, ite_false, and_self, and_true, true_and, beq_self_eq_true, nn, nc0, nc1, nc2, nc3, nc4, nc8, nc10, nc32, Int.toNat_natCast, eq_self, decide_true, decide_false, reduceIte, Nat.reduceAdd, Nat.reduceMul, Nat.reduceSub, Nat.reduceLeDiff, Nat.reduceLT, Nat.reduceEqDiff, Nat.reduceMod, Int.reduceBEq, Int.reduceBNe, Int.reduceNeg, Int.reduceNegSucc, Int.reduceLT, Int.reduceLE, Int.reduceToNat, F3, F40, if_pos]
             refine ⟨_, _, rfl, ?_⟩
             refine hK2 _ _ ?_
             clear hK2 K2)
        rw [if_neg (by simpa using h)] at hd
        refine ⟨⟨k + 1, by omega, hd⟩, by simp; omega, ?_⟩
        rw [wrap_in (by omega) (by omega)]
        exact .same (by (repeat' (first | exact trivial | refine And.intro ?_ ?_)
                         all_goals first | with_reducible exact Vle.junk _ | with_reducible exact Vle.refl _ | exact Vle.refl _ | exact Vle.ro _ _))
    · have hk' : k = l.length := by have : ¬ k < l.length := by simpa using h
                                    omega
      subst hk'
      repeat first
        | (with_reducible first
            | refine AWP_seq ?_ | refine then_n ?_ | refine then_r ?_ | refine then_x ?_ | refine AWP_block ?_ | refine blk_n ?_ | refine blk_r ?_ | refine blk_x ?_ | refine blk_y rfl ?_ | refine AWP_skip ?_
            | refine AWP_ret ?_ | refine AWP_exit ?_ | refine AWP_true rfl ?_ | refine AWP_false rfl ?_ | refine AOps_nil ?_ | refine LexA_nil ?_ | refine AWP_region ?_ | refine AWP_draw mixed_ok (by kernel_rfl) ?_)
        | ((first
            | refine AOps_pre rfl (by simp only [postL, isCallV, SL]; exact rfl) fun K2 hK2 => ?_
            | refine LexA_pre rfl rfl (by simp only [postL, isCallV, SL]; exact rfl) fun K2 hK2 => ?_)
           simp (disch := omega) only [SL, evalOps, evalOp, evalG, isPure, gdB, ung, pickG, gv, pt, cv, retV, biV, lenV, boT, bo, intBo, strBo, boolBo, isSh, uo, pickV, nilV, extV, ixOf, mkfV, mmV, mm, preL, postL, isCallV, boxS, cellsV, allocS, storeS, loadV, readT, ptrCells, ofs, fieldAddrV, fieldV, wr, buildV, fillA, buildSliceV, chunks, tagCut, indexV, indexAddrV, sliceV, sliceStr, sliceSl, bnd, if_true, if_false, ite_true, ite_false, and_self, and_true, true_and, beq_self_eq_true, nn, nc0, nc1, nc2, nc3, nc4, nc8, nc10, nc32, Int.toNat_natCast, eq_self, decide_true, decide_false, reduceIte, Nat.reduceAdd, Nat.reduceMul, Nat.reduceSub, Nat.reduceLeDiff, Nat.reduceLT, Nat.reduceEqDiff, Nat.reduceMod, Int.reduceBEq, Int.reduceBNe, Int.reduceNeg, Int.reduceNegSucc, Int.reduceLT, Int.reduceLE, Int.reduceToNat, F3, F40, if_pos]
           refine ⟨_, _, rfl, ?_⟩
           refine hK2 _ _ ?_
           clear hK2 K2)
      refine body_r (by simp only [resA, ptrCells, readT, if_true, SL, Nat.reduceAdd, Nat.reduceLeDiff, F3, F40]; exact rfl) ?_
      dsimp only [outV]
      refine ⟨?_, rfl⟩
      rw [hd]
      simp [orI]
theorem nanS_ok (a : List UInt8) (σ : List AE) : Gives Tryd.prog 67 [.str a] σ (.bool false) := by
  refine ACalls_body Tryd.func67 rfl rfl ?_
  simp only [Tryd.ntmps67, Tryd.results67, List.length_cons, List.length_nil, Nat.reduceAdd, Nat.reduceSub, List.replicate_succ, List.replicate_zero, List.cons_append, List.nil_append, List.toList_toArray]
  repeat first
    | (with_reducible first
        | refine AWP_seq ?_ | refine then_n ?_ | refine then_r ?_ | refine then_x ?_ | refine AWP_block ?_ | refine blk_n ?_ | refine blk_r ?_ | refine blk_x ?_ | refine blk_y rfl ?_ | refine AWP_skip ?_
        | refine AWP_ret ?_ | refine AWP_exit ?_ | refine AWP_true rfl ?_ | refine AWP_false rfl ?_ | refine AOps_nil ?_ | refine LexA_nil ?_ | refine AWP_region ?_ | refine AWP_draw mixed_ok (by kernel_rfl) ?_)
    | ((first
        | refine AOps_pre rfl (by simp only [postL, isCallV, SL]; exact rfl) fun K2 hK2 => ?_
        | refine LexA_pre rfl rfl (by simp only [postL, isCallV, SL]; exact rfl) fun K2 hK2 => ?_)
       simp (disch := omega) only [SL, evalOps, evalOp, evalG, isPure, gdB, ung, pickG, gv, pt, cv, retV, biV, lenV, boT, bo, intBo, strBo, boolBo, isSh, uo, pickV, nilV, extV, ixOf, mkfV, mmV, mm, preL, postL, isCallV, boxS, cellsV, allocS, storeS, loadV, readT, ptrCells, ofs, fieldAddrV, fieldV, wr, buildV, fillA, buildSliceV, chunks, tagCut, indexV, indexAddrV, sliceV, sliceStr, sliceSl, bnd, if_true, if_false, ite_true, ite_false, and_self, and_true, true_and, beq_self_eq_true, nn, nc0, nc1, nc2, nc3, nc4, nc8, nc10, nc32, Int.toNat_natCast, eq_self, decide_true, decide_false, reduceIte, Nat.reduceAdd, Nat.reduceMul, Nat.reduceSub, Nat.reduceLeDiff, Nat.reduceLT, Nat.reduceEqDiff, Nat.reduceMod, Int.reduceBEq, Int.reduceBNe, Int.reduceNeg, Int.reduceNegSucc, Int.reduceLT, Int.reduceLE, Int.reduceToNat, F9, if_pos]
       refine ⟨_, _, rfl, ?_⟩
       refine hK2 _ _ ?_
       clear hK2 K2)
  refine body_r (by simp only [resA, ptrCells, readT, if_true, SL, Nat.reduceAdd, Nat.reduceLeDiff, F9]; exact rfl) ?_
  dsimp only [outV]
  simp
theorem compareS_ok (a b : List UInt8) (σ : List AE) : Gives Tryd.prog 57 [.str a, .str b] σ (.int .i64 (cmpB a b)) := by
  refine ACalls_body Tryd.func57 rfl rfl ?_
  simp only [Tryd.ntmps57, Tryd.results57, List.length_cons, List.length_nil, Nat.reduceAdd, Nat.reduceSub, List.replicate_succ, List.replicate_zero, List.cons_append, List.nil_append, List.toList_toArray]
  repeat first
    | (with_reducible first
        | refine AWP_seq ?_ | refine then_n ?_ | refine then_r ?_ | refine then_x ?_ | refine AWP_block ?_ | refine blk_n ?_ | refine blk_r ?_ | refine blk_x ?_ | refine blk_y rfl ?_ | refine AWP_skip ?_
        | refine AWP_ret ?_ | refine AWP_exit ?_ | refine AWP_true rfl ?_ | refine AWP_false rfl ?_ | refine AOps_nil ?_ | refine LexA_nil ?_ | refine AWP_region ?_ | refine AWP_draw mixed_ok (by kernel_rfl) ?_)
    | ((first
        | refine AOps_pre rfl (by simp only [postL, isCallV, SL]; exact rfl) fun K2 hK2 => ?_
        | refine LexA_pre rfl rfl (by simp only [postL, isCallV, SL]; exact rfl) fun K2 hK2 => ?_)
       simp (disch := omega) only [SL, evalOps, evalOp, evalG, isPure, gdB, ung, pickG, gv, pt, cv, retV, biV, lenV, boT, bo, intBo, strBo, boolBo, isSh, uo, pickV, nilV, extV, ixOf, mkfV, mmV, mm, preL, postL, isCallV, boxS, cellsV, allocS, storeS, loadV, readT, ptrCells, ofs, fieldAddrV, fieldV, wr, buildV, fillA, buildSliceV, chunks, tagCut, indexV, indexAddrV, sliceV, sliceStr, sliceSl, bnd, if_true, if_false, ite_true, ite_false, and_self, and_true, true_and, beq_self_eq_true, nn, nc0, nc1, nc2, nc3, nc4, nc8, nc10, nc32, Int.toNat_natCast, eq_self, decide_true, decide_false, reduceIte, Nat.reduceAdd, Nat.reduceMul, Nat.reduceSub, Nat.reduceLeDiff, Nat.reduceLT, Nat.reduceEqDiff, Nat.reduceMod, Int.reduceBEq, Int.reduceBNe, Int.reduceNeg, Int.reduceNegSucc, Int.reduceLT, Int.reduceLE, Int.reduceToNat, F9, if_pos]
       refine ⟨_, _, rfl, ?_⟩
       refine hK2 _ _ ?_
       clear hK2 K2)
  first
    | refine AOps_callU (nanS_ok a σ) rfl rfl rfl rfl (by first | rfl | (simp only [gv, ung, cv, SL]; done) | (simp only [gv, ung, cv, SL]; exact rfl)) ?_
    | refine AOps_callG rfl (fun hg => nanS_ok a σ) rfl rfl rfl (by first | rfl | (simp only [gv, ung, cv, SL]; done) | (simp only [gv, ung, cv, SL]; exact rfl)) ?_
    | refine LexA_callU (nanS_ok a σ) rfl rfl rfl rfl (by first | rfl | (simp only [gv, ung, cv, SL]; done) | (simp only [gv, ung, cv, SL]; exact rfl)) ?_
    | refine LexA_callG rfl (fun hg => nanS_ok a σ) rfl rfl rfl (by first | rfl | (simp only [gv, ung, cv, SL]; done) | (simp only [gv, ung, cv, SL]; exact rfl)) ?_
  simp only [pt, SL]
  repeat first
    | (with_reducible first
        | refine AWP_seq ?_ | refine then_n ?_ | refine then_r ?_ | refine then_x ?_ | refine AWP_block ?_ | refine blk_n ?_ | refine blk_r ?_ | refine blk_x ?_ | refine blk_y rfl ?_ | refine AWP_skip ?_
        | refine AWP_ret ?_ | refine AWP_exit ?_ | refine AWP_true rfl ?_ | refine AWP_false rfl ?_ | refine AOps_nil ?_ | refine LexA_nil ?_ | refine AWP_region ?_ | refine AWP_draw mixed_ok (by kernel_rfl) ?_)
    | ((first
        | refine AOps_pre rfl (by simp only [postL, isCallV, SL]; exact rfl) fun K2 hK2 => ?_
        | refine LexA_pre rfl rfl (by simp only [postL, isCallV, SL]; exact rfl) fun K2 hK2 => ?_)
       simp (disch := omega) only [SL, evalOps, evalOp, evalG, isPure, gdB, ung, pickG, gv, pt, cv, retV, biV, lenV, boT, bo, intBo, strBo, boolBo, isSh, uo, pickV, nilV, extV, ixOf, mkfV, mmV, mm, preL, postL, isCallV, boxS, cellsV, allocS, storeS, loadV, readT, ptrCells, ofs, fieldAddrV, fieldV, wr, buildV, fillA, buildSliceV, chunks, tagCut, indexV, indexAddrV, sliceV, sliceStr, sliceSl, bnd, if_true, if_false, ite_true, ite_false, and_self, and_true, true_and, beq_self_eq_true, nn, nc0, nc1, nc2, nc3, nc4, nc8, nc10, nc32, Int.toNat_natCast, eq_self, decide_true, decide_false, reduceIte, Nat.reduceAdd, Nat.reduceMul, Nat.reduceSub, Nat.reduceLeDiff, Nat.reduceLT, Nat.reduceEqDiff, Nat.reduceMod, Int.reduceBEq, Int.reduceBNe, Int.reduceNeg, Int.reduceNegSucc, Int.reduceLT, Int.reduceLE, Int.reduceToNat, F9, if_pos]
       refine ⟨_, _, rfl, ?_⟩
       refine hK2 _ _ ?_
       clear hK2 K2)
  first
    | refine AOps_callU (nanS_ok b σ) rfl rfl rfl rfl (by first | rfl | (simp only [gv, ung, cv, SL]; done) | (simp only [gv, ung, cv, SL]; exact rfl)) ?_
    | refine AOps_callG rfl (fun hg => nanS_ok b σ) rfl rfl rfl (by first | rfl | (simp only [gv, ung, cv, SL]; done) | (simp only [gv, ung, cv, SL]; exact rfl)) ?_
    | refine LexA_callU (nanS_ok b σ) rfl rfl rfl rfl (by first | rfl | (simp only [gv, ung, cv, SL]; done) | (simp only [gv, ung, cv, SL]; exact rfl)) ?_
    | refine LexA_callG rfl (fun hg => nanS_ok b σ) rfl rfl rfl (by first | rfl | (simp only [gv, ung, cv, SL]; done) | (simp only [gv, ung, cv, SL]; exact rfl)) ?_
  simp only [pt, SL]
  repeat first
    | (with_reducible first
        | refine AWP_seq ?_ | refine then_n ?_ | refine then_r ?_ | refine then_x ?_ | refine AWP_block ?_ | refine blk_n ?_ | refine blk_r ?_ | refine blk_x ?_ | refine blk_y rfl ?_ | refine AWP_skip ?_
        | refine AWP_ret ?_ | refine AWP_exit ?_ | refine AWP_true rfl ?_ | refine AWP_false rfl ?_ | refine AOps_nil ?_ | refine LexA_nil ?_ | refine AWP_region ?_ | refine AWP_draw mixed_ok (by kernel_rfl) ?_)
    | ((first
        | refine AOps_pre rfl (by simp only [postL, isCallV, SL]; exact rfl) fun K2 hK2 => ?_
        | refine LexA_pre rfl rfl (by simp only [postL, isCallV, SL]; exact rfl) fun K2 hK2 => ?_)
       simp (disch := omega) only [SL, evalOps, evalOp, evalG, isPure, gdB, ung, pickG, gv, pt, cv, retV, biV, lenV, boT, bo, intBo, strBo, boolBo, isSh, uo, pickV, nilV, extV, ixOf, mkfV, mmV, mm, preL, postL, isCallV, boxS, cellsV, allocS, storeS, loadV, readT, ptrCells, ofs, fieldAddrV, fieldV, wr, buildV, fillA, buildSliceV, chunks, tagCut, indexV, indexAddrV, sliceV, sliceStr, sliceSl, bnd, if_true, if_false, ite_true, ite_false, and_self, and_true, true_and, beq_self_eq_true, nn, nc0, nc1, nc2, nc3, nc4, nc8, nc10, nc32, Int.toNat_natCast, eq_self, decide_true, decide_false, reduceIte, Nat.reduceAdd, Nat.reduceMul, Nat.reduceSub, Nat.reduceLeDiff, Nat.reduceLT, Nat.reduceEqDiff, Nat.reduceMod, Int.reduceBEq, Int.reduceBNe, Int.reduceNeg, Int.reduceNegSucc, Int.reduceLT, Int.reduceLE, Int.reduceToNat, F9, if_pos]
       refine ⟨_, _, rfl, ?_⟩
       refine hK2 _ _ ?_
       clear hK2 K2)
  refine AWP_cond rfl (fun h => ?_) (fun h => ?_)
  · repeat first
      | (with_reducible first
          | refine AWP_seq ?_ | refine then_n ?_ | refine then_r ?_ | refine then_x ?_ | refine AWP_block ?_ | refine blk_n ?_ | refine blk_r ?_ | refine blk_x ?_ | refine blk_y rfl ?_ | refine AWP_skip ?_
          | refine AWP_ret ?_ | refine AWP_exit ?_ | refine AWP_true rfl ?_ | refine AWP_false rfl ?_ | refine AOps_nil ?_ | refine LexA_nil ?_ | refine AWP_region ?_ | refine AWP_draw mixed_ok (by kernel_rfl) ?_)
      | ((first
          | refine AOps_pre rfl (by simp only [postL, isCallV, SL]; exact rfl) fun K2 hK2 => ?_
          | refine LexA_pre rfl rfl (by simp only [postL, isCallV, SL]; exact rfl) fun K2 hK2 => ?_)
         simp (disch := omega) only [SL, evalOps, evalOp, evalG, isPure, gdB, ung, pickG, gv, pt, cv, retV, biV, lenV, boT, bo, intBo, strBo, boolBo, isSh, uo, pickV, nilV, extV, ixOf, mkfV, mmV, mm, preL, postL, isCallV, boxS, cellsV, allocS, storeS, loadV, readT, ptrCells, ofs, fieldAddrV, fieldV, wr, buildV, fillA, buildSliceV, chunks, tagCut, indexV, indexAddrV, sliceV, sliceStr, sliceSl, bnd, if_true, if_false, ite_true, ite_false, and_self, and_true, true_and, beq_self_eq_true, nn, nc0, nc1, nc2, nc3, nc4, nc8, nc10, nc32, Int.toNat_natCast, eq_self, decide_true, decide_false, reduceIte, Nat.reduceAdd, Nat.reduceMul, Nat.reduceSub, Nat.reduceLeDiff, Nat.reduceLT, Nat.reduceEqDiff, Nat.reduceMod, Int.reduceBEq, Int.reduceBNe, Int.reduceNeg, Int.reduceNegSucc, Int.reduceLT, Int.reduceLE, Int.reduceToNat, F9, if_pos]
         refine ⟨_, _, rfl, ?_⟩
         refine hK2 _ _ ?_
         clear hK2 K2)
    refine body_r (by simp only [resA, ptrCells, readT, if_true, SL, Nat.reduceAdd, Nat.reduceLeDiff, F9]; exact rfl) ?_
    dsimp only [outV]
    refine ⟨?_, rfl⟩
    simp [cmpB, ltB, h]
  · have h1 := h
    repeat first
      | (with_reducible first
          | refine AWP_seq ?_ | refine then_n ?_ | refine then_r ?_ | refine then_x ?_ | refine AWP_block ?_ | refine blk_n ?_ | refine blk_r ?_ | refine blk_x ?_ | refine blk_y rfl ?_ | refine AWP_skip ?_
          | refine AWP_ret ?_ | refine AWP_exit ?_ | refine AWP_true rfl ?_ | refine AWP_false rfl ?_ | refine AOps_nil ?_ | refine LexA_nil ?_ | refine AWP_region ?_ | refine AWP_draw mixed_ok (by kernel_rfl) ?_)
      | ((first
          | refine AOps_pre rfl (by simp only [postL, isCallV, SL]; exact rfl) fun K2 hK2 => ?_
          | refine LexA_pre rfl rfl (by simp only [postL, isCallV, SL]; exact rfl) fun K2 hK2 => ?_)
         simp (disch := omega) only [SL, evalOps, evalOp, evalG, isPure, gdB, ung, pickG, gv, pt, cv, retV, biV, lenV, boT, bo, intBo, strBo, boolBo, isSh, uo, pickV, nilV, extV, ixOf, mkfV, mmV, mm, preL, postL, isCallV, boxS, cellsV, allocS, storeS, loadV, readT, ptrCells, ofs, fieldAddrV, fieldV, wr, buildV, fillA, buildSliceV, chunks, tagCut, indexV, indexAddrV, sliceV, sliceStr, sliceSl, bnd, if_true, if_false, ite_true, ite_false, and_self, and_true, true_and, beq_self_eq_true, nn, nc0, nc1, nc2, nc3, nc4, nc8, nc10, nc32, Int.toNat_natCast, eq_self, decide_true, decide_false, reduceIte, Nat.reduceAdd, Nat.reduceMul, Nat.reduceSub, Nat.reduceLeDiff, Nat.reduceLT, Nat.reduceEqDiff, Nat.reduceMod, Int.reduceBEq, Int.reduceBNe, Int.reduceNeg, Int.reduceNegSucc, Int.reduceLT, Int.reduceLE, Int.reduceToNat, F9, if_pos]
         refine ⟨_, _, rfl, ?_⟩
         refine hK2 _ _ ?_
         clear hK2 K2)
    refine AWP_cond rfl (fun h => ?_) (fun h => ?_)
    · repeat first
        | (with_reducible first
            | refine AWP_seq ?_ | refine then_n ?_ | refine then_r ?_ | refine then_x ?_ | refine AWP_block ?_ | refine blk_n ?_ | refine blk_r ?_ | refine blk_x ?_ | refine blk_y rfl ?_ | refine AWP_skip ?_
            | refine AWP_ret ?_ | refine AWP_exit ?_ | refine AWP_true rfl ?_ | refine AWP_false rfl ?_ | refine AOps_nil ?_ | refine LexA_nil ?_ | refine AWP_region ?_ | refine AWP_draw mixed_ok (by kernel_rfl) ?_)
        | ((first
            | refine AOps_pre rfl (by simp only [postL, isCallV, SL]; exact rfl) fun K2 hK2 => ?_
            | refine LexA_pre rfl rfl (by simp only [postL, isCallV, SL]; exact rfl) fun K2 hK2 => ?_)
           simp (disch := omega) only [SL, evalOps, evalOp, evalG, isPure, gdB, ung, pickG, gv, pt, cv, retV, biV, lenV, boT, bo, intBo, strBo, boolBo, isSh, uo, pickV, nilV, extV, ixOf, mkfV, mmV, mm, preL, postL, isCallV, boxS, cellsV, allocS, storeS, loadV, readT, ptrCells, ofs, fieldAddrV, fieldV, wr, buildV, fillA, buildSliceV, chunks, tagCut, indexV, indexAddrV, sliceV, sliceStr, sliceSl, bnd, if_true, if_false, ite_true, ite_false, and_self, and_true, true_and, beq_self_eq_true, nn, nc0, nc1, nc2, nc3, nc4, nc8, nc10, nc32, Int.toNat_natCast, eq_self, decide_true, decide_false, reduceIte, Nat.reduceAdd, Nat.reduceMul, Nat.reduceSub, Nat.reduceLeDiff, Nat.reduceLT, Nat.reduceEqDiff, Nat.reduceMod, Int.reduceBEq, Int.reduceBNe, Int.reduceNeg, Int.reduceNegSucc, Int.reduceLT, Int.reduceLE, Int.reduceToNat, F9, if_pos]
           refine ⟨_, _, rfl, ?_⟩
           refine hK2 _ _ ?_
           clear hK2 K2)
      refine body_r (by simp only [resA, ptrCells, readT, if_true, SL, Nat.reduceAdd, Nat.reduceLeDiff, F9]; exact rfl) ?_
      dsimp only [outV]
      refine ⟨?_, rfl⟩
      simp_all [cmpB, ltB]
    · repeat first
        | (with_reducible first
            | refine AWP_seq ?_ | refine then_n ?_ | refine then_r ?_ | refine then_x ?_ | refine AWP_block ?_ | refine blk_n ?_ | refine blk_r ?_ | refine blk_x ?_ | refine blk_y rfl ?_ | refine AWP_skip ?_
            | refine AWP_ret ?_ | refine AWP_exit ?_ | refine AWP_true rfl ?_ | refine AWP_false rfl ?_ | refine AOps_nil ?_ | refine LexA_nil ?_ | refine AWP_region ?_ | refine AWP_draw mixed_ok (by kernel_rfl) ?_)
        | ((first
            | refine AOps_pre rfl (by simp only [postL, isCallV, SL]; exact rfl) fun K2 hK2 => ?_
            | refine LexA_pre rfl rfl (by simp only [postL, isCallV, SL]; exact rfl) fun K2 hK2 => ?_)
           simp (disch := omega) only [SL, evalOps, evalOp, evalG, isPure, gdB, ung, pickG, gv, pt, cv, retV, biV, lenV, boT, bo, intBo, strBo, boolBo, isSh, uo, pickV, nilV, extV, ixOf, mkfV, mmV, mm, preL, postL, isCallV, boxS, cellsV, allocS, storeS, loadV, readT, ptrCells, ofs, fieldAddrV, fieldV, wr, buildV, fillA, buildSliceV, chunks, tagCut, indexV, indexAddrV, sliceV, sliceStr, sliceSl, bnd, if_true, if_false, ite_true, ite_false, and_self, and_true, true_and, beq_self_eq_true, nn, nc0, nc1, nc2, nc3, nc4, nc8, nc10, nc32, Int.toNat_natCast, eq_self, decide_true, decide_false, reduceIte, Nat.reduceAdd, Nat.reduceMul, Nat.reduceSub, Nat.reduceLeDiff, Nat.reduceLT, Nat.reduceEqDiff, Nat.reduceMod, Int.reduceBEq, Int.reduceBNe, Int.reduceNeg, Int.reduceNegSucc, Int.reduceLT, Int.reduceLE, Int.reduceToNat, F9, if_pos]
           refine ⟨_, _, rfl, ?_⟩
           refine hK2 _ _ ?_
           clear hK2 K2)
      refine body_r (by simp only [resA, ptrCells, readT, if_true, SL, Nat.reduceAdd, Nat.reduceLeDiff, F9]; exact rfl) ?_
      dsimp only [outV]
      refine ⟨?_, rfl⟩
      simp_all [cmpB, ltB]
def marksV (a b : List UInt8) : Int := if digits a && digits b then orI [Lib.compareInt a.length b.length, cmpB a b] else if digits a then -1 else if digits b then 1 else cmpB a b
theorem marks_ok (a b : List UInt8) (σ : List AE) (ha : a.length ≤ 9223372036854775806) (hb : b.length ≤ 9223372036854775806) : Gives Tryd.prog 39 [.str a, .str b] σ (.int .i64 (marksV a b)) := by
  refine ACalls_body Tryd.func39 rfl rfl ?_
  simp only [Tryd.ntmps39, Tryd.results39, List.length_cons, List.length_nil, Nat.reduceAdd, Nat.reduceSub, List.replicate_succ, List.replicate_zero, List.cons_append, List.nil_append, List.toList_toArray]
  repeat first
    | (with_reducible first
        | refine AWP_seq ?_ | refine then_n ?_ | refine then_r ?_ | refine then_x ?_ | refine AWP_block ?_ | refine blk_n ?_ | refine blk_r ?_ | refine blk_x ?_ | refine blk_y rfl ?_ | refine AWP_skip ?_
        | refine AWP_ret ?_ | refine AWP_exit ?_ | refine AWP_true rfl ?_ | refine AWP_false rfl ?_ | refine AOps_nil ?_ | refine LexA_nil ?_ | refine AWP_region ?_ | refine AWP_draw mixed_ok (by kernel_rfl) ?_)
    | ((first
        | refine AOps_pre rfl (by simp only [postL, isCallV, SL]; exact rfl) fun K2 hK2 => ?_
        | refine LexA_pre rfl rfl (by simp only [postL, isCallV, SL]; exact rfl) fun K2 hK2 => ?_)
       simp (disch := omega) only [SL, evalOps, evalOp, evalG, isPure, gdB, ung, pickG, gv, pt, cv, retV, biV, lenV, boT, bo, intBo, strBo, boolBo, isSh, uo, pickV, nilV, extV, ixOf, mkfV, mmV, mm, preL, postL, isCallV, boxS, cellsV, allocS, storeS, loadV, readT, ptrCells, ofs, fieldAddrV, fieldV, wr, buildV, fillA, buildSliceV, chunks, tagCut, indexV, indexAddrV, sliceV, sliceStr, sliceSl, bnd, if_true, if_false, ite_true, ite_false, and_self, and_true, true_and, beq_self_eq_true, nn, nc0, nc1, nc2, nc3, nc4, nc8, nc10, nc32, Int.toNat_natCast, eq_self, decide_true, decide_false, reduceIte, Nat.reduceAdd, Nat.reduceMul, Nat.reduceSub, Nat.reduceLeDiff, Nat.reduceLT, Nat.reduceEqDiff, Nat.reduceMod, Int.reduceBEq, Int.reduceBNe, Int.reduceNeg, Int.reduceNegSucc, Int.reduceLT, Int.reduceLE, Int.reduceToNat, F3, F9, F40, if_pos]
       refine ⟨_, _, rfl, ?_⟩
       refine hK2 _ _ ?_
       clear hK2 K2)
  first
    | refine AOps_callU (digits_ok a σ ha) rfl rfl rfl rfl (by first | rfl | (simp only [gv, ung, cv, SL]; done) | (simp only [gv, ung, cv, SL]; exact rfl)) ?_
    | refine AOps_callG rfl (fun hg => digits_ok a σ ha) rfl rfl rfl (by first | rfl | (simp only [gv, ung, cv, SL]; done) | (simp only [gv, ung, cv, SL]; exact rfl)) ?_
    | refine LexA_callU (digits_ok a σ ha) rfl rfl rfl rfl (by first | rfl | (simp only [gv, ung, cv, SL]; done) | (simp only [gv, ung, cv, SL]; exact rfl)) ?_
    | refine LexA_callG rfl (fun hg => digits_ok a σ ha) rfl rfl rfl (by first | rfl | (simp only [gv, ung, cv, SL]; done) | (simp only [gv, ung, cv, SL]; exact rfl)) ?_
  simp only [pt, SL]
  repeat first
    | (with_reducible first
        | refine AWP_seq ?_ | refine then_n ?_ | refine then_r ?_ | refine then_x ?_ | refine AWP_block ?_ | refine blk_n ?_ | refine blk_r ?_ | refine blk_x ?_ | refine blk_y rfl ?_ | refine AWP_skip ?_
        | refine AWP_ret ?_ | refine AWP_exit ?_ | refine AWP_true rfl ?_ | refine AWP_false rfl ?_ | refine AOps_nil ?_ | refine LexA_nil ?_ | refine AWP_region ?_ | refine AWP_draw mixed_ok (by kernel_rfl) ?_)
    | ((first
        | refine AOps_pre rfl (by simp only [postL, isCallV, SL]; exact rfl) fun K2 hK2 => ?_
        | refine LexA_pre rfl rfl (by simp only [postL, isCallV, SL]; exact rfl) fun K2 hK2 => ?_)
       simp (disch := omega) only [SL, evalOps, evalOp, evalG, isPure, gdB, ung, pickG, gv, pt, cv, retV, biV, lenV, boT, bo, intBo, strBo, boolBo, isSh, uo, pickV, nilV, extV, ixOf, mkfV, mmV, mm, preL, postL, isCallV, boxS, cellsV, allocS, storeS, loadV, readT, ptrCells, ofs, fieldAddrV, fieldV, wr, buildV, fillA, buildSliceV, chunks, tagCut, indexV, indexAddrV, sliceV, sliceStr, sliceSl, bnd, if_true, if_false, ite_true, ite_false, and_self, and_true, true_and, beq_self_eq_true, nn, nc0, nc1, nc2, nc3, nc4, nc8, nc10, nc32, Int.toNat_natCast, eq_self, decide_true, decide_false, reduceIte, Nat.reduceAdd, Nat.reduceMul, Nat.reduceSub, Nat.reduceLeDiff, Nat.reduceLT, Nat.reduceEqDiff, Nat.reduceMod, Int.reduceBEq, Int.reduceBNe, Int.reduceNeg, Int.reduceNegSucc, Int.reduceLT, Int.reduceLE, Int.reduceToNat, F3, F9, F40, if_pos]
       refine ⟨_, _, rfl, ?_⟩
       refine hK2 _ _ ?_
       clear hK2 K2)
  first
    | refine AOps_callU (digits_ok b σ hb) rfl rfl rfl rfl (by first | rfl | (simp only [gv, ung, cv, SL]; done) | (simp only [gv, ung, cv, SL]; exact rfl)) ?_
    | refine AOps_callG rfl (fun hg => digits_ok b σ hb) rfl rfl rfl (by first | rfl | (simp only [gv, ung, cv, SL]; done) | (simp only [gv, ung, cv, SL]; exact rfl)) ?_
    | refine LexA_callU (digits_ok b σ hb) rfl rfl rfl rfl (by first | rfl | (simp only [gv, ung, cv, SL]; done) | (simp only [gv, ung, cv, SL]; exact rfl)) ?_
    | refine LexA_callG rfl (fun hg => digits_ok b σ hb) rfl rfl rfl (by first | rfl | (simp only [gv, ung, cv, SL]; done) | (simp only [gv, ung, cv, SL]; exact rfl)) ?_
  simp only [pt, SL]
  repeat first
    | (with_reducible first
        | refine AWP_seq ?_ | refine then_n ?_ | refine then_r ?_ | refine then_x ?_ | refine AWP_block ?_ | refine blk_n ?_ | refine blk_r ?_ | refine blk_x ?_ | refine blk_y rfl ?_ | refine AWP_skip ?_
        | refine AWP_ret ?_ | refine AWP_exit ?_ | refine AWP_true rfl ?_ | refine AWP_false rfl ?_ | refine AOps_nil ?_ | refine LexA_nil ?_ | refine AWP_region ?_ | refine AWP_draw mixed_ok (by kernel_rfl) ?_)
    | ((first
        | refine AOps_pre rfl (by simp only [postL, isCallV, SL]; exact rfl) fun K2 hK2 => ?_
        | refine LexA_pre rfl rfl (by simp only [postL, isCallV, SL]; exact rfl) fun K2 hK2 => ?_)
       simp (disch := omega) only [SL, evalOps, evalOp, evalG, isPure, gdB, ung, pickG, gv, pt, cv, retV, biV, lenV, boT, bo, intBo, strBo, boolBo, isSh, uo, pickV, nilV, extV, ixOf, mkfV, mmV, mm, preL, postL, isCallV, boxS, cellsV, allocS, storeS, loadV, readT, ptrCells, ofs, fieldAddrV, fieldV, wr, buildV, fillA, buildSliceV, chunks, tagCut, indexV, indexAddrV, sliceV, sliceStr, sliceSl, bnd, if_true, if_false, ite_true, ite_false, and_self, and_true, true_and, beq_self_eq_true, nn, nc0, nc1, nc2, nc3, nc4, nc8, nc10, nc32, Int.toNat_natCast, eq_self, decide_true, decide_false, reduceIte, Nat.reduceAdd, Nat.reduceMul, Nat.reduceSub, Nat.reduceLeDiff, Nat.reduceLT, Nat.reduceEqDiff, Nat.reduceMod, Int.reduceBEq, Int.reduceBNe, Int.reduceNeg, Int.reduceNegSucc, Int.reduceLT, Int.reduceLE, Int.reduceToNat, F3, F9, F40, if_pos]
       refine ⟨_, _, rfl, ?_⟩
       refine hK2 _ _ ?_
       clear hK2 K2)
  refine AWP_cond rfl (fun h => ?_) (fun h => ?_)
  · repeat first
      | (with_reducible first
          | refine AWP_seq ?_ | refine then_n ?_ | refine then_r ?_ | refine then_x ?_ | refine AWP_block ?_ | refine blk_n ?_ | refine blk_r ?_ | refine blk_x ?_ | refine blk_y rfl ?_ | refine AWP_skip ?_
          | refine AWP_ret ?_ | refine AWP_exit ?_ | refine AWP_true rfl ?_ | refine AWP_false rfl ?_ | refine AOps_nil ?_ | refine LexA_nil ?_ | refine AWP_region ?_ | refine AWP_draw mixed_ok (by kernel_rfl) ?_)
      | ((first
          | refine AOps_pre rfl (by simp only [postL, isCallV, SL]; exact rfl) fun K2 hK2 => ?_
          | refine LexA_pre rfl rfl (by simp only [postL, isCallV, SL]; exact rfl) fun K2 hK2 => ?_)
         simp (disch := omega) only [SL, evalOps, evalOp, evalG, isPure, gdB, ung, pickG, gv, pt, cv, retV, biV, lenV, boT, bo, intBo, strBo, boolBo, isSh, uo, pickV, nilV, extV, ixOf, mkfV, mmV, mm, preL, postL, isCallV, boxS, cellsV, allocS, storeS, loadV, readT, ptrCells, ofs, fieldAddrV, fieldV, wr, buildV, fillA, buildSliceV, chunks, tagCut, indexV, indexAddrV, sliceV, sliceStr, sliceSl, bnd, if_true, if_false, ite_true, ite_false, and_self, and_true, true_and, beq_self_eq_true, nn, nc0, nc1, nc2, nc3, nc4, nc8, nc10, nc32, Int.toNat_natCast, eq_self, decide_true, decide_false, reduceIte, Nat.reduceAdd, Nat.reduceMul, Nat.reduceSub, Nat.reduceLeDiff, Nat.reduceLT, Nat.reduceEqDiff, Nat.reduceMod, Int.reduceBEq, Int.reduceBNe, Int.reduceNeg, Int.reduceNegSucc, Int.reduceLT, Int.reduceLE, Int.reduceToNat, F3, F9, F40, if_pos]
         refine ⟨_, _, rfl, ?_⟩
         refine hK2 _ _ ?_
         clear hK2 K2)
    first
      | refine AOps_callU (compare_ok _ _ σ) rfl rfl rfl rfl (by first | rfl | (simp only [gv, ung, cv, SL]; done) | (simp only [gv, ung, cv, SL]; exact rfl)) ?_
      | refine AOps_callG rfl (fun hg => compare_ok _ _ σ) rfl rfl rfl (by first | rfl | (simp only [gv, ung, cv, SL]; done) | (simp only [gv, ung, cv, SL]; exact rfl)) ?_
      | refine LexA_callU (compare_ok _ _ σ) rfl rfl rfl rfl (by first | rfl | (simp only [gv, ung, cv, SL]; done) | (simp only [gv, ung, cv, SL]; exact rfl)) ?_
      | refine LexA_callG rfl (fun hg => compare_ok _ _ σ) rfl rfl rfl (by first | rfl | (simp only [gv, ung, cv, SL]; done) | (simp only [gv, ung, cv, SL]; exact rfl)) ?_
    simp only [pt, SL]
    repeat first
      | (with_reducible first
          | refine AWP_seq ?_ | refine then_n ?_ | refine then_r ?_ | refine then_x ?_ | refine AWP_block ?_ | refine blk_n ?_ | refine blk_r ?_ | refine blk_x ?_ | refine blk_y rfl ?_ | refine AWP_skip ?_
          | refine AWP_ret ?_ | refine AWP_exit ?_ | refine AWP_true rfl ?_ | refine AWP_false rfl ?_ | refine AOps_nil ?_ | refine LexA_nil ?_ | refine AWP_region ?_ | refine AWP_draw mixed_ok (by kernel_rfl) ?_)
      | ((first
          | refine AOps_pre rfl (by simp only [postL, isCallV, SL]; exact rfl) fun K2 hK2 => ?_
          | refine LexA_pre rfl rfl (by simp only [postL, isCallV, SL]; exact rfl) fun K2 hK2 => ?_)
         simp (disch := omega) only [SL, evalOps, evalOp, evalG, isPure, gdB, ung, pickG, gv, pt, cv, retV, biV, lenV, boT, bo, intBo, strBo, boolBo, isSh, uo, pickV, nilV, extV, ixOf, mkfV, mmV, mm, preL, postL, isCallV, boxS, cellsV, allocS, storeS, loadV, readT, ptrCells, ofs, fieldAddrV, fieldV, wr, buildV, fillA, buildSliceV, chunks, tagCut, indexV, indexAddrV, sliceV, sliceStr, sliceSl, bnd, if_true, if_false, ite_true, ite_false, and_self, and_true, true_and, beq_self_eq_true, nn, nc0, nc1, nc2, nc3, nc4, nc8, nc10, nc32, Int.toNat_natCast, eq_self, decide_true, decide_false, reduceIte, Nat.reduceAdd, Nat.reduceMul, Nat.reduceSub, Nat.reduceLeDiff, Nat.reduceLT, Nat.reduceEqDiff, Nat.reduceMod, Int.reduceBEq, Int.reduceBNe, Int.reduceNeg, Int.reduceNegSucc, Int.reduceLT, Int.reduceLE, Int.reduceToNat, F3, F9, F40, if_pos]
         refine ⟨_, _, rfl, ?_⟩
         refine hK2 _ _ ?_
         clear hK2 K2)
    first
      | refine AOps_callU (compareS_ok _ _ σ) rfl rfl rfl rfl (by first | rfl | (simp only [gv, ung, cv, SL]; done) | (simp only [gv, ung, cv, SL]; exact rfl)) ?_
      | refine AOps_callG rfl (fun hg => compareS_ok _ _ σ) rfl rfl rfl (by first | rfl | (simp only [gv, ung, cv, SL]; done) | (simp only [gv, ung, cv, SL]; exact rfl)) ?_
      | refine LexA_callU (compareS_ok _ _ σ) rfl rfl rfl rfl (by first | rfl | (simp only [gv, ung, cv, SL]; done) | (simp only [gv, ung, cv, SL]; exact rfl)) ?_
      | refine LexA_callG rfl (fun hg => compareS_ok _ _ σ) rfl rfl rfl (by first | rfl | (simp only [gv, ung, cv, SL]; done) | (simp only [gv, ung, cv, SL]; exact rfl)) ?_
    simp only [pt, SL]
    repeat first
      | (with_reducible first
          | refine AWP_seq ?_ | refine then_n ?_ | refine then_r ?_ | refine then_x ?_ | refine AWP_block ?_ | refine blk_n ?_ | refine blk_r ?_ | refine blk_x ?_ | refine blk_y rfl ?_ | refine AWP_skip ?_
          | refine AWP_ret ?_ | refine AWP_exit ?_ | refine AWP_true rfl ?_ | refine AWP_false rfl ?_ | refine AOps_nil ?_ | refine LexA_nil ?_ | refine AWP_region ?_ | refine AWP_draw mixed_ok (by kernel_rfl) ?_)
      | ((first
          | refine AOps_pre rfl (by simp only [postL, isCallV, SL]; exact rfl) fun K2 hK2 => ?_
          | refine LexA_pre rfl rfl (by simp only [postL, isCallV, SL]; exact rfl) fun K2 hK2 => ?_)
         simp (disch := omega) only [SL, evalOps, evalOp, evalG, isPure, gdB, ung, pickG, gv, pt, cv, retV, biV, lenV, boT, bo, intBo, strBo, boolBo, isSh, uo, pickV, nilV, extV, ixOf, mkfV, mmV, mm, preL, postL, isCallV, boxS, cellsV, allocS, storeS, loadV, readT, ptrCells, ofs, fieldAddrV, fieldV, wr, buildV, fillA, buildSliceV, chunks, tagCut, indexV, indexAddrV, sliceV, sliceStr, sliceSl, bnd, if_true, if_false, ite_true, ite_false, and_self, and_true, true_and, beq_self_eq_true, nn, nc0, nc1, nc2, nc3, nc4, nc8, nc10, nc32, Int.toNat_natCast, eq_self, decide_true, decide_false, reduceIte, Nat.reduceAdd, Nat.reduceMul, Nat.reduceSub, Nat.reduceLeDiff, Nat.reduceLT, Nat.reduceEqDiff, Nat.reduceMod, Int.reduceBEq, Int.reduceBNe, Int.reduceNeg, Int.reduceNegSucc, Int.reduceLT, Int.reduceLE, Int.reduceToNat, F3, F9, F40, if_pos]
         refine ⟨_, _, rfl, ?_⟩
         refine hK2 _ _ ?_
         clear hK2 K2)
    first
      | refine AOps_callU (or_ok [Lib.compareInt a.length b.length, cmpB a b] .full σ (by simp)) rfl rfl rfl rfl (by first | rfl | (simp only [gv, ung, cv, SL]; done) | (simp only [gv, ung, cv, SL]; exact rfl)) ?_
      | refine AOps_callG rfl (fun hg => or_ok [Lib.compareInt a.length b.length, cmpB a b] .full σ (by simp)) rfl rfl rfl (by first | rfl | (simp only [gv, ung, cv, SL]; done) | (simp only [gv, ung, cv, SL]; exact rfl)) ?_
      | refine LexA_callU (or_ok [Lib.compareInt a.length b.length, cmpB a b] .full σ (by simp)) rfl rfl rfl rfl (by first | rfl | (simp only [gv, ung, cv, SL]; done) | (simp only [gv, ung, cv, SL]; exact rfl)) ?_
      | refine LexA_callG rfl (fun hg => or_ok [Lib.compareInt a.length b.length, cmpB a b] .full σ (by simp)) rfl rfl rfl (by first | rfl | (simp only [gv, ung, cv, SL]; done) | (simp only [gv, ung, cv, SL]; exact rfl)) ?_
    simp only [pt, SL]
    repeat first
      | (with_reducible first
          | refine AWP_seq ?_ | refine then_n ?_ | refine then_r ?_ | refine then_x ?_ | refine AWP_block ?_ | refine blk_n ?_ | refine blk_r ?_ | refine blk_x ?_ | refine blk_y rfl ?_ | refine AWP_skip ?_
          | refine AWP_ret ?_ | refine AWP_exit ?_ | refine AWP_true rfl ?_ | refine AWP_false rfl ?_ | refine AOps_nil ?_ | refine LexA_nil ?_ | refine AWP_region ?_ | refine AWP_draw mixed_ok (by kernel_rfl) ?_)
      | ((first
          | refine AOps_pre rfl (by simp only [postL, isCallV, SL]; exact rfl) fun K2 hK2 => ?_
          | refine LexA_pre rfl rfl (by simp only [postL, isCallV, SL]; exact rfl) fun K2 hK2 => ?_)
         simp (disch := omega) only [SL, evalOps, evalOp, evalG, isPure, gdB, ung, pickG, gv, pt, cv, retV, biV, lenV, boT, bo, intBo, strBo, boolBo, isSh, uo, pickV, nilV, extV, ixOf, mkfV, mmV, mm, preL, postL, isCallV, boxS, cellsV, allocS, storeS, loadV, readT, ptrCells, ofs, fieldAddrV, fieldV, wr, buildV, fillA, buildSliceV, chunks, tagCut, indexV, indexAddrV, sliceV, sliceStr, sliceSl, bnd, if_true, if_false, ite_true, ite_false, and_self, and_true, true_and, beq_self_eq_true, nn, nc0, nc1, nc2, nc3, nc4, nc8, nc10, nc32, Int.toNat_natCast, eq_self, decide_true, decide_false, reduceIte, Nat.reduceAdd, Nat.reduceMul, Nat.reduceSub, Nat.reduceLeDiff, Nat.reduceLT, Nat.reduceEqDiff, Nat.reduceMod, Int.reduceBEq, Int.reduceBNe, Int.reduceNeg, Int.reduceNegSucc, Int.reduceLT, Int.reduceLE, Int.reduceToNat, F3, F9, F40, if_pos]
         refine ⟨_, _, rfl, ?_⟩
         refine hK2 _ _ ?_
         clear hK2 K2)
    refine body_r (by simp only [resA, ptrCells, readT, if_true, SL, Nat.reduceAdd, Nat.reduceLeDiff, F3, F9, F40]; exact rfl) ?_
    dsimp only [outV]
    refine ⟨?_, rfl⟩
    rw [marksV, if_pos h]
  · have h1 := h
    repeat first
      | (with_reducible first
          | refine AWP_seq ?_ | refine then_n ?_ | refine then_r ?_ | refine then_x ?_ | refine AWP_block ?_ | refine blk_n ?_ | refine blk_r ?_ | refine blk_x ?_ | refine blk_y rfl ?_ | refine AWP_skip ?_
          | refine AWP_ret ?_ | refine AWP_exit ?_ | refine AWP_true rfl ?_ | refine AWP_false rfl ?_ | refine AOps_nil ?_ | refine LexA_nil ?_ | refine AWP_region ?_ | refine AWP_draw mixed_ok (by kernel_rfl) ?_)
      | ((first
          | refine AOps_pre rfl (by simp only [postL, isCallV, SL]; exact rfl) fun K2 hK2 => ?_
          | refine LexA_pre rfl rfl (by simp only [postL, isCallV, SL]; exact rfl) fun K2 hK2 => ?_)
         simp (disch := omega) only [SL, evalOps, evalOp, evalG, isPure, gdB, ung, pickG, gv, pt, cv, retV, biV, lenV, boT, bo, intBo, strBo, boolBo, isSh, uo, pickV, nilV, extV, ixOf, mkfV, mmV, mm, preL, postL, isCallV, boxS, cellsV, allocS, storeS, loadV, readT, ptrCells, ofs, fieldAddrV, fieldV, wr, buildV, fillA, buildSliceV, chunks, tagCut, indexV, indexAddrV, sliceV, sliceStr, sliceSl, bnd, if_true, if_false, ite_true, ite_false, and_self, and_true, true_and, beq_self_eq_true, nn, nc0, nc1, nc2, nc3, nc4, nc8, nc10, nc32, Int.toNat_natCast, eq_self, decide_true, decide_false, reduceIte, Nat.reduceAdd, Nat.reduceMul, Nat.reduceSub, Nat.reduceLeDiff, Nat.reduceLT, Nat.reduceEqDiff, Nat.reduceMod, Int.reduceBEq, Int.reduceBNe, Int.reduceNeg, Int.reduceNegSucc, Int.reduceLT, Int.reduceLE, Int.reduceToNat, F3, F9, F40, if_pos]
         refine ⟨_, _, rfl, ?_⟩
         refine hK2 _ _ ?_
         clear hK2 K2)
    refine AWP_cond rfl (fun h => ?_) (fun h => ?_)
    · repeat first
        | (with_reducible first
            | refine AWP_seq ?_ | refine then_n ?_ | refine then_r ?_ | refine then_x ?_ | refine AWP_block ?_ | refine blk_n ?_ | refine blk_r ?_ | refine blk_x ?_ | refine blk_y rfl ?_ | refine AWP_skip ?_
            | refine AWP_ret ?_ | refine AWP_exit ?_ | refine AWP_true rfl ?_ | refine AWP_false rfl ?_ | refine AOps_nil ?_ | refine LexA_nil ?_ | refine AWP_region ?_ | refine AWP_draw mixed_ok (by kernel_rfl) ?_)
        | ((first
            | refine AOps_pre rfl (by simp only [postL, isCallV, SL]; exact rfl) fun K2 hK2 => ?_
            | refine LexA_pre rfl rfl (by simp only [postL, isCallV, SL]; exact rfl) fun K2 hK2 => ?_)
           simp (disch := omega) only [SL, evalOps, evalOp, evalG, isPure, gdB, ung, pickG, gv, pt, cv, retV, biV, lenV, boT, bo, intBo, strBo, boolBo, isSh, uo, pickV, nilV, extV, ixOf, mkfV, mmV, mm, preL, postL, isCallV, boxS, cellsV, allocS, storeS, loadV, readT, ptrCells, ofs, fieldAddrV, fieldV, wr, buildV, fillA, buildSliceV, chunks, tagCut, indexV, indexAddrV, sliceV, sliceStr, sliceSl, bnd, if_true, if_false, ite_true, ite_false, and_self, and_true, true_and, beq_self_eq_true, nn, nc0, nc1, nc2, nc3, nc4, nc8, nc10, nc32, Int.toNat_natCast, eq_self, decide_true, decide_false, reduceIte, Nat.reduceAdd, Nat.reduceMul, Nat.reduceSub, Nat.reduceLeDiff, Nat.reduceLT, Nat.reduceEqDiff, Nat.reduceMod, Int.reduceBEq, Int.reduceBNe, Int.reduceNeg, Int.reduceNegSucc, Int.reduceLT, Int.reduceLE, Int.reduceToNat, F3, F9, F40, if_pos]
           refine ⟨_, _, rfl, ?_⟩
           refine hK2 _ _ ?_
           clear hK2 K2)
      refine body_r (by simp only [resA, ptrCells, readT, if_true, SL, Nat.reduceAdd, Nat.reduceLeDiff, F3, F9, F40]; exact rfl) ?_
      dsimp only [outV]
      refine ⟨?_, rfl⟩
      simp_all [marksV]
    · repeat first
        | (with_reducible first
            | refine AWP_seq ?_ | refine then_n ?_ | refine then_r ?_ | refine then_x ?_ | refine AWP_block ?_ | refine blk_n ?_ | refine blk_r ?_ | refine blk_x ?_ | refine blk_y rfl ?_ | refine AWP_skip ?_
            | refine AWP_ret ?_ | refine AWP_exit ?_ | refine AWP_true rfl ?_ | refine AWP_false rfl ?_ | refine AOps_nil ?_ | refine LexA_nil ?_ | refine AWP_region ?_ | refine AWP_draw mixed_ok (by kernel_rfl) ?_)
        | ((first
            | refine AOps_pre rfl (by simp only [postL, isCallV, SL]; exact rfl) fun K2 hK2 => ?_
            | refine LexA_pre rfl rfl (by simp only [postL, isCallV, SL]; exact rfl) fun K2 hK2 => ?_)
           simp (disch := omega) only [SL, evalOps, evalOp, evalG, isPure, gdB, ung, pickG, gv, pt, cv, retV, biV, lenV, boT, bo, intBo, strBo, boolBo, isSh, uo, pickV, nilV, extV, ixOf, mkfV, mmV, mm, preL, postL, isCallV, boxS, cellsV, allocS, storeS, loadV, readT, ptrCells, ofs, fieldAddrV, fieldV, wr, buildV, fillA, buildSliceV, chunks, tagCut, indexV, indexAddrV, sliceV, sliceStr, sliceSl, bnd, if_true, if_false, ite_true, ite_false, and_self, and_true, true_and, beq_self_eq_true, nn, nc0, nc1, nc2, nc3, nc4, nc8, nc10, nc32, Int.toNat_natCast, eq_self, decide_true, decide_false, reduceIte, Nat.reduceAdd, Nat.reduceMul, Nat.reduceSub, Nat.reduceLeDiff, Nat.reduceLT, Nat.reduceEqDiff, Nat.reduceMod, Int.reduceBEq, Int.reduceBNe, Int.reduceNeg, Int.reduceNegSucc, Int.reduceLT, Int.reduceLE, Int.reduceToNat, F3, F9, F40, if_pos]
           refine ⟨_, _, rfl, ?_⟩
           refine hK2 _ _ ?_
           clear hK2 K2)
      refine AWP_cond rfl (fun h => ?_) (fun h => ?_)
      · repeat first
          | (with_reducible first
              | refine AWP_seq ?_ | refine then_n ?_ | refine then_r ?_ | refine then_x ?_ | refine AWP_block ?_ | refine blk_n ?_ | refine blk_r ?_ | refine blk_x ?_ | refine blk_y rfl ?_ | refine AWP_skip ?_
              | refine AWP_ret ?_ | refine AWP_exit ?_ | refine AWP_true rfl ?_ | refine AWP_false rfl ?_ | refine AOps_nil ?_ | refine LexA_nil ?_ | refine AWP_region ?_ | refine AWP_draw mixed_ok (by kernel_rfl) ?_)
          | ((first
              | refine AOps_pre rfl (by simp only [postL, isCallV, SL]; exact rfl) fun K2 hK2 => ?_
              | refine LexA_pre rfl rfl (by simp only [postL, isCallV, SL]; exact rfl) fun K2 hK2 => ?_)
             simp (disch := omega) only [SL, evalOps, evalOp, evalG, isPure, gdB, ung, pickG, gv, pt, cv, retV, biV, lenV, boT, bo, intBo, strBo, boolBo, isSh, uo, pickV, nilV, extV, ixOf, mkfV, mmV, mm, preL, postL, isCallV, boxS, cellsV, allocS, storeS, loadV, readT, ptrCells, ofs, fieldAddrV, fieldV, wr, buildV, fillA, buildSliceV, chunks, tagCut, indexV, indexAddrV, sliceV, sliceStr, sliceSl, bnd, if_true, if_false, ite_true, ite_false, and_self, and_true, true_and, beq_self_eq_true, nn, nc0, nc1, nc2, nc3, nc4, nc8, nc10, nc32, Int.toNat_natCast, eq_self, decide_true, decide_false, reduceIte, Nat.reduceAdd, Nat.reduceMul, Nat.reduceSub, Nat.reduceLeDiff, Nat.reduceLT, Nat.reduceEqDiff, Nat.reduceMod, Int.reduceBEq, Int.reduceBNe, Int.reduceNeg, Int.reduceNegSucc, Int.reduceLT, Int.reduceLE, Int.reduceToNat, F3, F9, F40, if_pos]
             refine ⟨_, _, rfl, ?_⟩
             refine hK2 _ _ ?_
             clear hK2 K2)
        refine body_r (by simp only [resA, ptrCells, readT, if_true, SL, Nat.reduceAdd, Nat.reduceLeDiff, F3, F9, F40]; exact rfl) ?_
        dsimp only [outV]
        refine ⟨?_, rfl⟩
        simp_all [marksV]
      · repeat first
          | (with_reducible first
              | refine AWP_seq ?_ | refine then_n ?_ | refine then_r ?_ | refine then_x ?_ | refine AWP_block ?_ | refine blk_n ?_ | refine blk_r ?_ | refine blk_x ?_ | refine blk_y rfl ?_ | refine AWP_skip ?_
              | refine AWP_ret ?_ | refine AWP_exit ?_ | refine AWP_true rfl ?_ | refine AWP_false rfl ?_ | refine AOps_nil ?_ | refine LexA_nil ?_ | refine AWP_region ?_ | refine AWP_draw mixed_ok (by kernel_rfl) ?_)
          | ((first
              | refine AOps_pre rfl (by simp only [postL, isCallV, SL]; exact rfl) fun K2 hK2 => ?_
              | refine LexA_pre rfl rfl (by simp only [postL, isCallV, SL]; exact rfl) fun K2 hK2 => ?_)
             simp (disch := omega) only [SL, evalOps, evalOp, evalG, isPure, gdB, ung, pickG, gv, pt, cv, retV, biV, lenV, boT, bo, intBo, strBo, boolBo, isSh, uo, pickV, nilV, extV, ixOf, mkfV, mmV, mm, preL, postL, isCallV, boxS, cellsV, allocS, storeS, loadV, readT, ptrCells, ofs, fieldAddrV, fieldV, wr, buildV, fillA, buildSliceV, chunks, tagCut, indexV, indexAddrV, sliceV, sliceStr, sliceSl, bnd, if_true, if_false, ite_true, ite_false, and_self, and_true, true_and, beq_self_eq_true, nn, nc0, nc1, nc2, nc3, nc4, nc8, nc10, nc32, Int.toNat_natCast, eq_self, decide_true, decide_false, reduceIte, Nat.reduceAdd, Nat.reduceMul, Nat.reduceSub, Nat.reduceLeDiff, Nat.reduceLT, Nat.reduceEqDiff, Nat.reduceMod, Int.reduceBEq, Int.reduceBNe, Int.reduceNeg, Int.reduceNegSucc, Int.reduceLT, Int.reduceLE, Int.reduceToNat, F3, F9, F40, if_pos]
             refine ⟨_, _, rfl, ?_⟩
             refine hK2 _ _ ?_
             clear hK2 K2)
        first
          | refine AOps_callU (compareS_ok _ _ σ) rfl rfl rfl rfl (by first | rfl | (simp only [gv, ung, cv, SL]; done) | (simp only [gv, ung, cv, SL]; exact rfl)) ?_
          | refine AOps_callG rfl (fun hg => compareS_ok _ _ σ) rfl rfl rfl (by first | rfl | (simp only [gv, ung, cv, SL]; done) | (simp only [gv, ung, cv, SL]; exact rfl)) ?_
          | refine LexA_callU (compareS_ok _ _ σ) rfl rfl rfl rfl (by first | rfl | (simp only [gv, ung, cv, SL]; done) | (simp only [gv, ung, cv, SL]; exact rfl)) ?_
          | refine LexA_callG rfl (fun hg => compareS_ok _ _ σ) rfl rfl rfl (by first | rfl | (simp only [gv, ung, cv, SL]; done) | (simp only [gv, ung, cv, SL]; exact rfl)) ?_
        simp only [pt, SL]
        repeat first
          | (with_reducible first
              | refine AWP_seq ?_ | refine then_n ?_ | refine then_r ?_ | refine then_x ?_ | refine AWP_block ?_ | refine blk_n ?_ | refine blk_r ?_ | refine blk_x ?_ | refine blk_y rfl ?_ | refine AWP_skip ?_
              | refine AWP_ret ?_ | refine AWP_exit ?_ | refine AWP_true rfl ?_ | refine AWP_false rfl ?_ | refine AOps_nil ?_ | refine LexA_nil ?_ | refine AWP_region ?_ | refine AWP_draw mixed_ok (by kernel_rfl) ?_)
          | ((first
              | refine AOps_pre rfl (by simp only [postL, isCallV, SL]; exact rfl) fun K2 hK2 => ?_
              | refine LexA_pre rfl rfl (by simp only [postL, isCallV, SL]; exact rfl) fun K2 hK2 => ?_)
             simp (disch := omega) only [SL, evalOps, evalOp, evalG, isPure, gdB, ung, pickG, gv, pt, cv, retV, biV, lenV, boT, bo, intBo, strBo, boolBo, isSh, uo, pickV, nilV, extV, ixOf, mkfV, mmV, mm, preL, postL, isCallV, boxS, cellsV, allocS, storeS, loadV, readT, ptrCells, ofs, fieldAddrV, fieldV, wr, buildV, fillA, buildSliceV, chunks, tagCut, indexV, indexAddrV, sliceV, sliceStr, sliceSl, bnd, if_true, if_false, ite_true, ite_false, and_self, and_true, true_and, beq_self_eq_true, nn, nc0, nc1, nc2, nc3, nc4, nc8, nc10, nc32, Int.toNat_natCast, eq_self, decide_true, decide_false, reduceIte, Nat.reduceAdd, Nat.reduceMul, Nat.reduceSub, Nat.reduceLeDiff, Nat.reduceLT, Nat.reduceEqDiff, Nat.reduceMod, Int.reduceBEq, Int.reduceBNe, Int.reduceNeg, Int.reduceNegSucc, Int.reduceLT, Int.reduceLE, Int.reduceToNat, F3, F9, F40, if_pos]
             refine ⟨_, _, rfl, ?_⟩
             refine hK2 _ _ ?_
             clear hK2 K2)
        refine body_r (by simp only [resA, ptrCells, readT, if_true, SL, Nat.reduceAdd, Nat.reduceLeDiff, F3, F9, F40]; exact rfl) ?_
        dsimp only [outV]
        refine ⟨?_, rfl⟩
        simp_all [marksV]
/-- Two rows in order. -/
def cmpL (c : List UInt8 → List UInt8 → Int) : List (List UInt8) → List (List UInt8) → Int
  | [], [] => 0
  | [], _ :: _ => -1
  | _ :: _, [] => 1
  | x :: a, y :: b => if c x y ≠ 0 then c x y else cmpL c a b
theorem cmpL_drop (c : List UInt8 → List UInt8 → Int) {a b : List (List UInt8)} {k : Nat} (ha : k < a.length) (hb : k < b.length) : cmpL c (a.drop k) (b.drop k) = if c (a.getD k []) (b.getD k []) ≠ 0 then c (a.getD k []) (b.getD k []) else cmpL c (a.drop (k + 1)) (b.drop (k + 1)) := by
  rw [List.drop_eq_getElem_cons ha, List.drop_eq_getElem_cons hb]
  simp [cmpL, List.getD_eq_getElem?_getD, List.getElem?_eq_getElem ha, List.getElem?_eq_getElem hb]
theorem compareFunc_ok (f : FuncId) (c : List UInt8 → List UInt8 → Int) (a b : List (List UInt8)) (t u : Tag) (σ : List AE) (ha : a.length ≤ 9223372036854775806) (hf : ∀ x ∈ a, ∀ y ∈ b, Gives Tryd.prog f [.str x, .str y] σ (.int .i64 (c x y))) :
    Gives Tryd.prog 38 [.sl t (strs a), .sl u (strs b), .fn f []] σ (.int .i64 (cmpL c a b)) := by
  refine ACalls_body Tryd.func38 rfl rfl ?_
  simp only [Tryd.ntmps38, Tryd.results38, List.length_cons, List.length_nil, Nat.reduceAdd, Nat.reduceSub, List.replicate_succ, List.replicate_zero, List.cons_append, List.nil_append, List.toList_toArray]
  repeat first
    | (with_reducible first
        | refine AWP_seq ?_ | refine then_n ?_ | refine then_r ?_ | refine then_x ?_ | refine AWP_block ?_ | refine blk_n ?_ | refine blk_r ?_ | refine blk_x ?_ | refine blk_y rfl ?_ | refine AWP_skip ?_
        | refine AWP_ret ?_ | refine AWP_exit ?_ | refine AWP_true rfl ?_ | refine AWP_false rfl ?_ | refine AOps_nil ?_ | refine LexA_nil ?_ | refine AWP_region ?_ | refine AWP_draw mixed_ok (by kernel_rfl) ?_)
    | ((first
        | refine AOps_pre rfl (by simp only [postL, isCallV, SL]; exact rfl) fun K2 hK2 => ?_
        | refine LexA_pre rfl rfl (by simp only [postL, isCallV, SL]; exact rfl) fun K2 hK2 => ?_)
       simp (disch := omega) only [SL, evalOps, evalOp, evalG, isPure, gdB, ung, pickG, gv, pt, cv, retV, biV, lenV, boT, bo, intBo, strBo, boolBo, isSh, uo, pickV, nilV, extV, ixOf, mkfV, mmV, mm, preL, postL, isCallV, boxS, cellsV, allocS, storeS, loadV, readT, ptrCells, ofs, fieldAddrV, fieldV, wr, buildV, fillA, buildSliceV, chunks, tagCut, indexV, indexAddrV, sliceV, sliceStr, sliceSl, bnd, if_true, if_false, ite_true, ite_false, and_self, and_true, true_and, beq_self_eq_true, nn, nc0, nc1, nc2, nc3, nc4, nc8, nc10, nc32, Int.toNat_natCast, eq_self, decide_true, decide_false, reduceIte, Nat.reduceAdd, Nat.reduceMul, Nat.reduceSub, Nat.reduceLeDiff, Nat.reduceLT, Nat.reduceEqDiff, Nat.reduceMod, Int.reduceBEq, Int.reduceBNe, Int.reduceNeg, Int.reduceNegSucc, Int.reduceLT, Int.reduceLE, Int.reduceToNat, F9, F23, F64, strs_len, if_pos]
       refine ⟨_, _, rfl, ?_⟩
       refine hK2 _ _ ?_
       clear hK2 K2)
  refine AWP_loop (α := { k : Nat // k ≤ a.length ∧ k ≤ b.length ∧ cmpL c a b = cmpL c (a.drop k) (b.drop k) }) (fun k => [.sl t (strs a), .sl u (strs b), .fn f [], .junk, .junk, .junk, .int .i64 0, .junk, .junk, .junk, .junk, .sl t (strs a), .int .i64 a.length, .int .i64 (k.1 : Int), .junk, .junk, .junk, .junk, .junk, .junk, .junk, .junk, .junk, .junk, .junk, .junk, .junk, .junk, .junk, .junk, .junk, .junk, .junk, .junk, .junk, .junk, .junk, .junk, .junk]) (fun _ => σ) (fun k => a.length - k.1) ⟨0, by omega, by omega, by simp⟩ (.same ?_) (fun _ => Nat.le_refl _) ?_
  · (repeat' (first | exact trivial | refine And.intro ?_ ?_)
     all_goals first | with_reducible exact Vle.junk _ | with_reducible exact Vle.refl _ | exact Vle.refl _ | exact Vle.ro _ _)
  · rintro ⟨k, hk, hkb, hd⟩
    repeat first
      | (with_reducible first
          | refine AWP_seq ?_ | refine then_n ?_ | refine then_r ?_ | refine then_x ?_ | refine AWP_block ?_ | refine blk_n ?_ | refine blk_r ?_ | refine blk_x ?_ | refine blk_y rfl ?_ | refine AWP_skip ?_
          | refine AWP_ret ?_ | refine AWP_exit ?_ | refine AWP_true rfl ?_ | refine AWP_false rfl ?_ | refine AOps_nil ?_ | refine LexA_nil ?_ | refine AWP_region ?_ | refine AWP_draw mixed_ok (by kernel_rfl) ?_)
      | ((first
          | refine AOps_pre rfl (by simp only [postL, isCallV, SL]; exact rfl) fun K2 hK2 => ?_
          | refine LexA_pre rfl rfl (by simp only [postL, isCallV, SL]; exact rfl) fun K2 hK2 => ?_)
         simp (disch := omega) only [SL, evalOps, evalOp, evalG, isPure, gdB, ung, pickG, gv, pt, cv, retV, biV, lenV, boT, bo, intBo, strBo, boolBo, isSh, uo, pickV, nilV, extV, ixOf, mkfV, mmV, mm, preL, postL, isCallV, boxS, cellsV, allocS, storeS, loadV, readT, ptrCells, ofs, fieldAddrV, fieldV, wr, buildV, fillA, buildSliceV, chunks, tagCut, indexV, indexAddrV, sliceV, sliceStr, sliceSl, bnd, if_true, if_false, ite_true, ite_false, and_self, and_true, true_and, beq_self_eq_true, nn, nc0, nc1, nc2, nc3, nc4, nc8, nc10, nc32, Int.toNat_natCast, eq_self, decide_true, decide_false, reduceIte, Nat.reduceAdd, Nat.reduceMul, Nat.reduceSub, Nat.reduceLeDiff, Nat.reduceLT, Nat.reduceEqDiff, Nat.reduceMod, Int.reduceBEq, Int.reduceBNe, Int.reduceNeg, Int.reduceNegSucc, Int.reduceLT, Int.reduceLE, Int.reduceToNat, F9, F23, F64, if_pos]
         refine ⟨_, _, rfl, ?_⟩
         refine hK2 _ _ ?_
         clear hK2 K2)
    refine AWP_cond rfl (fun h => ?_) (fun h => ?_)
    · have hlt : k < a.length := by simpa using h
      have hma : a.getD k [] ∈ a := by rw [List.getD_eq_getElem?_getD, List.getElem?_eq_getElem hlt]; exact List.getElem_mem _
      repeat first
        | (with_reducible first
            | refine AWP_seq ?_ | refine then_n ?_ | refine then_r ?_ | refine then_x ?_ | refine AWP_block ?_ | refine blk_n ?_ | refine blk_r ?_ | refine blk_x ?_ | refine blk_y rfl ?_ | refine AWP_skip ?_
            | refine AWP_ret ?_ | refine AWP_exit ?_ | refine AWP_true rfl ?_ | refine AWP_false rfl ?_ | refine AOps_nil ?_ | refine LexA_nil ?_ | refine AWP_region ?_ | refine AWP_draw mixed_ok (by kernel_rfl) ?_)
        | ((first
            | refine AOps_pre rfl (by simp only [postL, isCallV, SL]; exact rfl) fun K2 hK2 => ?_
            | refine LexA_pre rfl rfl (by simp only [postL, isCallV, SL]; exact rfl) fun K2 hK2 => ?_)
           simp (disch := omega) only [SL, evalOps, evalOp, evalG, isPure, gdB, ung, pickG, gv, pt, cv, retV, biV, lenV, boT, bo, intBo, strBo, boolBo, isSh, uo, pickV, nilV, extV, ixOf, mkfV, mmV, mm, preL, postL, isCallV, boxS, cellsV, allocS, storeS, loadV, readT, ptrCells, ofs, fieldAddrV, fieldV, wr, buildV, fillA, buildSliceV, chunks, tagCut, indexV, indexAddrV, sliceV, sliceStr, sliceSl, bnd, if_true, if_false, ite_true, ite_false, and_self, and_true, true_and, beq_self_eq_true, nn, nc0, nc1, nc2, nc3, nc4, nc8, nc10, nc32, Int.toNat_natCast, eq_self, decide_true, decide_false, reduceIte, Nat.reduceAdd, Nat.reduceMul, Nat.reduceSub, Nat.reduceLeDiff, Nat.reduceLT, Nat.reduceEqDiff, Nat.reduceMod, Int.reduceBEq, Int.reduceBNe, Int.reduceNeg, Int.reduceNegSucc, Int.reduceLT, Int.reduceLE, Int.reduceToNat, F9, F23, F64, hlt, strs_len, strs_flat, strs_getD hlt, if_pos]
           refine ⟨_, _, rfl, ?_⟩
           refine hK2 _ _ ?_
           clear hK2 K2)
      refine AWP_cond rfl (fun h => ?_) (fun h => ?_)
      · have hge : k = b.length := by have : b.length ≤ k := by simpa using h
                                      omega
        repeat first
          | (with_reducible first
              | refine AWP_seq ?_ | refine then_n ?_ | refine then_r ?_ | refine then_x ?_ | refine AWP_block ?_ | refine blk_n ?_ | refine blk_r ?_ | refine blk_x ?_ | refine blk_y rfl ?_ | refine AWP_skip ?_
              | refine AWP_ret ?_ | refine AWP_exit ?_ | refine AWP_true rfl ?_ | refine AWP_false rfl ?_ | refine AOps_nil ?_ | refine LexA_nil ?_ | refine AWP_region ?_ | refine AWP_draw mixed_ok (by kernel_rfl) ?_)
          | ((first
              | refine AOps_pre rfl (by simp only [postL, isCallV, SL]; exact rfl) fun K2 hK2 => ?_
              | refine LexA_pre rfl rfl (by simp only [postL, isCallV, SL]; exact rfl) fun K2 hK2 => ?_)
             simp (disch := omega) only [SL, evalOps, evalOp, evalG, isPure, gdB, ung, pickG, gv, pt, cv, retV, biV, lenV, boT, bo, intBo, strBo, boolBo, isSh, uo, pickV, nilV, extV, ixOf, mkfV, mmV, mm, preL, postL, isCallV, boxS, cellsV, allocS, storeS, loadV, readT, ptrCells, ofs, fieldAddrV, fieldV, wr, buildV, fillA, buildSliceV, chunks, tagCut, indexV, indexAddrV, sliceV, sliceStr, sliceSl, bnd, if_true, if_false, ite_true, ite_false, and_self, and_true, true_and, beq_self_eq_true, nn, nc0, nc1, nc2, nc3, nc4, nc8, nc10, nc32, Int.toNat_natCast, eq_self, decide_true, decide_false, reduceIte, Nat.reduceAdd, Nat.reduceMul, Nat.reduceSub, Nat.reduceLeDiff, Nat.reduceLT, Nat.reduceEqDiff, Nat.reduceMod, Int.reduceBEq, Int.reduceBNe, Int.reduceNeg, Int.reduceNegSucc, Int.reduceLT, Int.reduceLE, Int.reduceToNat, F9, F23, F64, if_pos]
             refine ⟨_, _, rfl, ?_⟩
             refine hK2 _ _ ?_
             clear hK2 K2)
        refine body_r (by simp only [resA, ptrCells, readT, if_true, SL, Nat.reduceAdd, Nat.reduceLeDiff, F9, F23, F64]; exact rfl) ?_
        dsimp only [outV]
        refine ⟨?_, rfl⟩
        rw [hd, hge, List.drop_length, ← hge, List.drop_eq_getElem_cons hlt]
        rfl
      · have hltb : k < b.length := by simpa using h
        have hmb : b.getD k [] ∈ b := by rw [List.getD_eq_getElem?_getD, List.getElem?_eq_getElem hltb]; exact List.getElem_mem _
        rw [cmpL_drop c hlt hltb] at hd
        repeat first
          | (with_reducible first
              | refine AWP_seq ?_ | refine then_n ?_ | refine then_r ?_ | refine then_x ?_ | refine AWP_block ?_ | refine blk_n ?_ | refine blk_r ?_ | refine blk_x ?_ | refine blk_y rfl ?_ | refine AWP_skip ?_
              | refine AWP_ret ?_ | refine AWP_exit ?_ | refine AWP_true rfl ?_ | refine AWP_false rfl ?_ | refine AOps_nil ?_ | refine LexA_nil ?_ | refine AWP_region ?_ | refine AWP_draw mixed_ok (by kernel_rfl) ?_)
          | ((first
              | refine AOps_pre rfl (by simp only [postL, isCallV, SL]; exact rfl) fun K2 hK2 => ?_
              | refine LexA_pre rfl rfl (by simp only [postL, isCallV, SL]; exact rfl) fun K2 hK2 => ?_)
             simp (disch := omega) only [SL, evalOps, evalOp, evalG, isPure, gdB, ung, pickG, gv, pt, cv, retV, biV, lenV, boT, bo, intBo, strBo, boolBo, isSh, uo, pickV, nilV, extV, ixOf, mkfV, mmV, mm, preL, postL, isCallV, boxS, cellsV, allocS, storeS, loadV, readT, ptrCells, ofs, fieldAddrV, fieldV, wr, buildV, fillA, buildSliceV, chunks, tagCut, indexV, indexAddrV, sliceV, sliceStr, sliceSl, bnd, if_true, if_false, ite_true, ite_false, and_self, and_true, true_and, beq_self_eq_true, nn, nc0, nc1, nc2, nc3, nc4, nc8, nc10, nc32, Int.toNat_natCast, eq_self, decide_true, decide_false, reduceIte, Nat.reduceAdd, Nat.reduceMul, Nat.reduceSub, Nat.reduceLeDiff, Nat.reduceLT, Nat.reduceEqDiff, Nat.reduceMod, Int.reduceBEq, Int.reduceBNe, Int.reduceNeg, Int.reduceNegSucc, Int.reduceLT, Int.reduceLE, Int.reduceToNat, F9, F23, F64, hltb, strs_len, strs_flat, strs_getD hltb, if_pos]
             refine ⟨_, _, rfl, ?_⟩
             refine hK2 _ _ ?_
             clear hK2 K2)
        first
          | refine AOps_callU (hf _ hma _ hmb) rfl rfl rfl rfl (by first | rfl | (simp only [gv, ung, cv, SL]; done) | (simp only [gv, ung, cv, SL]; exact rfl)) ?_
          | refine AOps_callG rfl (fun hg => hf _ hma _ hmb) rfl rfl rfl (by first | rfl | (simp only [gv, ung, cv, SL]; done) | (simp only [gv, ung, cv, SL]; exact rfl)) ?_
          | refine LexA_callU (hf _ hma _ hmb) rfl rfl rfl rfl (by first | rfl | (simp only [gv, ung, cv, SL]; done) | (simp only [gv, ung, cv, SL]; exact rfl)) ?_
          | refine LexA_callG rfl (fun hg => hf _ hma _ hmb) rfl rfl rfl (by first | rfl | (simp only [gv, ung, cv, SL]; done) | (simp only [gv, ung, cv, SL]; exact rfl)) ?_
        simp only [pt, SL]
        repeat first
          | (with_reducible first
              | refine AWP_seq ?_ | refine then_n ?_ | refine then_r ?_ | refine then_x ?_ | refine AWP_block ?_ | refine blk_n ?_ | refine blk_r ?_ | refine blk_x ?_ | refine blk_y rfl ?_ | refine AWP_skip ?_
              | refine AWP_ret ?_ | refine AWP_exit ?_ | refine AWP_true rfl ?_ | refine AWP_false rfl ?_ | refine AOps_nil ?_ | refine LexA_nil ?_ | refine AWP_region ?_ | refine AWP_draw mixed_ok (by kernel_rfl) ?_)
          | ((first
              | refine AOps_pre rfl (by simp only [postL, isCallV, SL]; exact rfl) fun K2 hK2 => ?_
              | refine LexA_pre rfl rfl (by simp only [postL, isCallV, SL]; exact rfl) fun K2 hK2 => ?_)
             simp (disch := omega) only [SL, evalOps, evalOp, evalG, isPure, gdB, ung, pickG, gv, pt, cv, retV, biV, lenV, boT, bo, intBo, strBo, boolBo, isSh, uo, pickV, nilV, extV, ixOf, mkfV, mmV, mm, preL, postL, isCallV, boxS, cellsV, allocS, storeS, loadV, readT, ptrCells, ofs, fieldAddrV, fieldV, wr, buildV, fillA, buildSliceV, chunks, tagCut, indexV, indexAddrV, sliceV, sliceStr, sliceSl, bnd, if_true, if_false, ite_true, ite_false, and_self, and_true, true_and, beq_self_eq_true, nn, nc0, nc1, nc2, nc3, nc4, nc8, nc10, nc32, Int.toNat_natCast, eq_self, decide_true, decide_false, reduceIte, Nat.reduceAdd, Nat.reduceMul, Nat.reduceSub, Nat.reduceLeDiff, Nat.reduceLT, Nat.reduceEqDiff, Nat.reduceMod, Int.reduceBEq, Int.reduceBNe, Int.reduceNeg, Int.reduceNegSucc, Int.reduceLT, Int.reduceLE, Int.reduceToNat, F9, F23, F64, if_pos]
             refine ⟨_, _, rfl, ?_⟩
             refine hK2 _ _ ?_
             clear hK2 K2)
        refine AWP_cond rfl (fun h => ?_) (fun h => ?_)
        · repeat first
            | (with_reducible first
                | refine AWP_seq ?_ | refine then_n ?_ | refine then_r ?_ | refine then_x ?_ | refine AWP_block ?_ | refine blk_n ?_ | refine blk_r ?_ | refine blk_x ?_ | refine blk_y rfl ?_ | refine AWP_skip ?_
                | refine AWP_ret ?_ | refine AWP_exit ?_ | refine AWP_true rfl ?_ | refine AWP_false rfl ?_ | refine AOps_nil ?_ | refine LexA_nil ?_ | refine AWP_region ?_ | refine AWP_draw mixed_ok (by kernel_rfl) ?_)
            | ((first
                | refine AOps_pre rfl (by simp only [postL, isCallV, SL]; exact rfl) fun K2 hK2 => ?_
                | refine LexA_pre rfl rfl (by simp only [postL, isCallV, SL]; exact rfl) fun K2 hK2 => ?_)
               simp (disch := omega) only [SL, evalOps, evalOp, evalG, isPure, gdB, ung, pickG, gv, pt, cv, retV, biV, lenV, boT, bo, intBo, strBo, boolBo, isSh, uo, pickV, nilV, extV, ixOf, mkfV, mmV, mm, preL, postL, isCallV, boxS, cellsV, allocS, storeS, loadV, readT, ptrCells, ofs, fieldAddrV, fieldV, wr, buildV, fillA, buildSliceV, chunks, tagCut, indexV, indexAddrV, sliceV, sliceStr, sliceSl, bnd, if_true, if_false, ite_true, ite_false, and_self, and_true, true_and, beq_self_eq_true, nn, nc0, nc1, nc2, nc3, nc4, nc8, nc10, nc32, Int.toNat_natCast, eq_self, decide_true, decide_false, reduceIte, Nat.reduceAdd, Nat.reduceMul, Nat.reduceSub, Nat.reduceLeDiff, Nat.reduceLT, Nat.reduceEqDiff, Nat.reduceMod, Int.reduceBEq, Int.reduceBNe, Int.reduceNeg, Int.reduceNegSucc, Int.reduceLT, Int.reduceLE, Int.reduceToNat, F9, F23, F64, if_pos]
               refine ⟨_, _, rfl, ?_⟩
               refine hK2 _ _ ?_
               clear hK2 K2)
          refine body_r (by simp only [resA, ptrCells, readT, if_true, SL, Nat.reduceAdd, Nat.reduceLeDiff, F9, F23, F64]; exact rfl) ?_
          dsimp only [outV]
          refine ⟨?_, rfl⟩
          rw [hd, if_pos (by simpa using h)]
        · repeat first
            | (with_reducible first
                | refine AWP_seq ?_ | refine then_n ?_ | refine then_r ?_ | refine then_x ?_ | refine AWP_block ?_ | refine blk_n ?_ | refine blk_r ?_ | refine blk_x ?_ | refine blk_y rfl ?_ | refine AWP_skip ?_
                | refine AWP_ret ?_ | refine AWP_exit ?_ | refine AWP_true rfl ?_ | refine AWP_false rfl ?_ | refine AOps_nil ?_ | refine LexA_nil ?_ | refine AWP_region ?_ | refine AWP_draw mixed_ok (by kernel_rfl) ?_)
            | ((first
                | refine AOps_pre rfl (by simp only [postL, isCallV, SL]; exact rfl) fun K2 hK2 => ?_
                | refine LexA_pre rfl rfl (by simp only [postL, isCallV, SL]; exact rfl) fun K2 hK2 => ?_)
               simp (disch := omega) only [SL, evalOps, evalOp, evalG, isPure, gdB, ung, pickG, gv, pt, cv, retV, biV, lenV, boT, bo, intBo, strBo, boolBo, isSh, uo, pickV, nilV, extV, ixOf, mkfV, mmV, mm, preL, postL, isCallV, boxS, cellsV, allocS, storeS, loadV, readT, ptrCells, ofs, fieldAddrV, fieldV, wr, buildV, fillA, buildSliceV, chunks, tagCut, indexV, indexAddrV, sliceV, sliceStr, sliceSl, bnd, if_true, if_false, ite_true, ite_false, and_self, and_true, true_and, beq_self_eq_true, nn, nc0, nc1, nc2, nc3, nc4, nc8, nc10, nc32, Int.toNat_natCast, eq_self, decide_true, decide_false, reduceIte, Nat.reduceAdd, Nat.reduceMul, Nat.reduceSub, Nat.reduceLeDiff, Nat.reduceLT, Nat.reduceEqDiff, Nat.reduceMod, Int.reduceBEq, Int.reduceBNe, Int.reduceNeg, Int.reduceNegSucc, Int.reduceLT, Int.reduceLE, Int.reduceToNat, F9, F23, F64, if_pos]
               refine ⟨_, _, rfl, ?_⟩
               refine hK2 _ _ ?_
               clear hK2 K2)
          rw [if_neg (by simpa using h)] at hd
          refine ⟨⟨k + 1, by omega, by omega, hd⟩, by simp; omega, ?_⟩
          rw [wrap_in (by omega) (by omega)]
          exact .same (by (repeat' (first | exact trivial | refine And.intro ?_ ?_)
                           all_goals first | with_reducible exact Vle.junk _ | with_reducible exact Vle.refl _ | exact Vle.refl _ | exact Vle.ro _ _))
    · have hk' : k = a.length := by have : ¬ k < a.length := by simpa using h
                                    omega
      repeat first
        | (with_reducible first
            | refine AWP_seq ?_ | refine then_n ?_ | refine then_r ?_ | refine then_x ?_ | refine AWP_block ?_ | refine blk_n ?_ | refine blk_r ?_ | refine blk_x ?_ | refine blk_y rfl ?_ | refine AWP_skip ?_
            | refine AWP_ret ?_ | refine AWP_exit ?_ | refine AWP_true rfl ?_ | refine AWP_false rfl ?_ | refine AOps_nil ?_ | refine LexA_nil ?_ | refine AWP_region ?_ | refine AWP_draw mixed_ok (by kernel_rfl) ?_)
        | ((first
            | refine AOps_pre rfl (by simp only [postL, isCallV, SL]; exact rfl) fun K2 hK2 => ?_
            | refine LexA_pre rfl rfl (by simp only [postL, isCallV, SL]; exact rfl) fun K2 hK2 => ?_)
           simp (disch := omega) only [SL, evalOps, evalOp, evalG, isPure, gdB, ung, pickG, gv, pt, cv, retV, biV, lenV, boT, bo, intBo, strBo, boolBo, isSh, uo, pickV, nilV, extV, ixOf, mkfV, mmV, mm, preL, postL, isCallV, boxS, cellsV, allocS, storeS, loadV, readT, ptrCells, ofs, fieldAddrV, fieldV, wr, buildV, fillA, buildSliceV, chunks, tagCut, indexV, indexAddrV, sliceV, sliceStr, sliceSl, bnd, if_true, if_false, ite_true, ite_false, and_self, and_true, true_and, beq_self_eq_true, nn, nc0, nc1, nc2, nc3, nc4, nc8, nc10, nc32, Int.toNat_natCast, eq_self, decide_true, decide_false, reduceIte, Nat.reduceAdd, Nat.reduceMul, Nat.reduceSub, Nat.reduceLeDiff, Nat.reduceLT, Nat.reduceEqDiff, Nat.reduceMod, Int.reduceBEq, Int.reduceBNe, Int.reduceNeg, Int.reduceNegSucc, Int.reduceLT, Int.reduceLE, Int.reduceToNat, F9, F23, F64, strs_len, if_pos]
           refine ⟨_, _, rfl, ?_⟩
           refine hK2 _ _ ?_
           clear hK2 K2)
      refine AWP_cond rfl (fun h => ?_) (fun h => ?_)
      · have hltb : k < b.length := by have : a.length < b.length := by simpa using h
                                       omega
        repeat first
          | (with_reducible first
              | refine AWP_seq ?_ | refine then_n ?_ | refine then_r ?_ | refine then_x ?_ | refine AWP_block ?_ | refine blk_n ?_ | refine blk_r ?_ | refine blk_x ?_ | refine blk_y rfl ?_ | refine AWP_skip ?_
              | refine AWP_ret ?_ | refine AWP_exit ?_ | refine AWP_true rfl ?_ | refine AWP_false rfl ?_ | refine AOps_nil ?_ | refine LexA_nil ?_ | refine AWP_region ?_ | refine AWP_draw mixed_ok (by kernel_rfl) ?_)
          | ((first
              | refine AOps_pre rfl (by simp only [postL, isCallV, SL]; exact rfl) fun K2 hK2 => ?_
              | refine LexA_pre rfl rfl (by simp only [postL, isCallV, SL]; exact rfl) fun K2 hK2 => ?_)
             simp (disch := omega) only [SL, evalOps, evalOp, evalG, isPure, gdB, ung, pickG, gv, pt, cv, retV, biV, lenV, boT, bo, intBo, strBo, boolBo, isSh, uo, pickV, nilV, extV, ixOf, mkfV, mmV, mm, preL, postL, isCallV, boxS, cellsV, allocS, storeS, loadV, readT, ptrCells, ofs, fieldAddrV, fieldV, wr, buildV, fillA, buildSliceV, chunks, tagCut, indexV, indexAddrV, sliceV, sliceStr, sliceSl, bnd, if_true, if_false, ite_true, ite_false, and_self, and_true, true_and, beq_self_eq_true, nn, nc0, nc1, nc2, nc3, nc4, nc8, nc10, nc32, Int.toNat_natCast, eq_self, decide_true, decide_false, reduceIte, Nat.reduceAdd, Nat.reduceMul, Nat.reduceSub, Nat.reduceLeDiff, Nat.reduceLT, Nat.reduceEqDiff, Nat.reduceMod, Int.reduceBEq, Int.reduceBNe, Int.reduceNeg, Int.reduceNegSucc, Int.reduceLT, Int.reduceLE, Int.reduceToNat, F9, F23, F64, if_pos]
             refine ⟨_, _, rfl, ?_⟩
             refine hK2 _ _ ?_
             clear hK2 K2)
        refine body_r (by simp only [resA, ptrCells, readT, if_true, SL, Nat.reduceAdd, Nat.reduceLeDiff, F9, F23, F64]; exact rfl) ?_
        dsimp only [outV]
        refine ⟨?_, rfl⟩
        rw [hd, hk', List.drop_length, ← hk', List.drop_eq_getElem_cons hltb]
        rfl
      · have hge : k = b.length := by have : b.length ≤ a.length := by simpa using h
                                      omega
        repeat first
          | (with_reducible first
              | refine AWP_seq ?_ | refine then_n ?_ | refine then_r ?_ | refine then_x ?_ | refine AWP_block ?_ | refine blk_n ?_ | refine blk_r ?_ | refine blk_x ?_ | refine blk_y rfl ?_ | refine AWP_skip ?_
              | refine AWP_ret ?_ | refine AWP_exit ?_ | refine AWP_true rfl ?_ | refine AWP_false rfl ?_ | refine AOps_nil ?_ | refine LexA_nil ?_ | refine AWP_region ?_ | refine AWP_draw mixed_ok (by kernel_rfl) ?_)
          | ((first
              | refine AOps_pre rfl (by simp only [postL, isCallV, SL]; exact rfl) fun K2 hK2 => ?_
              | refine LexA_pre rfl rfl (by simp only [postL, isCallV, SL]; exact rfl) fun K2 hK2 => ?_)
             simp (disch := omega) only [SL, evalOps, evalOp, evalG, isPure, gdB, ung, pickG, gv, pt, cv, retV, biV, lenV, boT, bo, intBo, strBo, boolBo, isSh, uo, pickV, nilV, extV, ixOf, mkfV, mmV, mm, preL, postL, isCallV, boxS, cellsV, allocS, storeS, loadV, readT, ptrCells, ofs, fieldAddrV, fieldV, wr, buildV, fillA, buildSliceV, chunks, tagCut, indexV, indexAddrV, sliceV, sliceStr, sliceSl, bnd, if_true, if_false, ite_true, ite_false, and_self, and_true, true_and, beq_self_eq_true, nn, nc0, nc1, nc2, nc3, nc4, nc8, nc10, nc32, Int.toNat_natCast, eq_self, decide_true, decide_false, reduceIte, Nat.reduceAdd, Nat.reduceMul, Nat.reduceSub, Nat.reduceLeDiff, Nat.reduceLT, Nat.reduceEqDiff, Nat.reduceMod, Int.reduceBEq, Int.reduceBNe, Int.reduceNeg, Int.reduceNegSucc, Int.reduceLT, Int.reduceLE, Int.reduceToNat, F9, F23, F64, if_pos]
             refine ⟨_, _, rfl, ?_⟩
             refine hK2 _ _ ?_
             clear hK2 K2)
        refine body_r (by simp only [resA, ptrCells, readT, if_true, SL, Nat.reduceAdd, Nat.reduceLeDiff, F9, F23, F64]; exact rfl) ?_
        dsimp only [outV]
        refine ⟨?_, rfl⟩
        rw [hd, List.drop_of_length_le (by omega), List.drop_of_length_le (by omega)]
        rfl
end Go.Proofs.YtfagngmikbmmhaaDoor.A
