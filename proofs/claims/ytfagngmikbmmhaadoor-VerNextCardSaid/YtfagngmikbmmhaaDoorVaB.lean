/- The reference's leaves: digits, mark, number, cmp, text, oneIf, more. -/
import Derived.Test.YtfagngmikbmmhaaDoorVaA
namespace Go.Proofs.YtfagngmikbmmhaaDoor.A
open Go Go.RowKit
set_option maxRecDepth 100000
set_option linter.unusedSimpArgs false
set_option linter.unusedVariables false

theorem rdigits_ok (s : List UInt8) (σ : List AE) (hs : s.length ≤ 9223372036854775806) : Gives Tryd.prog 42 [.str s] σ (.bool (digits s)) := by
  refine ACalls_body Tryd.func42 rfl rfl ?_
  simp only [Tryd.ntmps42, Tryd.results42, List.length_cons, List.length_nil, Nat.reduceAdd, Nat.reduceSub, List.replicate_succ, List.replicate_zero, List.cons_append, List.nil_append, List.toList_toArray]
  repeat first
    | (with_reducible first
        | refine AWP_seq ?_ | refine then_n ?_ | refine then_r ?_ | refine then_x ?_ | refine AWP_block ?_ | refine blk_n ?_ | refine blk_r ?_ | refine blk_x ?_ | refine blk_y rfl ?_ | refine AWP_skip ?_
        | refine AWP_ret ?_ | refine AWP_exit ?_ | refine AWP_true rfl ?_ | refine AWP_false rfl ?_ | refine AOps_nil ?_ | refine LexA_nil ?_ | refine AWP_region ?_ | refine AWP_draw mixed_ok (by kernel_rfl) ?_)
    | ((first
        | refine AOps_pre rfl (by simp only [postL, isCallV, SL]; exact rfl) fun K2 hK2 => ?_
        | refine LexA_pre rfl rfl (by simp only [postL, isCallV, SL]; exact rfl) fun K2 hK2 => ?_)
       simp (disch := omega) only [SL, evalOps, evalOp, evalG, isPure, gdB, ung, pickG, gv, pt, cv, retV, biV, lenV, boT, bo, intBo, strBo, boolBo, isSh, uo, pickV, nilV, extV, ixOf, mkfV, mmV, mm, preL, postL, isCallV, boxS, cellsV, allocS, storeS, loadV, readT, ptrCells, ofs, fieldAddrV, fieldV, wr, buildV, fillA, buildSliceV, chunks, tagCut, indexV, indexAddrV, sliceV, sliceStr, sliceSl, bnd, if_true, if_false, ite_true, ite_false, and_self, and_true, true_and, beq_self_eq_true, nn, nc0, nc1, nc2, nc3, nc4, nc8, nc10, nc32, Int.toNat_natCast, eq_self, decide_true, decide_false, reduceIte, Nat.reduceAdd, Nat.reduceMul, Nat.reduceSub, Nat.reduceLeDiff, Nat.reduceLT, Nat.reduceEqDiff, Nat.reduceMod, Int.reduceBEq, Int.reduceBNe, Int.reduceNeg, Int.reduceNegSucc, Int.reduceLT, Int.reduceLE, Int.reduceToNat, F9, if_pos]
       refine ⟨_, _, rfl, ?_⟩
       refine hK2 _ _ ?_
       clear hK2 K2)
  refine AWP_loop (α := { k : Nat // k ≤ s.length ∧ ∀ c ∈ s.take k, dig c = true }) (fun k => [.str s, .junk, .bool false, .int .i64 (k.1 : Int), .junk, .junk, .junk, .junk, .junk, .junk, .junk, .junk, .junk, .junk, .junk, .junk, .junk, .junk, .junk, .junk, .junk, .junk]) (fun _ => σ) (fun k => s.length - k.1) ⟨0, by omega, by simp⟩ (.same ?_) (fun _ => Nat.le_refl _) ?_
  · (repeat' (first | exact trivial | refine And.intro ?_ ?_)
     all_goals first | with_reducible exact Vle.junk _ | with_reducible exact Vle.refl _ | exact Vle.refl _ | exact Vle.ro _ _)
  · rintro ⟨k, hk, hd⟩
    repeat first
      | (with_reducible first
          | refine AWP_seq ?_ | refine then_n ?_ | refine then_r ?_ | refine then_x ?_ | refine AWP_block ?_ | refine blk_n ?_ | refine blk_r ?_ | refine blk_x ?_ | refine blk_y rfl ?_ | refine AWP_skip ?_
          | refine AWP_ret ?_ | refine AWP_exit ?_ | refine AWP_true rfl ?_ | refine AWP_false rfl ?_ | refine AOps_nil ?_ | refine LexA_nil ?_ | refine AWP_region ?_ | refine AWP_draw mixed_ok (by kernel_rfl) ?_)
      | ((first
          | refine AOps_pre rfl (by simp only [postL, isCallV, SL]; exact rfl) fun K2 hK2 => ?_
          | refine LexA_pre rfl rfl (by simp only [postL, isCallV, SL]; exact rfl) fun K2 hK2 => ?_)
         simp (disch := omega) only [SL, evalOps, evalOp, evalG, isPure, gdB, ung, pickG, gv, pt, cv, retV, biV, lenV, boT, bo, intBo, strBo, boolBo, isSh, uo, pickV, nilV, extV, ixOf, mkfV, mmV, mm, preL, postL, isCallV, boxS, cellsV, allocS, storeS, loadV, readT, ptrCells, ofs, fieldAddrV, fieldV, wr, buildV, fillA, buildSliceV, chunks, tagCut, indexV, indexAddrV, sliceV, sliceStr, sliceSl, bnd, if_true, if_false, ite_true, ite_false, and_self, and_true, true_and, beq_self_eq_true, nn, nc0, nc1, nc2, nc3, nc4, nc8, nc10, nc32, Int.toNat_natCast, eq_self, decide_true, decide_false, reduceIte, Nat.reduceAdd, Nat.reduceMul, Nat.reduceSub, Nat.reduceLeDiff, Nat.reduceLT, Nat.reduceEqDiff, Nat.reduceMod, Int.reduceBEq, Int.reduceBNe, Int.reduceNeg, Int.reduceNegSucc, Int.reduceLT, Int.reduceLE, Int.reduceToNat, F9, if_pos]
         refine ⟨_, _, rfl, ?_⟩
         refine hK2 _ _ ?_
         clear hK2 K2)
    refine AWP_cond rfl (fun h => ?_) (fun h => ?_)
    · have hlt : k < s.length := by simpa using h
      repeat first
        | (with_reducible first
            | refine AWP_seq ?_ | refine then_n ?_ | refine then_r ?_ | refine then_x ?_ | refine AWP_block ?_ | refine blk_n ?_ | refine blk_r ?_ | refine blk_x ?_ | refine blk_y rfl ?_ | refine AWP_skip ?_
            | refine AWP_ret ?_ | refine AWP_exit ?_ | refine AWP_true rfl ?_ | refine AWP_false rfl ?_ | refine AOps_nil ?_ | refine LexA_nil ?_ | refine AWP_region ?_ | refine AWP_draw mixed_ok (by kernel_rfl) ?_)
        | ((first
            | refine AOps_pre rfl (by simp only [postL, isCallV, SL]; exact rfl) fun K2 hK2 => ?_
            | refine LexA_pre rfl rfl (by simp only [postL, isCallV, SL]; exact rfl) fun K2 hK2 => ?_)
           simp (disch := omega) only [SL, evalOps, evalOp, evalG, isPure, gdB, ung, pickG, gv, pt, cv, retV, biV, lenV, boT, bo, intBo, strBo, boolBo, isSh, uo, pickV, nilV, extV, ixOf, mkfV, mmV, mm, preL, postL, isCallV, boxS, cellsV, allocS, storeS, loadV, readT, ptrCells, ofs, fieldAddrV, fieldV, wr, buildV, fillA, buildSliceV, chunks, tagCut, indexV, indexAddrV, sliceV, sliceStr, sliceSl, bnd, if_true, if_false, ite_true, ite_false, and_self, and_true, true_and, beq_self_eq_true, nn, nc0, nc1, nc2, nc3, nc4, nc8, nc10, nc32, Int.toNat_natCast, eq_self, decide_true, decide_false, reduceIte, Nat.reduceAdd, Nat.reduceMul, Nat.reduceSub, Nat.reduceLeDiff, Nat.reduceLT, Nat.reduceEqDiff, Nat.reduceMod, Int.reduceBEq, Int.reduceBNe, Int.reduceNeg, Int.reduceNegSucc, Int.reduceLT, Int.reduceLE, Int.reduceToNat, F9, hlt, if_pos]
           refine ⟨_, _, rfl, ?_⟩
           refine hK2 _ _ ?_
           clear hK2 K2)
      refine AWP_cond rfl (fun h => ?_) (fun h => ?_)
      · rw [dig_ff] at h
        repeat first
          | (with_reducible first
              | refine AWP_seq ?_ | refine then_n ?_ | refine then_r ?_ | refine then_x ?_ | refine AWP_block ?_ | refine blk_n ?_ | refine blk_r ?_ | refine blk_x ?_ | refine blk_y rfl ?_ | refine AWP_skip ?_
              | refine AWP_ret ?_ | refine AWP_exit ?_ | refine AWP_true rfl ?_ | refine AWP_false rfl ?_ | refine AOps_nil ?_ | refine LexA_nil ?_ | refine AWP_region ?_ | refine AWP_draw mixed_ok (by kernel_rfl) ?_)
          | ((first
              | refine AOps_pre rfl (by simp only [postL, isCallV, SL]; exact rfl) fun K2 hK2 => ?_
              | refine LexA_pre rfl rfl (by simp only [postL, isCallV, SL]; exact rfl) fun K2 hK2 => ?_)
             simp (disch := omega) only [SL, evalOps, evalOp, evalG, isPure, gdB, ung, pickG, gv, pt, cv, retV, biV, lenV, boT, bo, intBo, strBo, boolBo, isSh, uo, pickV, nilV, extV, ixOf, mkfV, mmV, mm, preL, postL, isCallV, boxS, cellsV, allocS, storeS, loadV, readT, ptrCells, ofs, fieldAddrV, fieldV, wr, buildV, fillA, buildSliceV, chunks, tagCut, indexV, indexAddrV, sliceV, sliceStr, sliceSl, bnd, if_true, if_false, ite_true, ite_false, and_self, and_true, true_and, beq_self_eq_true, nn, nc0, nc1, nc2, nc3, nc4, nc8, nc10, nc32, Int.toNat_natCast, eq_self, decide_true, decide_false, reduceIte, Nat.reduceAdd, Nat.reduceMul, Nat.reduceSub, Nat.reduceLeDiff, Nat.reduceLT, Nat.reduceEqDiff, Nat.reduceMod, Int.reduceBEq, Int.reduceBNe, Int.reduceNeg, Int.reduceNegSucc, Int.reduceLT, Int.reduceLE, Int.reduceToNat, F9, if_pos]
             refine ⟨_, _, rfl, ?_⟩
             refine hK2 _ _ ?_
             clear hK2 K2)
        refine body_r (by simp only [resA, ptrCells, readT, if_true, SL, Nat.reduceAdd, Nat.reduceLeDiff, F9]; exact rfl) ?_
        dsimp only [outV]
        refine ⟨?_, rfl⟩
        have : s.all dig = false := not_all hlt (by simpa using h)
        simp [digits, this]
      · rw [dig_ff] at h
        repeat first
          | (with_reducible first
              | refine AWP_seq ?_ | refine then_n ?_ | refine then_r ?_ | refine then_x ?_ | refine AWP_block ?_ | refine blk_n ?_ | refine blk_r ?_ | refine blk_x ?_ | refine blk_y rfl ?_ | refine AWP_skip ?_
              | refine AWP_ret ?_ | refine AWP_exit ?_ | refine AWP_true rfl ?_ | refine AWP_false rfl ?_ | refine AOps_nil ?_ | refine LexA_nil ?_ | refine AWP_region ?_ | refine AWP_draw mixed_ok (by kernel_rfl) ?_)
          | ((first
              | refine AOps_pre rfl (by simp only [postL, isCallV, SL]; exact rfl) fun K2 hK2 => ?_
              | refine LexA_pre rfl rfl (by simp only [postL, isCallV, SL]; exact rfl) fun K2 hK2 => ?_)
             simp (disch := omega) only [SL, evalOps, evalOp, evalG, isPure, gdB, ung, pickG, gv, pt, cv, retV, biV, lenV, boT, bo, intBo, strBo, boolBo, isSh, uo, pickV, nilV, extV, ixOf, mkfV, mmV, mm, preL, postL, isCallV, boxS, cellsV, allocS, storeS, loadV, readT, ptrCells, ofs, fieldAddrV, fieldV, wr, buildV, fillA, buildSliceV, chunks, tagCut, indexV, indexAddrV, sliceV, sliceStr, sliceSl, bnd, if_true, if_false, ite_true, ite_false, and_self, and_true, true_and, beq_self_eq_true, nn, nc0, nc1, nc2, nc3, nc4, nc8, nc10, nc32, Int.toNat_natCast, eq_self, decide_true, decide_false, reduceIte, Nat.reduceAdd, Nat.reduceMul, Nat.reduceSub, Nat.reduceLeDiff, Nat.reduceLT, Nat.reduceEqDiff, Nat.reduceMod, Int.reduceBEq, Int.reduceBNe, Int.reduceNeg, Int.reduceNegSucc, Int.reduceLT, Int.reduceLE, Int.reduceToNat, F9, if_pos]
             refine ⟨_, _, rfl, ?_⟩
             refine hK2 _ _ ?_
             clear hK2 K2)
        refine ⟨⟨k + 1, by omega, take_all hlt hd (by simpa using h)⟩, by simp; omega, .same ?_⟩
        rw [wrap_in (by omega) (by omega)]
        (repeat' (first | exact trivial | refine And.intro ?_ ?_)
         all_goals first | with_reducible exact Vle.junk _ | with_reducible exact Vle.refl _ | exact Vle.refl _ | exact Vle.ro _ _)
    · repeat first
        | (with_reducible first
            | refine AWP_seq ?_ | refine then_n ?_ | refine then_r ?_ | refine then_x ?_ | refine AWP_block ?_ | refine blk_n ?_ | refine blk_r ?_ | refine blk_x ?_ | refine blk_y rfl ?_ | refine AWP_skip ?_
            | refine AWP_ret ?_ | refine AWP_exit ?_ | refine AWP_true rfl ?_ | refine AWP_false rfl ?_ | refine AOps_nil ?_ | refine LexA_nil ?_ | refine AWP_region ?_ | refine AWP_draw mixed_ok (by kernel_rfl) ?_)
        | ((first
            | refine AOps_pre rfl (by simp only [postL, isCallV, SL]; exact rfl) fun K2 hK2 => ?_
            | refine LexA_pre rfl rfl (by simp only [postL, isCallV, SL]; exact rfl) fun K2 hK2 => ?_)
           simp (disch := omega) only [SL, evalOps, evalOp, evalG, isPure, gdB, ung, pickG, gv, pt, cv, retV, biV, lenV, boT, bo, intBo, strBo, boolBo, isSh, uo, pickV, nilV, extV, ixOf, mkfV, mmV, mm, preL, postL, isCallV, boxS, cellsV, allocS, storeS, loadV, readT, ptrCells, ofs, fieldAddrV, fieldV, wr, buildV, fillA, buildSliceV, chunks, tagCut, indexV, indexAddrV, sliceV, sliceStr, sliceSl, bnd, if_true, if_false, ite_true, ite_false, and_self, and_true, true_and, beq_self_eq_true, nn, nc0, nc1, nc2, nc3, nc4, nc8, nc10, nc32, Int.toNat_natCast, eq_self, decide_true, decide_false, reduceIte, Nat.reduceAdd, Nat.reduceMul, Nat.reduceSub, Nat.reduceLeDiff, Nat.reduceLT, Nat.reduceEqDiff, Nat.reduceMod, Int.reduceBEq, Int.reduceBNe, Int.reduceNeg, Int.reduceNegSucc, Int.reduceLT, Int.reduceLE, Int.reduceToNat, F9, if_pos]
           refine ⟨_, _, rfl, ?_⟩
           refine hK2 _ _ ?_
           clear hK2 K2)
      refine body_r (by simp only [resA, ptrCells, readT, if_true, SL, Nat.reduceAdd, Nat.reduceLeDiff, F9]; exact rfl) ?_
      dsimp only [outV]
      refine ⟨?_, rfl⟩
      have : s.all dig = true := all_of_take (by have : ¬ k < s.length := by simpa using h
                                                 omega) hd
      have e : (s == []) = s.isEmpty := by cases s <;> rfl
      simp [digits, this, e]
theorem rmark_ok (s : List UInt8) (σ : List AE) (hs : s.length ≤ 9223372036854775806) : Gives Tryd.prog 31 [.str s] σ (.bool (mark s)) := by
  refine ACalls_body Tryd.func31 rfl rfl ?_
  simp only [Tryd.ntmps31, Tryd.results31, List.length_cons, List.length_nil, Nat.reduceAdd, Nat.reduceSub, List.replicate_succ, List.replicate_zero, List.cons_append, List.nil_append, List.toList_toArray]
  repeat first
    | (with_reducible first
        | refine AWP_seq ?_ | refine then_n ?_ | refine then_r ?_ | refine then_x ?_ | refine AWP_block ?_ | refine blk_n ?_ | refine blk_r ?_ | refine blk_x ?_ | refine blk_y rfl ?_ | refine AWP_skip ?_
        | refine AWP_ret ?_ | refine AWP_exit ?_ | refine AWP_true rfl ?_ | refine AWP_false rfl ?_ | refine AOps_nil ?_ | refine LexA_nil ?_ | refine AWP_region ?_ | refine AWP_draw mixed_ok (by kernel_rfl) ?_)
    | ((first
        | refine AOps_pre rfl (by simp only [postL, isCallV, SL]; exact rfl) fun K2 hK2 => ?_
        | refine LexA_pre rfl rfl (by simp only [postL, isCallV, SL]; exact rfl) fun K2 hK2 => ?_)
       simp (disch := omega) only [SL, evalOps, evalOp, evalG, isPure, gdB, ung, pickG, gv, pt, cv, retV, biV, lenV, boT, bo, intBo, strBo, boolBo, isSh, uo, pickV, nilV, extV, ixOf, mkfV, mmV, mm, preL, postL, isCallV, boxS, cellsV, allocS, storeS, loadV, readT, ptrCells, ofs, fieldAddrV, fieldV, wr, buildV, fillA, buildSliceV, chunks, tagCut, indexV, indexAddrV, sliceV, sliceStr, sliceSl, bnd, if_true, if_false, ite_true, ite_false, and_self, and_true, true_and, beq_self_eq_true, nn, nc0, nc1, nc2, nc3, nc4, nc8, nc10, nc32, Int.toNat_natCast, eq_self, decide_true, decide_false, reduceIte, Nat.reduceAdd, Nat.reduceMul, Nat.reduceSub, Nat.reduceLeDiff, Nat.reduceLT, Nat.reduceEqDiff, Nat.reduceMod, Int.reduceBEq, Int.reduceBNe, Int.reduceNeg, Int.reduceNegSucc, Int.reduceLT, Int.reduceLE, Int.reduceToNat, F9, if_pos]
       refine ⟨_, _, rfl, ?_⟩
       refine hK2 _ _ ?_
       clear hK2 K2)
  refine AWP_cond rfl (fun h => ?_) (fun h => ?_)
  · repeat first
      | (with_reducible first
          | refine AWP_seq ?_ | refine then_n ?_ | refine then_r ?_ | refine then_x ?_ | refine AWP_block ?_ | refine blk_n ?_ | refine blk_r ?_ | refine blk_x ?_ | refine blk_y rfl ?_ | refine AWP_skip ?_
          | refine AWP_ret ?_ | refine AWP_exit ?_ | refine AWP_true rfl ?_ | refine AWP_false rfl ?_ | refine AOps_nil ?_ | refine LexA_nil ?_ | refine AWP_region ?_ | refine AWP_draw mixed_ok (by kernel_rfl) ?_)
      | ((first
          | refine AOps_pre rfl (by simp only [postL, isCallV, SL]; exact rfl) fun K2 hK2 => ?_
          | refine LexA_pre rfl rfl (by simp only [postL, isCallV, SL]; exact rfl) fun K2 hK2 => ?_)
         simp (disch := omega) only [SL, evalOps, evalOp, evalG, isPure, gdB, ung, pickG, gv, pt, cv, retV, biV, lenV, boT, bo, intBo, strBo, boolBo, isSh, uo, pickV, nilV, extV, ixOf, mkfV, mmV, mm, preL, postL, isCallV, boxS, cellsV, allocS, storeS, loadV, readT, ptrCells, ofs, fieldAddrV, fieldV, wr, buildV, fillA, buildSliceV, chunks, tagCut, indexV, indexAddrV, sliceV, sliceStr, sliceSl, bnd, if_true, if_false, ite_true, ite_false, and_self, and_true, true_and, beq_self_eq_true, nn, nc0, nc1, nc2, nc3, nc4, nc8, nc10, nc32, Int.toNat_natCast, eq_self, decide_true, decide_false, reduceIte, Nat.reduceAdd, Nat.reduceMul, Nat.reduceSub, Nat.reduceLeDiff, Nat.reduceLT, Nat.reduceEqDiff, Nat.reduceMod, Int.reduceBEq, Int.reduceBNe, Int.reduceNeg, Int.reduceNegSucc, Int.reduceLT, Int.reduceLE, Int.reduceToNat, F9, if_pos]
         refine ⟨_, _, rfl, ?_⟩
         refine hK2 _ _ ?_
         clear hK2 K2)
    refine body_r (by simp only [resA, ptrCells, readT, if_true, SL, Nat.reduceAdd, Nat.reduceLeDiff, F9]; exact rfl) ?_
    dsimp only [outV]
    refine ⟨?_, rfl⟩
    have : (!s.isEmpty && decide (s.length ≤ 16)) = false := by
      cases s with
      | nil => rfl
      | cons a l => simp at h ⊢; omega
    simp [mark, this]
  · have h0 : s.isEmpty = false ∧ s.length ≤ 16 ∧ 0 < s.length := by
      cases s with
      | nil => simp at h
      | cons a l => simp at h ⊢; omega
    obtain ⟨h0, h1, h2⟩ := h0
    repeat first
      | (with_reducible first
          | refine AWP_seq ?_ | refine then_n ?_ | refine then_r ?_ | refine then_x ?_ | refine AWP_block ?_ | refine blk_n ?_ | refine blk_r ?_ | refine blk_x ?_ | refine blk_y rfl ?_ | refine AWP_skip ?_
          | refine AWP_ret ?_ | refine AWP_exit ?_ | refine AWP_true rfl ?_ | refine AWP_false rfl ?_ | refine AOps_nil ?_ | refine LexA_nil ?_ | refine AWP_region ?_ | refine AWP_draw mixed_ok (by kernel_rfl) ?_)
      | ((first
          | refine AOps_pre rfl (by simp only [postL, isCallV, SL]; exact rfl) fun K2 hK2 => ?_
          | refine LexA_pre rfl rfl (by simp only [postL, isCallV, SL]; exact rfl) fun K2 hK2 => ?_)
         simp (disch := omega) only [SL, evalOps, evalOp, evalG, isPure, gdB, ung, pickG, gv, pt, cv, retV, biV, lenV, boT, bo, intBo, strBo, boolBo, isSh, uo, pickV, nilV, extV, ixOf, mkfV, mmV, mm, preL, postL, isCallV, boxS, cellsV, allocS, storeS, loadV, readT, ptrCells, ofs, fieldAddrV, fieldV, wr, buildV, fillA, buildSliceV, chunks, tagCut, indexV, indexAddrV, sliceV, sliceStr, sliceSl, bnd, if_true, if_false, ite_true, ite_false, and_self, and_true, true_and, beq_self_eq_true, nn, nc0, nc1, nc2, nc3, nc4, nc8, nc10, nc32, Int.toNat_natCast, eq_self, decide_true, decide_false, reduceIte, Nat.reduceAdd, Nat.reduceMul, Nat.reduceSub, Nat.reduceLeDiff, Nat.reduceLT, Nat.reduceEqDiff, Nat.reduceMod, Int.reduceBEq, Int.reduceBNe, Int.reduceNeg, Int.reduceNegSucc, Int.reduceLT, Int.reduceLE, Int.reduceToNat, F9, if_pos]
         refine ⟨_, _, rfl, ?_⟩
         refine hK2 _ _ ?_
         clear hK2 K2)
    refine AWP_loop (α := { k : Nat // k ≤ s.length ∧ ∀ c ∈ s.take k, sgn c = true }) (fun k => [.str s, .junk, .bool false, .int .i64 (k.1 : Int), .junk, .junk, .junk, .junk, .junk, .junk, .junk, .junk, .junk, .junk, .junk, .junk, .junk, .junk, .junk, .junk, .junk, .junk, .junk, .junk, .junk, .junk, .junk, .junk, .junk, .junk, .junk, .junk, .junk, .junk, .junk, .junk, .junk, .junk, .junk, .junk, .junk, .junk, .junk, .junk, .junk, .junk, .junk, .junk, .junk, .junk, .junk, .junk, .junk, .junk, .junk, .junk, .junk, .junk, .junk, .junk, .junk]) (fun _ => σ) (fun k => s.length - k.1) ⟨0, by omega, by simp⟩ (.same ?_) (fun _ => Nat.le_refl _) ?_
    · (repeat' (first | exact trivial | refine And.intro ?_ ?_)
       all_goals first | with_reducible exact Vle.junk _ | with_reducible exact Vle.refl _ | exact Vle.refl _ | exact Vle.ro _ _)
    · rintro ⟨k, hk, hd⟩
      repeat first
        | (with_reducible first
            | refine AWP_seq ?_ | refine then_n ?_ | refine then_r ?_ | refine then_x ?_ | refine AWP_block ?_ | refine blk_n ?_ | refine blk_r ?_ | refine blk_x ?_ | refine blk_y rfl ?_ | refine AWP_skip ?_
            | refine AWP_ret ?_ | refine AWP_exit ?_ | refine AWP_true rfl ?_ | refine AWP_false rfl ?_ | refine AOps_nil ?_ | refine LexA_nil ?_ | refine AWP_region ?_ | refine AWP_draw mixed_ok (by kernel_rfl) ?_)
        | ((first
            | refine AOps_pre rfl (by simp only [postL, isCallV, SL]; exact rfl) fun K2 hK2 => ?_
            | refine LexA_pre rfl rfl (by simp only [postL, isCallV, SL]; exact rfl) fun K2 hK2 => ?_)
           simp (disch := omega) only [SL, evalOps, evalOp, evalG, isPure, gdB, ung, pickG, gv, pt, cv, retV, biV, lenV, boT, bo, intBo, strBo, boolBo, isSh, uo, pickV, nilV, extV, ixOf, mkfV, mmV, mm, preL, postL, isCallV, boxS, cellsV, allocS, storeS, loadV, readT, ptrCells, ofs, fieldAddrV, fieldV, wr, buildV, fillA, buildSliceV, chunks, tagCut, indexV, indexAddrV, sliceV, sliceStr, sliceSl, bnd, if_true, if_false, ite_true, ite_false, and_self, and_true, true_and, beq_self_eq_true, nn, nc0, nc1, nc2, nc3, nc4, nc8, nc10, nc32, Int.toNat_natCast, eq_self, decide_true, decide_false, reduceIte, Nat.reduceAdd, Nat.reduceMul, Nat.reduceSub, Nat.reduceLeDiff, Nat.reduceLT, Nat.reduceEqDiff, Nat.reduceMod, Int.reduceBEq, Int.reduceBNe, Int.reduceNeg, Int.reduceNegSucc, Int.reduceLT, Int.reduceLE, Int.reduceToNat, F9, if_pos]
           refine ⟨_, _, rfl, ?_⟩
           refine hK2 _ _ ?_
           clear hK2 K2)
      refine AWP_cond rfl (fun h => ?_) (fun h => ?_)
      · have hlt : k < s.length := by simpa using h
        repeat first
          | (with_reducible first
              | refine AWP_seq ?_ | refine then_n ?_ | refine then_r ?_ | refine then_x ?_ | refine AWP_block ?_ | refine blk_n ?_ | refine blk_r ?_ | refine blk_x ?_ | refine blk_y rfl ?_ | refine AWP_skip ?_
              | refine AWP_ret ?_ | refine AWP_exit ?_ | refine AWP_true rfl ?_ | refine AWP_false rfl ?_ | refine AOps_nil ?_ | refine LexA_nil ?_ | refine AWP_region ?_ | refine AWP_draw mixed_ok (by kernel_rfl) ?_)
          | ((first
              | refine AOps_pre rfl (by simp only [postL, isCallV, SL]; exact rfl) fun K2 hK2 => ?_
              | refine LexA_pre rfl rfl (by simp only [postL, isCallV, SL]; exact rfl) fun K2 hK2 => ?_)
             simp (disch := omega) only [SL, evalOps, evalOp, evalG, isPure, gdB, ung, pickG, gv, pt, cv, retV, biV, lenV, boT, bo, intBo, strBo, boolBo, isSh, uo, pickV, nilV, extV, ixOf, mkfV, mmV, mm, preL, postL, isCallV, boxS, cellsV, allocS, storeS, loadV, readT, ptrCells, ofs, fieldAddrV, fieldV, wr, buildV, fillA, buildSliceV, chunks, tagCut, indexV, indexAddrV, sliceV, sliceStr, sliceSl, bnd, if_true, if_false, ite_true, ite_false, and_self, and_true, true_and, beq_self_eq_true, nn, nc0, nc1, nc2, nc3, nc4, nc8, nc10, nc32, Int.toNat_natCast, eq_self, decide_true, decide_false, reduceIte, Nat.reduceAdd, Nat.reduceMul, Nat.reduceSub, Nat.reduceLeDiff, Nat.reduceLT, Nat.reduceEqDiff, Nat.reduceMod, Int.reduceBEq, Int.reduceBNe, Int.reduceNeg, Int.reduceNegSucc, Int.reduceLT, Int.reduceLE, Int.reduceToNat, F9, hlt, if_pos]
             refine ⟨_, _, rfl, ?_⟩
             refine hK2 _ _ ?_
             clear hK2 K2)
        refine AWP_cond rfl (fun h => ?_) (fun h => ?_)
        · repeat first
            | (with_reducible first
                | refine AWP_seq ?_ | refine then_n ?_ | refine then_r ?_ | refine then_x ?_ | refine AWP_block ?_ | refine blk_n ?_ | refine blk_r ?_ | refine blk_x ?_ | refine blk_y rfl ?_ | refine AWP_skip ?_
                | refine AWP_ret ?_ | refine AWP_exit ?_ | refine AWP_true rfl ?_ | refine AWP_false rfl ?_ | refine AOps_nil ?_ | refine LexA_nil ?_ | refine AWP_region ?_ | refine AWP_draw mixed_ok (by kernel_rfl) ?_)
            | ((first
                | refine AOps_pre rfl (by simp only [postL, isCallV, SL]; exact rfl) fun K2 hK2 => ?_
                | refine LexA_pre rfl rfl (by simp only [postL, isCallV, SL]; exact rfl) fun K2 hK2 => ?_)
               simp (disch := omega) only [SL, evalOps, evalOp, evalG, isPure, gdB, ung, pickG, gv, pt, cv, retV, biV, lenV, boT, bo, intBo, strBo, boolBo, isSh, uo, pickV, nilV, extV, ixOf, mkfV, mmV, mm, preL, postL, isCallV, boxS, cellsV, allocS, storeS, loadV, readT, ptrCells, ofs, fieldAddrV, fieldV, wr, buildV, fillA, buildSliceV, chunks, tagCut, indexV, indexAddrV, sliceV, sliceStr, sliceSl, bnd, if_true, if_false, ite_true, ite_false, and_self, and_true, true_and, beq_self_eq_true, nn, nc0, nc1, nc2, nc3, nc4, nc8, nc10, nc32, Int.toNat_natCast, eq_self, decide_true, decide_false, reduceIte, Nat.reduceAdd, Nat.reduceMul, Nat.reduceSub, Nat.reduceLeDiff, Nat.reduceLT, Nat.reduceEqDiff, Nat.reduceMod, Int.reduceBEq, Int.reduceBNe, Int.reduceNeg, Int.reduceNegSucc, Int.reduceLT, Int.reduceLE, Int.reduceToNat, F9, if_pos]
               refine ⟨_, _, rfl, ?_⟩
               refine hK2 _ _ ?_
               clear hK2 K2)
          refine body_r (by simp only [resA, ptrCells, readT, if_true, SL, Nat.reduceAdd, Nat.reduceLeDiff, F9]; exact rfl) ?_
          dsimp only [outV]
          refine ⟨?_, rfl⟩
          have : s.all sgn = false := not_all hlt (by rw [sgn_eq]; simp at h ⊢; omega)
          simp [mark, this]
        · repeat first
            | (with_reducible first
                | refine AWP_seq ?_ | refine then_n ?_ | refine then_r ?_ | refine then_x ?_ | refine AWP_block ?_ | refine blk_n ?_ | refine blk_r ?_ | refine blk_x ?_ | refine blk_y rfl ?_ | refine AWP_skip ?_
                | refine AWP_ret ?_ | refine AWP_exit ?_ | refine AWP_true rfl ?_ | refine AWP_false rfl ?_ | refine AOps_nil ?_ | refine LexA_nil ?_ | refine AWP_region ?_ | refine AWP_draw mixed_ok (by kernel_rfl) ?_)
            | ((first
                | refine AOps_pre rfl (by simp only [postL, isCallV, SL]; exact rfl) fun K2 hK2 => ?_
                | refine LexA_pre rfl rfl (by simp only [postL, isCallV, SL]; exact rfl) fun K2 hK2 => ?_)
               simp (disch := omega) only [SL, evalOps, evalOp, evalG, isPure, gdB, ung, pickG, gv, pt, cv, retV, biV, lenV, boT, bo, intBo, strBo, boolBo, isSh, uo, pickV, nilV, extV, ixOf, mkfV, mmV, mm, preL, postL, isCallV, boxS, cellsV, allocS, storeS, loadV, readT, ptrCells, ofs, fieldAddrV, fieldV, wr, buildV, fillA, buildSliceV, chunks, tagCut, indexV, indexAddrV, sliceV, sliceStr, sliceSl, bnd, if_true, if_false, ite_true, ite_false, and_self, and_true, true_and, beq_self_eq_true, nn, nc0, nc1, nc2, nc3, nc4, nc8, nc10, nc32, Int.toNat_natCast, eq_self, decide_true, decide_false, reduceIte, Nat.reduceAdd, Nat.reduceMul, Nat.reduceSub, Nat.reduceLeDiff, Nat.reduceLT, Nat.reduceEqDiff, Nat.reduceMod, Int.reduceBEq, Int.reduceBNe, Int.reduceNeg, Int.reduceNegSucc, Int.reduceLT, Int.reduceLE, Int.reduceToNat, F9, if_pos]
               refine ⟨_, _, rfl, ?_⟩
               refine hK2 _ _ ?_
               clear hK2 K2)
          refine ⟨⟨k + 1, by omega, take_all hlt hd (by rw [sgn_eq]; simp at h ⊢; omega)⟩, by simp; omega, .same ?_⟩
          rw [wrap_in (by omega) (by omega)]
          (repeat' (first | exact trivial | refine And.intro ?_ ?_)
           all_goals first | with_reducible exact Vle.junk _ | with_reducible exact Vle.refl _ | exact Vle.refl _ | exact Vle.ro _ _)
      · have : s.all sgn = true := all_of_take (by have : ¬ k < s.length := by simpa using h
                                                   omega) hd
        repeat first
          | (with_reducible first
              | refine AWP_seq ?_ | refine then_n ?_ | refine then_r ?_ | refine then_x ?_ | refine AWP_block ?_ | refine blk_n ?_ | refine blk_r ?_ | refine blk_x ?_ | refine blk_y rfl ?_ | refine AWP_skip ?_
              | refine AWP_ret ?_ | refine AWP_exit ?_ | refine AWP_true rfl ?_ | refine AWP_false rfl ?_ | refine AOps_nil ?_ | refine LexA_nil ?_ | refine AWP_region ?_ | refine AWP_draw mixed_ok (by kernel_rfl) ?_)
          | ((first
              | refine AOps_pre rfl (by simp only [postL, isCallV, SL]; exact rfl) fun K2 hK2 => ?_
              | refine LexA_pre rfl rfl (by simp only [postL, isCallV, SL]; exact rfl) fun K2 hK2 => ?_)
             simp (disch := omega) only [SL, evalOps, evalOp, evalG, isPure, gdB, ung, pickG, gv, pt, cv, retV, biV, lenV, boT, bo, intBo, strBo, boolBo, isSh, uo, pickV, nilV, extV, ixOf, mkfV, mmV, mm, preL, postL, isCallV, boxS, cellsV, allocS, storeS, loadV, readT, ptrCells, ofs, fieldAddrV, fieldV, wr, buildV, fillA, buildSliceV, chunks, tagCut, indexV, indexAddrV, sliceV, sliceStr, sliceSl, bnd, if_true, if_false, ite_true, ite_false, and_self, and_true, true_and, beq_self_eq_true, nn, nc0, nc1, nc2, nc3, nc4, nc8, nc10, nc32, Int.toNat_natCast, eq_self, decide_true, decide_false, reduceIte, Nat.reduceAdd, Nat.reduceMul, Nat.reduceSub, Nat.reduceLeDiff, Nat.reduceLT, Nat.reduceEqDiff, Nat.reduceMod, Int.reduceBEq, Int.reduceBNe, Int.reduceNeg, Int.reduceNegSucc, Int.reduceLT, Int.reduceLE, Int.reduceToNat, F9, if_pos]
             refine ⟨_, _, rfl, ?_⟩
             refine hK2 _ _ ?_
             clear hK2 K2)
        first
          | refine AOps_callU (rdigits_ok s σ hs) rfl rfl rfl rfl (by first | rfl | (simp only [gv, ung, cv, SL]; done) | (simp only [gv, ung, cv, SL]; exact rfl)) ?_
          | refine AOps_callG rfl (fun hg => rdigits_ok s σ hs) rfl rfl rfl (by first | rfl | (simp only [gv, ung, cv, SL]; done) | (simp only [gv, ung, cv, SL]; exact rfl)) ?_
          | refine LexA_callU (rdigits_ok s σ hs) rfl rfl rfl rfl (by first | rfl | (simp only [gv, ung, cv, SL]; done) | (simp only [gv, ung, cv, SL]; exact rfl)) ?_
          | refine LexA_callG rfl (fun hg => rdigits_ok s σ hs) rfl rfl rfl (by first | rfl | (simp only [gv, ung, cv, SL]; done) | (simp only [gv, ung, cv, SL]; exact rfl)) ?_
        simp only [pt, SL]
        repeat first
          | (with_reducible first
              | refine AWP_seq ?_ | refine then_n ?_ | refine then_r ?_ | refine then_x ?_ | refine AWP_block ?_ | refine blk_n ?_ | refine blk_r ?_ | refine blk_x ?_ | refine blk_y rfl ?_ | refine AWP_skip ?_
              | refine AWP_ret ?_ | refine AWP_exit ?_ | refine AWP_true rfl ?_ | refine AWP_false rfl ?_ | refine AOps_nil ?_ | refine LexA_nil ?_ | refine AWP_region ?_ | refine AWP_draw mixed_ok (by kernel_rfl) ?_)
          | ((first
              | refine AOps_pre rfl (by simp only [postL, isCallV, SL]; exact rfl) fun K2 hK2 => ?_
              | refine LexA_pre rfl rfl (by simp only [postL, isCallV, SL]; exact rfl) fun K2 hK2 => ?_)
             simp (disch := omega) only [SL, evalOps, evalOp, evalG, isPure, gdB, ung, pickG, gv, pt, cv, retV, biV, lenV, boT, bo, intBo, strBo, boolBo, isSh, uo, pickV, nilV, extV, ixOf, mkfV, mmV, mm, preL, postL, isCallV, boxS, cellsV, allocS, storeS, loadV, readT, ptrCells, ofs, fieldAddrV, fieldV, wr, buildV, fillA, buildSliceV, chunks, tagCut, indexV, indexAddrV, sliceV, sliceStr, sliceSl, bnd, if_true, if_false, ite_true, ite_false, and_self, and_true, true_and, beq_self_eq_true, nn, nc0, nc1, nc2, nc3, nc4, nc8, nc10, nc32, Int.toNat_natCast, eq_self, decide_true, decide_false, reduceIte, Nat.reduceAdd, Nat.reduceMul, Nat.reduceSub, Nat.reduceLeDiff, Nat.reduceLT, Nat.reduceEqDiff, Nat.reduceMod, Int.reduceBEq, Int.reduceBNe, Int.reduceNeg, Int.reduceNegSucc, Int.reduceLT, Int.reduceLE, Int.reduceToNat, F9, h2, if_pos]
             refine ⟨_, _, rfl, ?_⟩
             refine hK2 _ _ ?_
             clear hK2 K2)
        refine body_r (by simp only [resA, ptrCells, readT, if_true, SL, Nat.reduceAdd, Nat.reduceLeDiff, F9]; exact rfl) ?_
        dsimp only [outV]
        refine ⟨?_, rfl⟩
        congr 2
        rw [mark, this, h0]
        have e : (s == [48]) = (s.length == 1 && s.getD 0 0 == 48) := by
          match s with
          | [] => rfl
          | [a] => simp
          | a :: b :: l => simp
        rw [e]
        cases hd1 : digits s
        · simp [h1]
        · unfold plain
          have : (((s.getD 0 0).toNat : Int) != 48) = (s.getD 0 0 != 48) := by rw [Bool.eq_iff_iff]; simp [← UInt8.toNat_inj]; omega
          rw [this]
          cases s.length == 1 <;> cases hq : s.getD 0 0 == 48 <;> simp_all
theorem cmp_ok (a b : Int) (σ : List AE) : Gives Tryd.prog 40 [.int .i64 a, .int .i64 b] σ (.int .i64 (if a < b then -1 else if b < a then 1 else 0)) := by
  refine ACalls_body Tryd.func40 rfl rfl ?_
  simp only [Tryd.ntmps40, Tryd.results40, List.length_cons, List.length_nil, Nat.reduceAdd, Nat.reduceSub, List.replicate_succ, List.replicate_zero, List.cons_append, List.nil_append, List.toList_toArray]
  repeat first
    | (with_reducible first
        | refine AWP_seq ?_ | refine then_n ?_ | refine then_r ?_ | refine then_x ?_ | refine AWP_block ?_ | refine blk_n ?_ | refine blk_r ?_ | refine blk_x ?_ | refine blk_y rfl ?_ | refine AWP_skip ?_
        | refine AWP_ret ?_ | refine AWP_exit ?_ | refine AWP_true rfl ?_ | refine AWP_false rfl ?_ | refine AOps_nil ?_ | refine LexA_nil ?_ | refine AWP_region ?_ | refine AWP_draw mixed_ok (by kernel_rfl) ?_)
    | ((first
        | refine AOps_pre rfl (by simp only [postL, isCallV, SL]; exact rfl) fun K2 hK2 => ?_
        | refine LexA_pre rfl rfl (by simp only [postL, isCallV, SL]; exact rfl) fun K2 hK2 => ?_)
       simp (disch := omega) only [SL, evalOps, evalOp, evalG, isPure, gdB, ung, pickG, gv, pt, cv, retV, biV, lenV, boT, bo, intBo, strBo, boolBo, isSh, uo, pickV, nilV, extV, ixOf, mkfV, mmV, mm, preL, postL, isCallV, boxS, cellsV, allocS, storeS, loadV, readT, ptrCells, ofs, fieldAddrV, fieldV, wr, buildV, fillA, buildSliceV, chunks, tagCut, indexV, indexAddrV, sliceV, sliceStr, sliceSl, bnd, if_true, if_false, ite_true, ite_false, and_self, and_true, true_and, beq_self_eq_true, nn, nc0, nc1, nc2, nc3, nc4, nc8, nc10, nc32, Int.toNat_natCast, eq_self, decide_true, decide_false, reduceIte, Nat.reduceAdd, Nat.reduceMul, Nat.reduceSub, Nat.reduceLeDiff, Nat.reduceLT, Nat.reduceEqDiff, Nat.reduceMod, Int.reduceBEq, Int.reduceBNe, Int.reduceNeg, Int.reduceNegSucc, Int.reduceLT, Int.reduceLE, Int.reduceToNat, F3, if_pos]
       refine ⟨_, _, rfl, ?_⟩
       refine hK2 _ _ ?_
       clear hK2 K2)
  refine AWP_cond rfl (fun h => ?_) (fun h => ?_)
  · repeat first
      | (with_reducible first
          | refine AWP_seq ?_ | refine then_n ?_ | refine then_r ?_ | refine then_x ?_ | refine AWP_block ?_ | refine blk_n ?_ | refine blk_r ?_ | refine blk_x ?_ | refine blk_y rfl ?_ | refine AWP_skip ?_
          | refine AWP_ret ?_ | refine AWP_exit ?_ | refine AWP_true rfl ?_ | refine AWP_false rfl ?_ | refine AOps_nil ?_ | refine LexA_nil ?_ | refine AWP_region ?_ | refine AWP_draw mixed_ok (by kernel_rfl) ?_)
      | ((first
          | refine AOps_pre rfl (by simp only [postL, isCallV, SL]; exact rfl) fun K2 hK2 => ?_
          | refine LexA_pre rfl rfl (by simp only [postL, isCallV, SL]; exact rfl) fun K2 hK2 => ?_)
         simp (disch := omega) only [SL, evalOps, evalOp, evalG, isPure, gdB, ung, pickG, gv, pt, cv, retV, biV, lenV, boT, bo, intBo, strBo, boolBo, isSh, uo, pickV, nilV, extV, ixOf, mkfV, mmV, mm, preL, postL, isCallV, boxS, cellsV, allocS, storeS, loadV, readT, ptrCells, ofs, fieldAddrV, fieldV, wr, buildV, fillA, buildSliceV, chunks, tagCut, indexV, indexAddrV, sliceV, sliceStr, sliceSl, bnd, if_true, if_false, ite_true, ite_false, and_self, and_true, true_and, beq_self_eq_true, nn, nc0, nc1, nc2, nc3, nc4, nc8, nc10, nc32, Int.toNat_natCast, eq_self, decide_true, decide_false, reduceIte, Nat.reduceAdd, Nat.reduceMul, Nat.reduceSub, Nat.reduceLeDiff, Nat.reduceLT, Nat.reduceEqDiff, Nat.reduceMod, Int.reduceBEq, Int.reduceBNe, Int.reduceNeg, Int.reduceNegSucc, Int.reduceLT, Int.reduceLE, Int.reduceToNat, F3, if_pos]
         refine ⟨_, _, rfl, ?_⟩
         refine hK2 _ _ ?_
         clear hK2 K2)
    refine body_r (by simp only [resA, ptrCells, readT, if_true, SL, Nat.reduceAdd, Nat.reduceLeDiff, F3]; exact rfl) ?_
    dsimp only [outV]
    refine ⟨?_, rfl⟩
    simp_all
  · have h1 := h
    repeat first
      | (with_reducible first
          | refine AWP_seq ?_ | refine then_n ?_ | refine then_r ?_ | refine then_x ?_ | refine AWP_block ?_ | refine blk_n ?_ | refine blk_r ?_ | refine blk_x ?_ | refine blk_y rfl ?_ | refine AWP_skip ?_
          | refine AWP_ret ?_ | refine AWP_exit ?_ | refine AWP_true rfl ?_ | refine AWP_false rfl ?_ | refine AOps_nil ?_ | refine LexA_nil ?_ | refine AWP_region ?_ | refine AWP_draw mixed_ok (by kernel_rfl) ?_)
      | ((first
          | refine AOps_pre rfl (by simp only [postL, isCallV, SL]; exact rfl) fun K2 hK2 => ?_
          | refine LexA_pre rfl rfl (by simp only [postL, isCallV, SL]; exact rfl) fun K2 hK2 => ?_)
         simp (disch := omega) only [SL, evalOps, evalOp, evalG, isPure, gdB, ung, pickG, gv, pt, cv, retV, biV, lenV, boT, bo, intBo, strBo, boolBo, isSh, uo, pickV, nilV, extV, ixOf, mkfV, mmV, mm, preL, postL, isCallV, boxS, cellsV, allocS, storeS, loadV, readT, ptrCells, ofs, fieldAddrV, fieldV, wr, buildV, fillA, buildSliceV, chunks, tagCut, indexV, indexAddrV, sliceV, sliceStr, sliceSl, bnd, if_true, if_false, ite_true, ite_false, and_self, and_true, true_and, beq_self_eq_true, nn, nc0, nc1, nc2, nc3, nc4, nc8, nc10, nc32, Int.toNat_natCast, eq_self, decide_true, decide_false, reduceIte, Nat.reduceAdd, Nat.reduceMul, Nat.reduceSub, Nat.reduceLeDiff, Nat.reduceLT, Nat.reduceEqDiff, Nat.reduceMod, Int.reduceBEq, Int.reduceBNe, Int.reduceNeg, Int.reduceNegSucc, Int.reduceLT, Int.reduceLE, Int.reduceToNat, F3, if_pos]
         refine ⟨_, _, rfl, ?_⟩
         refine hK2 _ _ ?_
         clear hK2 K2)
    refine AWP_cond rfl (fun h => ?_) (fun h => ?_)
    · repeat first
        | (with_reducible first
            | refine AWP_seq ?_ | refine then_n ?_ | refine then_r ?_ | refine then_x ?_ | refine AWP_block ?_ | refine blk_n ?_ | refine blk_r ?_ | refine blk_x ?_ | refine blk_y rfl ?_ | refine AWP_skip ?_
            | refine AWP_ret ?_ | refine AWP_exit ?_ | refine AWP_true rfl ?_ | refine AWP_false rfl ?_ | refine AOps_nil ?_ | refine LexA_nil ?_ | refine AWP_region ?_ | refine AWP_draw mixed_ok (by kernel_rfl) ?_)
        | ((first
            | refine AOps_pre rfl (by simp only [postL, isCallV, SL]; exact rfl) fun K2 hK2 => ?_
            | refine LexA_pre rfl rfl (by simp only [postL, isCallV, SL]; exact rfl) fun K2 hK2 => ?_)
           simp (disch := omega) only [SL, evalOps, evalOp, evalG, isPure, gdB, ung, pickG, gv, pt, cv, retV, biV, lenV, boT, bo, intBo, strBo, boolBo, isSh, uo, pickV, nilV, extV, ixOf, mkfV, mmV, mm, preL, postL, isCallV, boxS, cellsV, allocS, storeS, loadV, readT, ptrCells, ofs, fieldAddrV, fieldV, wr, buildV, fillA, buildSliceV, chunks, tagCut, indexV, indexAddrV, sliceV, sliceStr, sliceSl, bnd, if_true, if_false, ite_true, ite_false, and_self, and_true, true_and, beq_self_eq_true, nn, nc0, nc1, nc2, nc3, nc4, nc8, nc10, nc32, Int.toNat_natCast, eq_self, decide_true, decide_false, reduceIte, Nat.reduceAdd, Nat.reduceMul, Nat.reduceSub, Nat.reduceLeDiff, Nat.reduceLT, Nat.reduceEqDiff, Nat.reduceMod, Int.reduceBEq, Int.reduceBNe, Int.reduceNeg, Int.reduceNegSucc, Int.reduceLT, Int.reduceLE, Int.reduceToNat, F3, if_pos]
           refine ⟨_, _, rfl, ?_⟩
           refine hK2 _ _ ?_
           clear hK2 K2)
      refine body_r (by simp only [resA, ptrCells, readT, if_true, SL, Nat.reduceAdd, Nat.reduceLeDiff, F3]; exact rfl) ?_
      dsimp only [outV]
      refine ⟨?_, rfl⟩
      simp_all
    · repeat first
        | (with_reducible first
            | refine AWP_seq ?_ | refine then_n ?_ | refine then_r ?_ | refine then_x ?_ | refine AWP_block ?_ | refine blk_n ?_ | refine blk_r ?_ | refine blk_x ?_ | refine blk_y rfl ?_ | refine AWP_skip ?_
            | refine AWP_ret ?_ | refine AWP_exit ?_ | refine AWP_true rfl ?_ | refine AWP_false rfl ?_ | refine AOps_nil ?_ | refine LexA_nil ?_ | refine AWP_region ?_ | refine AWP_draw mixed_ok (by kernel_rfl) ?_)
        | ((first
            | refine AOps_pre rfl (by simp only [postL, isCallV, SL]; exact rfl) fun K2 hK2 => ?_
            | refine LexA_pre rfl rfl (by simp only [postL, isCallV, SL]; exact rfl) fun K2 hK2 => ?_)
           simp (disch := omega) only [SL, evalOps, evalOp, evalG, isPure, gdB, ung, pickG, gv, pt, cv, retV, biV, lenV, boT, bo, intBo, strBo, boolBo, isSh, uo, pickV, nilV, extV, ixOf, mkfV, mmV, mm, preL, postL, isCallV, boxS, cellsV, allocS, storeS, loadV, readT, ptrCells, ofs, fieldAddrV, fieldV, wr, buildV, fillA, buildSliceV, chunks, tagCut, indexV, indexAddrV, sliceV, sliceStr, sliceSl, bnd, if_true, if_false, ite_true, ite_false, and_self, and_true, true_and, beq_self_eq_true, nn, nc0, nc1, nc2, nc3, nc4, nc8, nc10, nc32, Int.toNat_natCast, eq_self, decide_true, decide_false, reduceIte, Nat.reduceAdd, Nat.reduceMul, Nat.reduceSub, Nat.reduceLeDiff, Nat.reduceLT, Nat.reduceEqDiff, Nat.reduceMod, Int.reduceBEq, Int.reduceBNe, Int.reduceNeg, Int.reduceNegSucc, Int.reduceLT, Int.reduceLE, Int.reduceToNat, F3, if_pos]
           refine ⟨_, _, rfl, ?_⟩
           refine hK2 _ _ ?_
           clear hK2 K2)
      refine body_r (by simp only [resA, ptrCells, readT, if_true, SL, Nat.reduceAdd, Nat.reduceLeDiff, F3]; exact rfl) ?_
      dsimp only [outV]
      refine ⟨?_, rfl⟩
      simp at h h1
      rw [if_neg (by omega), if_neg (by omega)]
def ltB (a b : List UInt8) : Bool := Op.bytesLess a b
def cmpB (a b : List UInt8) : Int := if ltB a b then -1 else if !(ltB a b || a == b) then 1 else 0
theorem text_ok (a b : List UInt8) (σ : List AE) : Gives Tryd.prog 43 [.str a, .str b] σ (.int .i64 (cmpB a b)) := by
  refine ACalls_body Tryd.func43 rfl rfl ?_
  simp only [Tryd.ntmps43, Tryd.results43, List.length_cons, List.length_nil, Nat.reduceAdd, Nat.reduceSub, List.replicate_succ, List.replicate_zero, List.cons_append, List.nil_append, List.toList_toArray]
  repeat first
    | (with_reducible first
        | refine AWP_seq ?_ | refine then_n ?_ | refine then_r ?_ | refine then_x ?_ | refine AWP_block ?_ | refine blk_n ?_ | refine blk_r ?_ | refine blk_x ?_ | refine blk_y rfl ?_ | refine AWP_skip ?_
        | refine AWP_ret ?_ | refine AWP_exit ?_ | refine AWP_true rfl ?_ | refine AWP_false rfl ?_ | refine AOps_nil ?_ | refine LexA_nil ?_ | refine AWP_region ?_ | refine AWP_draw mixed_ok (by kernel_rfl) ?_)
    | ((first
        | refine AOps_pre rfl (by simp only [postL, isCallV, SL]; exact rfl) fun K2 hK2 => ?_
        | refine LexA_pre rfl rfl (by simp only [postL, isCallV, SL]; exact rfl) fun K2 hK2 => ?_)
       simp (disch := omega) only [SL, evalOps, evalOp, evalG, isPure, gdB, ung, pickG, gv, pt, cv, retV, biV, lenV, boT, bo, intBo, strBo, boolBo, isSh, uo, pickV, nilV, extV, ixOf, mkfV, mmV, mm, preL, postL, isCallV, boxS, cellsV, allocS, storeS, loadV, readT, ptrCells, ofs, fieldAddrV, fieldV, wr, buildV, fillA, buildSliceV, chunks, tagCut, indexV, indexAddrV, sliceV, sliceStr, sliceSl, bnd, if_true, if_false, ite_true, ite_false, and_self, and_true, true_and, beq_self_eq_true, nn, nc0, nc1, nc2, nc3, nc4, nc8, nc10, nc32, Int.toNat_natCast, eq_self, decide_true, decide_false, reduceIte, Nat.reduceAdd, Nat.reduceMul, Nat.reduceSub, Nat.reduceLeDiff, Nat.reduceLT, Nat.reduceEqDiff, Nat.reduceMod, Int.reduceBEq, Int.reduceBNe, Int.reduceNeg, Int.reduceNegSucc, Int.reduceLT, Int.reduceLE, Int.reduceToNat, F9, if_pos]
       refine ⟨_, _, rfl, ?_⟩
       refine hK2 _ _ ?_
       clear hK2 K2)
  refine AWP_cond rfl (fun h => ?_) (fun h => ?_)
  · repeat first
      | (with_reducible first
          | refine AWP_seq ?_ | refine then_n ?_ | refine then_r ?_ | refine then_x ?_ | refine AWP_block ?_ | refine blk_n ?_ | refine blk_r ?_ | refine blk_x ?_ | refine blk_y rfl ?_ | refine AWP_skip ?_
          | refine AWP_ret ?_ | refine AWP_exit ?_ | refine AWP_true rfl ?_ | refine AWP_false rfl ?_ | refine AOps_nil ?_ | refine LexA_nil ?_ | refine AWP_region ?_ | refine AWP_draw mixed_ok (by kernel_rfl) ?_)
      | ((first
          | refine AOps_pre rfl (by simp only [postL, isCallV, SL]; exact rfl) fun K2 hK2 => ?_
          | refine LexA_pre rfl rfl (by simp only [postL, isCallV, SL]; exact rfl) fun K2 hK2 => ?_)
         simp (disch := omega) only [SL, evalOps, evalOp, evalG, isPure, gdB, ung, pickG, gv, pt, cv, retV, biV, lenV, boT, bo, intBo, strBo, boolBo, isSh, uo, pickV, nilV, extV, ixOf, mkfV, mmV, mm, preL, postL, isCallV, boxS, cellsV, allocS, storeS, loadV, readT, ptrCells, ofs, fieldAddrV, fieldV, wr, buildV, fillA, buildSliceV, chunks, tagCut, indexV, indexAddrV, sliceV, sliceStr, sliceSl, bnd, if_true, if_false, ite_true, ite_false, and_self, and_true, true_and, beq_self_eq_true, nn, nc0, nc1, nc2, nc3, nc4, nc8, nc10, nc32, Int.toNat_natCast, eq_self, decide_true, decide_false, reduceIte, Nat.reduceAdd, Nat.reduceMul, Nat.reduceSub, Nat.reduceLeDiff, Nat.reduceLT, Nat.reduceEqDiff, Nat.reduceMod, Int.reduceBEq, Int.reduceBNe, Int.reduceNeg, Int.reduceNegSucc, Int.reduceLT, Int.reduceLE, Int.reduceToNat, F9, if_pos]
         refine ⟨_, _, rfl, ?_⟩
         refine hK2 _ _ ?_
         clear hK2 K2)
    refine body_r (by simp only [resA, ptrCells, readT, if_true, SL, Nat.reduceAdd, Nat.reduceLeDiff, F9]; exact rfl) ?_
    dsimp only [outV]
    refine ⟨?_, rfl⟩
    simp [cmpB, ltB, h]
  · have h1 := h
    repeat first
      | (with_reducible first
          | refine AWP_seq ?_ | refine then_n ?_ | refine then_r ?_ | refine then_x ?_ | refine AWP_block ?_ | refine blk_n ?_ | refine blk_r ?_ | refine blk_x ?_ | refine blk_y rfl ?_ | refine AWP_skip ?_
          | refine AWP_ret ?_ | refine AWP_exit ?_ | refine AWP_true rfl ?_ | refine AWP_false rfl ?_ | refine AOps_nil ?_ | refine LexA_nil ?_ | refine AWP_region ?_ | refine AWP_draw mixed_ok (by kernel_rfl) ?_)
      | ((first
          | refine AOps_pre rfl (by simp only [postL, isCallV, SL]; exact rfl) fun K2 hK2 => ?_
          | refine LexA_pre rfl rfl (by simp only [postL, isCallV, SL]; exact rfl) fun K2 hK2 => ?_)
         simp (disch := omega) only [SL, evalOps, evalOp, evalG, isPure, gdB, ung, pickG, gv, pt, cv, retV, biV, lenV, boT, bo, intBo, strBo, boolBo, isSh, uo, pickV, nilV, extV, ixOf, mkfV, mmV, mm, preL, postL, isCallV, boxS, cellsV, allocS, storeS, loadV, readT, ptrCells, ofs, fieldAddrV, fieldV, wr, buildV, fillA, buildSliceV, chunks, tagCut, indexV, indexAddrV, sliceV, sliceStr, sliceSl, bnd, if_true, if_false, ite_true, ite_false, and_self, and_true, true_and, beq_self_eq_true, nn, nc0, nc1, nc2, nc3, nc4, nc8, nc10, nc32, Int.toNat_natCast, eq_self, decide_true, decide_false, reduceIte, Nat.reduceAdd, Nat.reduceMul, Nat.reduceSub, Nat.reduceLeDiff, Nat.reduceLT, Nat.reduceEqDiff, Nat.reduceMod, Int.reduceBEq, Int.reduceBNe, Int.reduceNeg, Int.reduceNegSucc, Int.reduceLT, Int.reduceLE, Int.reduceToNat, F9, if_pos]
         refine ⟨_, _, rfl, ?_⟩
         refine hK2 _ _ ?_
         clear hK2 K2)
    refine AWP_cond rfl (fun h => ?_) (fun h => ?_)
    · repeat first
        | (with_reducible first
            | refine AWP_seq ?_ | refine then_n ?_ | refine then_r ?_ | refine then_x ?_ | refine AWP_block ?_ | refine blk_n ?_ | refine blk_r ?_ | refine blk_x ?_ | refine blk_y rfl ?_ | refine AWP_skip ?_
            | refine AWP_ret ?_ | refine AWP_exit ?_ | refine AWP_true rfl ?_ | refine AWP_false rfl ?_ | refine AOps_nil ?_ | refine LexA_nil ?_ | refine AWP_region ?_ | refine AWP_draw mixed_ok (by kernel_rfl) ?_)
        | ((first
            | refine AOps_pre rfl (by simp only [postL, isCallV, SL]; exact rfl) fun K2 hK2 => ?_
            | refine LexA_pre rfl rfl (by simp only [postL, isCallV, SL]; exact rfl) fun K2 hK2 => ?_)
           simp (disch := omega) only [SL, evalOps, evalOp, evalG, isPure, gdB, ung, pickG, gv, pt, cv, retV, biV, lenV, boT, bo, intBo, strBo, boolBo, isSh, uo, pickV, nilV, extV, ixOf, mkfV, mmV, mm, preL, postL, isCallV, boxS, cellsV, allocS, storeS, loadV, readT, ptrCells, ofs, fieldAddrV, fieldV, wr, buildV, fillA, buildSliceV, chunks, tagCut, indexV, indexAddrV, sliceV, sliceStr, sliceSl, bnd, if_true, if_false, ite_true, ite_false, and_self, and_true, true_and, beq_self_eq_true, nn, nc0, nc1, nc2, nc3, nc4, nc8, nc10, nc32, Int.toNat_natCast, eq_self, decide_true, decide_false, reduceIte, Nat.reduceAdd, Nat.reduceMul, Nat.reduceSub, Nat.reduceLeDiff, Nat.reduceLT, Nat.reduceEqDiff, Nat.reduceMod, Int.reduceBEq, Int.reduceBNe, Int.reduceNeg, Int.reduceNegSucc, Int.reduceLT, Int.reduceLE, Int.reduceToNat, F9, if_pos]
           refine ⟨_, _, rfl, ?_⟩
           refine hK2 _ _ ?_
           clear hK2 K2)
      refine body_r (by simp only [resA, ptrCells, readT, if_true, SL, Nat.reduceAdd, Nat.reduceLeDiff, F9]; exact rfl) ?_
      dsimp only [outV]
      refine ⟨?_, rfl⟩
      simp_all [cmpB, ltB]
    · repeat first
        | (with_reducible first
            | refine AWP_seq ?_ | refine then_n ?_ | refine then_r ?_ | refine then_x ?_ | refine AWP_block ?_ | refine blk_n ?_ | refine blk_r ?_ | refine blk_x ?_ | refine blk_y rfl ?_ | refine AWP_skip ?_
            | refine AWP_ret ?_ | refine AWP_exit ?_ | refine AWP_true rfl ?_ | refine AWP_false rfl ?_ | refine AOps_nil ?_ | refine LexA_nil ?_ | refine AWP_region ?_ | refine AWP_draw mixed_ok (by kernel_rfl) ?_)
        | ((first
            | refine AOps_pre rfl (by simp only [postL, isCallV, SL]; exact rfl) fun K2 hK2 => ?_
            | refine LexA_pre rfl rfl (by simp only [postL, isCallV, SL]; exact rfl) fun K2 hK2 => ?_)
           simp (disch := omega) only [SL, evalOps, evalOp, evalG, isPure, gdB, ung, pickG, gv, pt, cv, retV, biV, lenV, boT, bo, intBo, strBo, boolBo, isSh, uo, pickV, nilV, extV, ixOf, mkfV, mmV, mm, preL, postL, isCallV, boxS, cellsV, allocS, storeS, loadV, readT, ptrCells, ofs, fieldAddrV, fieldV, wr, buildV, fillA, buildSliceV, chunks, tagCut, indexV, indexAddrV, sliceV, sliceStr, sliceSl, bnd, if_true, if_false, ite_true, ite_false, and_self, and_true, true_and, beq_self_eq_true, nn, nc0, nc1, nc2, nc3, nc4, nc8, nc10, nc32, Int.toNat_natCast, eq_self, decide_true, decide_false, reduceIte, Nat.reduceAdd, Nat.reduceMul, Nat.reduceSub, Nat.reduceLeDiff, Nat.reduceLT, Nat.reduceEqDiff, Nat.reduceMod, Int.reduceBEq, Int.reduceBNe, Int.reduceNeg, Int.reduceNegSucc, Int.reduceLT, Int.reduceLE, Int.reduceToNat, F9, if_pos]
           refine ⟨_, _, rfl, ?_⟩
           refine hK2 _ _ ?_
           clear hK2 K2)
      refine body_r (by simp only [resA, ptrCells, readT, if_true, SL, Nat.reduceAdd, Nat.reduceLeDiff, F9]; exact rfl) ?_
      dsimp only [outV]
      refine ⟨?_, rfl⟩
      simp_all [cmpB, ltB]
theorem roneIf_ok (b : Bool) (σ : List AE) : Gives Tryd.prog 41 [.bool b] σ (.int .i64 (if b then 1 else 0)) := by
  refine ACalls_body Tryd.func41 rfl rfl ?_
  simp only [Tryd.ntmps41, Tryd.results41, List.length_cons, List.length_nil, Nat.reduceAdd, Nat.reduceSub, List.replicate_succ, List.replicate_zero, List.cons_append, List.nil_append, List.toList_toArray]
  repeat first
    | (with_reducible first
        | refine AWP_seq ?_ | refine then_n ?_ | refine then_r ?_ | refine then_x ?_ | refine AWP_block ?_ | refine blk_n ?_ | refine blk_r ?_ | refine blk_x ?_ | refine blk_y rfl ?_ | refine AWP_skip ?_
        | refine AWP_ret ?_ | refine AWP_exit ?_ | refine AWP_true rfl ?_ | refine AWP_false rfl ?_ | refine AOps_nil ?_ | refine LexA_nil ?_ | refine AWP_region ?_ | refine AWP_draw mixed_ok (by kernel_rfl) ?_)
    | ((first
        | refine AOps_pre rfl (by simp only [postL, isCallV, SL]; exact rfl) fun K2 hK2 => ?_
        | refine LexA_pre rfl rfl (by simp only [postL, isCallV, SL]; exact rfl) fun K2 hK2 => ?_)
       simp (disch := omega) only [SL, evalOps, evalOp, evalG, isPure, gdB, ung, pickG, gv, pt, cv, retV, biV, lenV, boT, bo, intBo, strBo, boolBo, isSh, uo, pickV, nilV, extV, ixOf, mkfV, mmV, mm, preL, postL, isCallV, boxS, cellsV, allocS, storeS, loadV, readT, ptrCells, ofs, fieldAddrV, fieldV, wr, buildV, fillA, buildSliceV, chunks, tagCut, indexV, indexAddrV, sliceV, sliceStr, sliceSl, bnd, if_true, if_false, ite_true, ite_false, and_self, and_true, true_and, beq_self_eq_true, nn, nc0, nc1, nc2, nc3, nc4, nc8, nc10, nc32, Int.toNat_natCast, eq_self, decide_true, decide_false, reduceIte, Nat.reduceAdd, Nat.reduceMul, Nat.reduceSub, Nat.reduceLeDiff, Nat.reduceLT, Nat.reduceEqDiff, Nat.reduceMod, Int.reduceBEq, Int.reduceBNe, Int.reduceNeg, Int.reduceNegSucc, Int.reduceLT, Int.reduceLE, Int.reduceToNat, F4, if_pos]
       refine ⟨_, _, rfl, ?_⟩
       refine hK2 _ _ ?_
       clear hK2 K2)
  refine AWP_cond rfl (fun h => ?_) (fun h => ?_)
  · repeat first
      | (with_reducible first
          | refine AWP_seq ?_ | refine then_n ?_ | refine then_r ?_ | refine then_x ?_ | refine AWP_block ?_ | refine blk_n ?_ | refine blk_r ?_ | refine blk_x ?_ | refine blk_y rfl ?_ | refine AWP_skip ?_
          | refine AWP_ret ?_ | refine AWP_exit ?_ | refine AWP_true rfl ?_ | refine AWP_false rfl ?_ | refine AOps_nil ?_ | refine LexA_nil ?_ | refine AWP_region ?_ | refine AWP_draw mixed_ok (by kernel_rfl) ?_)
      | ((first
          | refine AOps_pre rfl (by simp only [postL, isCallV, SL]; exact rfl) fun K2 hK2 => ?_
          | refine LexA_pre rfl rfl (by simp only [postL, isCallV, SL]; exact rfl) fun K2 hK2 => ?_)
         simp (disch := omega) only [SL, evalOps, evalOp, evalG, isPure, gdB, ung, pickG, gv, pt, cv, retV, biV, lenV, boT, bo, intBo, strBo, boolBo, isSh, uo, pickV, nilV, extV, ixOf, mkfV, mmV, mm, preL, postL, isCallV, boxS, cellsV, allocS, storeS, loadV, readT, ptrCells, ofs, fieldAddrV, fieldV, wr, buildV, fillA, buildSliceV, chunks, tagCut, indexV, indexAddrV, sliceV, sliceStr, sliceSl, bnd, if_true, if_false, ite_true, ite_false, and_self, and_true, true_and, beq_self_eq_true, nn, nc0, nc1, nc2, nc3, nc4, nc8, nc10, nc32, Int.toNat_natCast, eq_self, decide_true, decide_false, reduceIte, Nat.reduceAdd, Nat.reduceMul, Nat.reduceSub, Nat.reduceLeDiff, Nat.reduceLT, Nat.reduceEqDiff, Nat.reduceMod, Int.reduceBEq, Int.reduceBNe, Int.reduceNeg, Int.reduceNegSucc, Int.reduceLT, Int.reduceLE, Int.reduceToNat, F4, if_pos]
         refine ⟨_, _, rfl, ?_⟩
         refine hK2 _ _ ?_
         clear hK2 K2)
    refine body_r (by simp only [resA, ptrCells, readT, if_true, SL, Nat.reduceAdd, Nat.reduceLeDiff, F4]; exact rfl) ?_
    dsimp only [outV]
    simp_all
  · repeat first
      | (with_reducible first
          | refine AWP_seq ?_ | refine then_n ?_ | refine then_r ?_ | refine then_x ?_ | refine AWP_block ?_ | refine blk_n ?_ | refine blk_r ?_ | refine blk_x ?_ | refine blk_y rfl ?_ | refine AWP_skip ?_
          | refine AWP_ret ?_ | refine AWP_exit ?_ | refine AWP_true rfl ?_ | refine AWP_false rfl ?_ | refine AOps_nil ?_ | refine LexA_nil ?_ | refine AWP_region ?_ | refine AWP_draw mixed_ok (by kernel_rfl) ?_)
      | ((first
          | refine AOps_pre rfl (by simp only [postL, isCallV, SL]; exact rfl) fun K2 hK2 => ?_
          | refine LexA_pre rfl rfl (by simp only [postL, isCallV, SL]; exact rfl) fun K2 hK2 => ?_)
         simp (disch := omega) only [SL, evalOps, evalOp, evalG, isPure, gdB, ung, pickG, gv, pt, cv, retV, biV, lenV, boT, bo, intBo, strBo, boolBo, isSh, uo, pickV, nilV, extV, ixOf, mkfV, mmV, mm, preL, postL, isCallV, boxS, cellsV, allocS, storeS, loadV, readT, ptrCells, ofs, fieldAddrV, fieldV, wr, buildV, fillA, buildSliceV, chunks, tagCut, indexV, indexAddrV, sliceV, sliceStr, sliceSl, bnd, if_true, if_false, ite_true, ite_false, and_self, and_true, true_and, beq_self_eq_true, nn, nc0, nc1, nc2, nc3, nc4, nc8, nc10, nc32, Int.toNat_natCast, eq_self, decide_true, decide_false, reduceIte, Nat.reduceAdd, Nat.reduceMul, Nat.reduceSub, Nat.reduceLeDiff, Nat.reduceLT, Nat.reduceEqDiff, Nat.reduceMod, Int.reduceBEq, Int.reduceBNe, Int.reduceNeg, Int.reduceNegSucc, Int.reduceLT, Int.reduceLE, Int.reduceToNat, F4, if_pos]
         refine ⟨_, _, rfl, ?_⟩
         refine hK2 _ _ ?_
         clear hK2 K2)
    refine body_r (by simp only [resA, ptrCells, readT, if_true, SL, Nat.reduceAdd, Nat.reduceLeDiff, F4]; exact rfl) ?_
    dsimp only [outV]
    simp_all
theorem more_ok (n : Int) (σ : List AE) (h0 : -9223372036854775808 ≤ n) : Gives Tryd.prog 44 [.int .i64 n] σ (.int .i64 (if 999999999 ≤ n then n else n + 1)) := by
  refine ACalls_body Tryd.func44 rfl rfl ?_
  simp only [Tryd.ntmps44, Tryd.results44, List.length_cons, List.length_nil, Nat.reduceAdd, Nat.reduceSub, List.replicate_succ, List.replicate_zero, List.cons_append, List.nil_append, List.toList_toArray]
  repeat first
    | (with_reducible first
        | refine AWP_seq ?_ | refine then_n ?_ | refine then_r ?_ | refine then_x ?_ | refine AWP_block ?_ | refine blk_n ?_ | refine blk_r ?_ | refine blk_x ?_ | refine blk_y rfl ?_ | refine AWP_skip ?_
        | refine AWP_ret ?_ | refine AWP_exit ?_ | refine AWP_true rfl ?_ | refine AWP_false rfl ?_ | refine AOps_nil ?_ | refine LexA_nil ?_ | refine AWP_region ?_ | refine AWP_draw mixed_ok (by kernel_rfl) ?_)
    | ((first
        | refine AOps_pre rfl (by simp only [postL, isCallV, SL]; exact rfl) fun K2 hK2 => ?_
        | refine LexA_pre rfl rfl (by simp only [postL, isCallV, SL]; exact rfl) fun K2 hK2 => ?_)
       simp (disch := omega) only [SL, evalOps, evalOp, evalG, isPure, gdB, ung, pickG, gv, pt, cv, retV, biV, lenV, boT, bo, intBo, strBo, boolBo, isSh, uo, pickV, nilV, extV, ixOf, mkfV, mmV, mm, preL, postL, isCallV, boxS, cellsV, allocS, storeS, loadV, readT, ptrCells, ofs, fieldAddrV, fieldV, wr, buildV, fillA, buildSliceV, chunks, tagCut, indexV, indexAddrV, sliceV, sliceStr, sliceSl, bnd, if_true, if_false, ite_true, ite_false, and_self, and_true, true_and, beq_self_eq_true, nn, nc0, nc1, nc2, nc3, nc4, nc8, nc10, nc32, Int.toNat_natCast, eq_self, decide_true, decide_false, reduceIte, Nat.reduceAdd, Nat.reduceMul, Nat.reduceSub, Nat.reduceLeDiff, Nat.reduceLT, Nat.reduceEqDiff, Nat.reduceMod, Int.reduceBEq, Int.reduceBNe, Int.reduceNeg, Int.reduceNegSucc, Int.reduceLT, Int.reduceLE, Int.reduceToNat, F3, if_pos]
       refine ⟨_, _, rfl, ?_⟩
       refine hK2 _ _ ?_
       clear hK2 K2)
  refine AWP_cond rfl (fun h => ?_) (fun h => ?_)
  · repeat first
      | (with_reducible first
          | refine AWP_seq ?_ | refine then_n ?_ | refine then_r ?_ | refine then_x ?_ | refine AWP_block ?_ | refine blk_n ?_ | refine blk_r ?_ | refine blk_x ?_ | refine blk_y rfl ?_ | refine AWP_skip ?_
          | refine AWP_ret ?_ | refine AWP_exit ?_ | refine AWP_true rfl ?_ | refine AWP_false rfl ?_ | refine AOps_nil ?_ | refine LexA_nil ?_ | refine AWP_region ?_ | refine AWP_draw mixed_ok (by kernel_rfl) ?_)
      | ((first
          | refine AOps_pre rfl (by simp only [postL, isCallV, SL]; exact rfl) fun K2 hK2 => ?_
          | refine LexA_pre rfl rfl (by simp only [postL, isCallV, SL]; exact rfl) fun K2 hK2 => ?_)
         simp (disch := omega) only [SL, evalOps, evalOp, evalG, isPure, gdB, ung, pickG, gv, pt, cv, retV, biV, lenV, boT, bo, intBo, strBo, boolBo, isSh, uo, pickV, nilV, extV, ixOf, mkfV, mmV, mm, preL, postL, isCallV, boxS, cellsV, allocS, storeS, loadV, readT, ptrCells, ofs, fieldAddrV, fieldV, wr, buildV, fillA, buildSliceV, chunks, tagCut, indexV, indexAddrV, sliceV, sliceStr, sliceSl, bnd, if_true, if_false, ite_true, ite_false, and_self, and_true, true_and, beq_self_eq_true, nn, nc0, nc1, nc2, nc3, nc4, nc8, nc10, nc32, Int.toNat_natCast, eq_self, decide_true, decide_false, reduceIte, Nat.reduceAdd, Nat.reduceMul, Nat.reduceSub, Nat.reduceLeDiff, Nat.reduceLT, Nat.reduceEqDiff, Nat.reduceMod, Int.reduceBEq, Int.reduceBNe, Int.reduceNeg, Int.reduceNegSucc, Int.reduceLT, Int.reduceLE, Int.reduceToNat, F3, if_pos]
         refine ⟨_, _, rfl, ?_⟩
         refine hK2 _ _ ?_
         clear hK2 K2)
    refine body_r (by simp only [resA, ptrCells, readT, if_true, SL, Nat.reduceAdd, Nat.reduceLeDiff, F3]; exact rfl) ?_
    dsimp only [outV]
    simp_all
  · repeat first
      | (with_reducible first
          | refine AWP_seq ?_ | refine then_n ?_ | refine then_r ?_ | refine then_x ?_ | refine AWP_block ?_ | refine blk_n ?_ | refine blk_r ?_ | refine blk_x ?_ | refine blk_y rfl ?_ | refine AWP_skip ?_
          | refine AWP_ret ?_ | refine AWP_exit ?_ | refine AWP_true rfl ?_ | refine AWP_false rfl ?_ | refine AOps_nil ?_ | refine LexA_nil ?_ | refine AWP_region ?_ | refine AWP_draw mixed_ok (by kernel_rfl) ?_)
      | ((first
          | refine AOps_pre rfl (by simp only [postL, isCallV, SL]; exact rfl) fun K2 hK2 => ?_
          | refine LexA_pre rfl rfl (by simp only [postL, isCallV, SL]; exact rfl) fun K2 hK2 => ?_)
         simp (disch := omega) only [SL, evalOps, evalOp, evalG, isPure, gdB, ung, pickG, gv, pt, cv, retV, biV, lenV, boT, bo, intBo, strBo, boolBo, isSh, uo, pickV, nilV, extV, ixOf, mkfV, mmV, mm, preL, postL, isCallV, boxS, cellsV, allocS, storeS, loadV, readT, ptrCells, ofs, fieldAddrV, fieldV, wr, buildV, fillA, buildSliceV, chunks, tagCut, indexV, indexAddrV, sliceV, sliceStr, sliceSl, bnd, if_true, if_false, ite_true, ite_false, and_self, and_true, true_and, beq_self_eq_true, nn, nc0, nc1, nc2, nc3, nc4, nc8, nc10, nc32, Int.toNat_natCast, eq_self, decide_true, decide_false, reduceIte, Nat.reduceAdd, Nat.reduceMul, Nat.reduceSub, Nat.reduceLeDiff, Nat.reduceLT, Nat.reduceEqDiff, Nat.reduceMod, Int.reduceBEq, Int.reduceBNe, Int.reduceNeg, Int.reduceNegSucc, Int.reduceLT, Int.reduceLE, Int.reduceToNat, F3, if_pos]
         refine ⟨_, _, rfl, ?_⟩
         refine hK2 _ _ ?_
         clear hK2 K2)
    refine body_r (by simp only [resA, ptrCells, readT, if_true, SL, Nat.reduceAdd, Nat.reduceLeDiff, F3]; exact rfl) ?_
    dsimp only [outV]
    have : ¬ 999999999 ≤ n := by simpa using h
    rw [wrap_in (by omega) (by omega), if_neg this]
    simp
end Go.Proofs.YtfagngmikbmmhaaDoor.A
