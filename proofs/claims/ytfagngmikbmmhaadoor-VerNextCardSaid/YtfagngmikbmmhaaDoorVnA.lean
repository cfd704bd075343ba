/- VerNext: the contract. -/
import Derived.Test.YtfagngmikbmmhaaDoorVaK
namespace Go.Proofs.YtfagngmikbmmhaaDoor.A
open Go Go.RowKit
set_option maxRecDepth 100000
set_option linter.unusedSimpArgs false
set_option linter.unusedVariables false

def atV (v : Ver) (part : Int) : Int := if part = 0 then v.major else if part = 1 then v.minor else v.patch
theorem cI_self (x : Int) : Lib.compareInt x x = 0 := by simp [Lib.compareInt]
theorem cI_succ (x : Int) : Lib.compareInt (x + 1) x = 1 := by
  unfold Lib.compareInt
  rw [if_neg (by omega), if_pos (by omega)]
theorem next_up (A B C : Int) (x : List UInt8) (part : Int) (hA : A ≤ 999999999) (hB : B ≤ 999999999) (hC : C ≤ 999999999) : cmpV (nextV ⟨A, B, C, [x]⟩ part) ⟨A, B, C, [x]⟩ = 1 ∧ (atV ⟨A, B, C, [x]⟩ part = 999999999 ∨ cmpV (nextV ⟨A, B, C, [x]⟩ part) ⟨A, B, C, []⟩ = 1) := by
  have hz : cmpV ⟨A, B, C, []⟩ ⟨A, B, C, [x]⟩ = 1 := by
    simp [cmpV, cmpN, orI, cI_self, Lib.compareInt]
  unfold nextV atV
  by_cases h0 : part = 0
  · simp only [if_pos h0]
    by_cases h : A < 999999999
    · simp only [if_pos h]
      refine ⟨?_, .inr ?_⟩ <;> simp [cmpV, cmpN, orI, cI_succ]
    · simp only [if_neg h]
      exact ⟨hz, .inl (by omega)⟩
  · simp only [if_neg h0]
    by_cases h1 : part = 1
    · simp only [if_pos h1]
      by_cases h : B < 999999999
      · simp only [if_pos h]
        refine ⟨?_, .inr ?_⟩ <;> simp [cmpV, cmpN, orI, cI_self, cI_succ]
      · simp only [if_neg h]
        exact ⟨hz, .inl (by omega)⟩
    · simp only [if_neg h1]
      by_cases h : 999999999 ≤ C
      · simp only [if_pos h]
        exact ⟨hz, .inl (by omega)⟩
      · simp only [if_neg h]
        refine ⟨?_, .inr ?_⟩ <;> simp [cmpV, cmpN, orI, cI_self, cI_succ]
theorem loneIf_ok (b : Bool) (σ : List AE) : Gives Tryd.prog 20 [.bool b] σ (.int .i64 (if b then 1 else 0)) := by
  refine ACalls_body Tryd.func20 rfl rfl ?_
  simp only [Tryd.ntmps20, Tryd.results20, List.length_cons, List.length_nil, Nat.reduceAdd, Nat.reduceSub, List.replicate_succ, List.replicate_zero, List.cons_append, List.nil_append, List.toList_toArray]
  repeat first
    | (with_reducible first
        | refine AWP_seq ?_ | refine then_n ?_ | refine then_r ?_ | refine then_x ?_ | refine AWP_block ?_ | refine blk_n ?_ | refine blk_r ?_ | refine blk_x ?_ | refine blk_y rfl ?_ | refine AWP_skip ?_
        | refine AWP_ret ?_ | refine AWP_exit ?_ | refine AWP_true rfl ?_ | refine AWP_false rfl ?_ | refine AOps_nil ?_ | refine LexA_nil ?_ | refine AWP_region ?_ | refine AWP_draw mixed_ok (by kernel_rfl) ?_)
    | ((first
        | refine AOps_pre rfl (by simp only [postL, isCallV, SL]; exact rfl) fun K2 hK2 => ?_
        | refine LexA_pre rfl rfl (by simp only [postL, isCallV, SL]; exact rfl) fun K2 hK2 => ?_)
       simp (disch := omega) only [SL, evalOps, evalOp, evalG, isPure, gdB, ung, pickG, gv, pt, cv, retV, biV, lenV, boT, bo, intBo, strBo, boolBo, isSh, uo, pickV, nilV, extV, ixOf, mkfV, mmV, mm, preL, postL, isCallV, boxS, cellsV, allocS, storeS, loadV, readT, ptrCells, ofs, fieldAddrV, fieldV, wr, buildV, fillA, buildSliceV, chunks, tagCut, indexV, indexAddrV, sliceV, sliceStr, sliceSl, bnd, if_true, if_false, ite_true, ite_false, and_self, and_true, true_and, beq_self_eq_true, nn, nc0, nc1, nc2, nc3, nc4, nc8, nc10, nc32, Int.toNat_natCast, eq_self, decide_true, decide_false, reduceIte, Nat.reduceAdd, Nat.reduceMul, Nat.reduceSub, Nat.reduceLeDiff, Nat.reduceLT, Nat.reduceEqDiff, Nat.reduceMod, Int.reduceBEq, Int.reduceBNe, Int.reduceNeg, Int.reduceNegSucc, Int.reduceLT, Int.reduceLE, Int.reduceToNat, F4, if_pos]
       refine ⟨_, _, rfl, ?_⟩
       refine hK2 _ _ ?_
       clear hK2 K2)
  refine AWP_cond rfl (fun h => ?_) (fun h => ?_)
  · repeat first
      | (with_reducible first
          | refine AWP_seq ?_ | refine then_n ?_ | refine then_r ?_ | refine then_x ?_ | refine AWP_block ?_ | refine blk_n ?_ | refine blk_r ?_ | refine blk_x ?_ | refine blk_y rfl ?_ | refine AWP_skip ?_
          | refine AWP_ret ?_ | refine AWP_exit ?_ | refine AWP_true rfl ?_ | refine AWP_false rfl ?_ | refine AOps_nil ?_ | refine LexA_nil ?_ | refine AWP_region ?_ | refine AWP_draw mixed_ok (by kernel_rfl) ?_)
      | ((first
          | refine AOps_pre rfl (by simp only [postL, isCallV, SL]; exact rfl) fun K2 hK2 => ?_
          | refine LexA_pre rfl rfl (by simp only [postL, isCallV, SL]; exact rfl) fun K2 hK2 => ?_)
         simp (disch := omega) only [SL, evalOps, evalOp, evalG, isPure, gdB, ung, pickG, gv, pt, cv, retV, biV, lenV, boT, bo, intBo, strBo, boolBo, isSh, uo, pickV, nilV, extV, ixOf, mkfV, mmV, mm, preL, postL, isCallV, boxS, cellsV, allocS, storeS, loadV, readT, ptrCells, ofs, fieldAddrV, fieldV, wr, buildV, fillA, buildSliceV, chunks, tagCut, indexV, indexAddrV, sliceV, sliceStr, sliceSl, bnd, if_true, if_false, ite_true, ite_false, and_self, and_true, true_and, beq_self_eq_true, nn, nc0, nc1, nc2, nc3, nc4, nc8, nc10, nc32, Int.toNat_natCast, eq_self, decide_true, decide_false, reduceIte, Nat.reduceAdd, Nat.reduceMul, Nat.reduceSub, Nat.reduceLeDiff, Nat.reduceLT, Nat.reduceEqDiff, Nat.reduceMod, Int.reduceBEq, Int.reduceBNe, Int.reduceNeg, Int.reduceNegSucc, Int.reduceLT, Int.reduceLE, Int.reduceToNat, F4, if_pos]
         refine ⟨_, _, rfl, ?_⟩
         refine hK2 _ _ ?_
         clear hK2 K2)
    refine body_r (by simp only [resA, ptrCells, readT, if_true, SL, Nat.reduceAdd, Nat.reduceLeDiff, F4]; exact rfl) ?_
    dsimp only [outV]
    simp_all
  · repeat first
      | (with_reducible first
          | refine AWP_seq ?_ | refine then_n ?_ | refine then_r ?_ | refine then_x ?_ | refine AWP_block ?_ | refine blk_n ?_ | refine blk_r ?_ | refine blk_x ?_ | refine blk_y rfl ?_ | refine AWP_skip ?_
          | refine AWP_ret ?_ | refine AWP_exit ?_ | refine AWP_true rfl ?_ | refine AWP_false rfl ?_ | refine AOps_nil ?_ | refine LexA_nil ?_ | refine AWP_region ?_ | refine AWP_draw mixed_ok (by kernel_rfl) ?_)
      | ((first
          | refine AOps_pre rfl (by simp only [postL, isCallV, SL]; exact rfl) fun K2 hK2 => ?_
          | refine LexA_pre rfl rfl (by simp only [postL, isCallV, SL]; exact rfl) fun K2 hK2 => ?_)
         simp (disch := omega) only [SL, evalOps, evalOp, evalG, isPure, gdB, ung, pickG, gv, pt, cv, retV, biV, lenV, boT, bo, intBo, strBo, boolBo, isSh, uo, pickV, nilV, extV, ixOf, mkfV, mmV, mm, preL, postL, isCallV, boxS, cellsV, allocS, storeS, loadV, readT, ptrCells, ofs, fieldAddrV, fieldV, wr, buildV, fillA, buildSliceV, chunks, tagCut, indexV, indexAddrV, sliceV, sliceStr, sliceSl, bnd, if_true, if_false, ite_true, ite_false, and_self, and_true, true_and, beq_self_eq_true, nn, nc0, nc1, nc2, nc3, nc4, nc8, nc10, nc32, Int.toNat_natCast, eq_self, decide_true, decide_false, reduceIte, Nat.reduceAdd, Nat.reduceMul, Nat.reduceSub, Nat.reduceLeDiff, Nat.reduceLT, Nat.reduceEqDiff, Nat.reduceMod, Int.reduceBEq, Int.reduceBNe, Int.reduceNeg, Int.reduceNegSucc, Int.reduceLT, Int.reduceLE, Int.reduceToNat, F4, if_pos]
         refine ⟨_, _, rfl, ?_⟩
         refine hK2 _ _ ?_
         clear hK2 K2)
    refine body_r (by simp only [resA, ptrCells, readT, if_true, SL, Nat.reduceAdd, Nat.reduceLeDiff, F4]; exact rfl) ?_
    dsimp only [outV]
    simp_all
theorem verNext_ok (a b c part : Int) (σ : List AE) (ha : 0 ≤ a ∧ a ≤ 4294967295) (hb : 0 ≤ b ∧ b ≤ 4294967295) (hc : 0 ≤ c ∧ c ≤ 4294967295) (hp : in64 part) (hG : GV σ) : Gives Tryd.prog 6 [.int .u32 a, .int .u32 b, .int .u32 c, .int .i64 part] σ (.bool true) := by
  obtain ⟨p0, p1⟩ := hp
  obtain ⟨A, hA, hA1⟩ : ∃ A, a.tmod 1000000000 = A ∧ 0 ≤ A ∧ A ≤ 999999999 := ⟨_, rfl, by rw [Int.tmod_eq_emod_of_nonneg ha.1]; omega⟩
  obtain ⟨B, hB, hB1⟩ : ∃ B, b.tmod 1000000000 = B ∧ 0 ≤ B ∧ B ≤ 999999999 := ⟨_, rfl, by rw [Int.tmod_eq_emod_of_nonneg hb.1]; omega⟩
  obtain ⟨C, hC, hC1⟩ : ∃ C, c.tmod 1000000000 = C ∧ 0 ≤ C ∧ C ≤ 999999999 := ⟨_, rfl, by rw [Int.tmod_eq_emod_of_nonneg hc.1]; omega⟩
  have wA : IntKind.i64.wrap A = A := wrap_in (by omega) (by omega)
  have wB : IntKind.i64.wrap B = B := wrap_in (by omega) (by omega)
  have wC : IntKind.i64.wrap C = C := wrap_in (by omega) (by omega)
  have h9 : (1000000000 : Int) ≠ 0 := by omega
  have vk : VOk ⟨A, B, C, [[120]]⟩ := ⟨⟨by simp only []; omega, by simp only []; omega⟩, ⟨by simp only []; omega, by simp only []; omega⟩, ⟨by simp only []; omega, by simp only []; omega⟩, by simp [lens]⟩
  have vz : VOk ⟨A, B, C, []⟩ := ⟨⟨by simp only []; omega, by simp only []; omega⟩, ⟨by simp only []; omega, by simp only []; omega⟩, ⟨by simp only []; omega, by simp only []; omega⟩, by simp [lens]⟩
  have hnp : (nextV ⟨A, B, C, [[120]]⟩ part).pre = [] := by unfold nextV; (repeat' split) <;> rfl
  have vn : VOk (nextV ⟨A, B, C, [[120]]⟩ part) := by
    refine ⟨?_, ?_, ?_, by rw [hnp]; simp [lens]⟩ <;> unfold nextV in64 <;> (repeat' split) <;> simp only [] <;> omega
  obtain ⟨u1, u2⟩ := next_up A B C [120] part hA1.2 hB1.2 hC1.2
  have hq : ∃ q : Nat, q < 3 ∧ (if (2 : Int) < IntKind.i64.wrap ((if (0 : Int) > part then 0 else part) + IntKind.i64.wrap (2 * if decide (part < 0) = true then 1 else 0)) then 2 else IntKind.i64.wrap ((if (0 : Int) > part then 0 else part) + IntKind.i64.wrap (2 * if decide (part < 0) = true then 1 else 0))) = (q : Int) ∧ [[V.int .i64 A], [V.int .i64 B], [V.int .i64 C]].getD q [] = [V.int .i64 (atV ⟨A, B, C, [[120]]⟩ part)] := by
    by_cases h1 : part < 0
    · refine ⟨2, by omega, ?_, ?_⟩
      · rw [if_pos (show (0 : Int) > part by omega), if_pos (show decide (part < 0) = true by simpa using h1), wrap_in (n := 2 * 1) (by omega) (by omega), wrap_in (by omega) (by omega)]
        rfl
      · rw [atV, if_neg (by omega), if_neg (by omega)]; rfl
    · rw [if_neg (show ¬ (0 : Int) > part by omega), if_neg (show ¬ decide (part < 0) = true by simpa using h1), wrap_in (n := 2 * 0) (by omega) (by omega), wrap_in (by omega) (by omega)]
      by_cases h2 : part = 0
      · exact ⟨0, by omega, by rw [if_neg (by omega)]; omega, by rw [atV, if_pos h2]; rfl⟩
      · by_cases h3 : part = 1
        · exact ⟨1, by omega, by rw [if_neg (by omega)]; omega, by rw [atV, if_neg h2, if_pos h3]; rfl⟩
        · refine ⟨2, by omega, ?_, by rw [atV, if_neg h2, if_neg h3]; rfl⟩
          split <;> omega
  obtain ⟨q, hq3, hqe, hqg⟩ := hq
  refine Gives_drop (hb := fun hb => trivial) ?_
  refine ACalls_body Tryd.func6 rfl rfl ?_
  simp only [Tryd.ntmps6, Tryd.results6, List.length_cons, List.length_nil, Nat.reduceAdd, Nat.reduceSub, List.replicate_succ, List.replicate_zero, List.cons_append, List.nil_append, List.toList_toArray]
  repeat first
    | (with_reducible first
        | refine AWP_seq ?_ | refine then_n ?_ | refine then_r ?_ | refine then_x ?_ | refine AWP_block ?_ | refine blk_n ?_ | refine blk_r ?_ | refine blk_x ?_ | refine blk_y rfl ?_ | refine AWP_skip ?_
        | refine AWP_ret ?_ | refine AWP_exit ?_ | refine AWP_true rfl ?_ | refine AWP_false rfl ?_ | refine AOps_nil ?_ | refine LexA_nil ?_ | refine AWP_region ?_ | refine AWP_draw mixed_ok (by kernel_rfl) ?_)
    | ((first
        | refine AOps_pre rfl (by simp only [postL, isCallV, SL]; exact rfl) fun K2 hK2 => ?_
        | refine LexA_pre rfl rfl (by simp only [postL, isCallV, SL]; exact rfl) fun K2 hK2 => ?_)
       simp (disch := omega) only [SL, evalOps, evalOp, evalG, isPure, gdB, ung, pickG, gv, pt, cv, retV, biV, lenV, boT, bo, intBo, strBo, boolBo, isSh, uo, pickV, nilV, extV, ixOf, mkfV, mmV, mm, preL, postL, isCallV, boxS, cellsV, allocS, storeS, loadV, readT, ptrCells, ofs, fieldAddrV, fieldV, wr, buildV, fillA, buildSliceV, chunks, tagCut, indexV, indexAddrV, sliceV, sliceStr, sliceSl, bnd, if_true, if_false, ite_true, ite_false, and_self, and_true, true_and, beq_self_eq_true, nn, nc0, nc1, nc2, nc3, nc4, nc8, nc10, nc32, Int.toNat_natCast, eq_self, decide_true, decide_false, reduceIte, Nat.reduceAdd, Nat.reduceMul, Nat.reduceSub, Nat.reduceLeDiff, Nat.reduceLT, Nat.reduceEqDiff, Nat.reduceMod, Int.reduceBEq, Int.reduceBNe, Int.reduceNeg, Int.reduceNegSucc, Int.reduceLT, Int.reduceLE, Int.reduceToNat, F3, F4, F9, F23, F25, F39, F40, if_pos]
       refine ⟨_, _, rfl, ?_⟩
       refine hK2 _ _ ?_
       clear hK2 K2)
  first
    | refine AOps_callU (known_ok _ hG) rfl rfl rfl rfl (by first | rfl | (simp only [gv, ung, cv, SL]; done) | (simp only [gv, ung, cv, SL]; exact rfl)) ?_
    | refine AOps_callG rfl (fun hg => known_ok _ hG) rfl rfl rfl (by first | rfl | (simp only [gv, ung, cv, SL]; done) | (simp only [gv, ung, cv, SL]; exact rfl)) ?_
    | refine LexA_callU (known_ok _ hG) rfl rfl rfl rfl (by first | rfl | (simp only [gv, ung, cv, SL]; done) | (simp only [gv, ung, cv, SL]; exact rfl)) ?_
    | refine LexA_callG rfl (fun hg => known_ok _ hG) rfl rfl rfl (by first | rfl | (simp only [gv, ung, cv, SL]; done) | (simp only [gv, ung, cv, SL]; exact rfl)) ?_
  simp only [pt, SL]
  repeat first
    | (with_reducible first
        | refine AWP_seq ?_ | refine then_n ?_ | refine then_r ?_ | refine then_x ?_ | refine AWP_block ?_ | refine blk_n ?_ | refine blk_r ?_ | refine blk_x ?_ | refine blk_y rfl ?_ | refine AWP_skip ?_
        | refine AWP_ret ?_ | refine AWP_exit ?_ | refine AWP_true rfl ?_ | refine AWP_false rfl ?_ | refine AOps_nil ?_ | refine LexA_nil ?_ | refine AWP_region ?_ | refine AWP_draw mixed_ok (by kernel_rfl) ?_)
    | ((first
        | refine AOps_pre rfl (by simp only [postL, isCallV, SL]; exact rfl) fun K2 hK2 => ?_
        | refine LexA_pre rfl rfl (by simp only [postL, isCallV, SL]; exact rfl) fun K2 hK2 => ?_)
       simp (disch := omega) only [SL, evalOps, evalOp, evalG, isPure, gdB, ung, pickG, gv, pt, cv, retV, biV, lenV, boT, bo, intBo, strBo, boolBo, isSh, uo, pickV, nilV, extV, ixOf, mkfV, mmV, mm, preL, postL, isCallV, boxS, cellsV, allocS, storeS, loadV, readT, ptrCells, ofs, fieldAddrV, fieldV, wr, buildV, fillA, buildSliceV, chunks, tagCut, indexV, indexAddrV, sliceV, sliceStr, sliceSl, bnd, if_true, if_false, ite_true, ite_false, and_self, and_true, true_and, beq_self_eq_true, nn, nc0, nc1, nc2, nc3, nc4, nc8, nc10, nc32, Int.toNat_natCast, eq_self, decide_true, decide_false, reduceIte, Nat.reduceAdd, Nat.reduceMul, Nat.reduceSub, Nat.reduceLeDiff, Nat.reduceLT, Nat.reduceEqDiff, Nat.reduceMod, Int.reduceBEq, Int.reduceBNe, Int.reduceNeg, Int.reduceNegSucc, Int.reduceLT, Int.reduceLE, Int.reduceToNat, F3, F4, F9, F23, F25, F39, F40, hA, hB, hC, wA, wB, wC, h9, if_pos]
       refine ⟨_, _, rfl, ?_⟩
       refine hK2 _ _ ?_
       clear hK2 K2)
  first
    | refine AOps_callU (vnext_ok ⟨A, B, C, [[120]]⟩ .full part _ vk) rfl rfl rfl rfl (by first | rfl | (simp only [gv, ung, cv, SL]; done) | (simp only [gv, ung, cv, SL]; exact rfl)) ?_
    | refine AOps_callG rfl (fun hg => vnext_ok ⟨A, B, C, [[120]]⟩ .full part _ vk) rfl rfl rfl (by first | rfl | (simp only [gv, ung, cv, SL]; done) | (simp only [gv, ung, cv, SL]; exact rfl)) ?_
    | refine LexA_callU (vnext_ok ⟨A, B, C, [[120]]⟩ .full part _ vk) rfl rfl rfl rfl (by first | rfl | (simp only [gv, ung, cv, SL]; done) | (simp only [gv, ung, cv, SL]; exact rfl)) ?_
    | refine LexA_callG rfl (fun hg => vnext_ok ⟨A, B, C, [[120]]⟩ .full part _ vk) rfl rfl rfl (by first | rfl | (simp only [gv, ung, cv, SL]; done) | (simp only [gv, ung, cv, SL]; exact rfl)) ?_
  simp only [pt, SL]
  repeat first
    | (with_reducible first
        | refine AWP_seq ?_ | refine then_n ?_ | refine then_r ?_ | refine then_x ?_ | refine AWP_block ?_ | refine blk_n ?_ | refine blk_r ?_ | refine blk_x ?_ | refine blk_y rfl ?_ | refine AWP_skip ?_
        | refine AWP_ret ?_ | refine AWP_exit ?_ | refine AWP_true rfl ?_ | refine AWP_false rfl ?_ | refine AOps_nil ?_ | refine LexA_nil ?_ | refine AWP_region ?_ | refine AWP_draw mixed_ok (by kernel_rfl) ?_)
    | ((first
        | refine AOps_pre rfl (by simp only [postL, isCallV, SL]; exact rfl) fun K2 hK2 => ?_
        | refine LexA_pre rfl rfl (by simp only [postL, isCallV, SL]; exact rfl) fun K2 hK2 => ?_)
       simp (disch := omega) only [SL, evalOps, evalOp, evalG, isPure, gdB, ung, pickG, gv, pt, cv, retV, biV, lenV, boT, bo, intBo, strBo, boolBo, isSh, uo, pickV, nilV, extV, ixOf, mkfV, mmV, mm, preL, postL, isCallV, boxS, cellsV, allocS, storeS, loadV, readT, ptrCells, ofs, fieldAddrV, fieldV, wr, buildV, fillA, buildSliceV, chunks, tagCut, indexV, indexAddrV, sliceV, sliceStr, sliceSl, bnd, if_true, if_false, ite_true, ite_false, and_self, and_true, true_and, beq_self_eq_true, nn, nc0, nc1, nc2, nc3, nc4, nc8, nc10, nc32, Int.toNat_natCast, eq_self, decide_true, decide_false, reduceIte, Nat.reduceAdd, Nat.reduceMul, Nat.reduceSub, Nat.reduceLeDiff, Nat.reduceLT, Nat.reduceEqDiff, Nat.reduceMod, Int.reduceBEq, Int.reduceBNe, Int.reduceNeg, Int.reduceNegSucc, Int.reduceLT, Int.reduceLE, Int.reduceToNat, F3, F4, F9, F23, F25, F39, F40, encV, if_pos]
       refine ⟨_, _, rfl, ?_⟩
       refine hK2 _ _ ?_
       clear hK2 K2)
  first
    | refine AOps_callU (loneIf_ok (decide (part < 0)) _) rfl rfl rfl rfl (by first | rfl | (simp only [gv, ung, cv, SL]; done) | (simp only [gv, ung, cv, SL]; exact rfl)) ?_
    | refine AOps_callG rfl (fun hg => loneIf_ok (decide (part < 0)) _) rfl rfl rfl (by first | rfl | (simp only [gv, ung, cv, SL]; done) | (simp only [gv, ung, cv, SL]; exact rfl)) ?_
    | refine LexA_callU (loneIf_ok (decide (part < 0)) _) rfl rfl rfl rfl (by first | rfl | (simp only [gv, ung, cv, SL]; done) | (simp only [gv, ung, cv, SL]; exact rfl)) ?_
    | refine LexA_callG rfl (fun hg => loneIf_ok (decide (part < 0)) _) rfl rfl rfl (by first | rfl | (simp only [gv, ung, cv, SL]; done) | (simp only [gv, ung, cv, SL]; exact rfl)) ?_
  simp only [pt, SL]
  repeat first
    | (with_reducible first
        | refine AWP_seq ?_ | refine then_n ?_ | refine then_r ?_ | refine then_x ?_ | refine AWP_block ?_ | refine blk_n ?_ | refine blk_r ?_ | refine blk_x ?_ | refine blk_y rfl ?_ | refine AWP_skip ?_
        | refine AWP_ret ?_ | refine AWP_exit ?_ | refine AWP_true rfl ?_ | refine AWP_false rfl ?_ | refine AOps_nil ?_ | refine LexA_nil ?_ | refine AWP_region ?_ | refine AWP_draw mixed_ok (by kernel_rfl) ?_)
    | ((first
        | refine AOps_pre rfl (by simp only [postL, isCallV, SL]; exact rfl) fun K2 hK2 => ?_
        | refine LexA_pre rfl rfl (by simp only [postL, isCallV, SL]; exact rfl) fun K2 hK2 => ?_)
       simp (disch := omega) only [SL, evalOps, evalOp, evalG, isPure, gdB, ung, pickG, gv, pt, cv, retV, biV, lenV, boT, bo, intBo, strBo, boolBo, isSh, uo, pickV, nilV, extV, ixOf, mkfV, mmV, mm, preL, postL, isCallV, boxS, cellsV, allocS, storeS, loadV, readT, ptrCells, ofs, fieldAddrV, fieldV, wr, buildV, fillA, buildSliceV, chunks, tagCut, indexV, indexAddrV, sliceV, sliceStr, sliceSl, bnd, if_true, if_false, ite_true, ite_false, and_self, and_true, true_and, beq_self_eq_true, nn, nc0, nc1, nc2, nc3, nc4, nc8, nc10, nc32, Int.toNat_natCast, eq_self, decide_true, decide_false, reduceIte, Nat.reduceAdd, Nat.reduceMul, Nat.reduceSub, Nat.reduceLeDiff, Nat.reduceLT, Nat.reduceEqDiff, Nat.reduceMod, Int.reduceBEq, Int.reduceBNe, Int.reduceNeg, Int.reduceNegSucc, Int.reduceLT, Int.reduceLE, Int.reduceToNat, F3, F4, F9, F23, F25, F39, F40, hqe, hqg, hq3, if_pos]
       refine ⟨_, _, rfl, ?_⟩
       refine hK2 _ _ ?_
       clear hK2 K2)
  first
    | refine AOps_callU (rnext_ok ⟨A, B, C, [[120]]⟩ .full part _ vk) rfl rfl rfl rfl (by first | rfl | (simp only [gv, ung, cv, SL]; done) | (simp only [gv, ung, cv, SL]; exact rfl)) ?_
    | refine AOps_callG rfl (fun hg => rnext_ok ⟨A, B, C, [[120]]⟩ .full part _ vk) rfl rfl rfl (by first | rfl | (simp only [gv, ung, cv, SL]; done) | (simp only [gv, ung, cv, SL]; exact rfl)) ?_
    | refine LexA_callU (rnext_ok ⟨A, B, C, [[120]]⟩ .full part _ vk) rfl rfl rfl rfl (by first | rfl | (simp only [gv, ung, cv, SL]; done) | (simp only [gv, ung, cv, SL]; exact rfl)) ?_
    | refine LexA_callG rfl (fun hg => rnext_ok ⟨A, B, C, [[120]]⟩ .full part _ vk) rfl rfl rfl (by first | rfl | (simp only [gv, ung, cv, SL]; done) | (simp only [gv, ung, cv, SL]; exact rfl)) ?_
  simp only [pt, SL]
  repeat first
    | (with_reducible first
        | refine AWP_seq ?_ | refine then_n ?_ | refine then_r ?_ | refine then_x ?_ | refine AWP_block ?_ | refine blk_n ?_ | refine blk_r ?_ | refine blk_x ?_ | refine blk_y rfl ?_ | refine AWP_skip ?_
        | refine AWP_ret ?_ | refine AWP_exit ?_ | refine AWP_true rfl ?_ | refine AWP_false rfl ?_ | refine AOps_nil ?_ | refine LexA_nil ?_ | refine AWP_region ?_ | refine AWP_draw mixed_ok (by kernel_rfl) ?_)
    | ((first
        | refine AOps_pre rfl (by simp only [postL, isCallV, SL]; exact rfl) fun K2 hK2 => ?_
        | refine LexA_pre rfl rfl (by simp only [postL, isCallV, SL]; exact rfl) fun K2 hK2 => ?_)
       simp (disch := omega) only [SL, evalOps, evalOp, evalG, isPure, gdB, ung, pickG, gv, pt, cv, retV, biV, lenV, boT, bo, intBo, strBo, boolBo, isSh, uo, pickV, nilV, extV, ixOf, mkfV, mmV, mm, preL, postL, isCallV, boxS, cellsV, allocS, storeS, loadV, readT, ptrCells, ofs, fieldAddrV, fieldV, wr, buildV, fillA, buildSliceV, chunks, tagCut, indexV, indexAddrV, sliceV, sliceStr, sliceSl, bnd, if_true, if_false, ite_true, ite_false, and_self, and_true, true_and, beq_self_eq_true, nn, nc0, nc1, nc2, nc3, nc4, nc8, nc10, nc32, Int.toNat_natCast, eq_self, decide_true, decide_false, reduceIte, Nat.reduceAdd, Nat.reduceMul, Nat.reduceSub, Nat.reduceLeDiff, Nat.reduceLT, Nat.reduceEqDiff, Nat.reduceMod, Int.reduceBEq, Int.reduceBNe, Int.reduceNeg, Int.reduceNegSucc, Int.reduceLT, Int.reduceLE, Int.reduceToNat, F3, F4, F9, F23, F25, F39, F40, encV, hnp, strs_len, if_pos]
       refine ⟨_, _, rfl, ?_⟩
       refine hK2 _ _ ?_
       clear hK2 K2)
  first
    | refine AOps_callU (hversion_ok (nextV ⟨A, B, C, [[120]]⟩ part) (nextV ⟨A, B, C, [[120]]⟩ part) .nil .nil _ (by rw [hnp]; simp)) rfl rfl rfl rfl (by first | rfl | (simp only [gv, ung, cv, SL]; done) | (simp only [gv, ung, cv, SL]; exact rfl)) ?_
    | refine AOps_callG rfl (fun hg => hversion_ok (nextV ⟨A, B, C, [[120]]⟩ part) (nextV ⟨A, B, C, [[120]]⟩ part) .nil .nil _ (by rw [hnp]; simp)) rfl rfl rfl (by first | rfl | (simp only [gv, ung, cv, SL]; done) | (simp only [gv, ung, cv, SL]; exact rfl)) ?_
    | refine LexA_callU (hversion_ok (nextV ⟨A, B, C, [[120]]⟩ part) (nextV ⟨A, B, C, [[120]]⟩ part) .nil .nil _ (by rw [hnp]; simp)) rfl rfl rfl rfl (by first | rfl | (simp only [gv, ung, cv, SL]; done) | (simp only [gv, ung, cv, SL]; exact rfl)) ?_
    | refine LexA_callG rfl (fun hg => hversion_ok (nextV ⟨A, B, C, [[120]]⟩ part) (nextV ⟨A, B, C, [[120]]⟩ part) .nil .nil _ (by rw [hnp]; simp)) rfl rfl rfl (by first | rfl | (simp only [gv, ung, cv, SL]; done) | (simp only [gv, ung, cv, SL]; exact rfl)) ?_
  simp only [pt, SL]
  rw [eqV_refl]
  repeat first
    | (with_reducible first
        | refine AWP_seq ?_ | refine then_n ?_ | refine then_r ?_ | refine then_x ?_ | refine AWP_block ?_ | refine blk_n ?_ | refine blk_r ?_ | refine blk_x ?_ | refine blk_y rfl ?_ | refine AWP_skip ?_
        | refine AWP_ret ?_ | refine AWP_exit ?_ | refine AWP_true rfl ?_ | refine AWP_false rfl ?_ | refine AOps_nil ?_ | refine LexA_nil ?_ | refine AWP_region ?_ | refine AWP_draw mixed_ok (by kernel_rfl) ?_)
    | ((first
        | refine AOps_pre rfl (by simp only [postL, isCallV, SL]; exact rfl) fun K2 hK2 => ?_
        | refine LexA_pre rfl rfl (by simp only [postL, isCallV, SL]; exact rfl) fun K2 hK2 => ?_)
       simp (disch := omega) only [SL, evalOps, evalOp, evalG, isPure, gdB, ung, pickG, gv, pt, cv, retV, biV, lenV, boT, bo, intBo, strBo, boolBo, isSh, uo, pickV, nilV, extV, ixOf, mkfV, mmV, mm, preL, postL, isCallV, boxS, cellsV, allocS, storeS, loadV, readT, ptrCells, ofs, fieldAddrV, fieldV, wr, buildV, fillA, buildSliceV, chunks, tagCut, indexV, indexAddrV, sliceV, sliceStr, sliceSl, bnd, if_true, if_false, ite_true, ite_false, and_self, and_true, true_and, beq_self_eq_true, nn, nc0, nc1, nc2, nc3, nc4, nc8, nc10, nc32, Int.toNat_natCast, eq_self, decide_true, decide_false, reduceIte, Nat.reduceAdd, Nat.reduceMul, Nat.reduceSub, Nat.reduceLeDiff, Nat.reduceLT, Nat.reduceEqDiff, Nat.reduceMod, Int.reduceBEq, Int.reduceBNe, Int.reduceNeg, Int.reduceNegSucc, Int.reduceLT, Int.reduceLE, Int.reduceToNat, F3, F4, F9, F23, F25, F39, F40, if_pos]
       refine ⟨_, _, rfl, ?_⟩
       refine hK2 _ _ ?_
       clear hK2 K2)
  refine AWP_cond rfl (fun h => ?_) (fun h => ?_)
  · exfalso
    simp [hnp, eqV_refl, strs] at h
  · repeat first
      | (with_reducible first
          | refine AWP_seq ?_ | refine then_n ?_ | refine then_r ?_ | refine then_x ?_ | refine AWP_block ?_ | refine blk_n ?_ | refine blk_r ?_ | refine blk_x ?_ | refine blk_y rfl ?_ | refine AWP_skip ?_
          | refine AWP_ret ?_ | refine AWP_exit ?_ | refine AWP_true rfl ?_ | refine AWP_false rfl ?_ | refine AOps_nil ?_ | refine LexA_nil ?_ | refine AWP_region ?_ | refine AWP_draw mixed_ok (by kernel_rfl) ?_)
      | ((first
          | refine AOps_pre rfl (by simp only [postL, isCallV, SL]; exact rfl) fun K2 hK2 => ?_
          | refine LexA_pre rfl rfl (by simp only [postL, isCallV, SL]; exact rfl) fun K2 hK2 => ?_)
         simp (disch := omega) only [SL, evalOps, evalOp, evalG, isPure, gdB, ung, pickG, gv, pt, cv, retV, biV, lenV, boT, bo, intBo, strBo, boolBo, isSh, uo, pickV, nilV, extV, ixOf, mkfV, mmV, mm, preL, postL, isCallV, boxS, cellsV, allocS, storeS, loadV, readT, ptrCells, ofs, fieldAddrV, fieldV, wr, buildV, fillA, buildSliceV, chunks, tagCut, indexV, indexAddrV, sliceV, sliceStr, sliceSl, bnd, if_true, if_false, ite_true, ite_false, and_self, and_true, true_and, beq_self_eq_true, nn, nc0, nc1, nc2, nc3, nc4, nc8, nc10, nc32, Int.toNat_natCast, eq_self, decide_true, decide_false, reduceIte, Nat.reduceAdd, Nat.reduceMul, Nat.reduceSub, Nat.reduceLeDiff, Nat.reduceLT, Nat.reduceEqDiff, Nat.reduceMod, Int.reduceBEq, Int.reduceBNe, Int.reduceNeg, Int.reduceNegSucc, Int.reduceLT, Int.reduceLE, Int.reduceToNat, F3, F4, F9, F23, F25, F39, F40, if_pos]
         refine ⟨_, _, rfl, ?_⟩
         refine hK2 _ _ ?_
         clear hK2 K2)
    first
      | refine AOps_callU (vcmp_ok (nextV ⟨A, B, C, [[120]]⟩ part) ⟨A, B, C, [[120]]⟩ .nil .full _ vn vk) rfl rfl rfl rfl (by first | rfl | (simp only [gv, ung, cv, SL]; done) | (simp only [gv, ung, cv, SL]; exact rfl)) ?_
      | refine AOps_callG rfl (fun hg => vcmp_ok (nextV ⟨A, B, C, [[120]]⟩ part) ⟨A, B, C, [[120]]⟩ .nil .full _ vn vk) rfl rfl rfl (by first | rfl | (simp only [gv, ung, cv, SL]; done) | (simp only [gv, ung, cv, SL]; exact rfl)) ?_
      | refine LexA_callU (vcmp_ok (nextV ⟨A, B, C, [[120]]⟩ part) ⟨A, B, C, [[120]]⟩ .nil .full _ vn vk) rfl rfl rfl rfl (by first | rfl | (simp only [gv, ung, cv, SL]; done) | (simp only [gv, ung, cv, SL]; exact rfl)) ?_
      | refine LexA_callG rfl (fun hg => vcmp_ok (nextV ⟨A, B, C, [[120]]⟩ part) ⟨A, B, C, [[120]]⟩ .nil .full _ vn vk) rfl rfl rfl (by first | rfl | (simp only [gv, ung, cv, SL]; done) | (simp only [gv, ung, cv, SL]; exact rfl)) ?_
    simp only [pt, SL]
    rw [u1]
    repeat first
      | (with_reducible first
          | refine AWP_seq ?_ | refine then_n ?_ | refine then_r ?_ | refine then_x ?_ | refine AWP_block ?_ | refine blk_n ?_ | refine blk_r ?_ | refine blk_x ?_ | refine blk_y rfl ?_ | refine AWP_skip ?_
          | refine AWP_ret ?_ | refine AWP_exit ?_ | refine AWP_true rfl ?_ | refine AWP_false rfl ?_ | refine AOps_nil ?_ | refine LexA_nil ?_ | refine AWP_region ?_ | refine AWP_draw mixed_ok (by kernel_rfl) ?_)
      | ((first
          | refine AOps_pre rfl (by simp only [postL, isCallV, SL]; exact rfl) fun K2 hK2 => ?_
          | refine LexA_pre rfl rfl (by simp only [postL, isCallV, SL]; exact rfl) fun K2 hK2 => ?_)
         simp (disch := omega) only [SL, evalOps, evalOp, evalG, isPure, gdB, ung, pickG, gv, pt, cv, retV, biV, lenV, boT, bo, intBo, strBo, boolBo, isSh, uo, pickV, nilV, extV, ixOf, mkfV, mmV, mm, preL, postL, isCallV, boxS, cellsV, allocS, storeS, loadV, readT, ptrCells, ofs, fieldAddrV, fieldV, wr, buildV, fillA, buildSliceV, chunks, tagCut, indexV, indexAddrV, sliceV, sliceStr, sliceSl, bnd, if_true, if_false, ite_true, ite_false, and_self, and_true, true_and, beq_self_eq_true, nn, nc0, nc1, nc2, nc3, nc4, nc8, nc10, nc32, Int.toNat_natCast, eq_self, decide_true, decide_false, reduceIte, Nat.reduceAdd, Nat.reduceMul, Nat.reduceSub, Nat.reduceLeDiff, Nat.reduceLT, Nat.reduceEqDiff, Nat.reduceMod, Int.reduceBEq, Int.reduceBNe, Int.reduceNeg, Int.reduceNegSucc, Int.reduceLT, Int.reduceLE, Int.reduceToNat, F3, F4, F9, F23, F25, F39, F40, if_pos]
         refine ⟨_, _, rfl, ?_⟩
         refine hK2 _ _ ?_
         clear hK2 K2)
    first
      | refine AOps_callU (vcmp_ok (nextV ⟨A, B, C, [[120]]⟩ part) ⟨A, B, C, []⟩ .nil .nil _ vn vz) rfl rfl rfl rfl (by first | rfl | (simp only [gv, ung, cv, SL]; done) | (simp only [gv, ung, cv, SL]; exact rfl)) ?_
      | refine AOps_callG rfl (fun hg => vcmp_ok (nextV ⟨A, B, C, [[120]]⟩ part) ⟨A, B, C, []⟩ .nil .nil _ vn vz) rfl rfl rfl (by first | rfl | (simp only [gv, ung, cv, SL]; done) | (simp only [gv, ung, cv, SL]; exact rfl)) ?_
      | refine LexA_callU (vcmp_ok (nextV ⟨A, B, C, [[120]]⟩ part) ⟨A, B, C, []⟩ .nil .nil _ vn vz) rfl rfl rfl rfl (by first | rfl | (simp only [gv, ung, cv, SL]; done) | (simp only [gv, ung, cv, SL]; exact rfl)) ?_
      | refine LexA_callG rfl (fun hg => vcmp_ok (nextV ⟨A, B, C, [[120]]⟩ part) ⟨A, B, C, []⟩ .nil .nil _ vn vz) rfl rfl rfl (by first | rfl | (simp only [gv, ung, cv, SL]; done) | (simp only [gv, ung, cv, SL]; exact rfl)) ?_
    simp only [pt, SL]
    repeat first
      | (with_reducible first
          | refine AWP_seq ?_ | refine then_n ?_ | refine then_r ?_ | refine then_x ?_ | refine AWP_block ?_ | refine blk_n ?_ | refine blk_r ?_ | refine blk_x ?_ | refine blk_y rfl ?_ | refine AWP_skip ?_
          | refine AWP_ret ?_ | refine AWP_exit ?_ | refine AWP_true rfl ?_ | refine AWP_false rfl ?_ | refine AOps_nil ?_ | refine LexA_nil ?_ | refine AWP_region ?_ | refine AWP_draw mixed_ok (by kernel_rfl) ?_)
      | ((first
          | refine AOps_pre rfl (by simp only [postL, isCallV, SL]; exact rfl) fun K2 hK2 => ?_
          | refine LexA_pre rfl rfl (by simp only [postL, isCallV, SL]; exact rfl) fun K2 hK2 => ?_)
         simp (disch := omega) only [SL, evalOps, evalOp, evalG, isPure, gdB, ung, pickG, gv, pt, cv, retV, biV, lenV, boT, bo, intBo, strBo, boolBo, isSh, uo, pickV, nilV, extV, ixOf, mkfV, mmV, mm, preL, postL, isCallV, boxS, cellsV, allocS, storeS, loadV, readT, ptrCells, ofs, fieldAddrV, fieldV, wr, buildV, fillA, buildSliceV, chunks, tagCut, indexV, indexAddrV, sliceV, sliceStr, sliceSl, bnd, if_true, if_false, ite_true, ite_false, and_self, and_true, true_and, beq_self_eq_true, nn, nc0, nc1, nc2, nc3, nc4, nc8, nc10, nc32, Int.toNat_natCast, eq_self, decide_true, decide_false, reduceIte, Nat.reduceAdd, Nat.reduceMul, Nat.reduceSub, Nat.reduceLeDiff, Nat.reduceLT, Nat.reduceEqDiff, Nat.reduceMod, Int.reduceBEq, Int.reduceBNe, Int.reduceNeg, Int.reduceNegSucc, Int.reduceLT, Int.reduceLE, Int.reduceToNat, F3, F4, F9, F23, F25, F39, F40, if_pos]
         refine ⟨_, _, rfl, ?_⟩
         refine hK2 _ _ ?_
         clear hK2 K2)
    refine body_r (by simp only [resA, ptrCells, readT, if_true, SL, Nat.reduceAdd, Nat.reduceLeDiff, F3, F4, F9, F23, F25, F39, F40]; exact rfl) ?_
    dsimp only [outV]
    first | refine drop_end ?_ | refine drop_end0 ?_
    refine Vle.of_eq ?_
    rcases u2 with h | h <;> simp [h]
end Go.Proofs.YtfagngmikbmmhaaDoor.A
