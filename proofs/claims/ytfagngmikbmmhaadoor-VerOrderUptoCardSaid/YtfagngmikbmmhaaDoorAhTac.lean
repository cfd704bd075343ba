/- The walk's steps as one-line theorems: each carries its own script as a default argument. -/
import Derived.Test.YtfagngmikbmmhaaDoorAhSet
namespace Go.Proofs.YtfagngmikbmmhaaDoor.A
open Go Go.RowKit
set_option linter.unusedVariables false
set_option linter.unusedSimpArgs false

/-- A fact out of omega's sight. -/
structure Bx (E : Prop) : Prop where
  out : E
theorem nof : (!true) = false := rfl
theorem wlk {E goal next : Prop} (e : E) (k : next) (h : Bx E → next → goal := by
  intro e_ k_
  repeat first
    | (with_reducible first
        | refine AWP_seq ?_ | refine then_n ?_ | refine then_r ?_ | refine then_x ?_ | refine AWP_block ?_ | refine blk_n ?_ | refine blk_r ?_ | refine blk_x ?_ | refine blk_y rfl ?_ | refine AWP_skip ?_
        | refine AWP_ret ?_ | refine AWP_exit ?_ | refine AWP_true rfl ?_ | refine AWP_false rfl ?_ | refine AOps_nil ?_ | refine LexA_nil ?_ | refine AWP_region ?_ | refine AWP_draw mixed_ok (by kernel_rfl) ?_)
    | ((first
        | refine AOps_pre rfl (by simp only [postL, isCallV, SL]; exact rfl) fun K2 hK2 => ?_
        | refine LexA_pre rfl rfl (by simp only [postL, isCallV, SL]; exact rfl) fun K2 hK2 => ?_)
       simp (maxSteps := 2000000) (disch := omega) only [SL, evalOps, evalOp, evalG, isPure, gdB, ung, pickG, gv, pt, cv, retV, biV, lenV, boT, bo, intBo, strBo, boolBo, isSh, uo, pickV, nilV, extV, ixOf, mkfV, mmV, mm, preL, postL, isCallV, boxS, cellsV, allocS, storeS, loadV, readT, ptrCells, ofs, fieldAddrV, fieldV, wr, buildV, fillA, buildSliceV, chunks, tagCut, indexV, indexAddrV, sliceV, sliceStr, sliceSl, sliceRw, bnd, keyBo, decK_keyC, keyC_len, if_true, if_false, ite_true, ite_false, and_self, and_true, true_and, beq_self_eq_true, nn, nc0, nc1, nc2, nc3, nc4, nc8, nc10, nc32, Int.toNat_natCast, eq_self, decide_true, decide_false, reduceIte, Nat.reduceAdd, Nat.reduceMul, Nat.reduceSub, Nat.reduceLeDiff, Nat.reduceLT, Nat.reduceEqDiff, Nat.reduceMod, Int.reduceBEq, Int.reduceBNe, Int.reduceNeg, Int.reduceNegSucc, Int.reduceLT, Int.reduceLE, Int.reduceToNat, e_.out, Int.reduceBNe, List.all_cons, List.all_nil, beq_self_eq_true, if_pos]
       refine ⟨_, _, rfl, ?_⟩
       refine hK2 _ _ ?_
       clear hK2 K2)
  exact k_) : goal := h ⟨e⟩ k
theorem wlv {E goal next : Prop} (e : E) (k : next) (h : Bx E → next → goal := by
  intro e_ k_
  repeat first
    | (with_reducible first
        | refine AWP_seq ?_ | refine then_n ?_ | refine then_r ?_ | refine then_x ?_ | refine AWP_block ?_ | refine blk_n ?_ | refine blk_r ?_ | refine blk_x ?_ | refine blk_y rfl ?_ | refine AWP_skip ?_
        | refine AWP_ret ?_ | refine AWP_exit ?_ | refine AWP_true rfl ?_ | refine AWP_false rfl ?_ | refine AOps_nil ?_ | refine LexA_nil ?_ | refine AWP_region ?_ | refine AWP_draw mixed_ok (by kernel_rfl) ?_)
    | ((first
        | refine AOps_pre rfl (by simp only [postL, isCallV, SL]; exact rfl) fun K2 hK2 => ?_
        | refine LexA_pre rfl rfl (by simp only [postL, isCallV, SL]; exact rfl) fun K2 hK2 => ?_)
       simp only [SL, evalOps, evalOp, evalG, isPure, gdB, ung, pickG, gv, pt, cv, retV, biV, lenV, boT, bo, intBo, strBo, boolBo, isSh, uo, pickV, nilV, extV, ixOf, mkfV, mmV, mm, preL, postL, isCallV, boxS, cellsV, allocS, storeS, loadV, readT, ptrCells, ofs, fieldAddrV, fieldV, wr, buildV, fillA, buildSliceV, chunks, tagCut, indexV, indexAddrV, sliceV, sliceStr, sliceSl, sliceRw, bnd, keyBo, decK_keyC, keyC_len, if_true, if_false, ite_true, ite_false, and_self, and_true, true_and, beq_self_eq_true, nn, nc0, nc1, nc2, nc3, nc4, nc8, nc10, nc32, Int.toNat_natCast, eq_self, decide_true, decide_false, reduceIte, Nat.reduceAdd, Nat.reduceMul, Nat.reduceSub, Nat.reduceLeDiff, Nat.reduceLT, Nat.reduceEqDiff, Nat.reduceMod, Int.reduceBEq, Int.reduceBNe, Int.reduceNeg, Int.reduceNegSucc, Int.reduceLT, Int.reduceLE, Int.reduceToNat, e_.out, Int.reduceBNe, List.all_cons, List.all_nil, beq_self_eq_true]
       refine ⟨_, _, rfl, ?_⟩
       refine hK2 _ _ ?_
       clear hK2 K2)
  exact k_) : goal := h ⟨e⟩ k
theorem rgn {E goal next : Prop} (e : E) (k : next) (h : Bx E → next → goal := by
  intro e_ k_
  refine AWP_seq ?_
  refine AWP_region ?_
  refine AOps_pre rfl (by simp only [postL, isCallV, SL]; exact rfl) fun K2 hK2 => ?_
  simp (maxSteps := 2000000) (disch := omega) only [SL, evalOps, evalOp, evalG, isPure, gdB, ung, pickG, gv, pt, cv, retV, biV, lenV, boT, bo, intBo, strBo, boolBo, isSh, uo, pickV, nilV, extV, ixOf, mkfV, mmV, mm, preL, postL, isCallV, boxS, cellsV, allocS, storeS, loadV, readT, ptrCells, ofs, fieldAddrV, fieldV, wr, buildV, fillA, buildSliceV, chunks, tagCut, indexV, indexAddrV, sliceV, sliceStr, sliceSl, sliceRw, bnd, keyBo, decK_keyC, keyC_len, if_true, if_false, ite_true, ite_false, and_self, and_true, true_and, beq_self_eq_true, nn, nc0, nc1, nc2, nc3, nc4, nc8, nc10, nc32, Int.toNat_natCast, eq_self, decide_true, decide_false, reduceIte, Nat.reduceAdd, Nat.reduceMul, Nat.reduceSub, Nat.reduceLeDiff, Nat.reduceLT, Nat.reduceEqDiff, Nat.reduceMod, Int.reduceBEq, Int.reduceBNe, Int.reduceNeg, Int.reduceNegSucc, Int.reduceLT, Int.reduceLE, Int.reduceToNat, e_.out, Int.reduceBNe, List.all_cons, List.all_nil, beq_self_eq_true, if_pos]
  refine ⟨_, _, rfl, ?_⟩
  refine hK2 _ _ ?_
  clear hK2 K2
  refine AOps_nil ?_
  refine then_n ?_
  exact k_) : goal := h ⟨e⟩ k
theorem cll {goal next : Prop} {P : Program} {f : FuncId} {args : List V} {σ : List AE} {x : V} (e : Gives P f args σ x) (k : next) (h : Bx (Gives P f args σ x) → next → goal := by
  intro e_ k_
  first
    | refine AOps_callU (e_.out) rfl rfl rfl rfl (by first | rfl | (simp only [gv, ung, cv, SL]; done) | (simp only [gv, ung, cv, SL]; exact rfl)) ?_
    | refine AOps_callG rfl (fun hg => e_.out) rfl rfl rfl (by first | rfl | (simp only [gv, ung, cv, SL]; done) | (simp only [gv, ung, cv, SL]; exact rfl)) ?_
    | refine LexA_callU (e_.out) rfl rfl rfl rfl (by first | rfl | (simp only [gv, ung, cv, SL]; done) | (simp only [gv, ung, cv, SL]; exact rfl)) ?_
    | refine LexA_callG rfl (fun hg => e_.out) rfl rfl rfl (by first | rfl | (simp only [gv, ung, cv, SL]; done) | (simp only [gv, ung, cv, SL]; exact rfl)) ?_
  simp only [pt, SL]
  exact k_) : goal := h ⟨e⟩ k
theorem rtr {E goal next : Prop} (e : E) (k : next) (h : Bx E → next → goal := by
  intro e_ k_
  refine body_r (by simp only [resA, ptrCells, readT, if_true, SL, Nat.reduceAdd, Nat.reduceLeDiff, e_.out]; exact rfl) ?_
  dsimp only [outV]
  exact k_) : goal := h ⟨e⟩ k
theorem rtn {E goal next : Prop} (e : E) (k : next) (h : Bx E → next → goal := by
  intro e_ k_
  refine body_n (by simp only [resA, ptrCells, readT, if_true, SL, Nat.reduceAdd, Nat.reduceLeDiff, e_.out]; exact rfl) ?_
  dsimp only [outV]
  exact k_) : goal := h ⟨e⟩ k
theorem rtrb {E goal next : Prop} (e : E) (k : next) (h : Bx E → next → goal := by
  intro e_ k_
  refine body_r (by simp only [resA, ptrCells, readT, if_true, SL, Nat.reduceAdd, Nat.reduceLeDiff, e_.out]; exact rfl) ?_
  dsimp only [outV]
  first | refine drop_end ?_ | refine drop_end0 ?_
  exact k_) : goal := h ⟨e⟩ k
theorem rtnb {E goal next : Prop} (e : E) (k : next) (h : Bx E → next → goal := by
  intro e_ k_
  refine body_n (by simp only [resA, ptrCells, readT, if_true, SL, Nat.reduceAdd, Nat.reduceLeDiff, e_.out]; exact rfl) ?_
  dsimp only [outV]
  first | refine drop_end ?_ | refine drop_end0 ?_
  exact k_) : goal := h ⟨e⟩ k
theorem ent {goal next : Prop} {P : Program} {f : FuncId} {fn : Func} {n : Nat} {rs : Array ResultVar} (hf : P.funcs[f]? = some fn) (h1 : fn.ntmps = n) (h2 : fn.results = rs) (k : next) (h : P.funcs[f]? = some fn → fn.ntmps = n → fn.results = rs → next → goal := by
  intro hf_ h1_ h2_ k_
  refine ACalls_body hf_ rfl rfl ?_
  simp only [h1_, h2_, List.length_cons, List.length_nil, Nat.reduceAdd, Nat.reduceSub, List.replicate_succ, List.replicate_zero, List.cons_append, List.nil_append, List.toList_toArray]
  exact k_) : goal := h hf h1 h2 k
theorem entb {next : Prop} {P : Program} {f : FuncId} {fn : Func} {n : Nat} {rs : Array ResultVar} {args : List V} {σ : List AE} {x : V} (hf : P.funcs[f]? = some fn) (h1 : fn.ntmps = n) (h2 : fn.results = rs) (k : next) (h : P.funcs[f]? = some fn → fn.ntmps = n → fn.results = rs → next → Gives P f args σ x := by
  intro hf_ h1_ h2_ k_
  refine Gives_drop (hb := fun hb => by simp_all [bel, bels, bels2, tbel]) ?_
  refine ACalls_body hf_ rfl rfl ?_
  simp only [h1_, h2_, List.length_cons, List.length_nil, Nat.reduceAdd, Nat.reduceSub, List.replicate_succ, List.replicate_zero, List.cons_append, List.nil_append, List.toList_toArray]
  exact k_) : Gives P f args σ x := h hf h1 h2 k
theorem lle {goal : Prop} (h : goal := by
  repeat' (first | exact trivial | refine And.intro ?_ ?_)
  all_goals first | with_reducible exact Vle.junk _ | with_reducible exact Vle.refl _ | exact Vle.refl _ | exact Vle.ro _ _) : goal := h
end Go.Proofs.YtfagngmikbmmhaaDoor.A
