/- Texts of the proof, one behind another: AhTac, AhFacts, VaA. -/
import Derived.Test.YtdjjlbjagaadaaaGreatDoorMa3
import Derived.Test.YtdjjlbjagaadaaaGreatDoorProg
/- The walk's steps as one-line theorems: each carries its own script as a default argument. -/
namespace Go.Proofs.YtdjjlbjagaadaaaGreatDoor.A
open Go Go.RowKit
set_option linter.unusedVariables false
set_option linter.unusedSimpArgs false

/-- A fact out of omega's sight. -/
structure Bx (E : Prop) : Prop where
  out : E
theorem nof : (!true) = false := rfl
theorem wlk {E goal next : Prop} (e : E) (k : next) (h : Bx E → next → goal := by
  intro e_ k_
  repeat first
    | (with_reducible first
        | refine AWP_seq ?_ | refine then_n ?_ | refine then_r ?_ | refine then_x ?_ | refine AWP_block ?_ | refine blk_n ?_ | refine blk_r ?_ | refine blk_x ?_ | refine blk_y rfl ?_ | refine AWP_skip ?_
        | refine AWP_ret ?_ | refine AWP_exit ?_ | refine AWP_true rfl ?_ | refine AWP_false rfl ?_ | refine AOps_nil ?_ | refine LexA_nil ?_ | refine AWP_region ?_ | refine AWP_draw mixed_ok (by kernel_rfl) ?_)
    | ((first
        | refine AOps_pre rfl (by simp only [postL, isCallV, SL]; exact rfl) fun K2 hK2 => ?_
        | refine LexA_pre rfl (by simp only [postL, isCallV, SL]; exact rfl) fun K2 hK2 => ?_)
       simp (maxSteps := 2000000) (disch := omega) only [SL, evalOps, evalOp, boX, eqB, isIf0, ptrTo, isSlT, conc, conc1, concL, mkI, tasV, absV, one1, allOne, evalG, isPure, gdB, ung, pickG, gv, pt, cv, retV, biV, lenV, boT, bo, intBo, strBo, boolBo, isSh, uo, pickV, nilV, extV, ixOf, mkfV, mmV, mm, preL, postL, isCallV, boxS, cellsV, allocS, storeS, loadV, readT, ptrCells, ofs, fieldAddrV, fieldV, wr, wr0, List.nil_append, List.cons_append, List.take_succ_cons, List.take_zero, List.drop_succ_cons, List.drop_zero, List.drop_nil, List.append_nil, buildV, fillA, buildSliceV, chunks, tagCut, indexV, indexAddrV, sliceV, sliceStr, sliceSl, sliceRw, bnd, keyBo, decK_keyC, keyC_len, if_true, if_false, ite_true, ite_false, and_self, and_true, true_and, beq_self_eq_true, nn, nc0, nc1, nc2, nc3, nc4, nc8, nc10, nc32, Int.toNat_natCast, eq_self, decide_true, decide_false, reduceIte, Nat.reduceAdd, Nat.reduceMul, Nat.reduceSub, Nat.reduceLeDiff, Nat.reduceLT, Nat.reduceEqDiff, Nat.reduceMod, Int.reduceBEq, Int.reduceBNe, Int.reduceNeg, Int.reduceNegSucc, Int.reduceLT, Int.reduceLE, Int.reduceToNat, e_.out, Int.reduceBNe, List.all_cons, List.all_nil, beq_self_eq_true, if_pos]
       refine ⟨_, _, rfl, ?_⟩
       refine hK2 _ _ ?_
       clear hK2 K2)
  exact k_) : goal := h ⟨e⟩ k
theorem wlv {E goal next : Prop} (e : E) (k : next) (h : Bx E → next → goal := by
  intro e_ k_
  repeat first
    | (with_reducible first
        | refine AWP_seq ?_ | refine then_n ?_ | refine then_r ?_ | refine then_x ?_ | refine AWP_block ?_ | refine blk_n ?_ | refine blk_r ?_ | refine blk_x ?_ | refine blk_y rfl ?_ | refine AWP_skip ?_
        | refine AWP_ret ?_ | refine AWP_exit ?_ | refine AWP_true rfl ?_ | refine AWP_false rfl ?_ | refine AOps_nil ?_ | refine LexA_nil ?_ | refine AWP_region ?_ | refine AWP_draw mixed_ok (by kernel_rfl) ?_)
    | ((first
        | refine AOps_pre rfl (by simp only [postL, isCallV, SL]; exact rfl) fun K2 hK2 => ?_
        | refine LexA_pre rfl (by simp only [postL, isCallV, SL]; exact rfl) fun K2 hK2 => ?_)
       simp only [SL, evalOps, evalOp, boX, eqB, isIf0, ptrTo, isSlT, conc, conc1, concL, mkI, tasV, absV, one1, allOne, evalG, isPure, gdB, ung, pickG, gv, pt, cv, retV, biV, lenV, boT, bo, intBo, strBo, boolBo, isSh, uo, pickV, nilV, extV, ixOf, mkfV, mmV, mm, preL, postL, isCallV, boxS, cellsV, allocS, storeS, loadV, readT, ptrCells, ofs, fieldAddrV, fieldV, wr, wr0, List.nil_append, List.cons_append, List.take_succ_cons, List.take_zero, List.drop_succ_cons, List.drop_zero, List.drop_nil, List.append_nil, buildV, fillA, buildSliceV, chunks, tagCut, indexV, indexAddrV, sliceV, sliceStr, sliceSl, sliceRw, bnd, keyBo, decK_keyC, keyC_len, if_true, if_false, ite_true, ite_false, and_self, and_true, true_and, beq_self_eq_true, nn, nc0, nc1, nc2, nc3, nc4, nc8, nc10, nc32, Int.toNat_natCast, eq_self, decide_true, decide_false, reduceIte, Nat.reduceAdd, Nat.reduceMul, Nat.reduceSub, Nat.reduceLeDiff, Nat.reduceLT, Nat.reduceEqDiff, Nat.reduceMod, Int.reduceBEq, Int.reduceBNe, Int.reduceNeg, Int.reduceNegSucc, Int.reduceLT, Int.reduceLE, Int.reduceToNat, e_.out, Int.reduceBNe, List.all_cons, List.all_nil, beq_self_eq_true]
       refine ⟨_, _, rfl, ?_⟩
       refine hK2 _ _ ?_
       clear hK2 K2)
  exact k_) : goal := h ⟨e⟩ k
theorem rgn {E goal next : Prop} (e : E) (k : next) (h : Bx E → next → goal := by
  intro e_ k_
  refine AWP_seq ?_
  refine AWP_region ?_
  refine AOps_pre rfl (by simp only [postL, isCallV, SL]; exact rfl) fun K2 hK2 => ?_
  simp (maxSteps := 2000000) (disch := omega) only [SL, evalOps, evalOp, boX, eqB, isIf0, ptrTo, isSlT, conc, conc1, concL, mkI, tasV, absV, one1, allOne, evalG, isPure, gdB, ung, pickG, gv, pt, cv, retV, biV, lenV, boT, bo, intBo, strBo, boolBo, isSh, uo, pickV, nilV, extV, ixOf, mkfV, mmV, mm, preL, postL, isCallV, boxS, cellsV, allocS, storeS, loadV, readT, ptrCells, ofs, fieldAddrV, fieldV, wr, wr0, List.nil_append, List.cons_append, List.take_succ_cons, List.take_zero, List.drop_succ_cons, List.drop_zero, List.drop_nil, List.append_nil, buildV, fillA, buildSliceV, chunks, tagCut, indexV, indexAddrV, sliceV, sliceStr, sliceSl, sliceRw, bnd, keyBo, decK_keyC, keyC_len, if_true, if_false, ite_true, ite_false, and_self, and_true, true_and, beq_self_eq_true, nn, nc0, nc1, nc2, nc3, nc4, nc8, nc10, nc32, Int.toNat_natCast, eq_self, decide_true, decide_false, reduceIte, Nat.reduceAdd, Nat.reduceMul, Nat.reduceSub, Nat.reduceLeDiff, Nat.reduceLT, Nat.reduceEqDiff, Nat.reduceMod, Int.reduceBEq, Int.reduceBNe, Int.reduceNeg, Int.reduceNegSucc, Int.reduceLT, Int.reduceLE, Int.reduceToNat, e_.out, Int.reduceBNe, List.all_cons, List.all_nil, beq_self_eq_true, if_pos]
  refine ⟨_, _, rfl, ?_⟩
  refine hK2 _ _ ?_
  clear hK2 K2
  refine AOps_nil ?_
  refine then_n ?_
  exact k_) : goal := h ⟨e⟩ k
theorem cll {goal next : Prop} {P : Program} {f : FuncId} {args : List V} {σ : List AE} {x : V} (e : Gives P f args σ x) (k : next) (h : Bx (Gives P f args σ x) → next → goal := by
  intro e_ k_
  first
    | refine AOps_callU (e_.out) rfl rfl rfl rfl (by first | rfl | (simp only [gv, ung, cv, SL]; done) | (simp only [gv, ung, cv, SL]; exact rfl)) ?_
    | refine AOps_callG rfl (fun hg => e_.out) rfl rfl rfl (by first | rfl | (simp only [gv, ung, cv, SL]; done) | (simp only [gv, ung, cv, SL]; exact rfl)) ?_
    | refine LexA_callU (e_.out) rfl rfl rfl rfl (by first | rfl | (simp only [gv, ung, cv, SL]; done) | (simp only [gv, ung, cv, SL]; exact rfl)) ?_
    | refine LexA_callG rfl (fun hg => e_.out) rfl rfl rfl (by first | rfl | (simp only [gv, ung, cv, SL]; done) | (simp only [gv, ung, cv, SL]; exact rfl)) ?_
  simp only [pt, SL]
  exact k_) : goal := h ⟨e⟩ k
theorem rtr {E goal next : Prop} (e : E) (k : next) (h : Bx E → next → goal := by
  intro e_ k_
  refine body_r (by simp only [resA, ptrCells, readT, if_true, SL, Nat.reduceAdd, Nat.reduceLeDiff, e_.out]; exact rfl) ?_
  dsimp only [outV]
  exact k_) : goal := h ⟨e⟩ k
theorem rtn {E goal next : Prop} (e : E) (k : next) (h : Bx E → next → goal := by
  intro e_ k_
  refine body_n (by simp only [resA, ptrCells, readT, if_true, SL, Nat.reduceAdd, Nat.reduceLeDiff, e_.out]; exact rfl) ?_
  dsimp only [outV]
  exact k_) : goal := h ⟨e⟩ k
theorem rtrb {E goal next : Prop} (e : E) (k : next) (h : Bx E → next → goal := by
  intro e_ k_
  refine body_r (by simp only [resA, ptrCells, readT, if_true, SL, Nat.reduceAdd, Nat.reduceLeDiff, e_.out]; exact rfl) ?_
  dsimp only [outV]
  first | refine drop_end ?_ | refine drop_end0 ?_
  exact k_) : goal := h ⟨e⟩ k
theorem rtnb {E goal next : Prop} (e : E) (k : next) (h : Bx E → next → goal := by
  intro e_ k_
  refine body_n (by simp only [resA, ptrCells, readT, if_true, SL, Nat.reduceAdd, Nat.reduceLeDiff, e_.out]; exact rfl) ?_
  dsimp only [outV]
  first | refine drop_end ?_ | refine drop_end0 ?_
  exact k_) : goal := h ⟨e⟩ k
theorem ent {goal next : Prop} {P : Program} {f : FuncId} {fn : Func} {n : Nat} {rs : Array ResultVar} (hf : P.funcs[f]? = some fn) (h1 : fn.ntmps = n) (h2 : fn.results = rs) (k : next) (h : P.funcs[f]? = some fn → fn.ntmps = n → fn.results = rs → next → goal := by
  intro hf_ h1_ h2_ k_
  refine ACalls_body hf_ rfl rfl ?_
  simp only [h1_, h2_, List.length_cons, List.length_nil, Nat.reduceAdd, Nat.reduceSub, List.replicate_succ, List.replicate_zero, List.cons_append, List.nil_append, List.toList_toArray]
  exact k_) : goal := h hf h1 h2 k
theorem entb {next : Prop} {P : Program} {f : FuncId} {fn : Func} {n : Nat} {rs : Array ResultVar} {args : List V} {σ : List AE} {x : V} (hf : P.funcs[f]? = some fn) (h1 : fn.ntmps = n) (h2 : fn.results = rs) (k : next) (h : P.funcs[f]? = some fn → fn.ntmps = n → fn.results = rs → next → Gives P f args σ x := by
  intro hf_ h1_ h2_ k_
  refine Gives_drop (hb := fun hb => by simp_all [bel, bels, bels2, tbel]) ?_
  refine ACalls_body hf_ rfl rfl ?_
  simp only [h1_, h2_, List.length_cons, List.length_nil, Nat.reduceAdd, Nat.reduceSub, List.replicate_succ, List.replicate_zero, List.cons_append, List.nil_append, List.toList_toArray]
  exact k_) : Gives P f args σ x := h hf h1 h2 k
theorem lle {goal : Prop} (h : goal := by
  repeat' (first | exact trivial | refine And.intro ?_ ?_)
  all_goals first | with_reducible exact Vle.junk _ | with_reducible exact Vle.refl _ | exact Vle.refl _ | exact Vle.ro _ _) : goal := h
end Go.Proofs.YtdjjlbjagaadaaaGreatDoor.A
/- Closed facts on the types of this seat's program (printed by a program). -/
namespace Go.Proofs.YtdjjlbjagaadaaaGreatDoor.A
open Go Go.RowKit
set_option maxRecDepth 100000
theorem mixed_ok : Tryz.prog.follows .mixedOrders = true := by kernel_rfl
theorem tyS0 : tySize Tryz.prog 0 = some 1 := by kernel_rfl
theorem tyA0 : tyAgg Tryz.prog 0 = some false := by kernel_rfl
theorem sp0 : selfP Tryz.prog 0 = false := by kernel_rfl
theorem F0 : (tySize Tryz.prog 0 = some 1) ∧ (tyAgg Tryz.prog 0 = some false) ∧ (selfP Tryz.prog 0 = false) ∧ (Tryz.prog.underlying 0 = some (Go.TypeDesc.tuple #[])) := And.intro tyS0 (And.intro tyA0 (And.intro sp0 (Tryz.underlying0)))
theorem tyS1 : tySize Tryz.prog 1 = some 1 := by kernel_rfl
theorem tyA1 : tyAgg Tryz.prog 1 = some false := by kernel_rfl
theorem sp1 : selfP Tryz.prog 1 = false := by kernel_rfl
theorem zV1 : zerosV Tryz.prog 1 = some [.exact Go.Value.nilFunc] := by kernel_rfl
theorem F1 : (tySize Tryz.prog 1 = some 1) ∧ (tyAgg Tryz.prog 1 = some false) ∧ (selfP Tryz.prog 1 = false) ∧ (zerosV Tryz.prog 1 = some [.exact Go.Value.nilFunc]) ∧ (Tryz.prog.underlying 1 = some (Go.TypeDesc.func #[] #[] false)) := And.intro tyS1 (And.intro tyA1 (And.intro sp1 (And.intro zV1 (Tryz.underlying1))))
theorem tyS2 : tySize Tryz.prog 2 = some 1 := by kernel_rfl
theorem tyA2 : tyAgg Tryz.prog 2 = some false := by kernel_rfl
theorem sp2 : selfP Tryz.prog 2 = false := by kernel_rfl
theorem zV2 : zerosV Tryz.prog 2 = some [.int .i64 0] := by kernel_rfl
theorem F2 : (tySize Tryz.prog 2 = some 1) ∧ (tyAgg Tryz.prog 2 = some false) ∧ (selfP Tryz.prog 2 = false) ∧ (zerosV Tryz.prog 2 = some [.int .i64 0]) ∧ (Tryz.prog.underlying 2 = some (Go.TypeDesc.int Go.IntKind.i64)) := And.intro tyS2 (And.intro tyA2 (And.intro sp2 (And.intro zV2 (Tryz.underlying2))))
theorem tyS3 : tySize Tryz.prog 3 = some 1 := by kernel_rfl
theorem tyA3 : tyAgg Tryz.prog 3 = some false := by kernel_rfl
theorem sp3 : selfP Tryz.prog 3 = false := by kernel_rfl
theorem zV3 : zerosV Tryz.prog 3 = some [.int .i64 0] := by kernel_rfl
theorem F3 : (tySize Tryz.prog 3 = some 1) ∧ (tyAgg Tryz.prog 3 = some false) ∧ (selfP Tryz.prog 3 = false) ∧ (zerosV Tryz.prog 3 = some [.int .i64 0]) ∧ (Tryz.prog.underlying 3 = some (Go.TypeDesc.int Go.IntKind.i64)) := And.intro tyS3 (And.intro tyA3 (And.intro sp3 (And.intro zV3 (Tryz.underlying3))))
theorem tyS4 : tySize Tryz.prog 4 = some 1 := by kernel_rfl
theorem tyA4 : tyAgg Tryz.prog 4 = some false := by kernel_rfl
theorem sp4 : selfP Tryz.prog 4 = false := by kernel_rfl
theorem zV4 : zerosV Tryz.prog 4 = some [.bool false] := by kernel_rfl
theorem F4 : (tySize Tryz.prog 4 = some 1) ∧ (tyAgg Tryz.prog 4 = some false) ∧ (selfP Tryz.prog 4 = false) ∧ (zerosV Tryz.prog 4 = some [.bool false]) ∧ (Tryz.prog.underlying 4 = some Go.TypeDesc.bool) := And.intro tyS4 (And.intro tyA4 (And.intro sp4 (And.intro zV4 (Tryz.underlying4))))
theorem tyS5 : tySize Tryz.prog 5 = some 1 := by kernel_rfl
theorem tyA5 : tyAgg Tryz.prog 5 = some false := by kernel_rfl
theorem sp5 : selfP Tryz.prog 5 = false := by kernel_rfl
theorem zV5 : zerosV Tryz.prog 5 = some [.int .u8 0] := by kernel_rfl
theorem F5 : (tySize Tryz.prog 5 = some 1) ∧ (tyAgg Tryz.prog 5 = some false) ∧ (selfP Tryz.prog 5 = false) ∧ (zerosV Tryz.prog 5 = some [.int .u8 0]) ∧ (Tryz.prog.underlying 5 = some (Go.TypeDesc.int Go.IntKind.u8)) := And.intro tyS5 (And.intro tyA5 (And.intro sp5 (And.intro zV5 (Tryz.underlying5))))
theorem tyS6 : tySize Tryz.prog 6 = some 1 := by kernel_rfl
theorem tyA6 : tyAgg Tryz.prog 6 = some false := by kernel_rfl
theorem sp6 : selfP Tryz.prog 6 = false := by kernel_rfl
theorem zV6 : zerosV Tryz.prog 6 = some [.int .u8 0] := by kernel_rfl
theorem F6 : (tySize Tryz.prog 6 = some 1) ∧ (tyAgg Tryz.prog 6 = some false) ∧ (selfP Tryz.prog 6 = false) ∧ (zerosV Tryz.prog 6 = some [.int .u8 0]) ∧ (Tryz.prog.underlying 6 = some (Go.TypeDesc.int Go.IntKind.u8)) := And.intro tyS6 (And.intro tyA6 (And.intro sp6 (And.intro zV6 (Tryz.underlying6))))
theorem tyS7 : tySize Tryz.prog 7 = some 4 := by kernel_rfl
theorem tyA7 : tyAgg Tryz.prog 7 = some true := by kernel_rfl
theorem sp7 : selfP Tryz.prog 7 = false := by kernel_rfl
theorem zV7 : zerosV Tryz.prog 7 = some [.int .i64 0, .int .i64 0, .bool false, .int .u8 0] := by kernel_rfl
theorem pl7 : places Tryz.prog 7 = some [(0, 1), (1, 1), (2, 1), (3, 1)] := by kernel_rfl
theorem fl7_0 : fld Tryz.prog 7 0 = some (0, 2) := by kernel_rfl
theorem fl7_1 : fld Tryz.prog 7 1 = some (1, 3) := by kernel_rfl
theorem fl7_2 : fld Tryz.prog 7 2 = some (2, 4) := by kernel_rfl
theorem fl7_3 : fld Tryz.prog 7 3 = some (3, 6) := by kernel_rfl
theorem F7 : (tySize Tryz.prog 7 = some 4) ∧ (tyAgg Tryz.prog 7 = some true) ∧ (selfP Tryz.prog 7 = false) ∧ (zerosV Tryz.prog 7 = some [.int .i64 0, .int .i64 0, .bool false, .int .u8 0]) ∧ (places Tryz.prog 7 = some [(0, 1), (1, 1), (2, 1), (3, 1)]) ∧ (fld Tryz.prog 7 0 = some (0, 2)) ∧ (fld Tryz.prog 7 1 = some (1, 3)) ∧ (fld Tryz.prog 7 2 = some (2, 4)) ∧ (fld Tryz.prog 7 3 = some (3, 6)) ∧ (Tryz.prog.underlying 7 = some (Go.TypeDesc.struct #[{ name := "x", type := 2, offset := 0, embedded := false, tag := "", pkgPath := "runtime", byteOffset := 0 }, { name := "y", type := 3, offset := 1, embedded := false, tag := "", pkgPath := "runtime", byteOffset := 8 }, { name := "signed", type := 4, offset := 2, embedded := false, tag := "", pkgPath := "runtime", byteOffset := 16 }, { name := "code", type := 6, offset := 3, embedded := false, tag := "", pkgPath := "runtime", byteOffset := 17 }])) := And.intro tyS7 (And.intro tyA7 (And.intro sp7 (And.intro zV7 (And.intro pl7 (And.intro fl7_0 (And.intro fl7_1 (And.intro fl7_2 (And.intro fl7_3 (Tryz.underlying7)))))))))
theorem tyS8 : tySize Tryz.prog 8 = some 4 := by kernel_rfl
theorem tyA8 : tyAgg Tryz.prog 8 = some true := by kernel_rfl
theorem sp8 : selfP Tryz.prog 8 = false := by kernel_rfl
theorem zV8 : zerosV Tryz.prog 8 = some [.int .i64 0, .int .i64 0, .bool false, .int .u8 0] := by kernel_rfl
theorem pl8 : places Tryz.prog 8 = some [(0, 1), (1, 1), (2, 1), (3, 1)] := by kernel_rfl
theorem fl8_0 : fld Tryz.prog 8 0 = some (0, 2) := by kernel_rfl
theorem fl8_1 : fld Tryz.prog 8 1 = some (1, 3) := by kernel_rfl
theorem fl8_2 : fld Tryz.prog 8 2 = some (2, 4) := by kernel_rfl
theorem fl8_3 : fld Tryz.prog 8 3 = some (3, 6) := by kernel_rfl
theorem F8 : (tySize Tryz.prog 8 = some 4) ∧ (tyAgg Tryz.prog 8 = some true) ∧ (selfP Tryz.prog 8 = false) ∧ (zerosV Tryz.prog 8 = some [.int .i64 0, .int .i64 0, .bool false, .int .u8 0]) ∧ (places Tryz.prog 8 = some [(0, 1), (1, 1), (2, 1), (3, 1)]) ∧ (fld Tryz.prog 8 0 = some (0, 2)) ∧ (fld Tryz.prog 8 1 = some (1, 3)) ∧ (fld Tryz.prog 8 2 = some (2, 4)) ∧ (fld Tryz.prog 8 3 = some (3, 6)) ∧ (Tryz.prog.underlying 8 = some (Go.TypeDesc.struct #[{ name := "x", type := 2, offset := 0, embedded := false, tag := "", pkgPath := "runtime", byteOffset := 0 }, { name := "y", type := 3, offset := 1, embedded := false, tag := "", pkgPath := "runtime", byteOffset := 8 }, { name := "signed", type := 4, offset := 2, embedded := false, tag := "", pkgPath := "runtime", byteOffset := 16 }, { name := "code", type := 6, offset := 3, embedded := false, tag := "", pkgPath := "runtime", byteOffset := 17 }])) := And.intro tyS8 (And.intro tyA8 (And.intro sp8 (And.intro zV8 (And.intro pl8 (And.intro fl8_0 (And.intro fl8_1 (And.intro fl8_2 (And.intro fl8_3 (Tryz.underlying8)))))))))
theorem tyS9 : tySize Tryz.prog 9 = some 1 := by kernel_rfl
theorem tyA9 : tyAgg Tryz.prog 9 = some false := by kernel_rfl
theorem sp9 : selfP Tryz.prog 9 = false := by kernel_rfl
theorem zV9 : zerosV Tryz.prog 9 = some [.str []] := by kernel_rfl
theorem F9 : (tySize Tryz.prog 9 = some 1) ∧ (tyAgg Tryz.prog 9 = some false) ∧ (selfP Tryz.prog 9 = false) ∧ (zerosV Tryz.prog 9 = some [.str []]) ∧ (Tryz.prog.underlying 9 = some Go.TypeDesc.string) := And.intro tyS9 (And.intro tyA9 (And.intro sp9 (And.intro zV9 (Tryz.underlying9))))
theorem tyS10 : tySize Tryz.prog 10 = some 1 := by kernel_rfl
theorem tyA10 : tyAgg Tryz.prog 10 = some false := by kernel_rfl
theorem sp10 : selfP Tryz.prog 10 = false := by kernel_rfl
theorem zV10 : zerosV Tryz.prog 10 = some [.str []] := by kernel_rfl
theorem F10 : (tySize Tryz.prog 10 = some 1) ∧ (tyAgg Tryz.prog 10 = some false) ∧ (selfP Tryz.prog 10 = false) ∧ (zerosV Tryz.prog 10 = some [.str []]) ∧ (Tryz.prog.underlying 10 = some Go.TypeDesc.string) := And.intro tyS10 (And.intro tyA10 (And.intro sp10 (And.intro zV10 (Tryz.underlying10))))
theorem tyS11 : tySize Tryz.prog 11 = some 1 := by kernel_rfl
theorem tyA11 : tyAgg Tryz.prog 11 = some false := by kernel_rfl
theorem sp11 : selfP Tryz.prog 11 = false := by kernel_rfl
theorem zV11 : zerosV Tryz.prog 11 = some [.str []] := by kernel_rfl
theorem F11 : (tySize Tryz.prog 11 = some 1) ∧ (tyAgg Tryz.prog 11 = some false) ∧ (selfP Tryz.prog 11 = false) ∧ (zerosV Tryz.prog 11 = some [.str []]) ∧ (Tryz.prog.underlying 11 = some Go.TypeDesc.string) := And.intro tyS11 (And.intro tyA11 (And.intro sp11 (And.intro zV11 (Tryz.underlying11))))
theorem tyS12 : tySize Tryz.prog 12 = some 1 := by kernel_rfl
theorem tyA12 : tyAgg Tryz.prog 12 = some false := by kernel_rfl
theorem sp12 : selfP Tryz.prog 12 = false := by kernel_rfl
theorem zV12 : zerosV Tryz.prog 12 = some [.int .u64 0] := by kernel_rfl
theorem F12 : (tySize Tryz.prog 12 = some 1) ∧ (tyAgg Tryz.prog 12 = some false) ∧ (selfP Tryz.prog 12 = false) ∧ (zerosV Tryz.prog 12 = some [.int .u64 0]) ∧ (Tryz.prog.underlying 12 = some (Go.TypeDesc.int Go.IntKind.u64)) := And.intro tyS12 (And.intro tyA12 (And.intro sp12 (And.intro zV12 (Tryz.underlying12))))
theorem tyS13 : tySize Tryz.prog 13 = some 2 := by kernel_rfl
theorem tyA13 : tyAgg Tryz.prog 13 = some true := by kernel_rfl
theorem sp13 : selfP Tryz.prog 13 = false := by kernel_rfl
theorem zV13 : zerosV Tryz.prog 13 = some [.str [], .int .u64 0] := by kernel_rfl
theorem pl13 : places Tryz.prog 13 = some [(0, 1), (1, 1)] := by kernel_rfl
theorem fl13_0 : fld Tryz.prog 13 0 = some (0, 9) := by kernel_rfl
theorem fl13_1 : fld Tryz.prog 13 1 = some (1, 12) := by kernel_rfl
theorem F13 : (tySize Tryz.prog 13 = some 2) ∧ (tyAgg Tryz.prog 13 = some true) ∧ (selfP Tryz.prog 13 = false) ∧ (zerosV Tryz.prog 13 = some [.str [], .int .u64 0]) ∧ (places Tryz.prog 13 = some [(0, 1), (1, 1)]) ∧ (fld Tryz.prog 13 0 = some (0, 9)) ∧ (fld Tryz.prog 13 1 = some (1, 12)) ∧ (Tryz.prog.underlying 13 = some (Go.TypeDesc.struct #[{ name := "msg", type := 9, offset := 0, embedded := false, tag := "", pkgPath := "runtime", byteOffset := 0 }, { name := "addr", type := 12, offset := 1, embedded := false, tag := "", pkgPath := "runtime", byteOffset := 16 }])) := And.intro tyS13 (And.intro tyA13 (And.intro sp13 (And.intro zV13 (And.intro pl13 (And.intro fl13_0 (And.intro fl13_1 (Tryz.underlying13)))))))
theorem tyS14 : tySize Tryz.prog 14 = some 2 := by kernel_rfl
theorem tyA14 : tyAgg Tryz.prog 14 = some true := by kernel_rfl
theorem sp14 : selfP Tryz.prog 14 = false := by kernel_rfl
theorem zV14 : zerosV Tryz.prog 14 = some [.str [], .int .u64 0] := by kernel_rfl
theorem pl14 : places Tryz.prog 14 = some [(0, 1), (1, 1)] := by kernel_rfl
theorem fl14_0 : fld Tryz.prog 14 0 = some (0, 9) := by kernel_rfl
theorem fl14_1 : fld Tryz.prog 14 1 = some (1, 12) := by kernel_rfl
theorem F14 : (tySize Tryz.prog 14 = some 2) ∧ (tyAgg Tryz.prog 14 = some true) ∧ (selfP Tryz.prog 14 = false) ∧ (zerosV Tryz.prog 14 = some [.str [], .int .u64 0]) ∧ (places Tryz.prog 14 = some [(0, 1), (1, 1)]) ∧ (fld Tryz.prog 14 0 = some (0, 9)) ∧ (fld Tryz.prog 14 1 = some (1, 12)) ∧ (Tryz.prog.underlying 14 = some (Go.TypeDesc.struct #[{ name := "msg", type := 9, offset := 0, embedded := false, tag := "", pkgPath := "runtime", byteOffset := 0 }, { name := "addr", type := 12, offset := 1, embedded := false, tag := "", pkgPath := "runtime", byteOffset := 16 }])) := And.intro tyS14 (And.intro tyA14 (And.intro sp14 (And.intro zV14 (And.intro pl14 (And.intro fl14_0 (And.intro fl14_1 (Tryz.underlying14)))))))
theorem tyS15 : tySize Tryz.prog 15 = some 1 := by kernel_rfl
theorem tyA15 : tyAgg Tryz.prog 15 = some false := by kernel_rfl
theorem sp15 : selfP Tryz.prog 15 = false := by kernel_rfl
theorem zV15 : zerosV Tryz.prog 15 = some [.exact (Go.Value.pointer none)] := by kernel_rfl
theorem F15 : (tySize Tryz.prog 15 = some 1) ∧ (tyAgg Tryz.prog 15 = some false) ∧ (selfP Tryz.prog 15 = false) ∧ (zerosV Tryz.prog 15 = some [.exact (Go.Value.pointer none)]) ∧ (Tryz.prog.underlying 15 = some (Go.TypeDesc.pointer 255)) := And.intro tyS15 (And.intro tyA15 (And.intro sp15 (And.intro zV15 (Tryz.underlying15))))
theorem tyS16 : tySize Tryz.prog 16 = some 1 := by kernel_rfl
theorem tyA16 : tyAgg Tryz.prog 16 = some false := by kernel_rfl
theorem sp16 : selfP Tryz.prog 16 = false := by kernel_rfl
theorem zV16 : zerosV Tryz.prog 16 = some [.exact (Go.Value.pointer none)] := by kernel_rfl
theorem F16 : (tySize Tryz.prog 16 = some 1) ∧ (tyAgg Tryz.prog 16 = some false) ∧ (selfP Tryz.prog 16 = false) ∧ (zerosV Tryz.prog 16 = some [.exact (Go.Value.pointer none)]) ∧ (Tryz.prog.underlying 16 = some (Go.TypeDesc.pointer 258)) := And.intro tyS16 (And.intro tyA16 (And.intro sp16 (And.intro zV16 (Tryz.underlying16))))
theorem tyS17 : tySize Tryz.prog 17 = some 1 := by kernel_rfl
theorem tyA17 : tyAgg Tryz.prog 17 = some false := by kernel_rfl
theorem sp17 : selfP Tryz.prog 17 = false := by kernel_rfl
theorem zV17 : zerosV Tryz.prog 17 = some [.exact (Go.Value.pointer none)] := by kernel_rfl
theorem F17 : (tySize Tryz.prog 17 = some 1) ∧ (tyAgg Tryz.prog 17 = some false) ∧ (selfP Tryz.prog 17 = false) ∧ (zerosV Tryz.prog 17 = some [.exact (Go.Value.pointer none)]) ∧ (Tryz.prog.underlying 17 = some (Go.TypeDesc.pointer 266)) := And.intro tyS17 (And.intro tyA17 (And.intro sp17 (And.intro zV17 (Tryz.underlying17))))
theorem tyS18 : tySize Tryz.prog 18 = some 1 := by kernel_rfl
theorem tyA18 : tyAgg Tryz.prog 18 = some true := by kernel_rfl
theorem sp18 : selfP Tryz.prog 18 = false := by kernel_rfl
theorem zV18 : zerosV Tryz.prog 18 = some [.exact (Go.Value.pointer none)] := by kernel_rfl
theorem pl18 : places Tryz.prog 18 = some [(0, 1)] := by kernel_rfl
theorem fl18_0 : fld Tryz.prog 18 0 = some (0, 17) := by kernel_rfl
theorem F18 : (tySize Tryz.prog 18 = some 1) ∧ (tyAgg Tryz.prog 18 = some true) ∧ (selfP Tryz.prog 18 = false) ∧ (zerosV Tryz.prog 18 = some [.exact (Go.Value.pointer none)]) ∧ (places Tryz.prog 18 = some [(0, 1)]) ∧ (fld Tryz.prog 18 0 = some (0, 17)) ∧ (Tryz.prog.underlying 18 = some (Go.TypeDesc.struct #[{ name := "typ", type := 17, offset := 0, embedded := false, tag := "", pkgPath := "internal/runtime/maps", byteOffset := 0 }])) := And.intro tyS18 (And.intro tyA18 (And.intro sp18 (And.intro zV18 (And.intro pl18 (And.intro fl18_0 (Tryz.underlying18))))))
theorem tyS19 : tySize Tryz.prog 19 = some 1 := by kernel_rfl
theorem tyA19 : tyAgg Tryz.prog 19 = some true := by kernel_rfl
theorem sp19 : selfP Tryz.prog 19 = false := by kernel_rfl
theorem zV19 : zerosV Tryz.prog 19 = some [.exact (Go.Value.pointer none)] := by kernel_rfl
theorem pl19 : places Tryz.prog 19 = some [(0, 1)] := by kernel_rfl
theorem fl19_0 : fld Tryz.prog 19 0 = some (0, 17) := by kernel_rfl
theorem F19 : (tySize Tryz.prog 19 = some 1) ∧ (tyAgg Tryz.prog 19 = some true) ∧ (selfP Tryz.prog 19 = false) ∧ (zerosV Tryz.prog 19 = some [.exact (Go.Value.pointer none)]) ∧ (places Tryz.prog 19 = some [(0, 1)]) ∧ (fld Tryz.prog 19 0 = some (0, 17)) ∧ (Tryz.prog.underlying 19 = some (Go.TypeDesc.struct #[{ name := "typ", type := 17, offset := 0, embedded := false, tag := "", pkgPath := "internal/runtime/maps", byteOffset := 0 }])) := And.intro tyS19 (And.intro tyA19 (And.intro sp19 (And.intro zV19 (And.intro pl19 (And.intro fl19_0 (Tryz.underlying19))))))
theorem tyS20 : tySize Tryz.prog 20 = some 1 := by kernel_rfl
theorem tyA20 : tyAgg Tryz.prog 20 = some false := by kernel_rfl
theorem sp20 : selfP Tryz.prog 20 = false := by kernel_rfl
theorem zV20 : zerosV Tryz.prog 20 = some [.exact Go.Value.nilIface] := by kernel_rfl
theorem F20 : (tySize Tryz.prog 20 = some 1) ∧ (tyAgg Tryz.prog 20 = some false) ∧ (selfP Tryz.prog 20 = false) ∧ (zerosV Tryz.prog 20 = some [.exact Go.Value.nilIface]) := And.intro tyS20 (And.intro tyA20 (And.intro sp20 (zV20)))
theorem tyS21 : tySize Tryz.prog 21 = some 1 := by kernel_rfl
theorem tyA21 : tyAgg Tryz.prog 21 = some false := by kernel_rfl
theorem sp21 : selfP Tryz.prog 21 = false := by kernel_rfl
theorem zV21 : zerosV Tryz.prog 21 = some [.int .i32 0] := by kernel_rfl
theorem F21 : (tySize Tryz.prog 21 = some 1) ∧ (tyAgg Tryz.prog 21 = some false) ∧ (selfP Tryz.prog 21 = false) ∧ (zerosV Tryz.prog 21 = some [.int .i32 0]) ∧ (Tryz.prog.underlying 21 = some (Go.TypeDesc.int Go.IntKind.i32)) := And.intro tyS21 (And.intro tyA21 (And.intro sp21 (And.intro zV21 (Tryz.underlying21))))
theorem tyS22 : tySize Tryz.prog 22 = some 1 := by kernel_rfl
theorem tyA22 : tyAgg Tryz.prog 22 = some false := by kernel_rfl
theorem sp22 : selfP Tryz.prog 22 = false := by kernel_rfl
theorem zV22 : zerosV Tryz.prog 22 = some [.exact Go.Value.nilFunc] := by kernel_rfl
theorem F22 : (tySize Tryz.prog 22 = some 1) ∧ (tyAgg Tryz.prog 22 = some false) ∧ (selfP Tryz.prog 22 = false) ∧ (zerosV Tryz.prog 22 = some [.exact Go.Value.nilFunc]) ∧ (Tryz.prog.underlying 22 = some (Go.TypeDesc.func #[] #[4] false)) := And.intro tyS22 (And.intro tyA22 (And.intro sp22 (And.intro zV22 (Tryz.underlying22))))
theorem tyS23 : tySize Tryz.prog 23 = some 1 := by kernel_rfl
theorem tyA23 : tyAgg Tryz.prog 23 = some false := by kernel_rfl
theorem sp23 : selfP Tryz.prog 23 = false := by kernel_rfl
theorem zV23 : zerosV Tryz.prog 23 = some [.sl .nil []] := by kernel_rfl
theorem F23 : (tySize Tryz.prog 23 = some 1) ∧ (tyAgg Tryz.prog 23 = some false) ∧ (selfP Tryz.prog 23 = false) ∧ (zerosV Tryz.prog 23 = some [.sl .nil []]) ∧ (Tryz.prog.underlying 23 = some (Go.TypeDesc.slice 39)) := And.intro tyS23 (And.intro tyA23 (And.intro sp23 (And.intro zV23 (Tryz.underlying23))))
theorem tyS24 : tySize Tryz.prog 24 = some 1 := by kernel_rfl
theorem tyA24 : tyAgg Tryz.prog 24 = some false := by kernel_rfl
theorem sp24 : selfP Tryz.prog 24 = false := by kernel_rfl
theorem zV24 : zerosV Tryz.prog 24 = some [.int .i64 0] := by kernel_rfl
theorem F24 : (tySize Tryz.prog 24 = some 1) ∧ (tyAgg Tryz.prog 24 = some false) ∧ (selfP Tryz.prog 24 = false) ∧ (zerosV Tryz.prog 24 = some [.int .i64 0]) ∧ (Tryz.prog.underlying 24 = some (Go.TypeDesc.int Go.IntKind.i64)) := And.intro tyS24 (And.intro tyA24 (And.intro sp24 (And.intro zV24 (Tryz.underlying24))))
theorem tyS25 : tySize Tryz.prog 25 = some 1 := by kernel_rfl
theorem tyA25 : tyAgg Tryz.prog 25 = some false := by kernel_rfl
theorem sp25 : selfP Tryz.prog 25 = false := by kernel_rfl
theorem F25 : (tySize Tryz.prog 25 = some 1) ∧ (tyAgg Tryz.prog 25 = some false) ∧ (selfP Tryz.prog 25 = false) ∧ (Tryz.prog.underlying 25 = some (Go.TypeDesc.tuple #[23, 3, 24])) := And.intro tyS25 (And.intro tyA25 (And.intro sp25 (Tryz.underlying25)))
theorem tyS26 : tySize Tryz.prog 26 = some 1 := by kernel_rfl
theorem tyA26 : tyAgg Tryz.prog 26 = some false := by kernel_rfl
theorem sp26 : selfP Tryz.prog 26 = false := by kernel_rfl
theorem zV26 : zerosV Tryz.prog 26 = some [.exact Go.Value.nilFunc] := by kernel_rfl
theorem F26 : (tySize Tryz.prog 26 = some 1) ∧ (tyAgg Tryz.prog 26 = some false) ∧ (selfP Tryz.prog 26 = false) ∧ (zerosV Tryz.prog 26 = some [.exact Go.Value.nilFunc]) ∧ (Tryz.prog.underlying 26 = some (Go.TypeDesc.func #[9] #[23, 3, 24] false)) := And.intro tyS26 (And.intro tyA26 (And.intro sp26 (And.intro zV26 (Tryz.underlying26))))
theorem tyS27 : tySize Tryz.prog 27 = some 1 := by kernel_rfl
theorem tyA27 : tyAgg Tryz.prog 27 = some false := by kernel_rfl
theorem sp27 : selfP Tryz.prog 27 = false := by kernel_rfl
theorem F27 : (tySize Tryz.prog 27 = some 1) ∧ (tyAgg Tryz.prog 27 = some false) ∧ (selfP Tryz.prog 27 = false) ∧ (Tryz.prog.underlying 27 = some (Go.TypeDesc.tuple #[23, 3, 3])) := And.intro tyS27 (And.intro tyA27 (And.intro sp27 (Tryz.underlying27)))
theorem tyS28 : tySize Tryz.prog 28 = some 1 := by kernel_rfl
theorem tyA28 : tyAgg Tryz.prog 28 = some false := by kernel_rfl
theorem sp28 : selfP Tryz.prog 28 = false := by kernel_rfl
theorem zV28 : zerosV Tryz.prog 28 = some [.exact Go.Value.nilFunc] := by kernel_rfl
theorem F28 : (tySize Tryz.prog 28 = some 1) ∧ (tyAgg Tryz.prog 28 = some false) ∧ (selfP Tryz.prog 28 = false) ∧ (zerosV Tryz.prog 28 = some [.exact Go.Value.nilFunc]) ∧ (Tryz.prog.underlying 28 = some (Go.TypeDesc.func #[9] #[23, 3, 3] false)) := And.intro tyS28 (And.intro tyA28 (And.intro sp28 (And.intro zV28 (Tryz.underlying28))))
theorem tyS29 : tySize Tryz.prog 29 = some 1 := by kernel_rfl
theorem tyA29 : tyAgg Tryz.prog 29 = some false := by kernel_rfl
theorem sp29 : selfP Tryz.prog 29 = false := by kernel_rfl
theorem zV29 : zerosV Tryz.prog 29 = some [.exact Go.Value.nilFunc] := by kernel_rfl
theorem F29 : (tySize Tryz.prog 29 = some 1) ∧ (tyAgg Tryz.prog 29 = some false) ∧ (selfP Tryz.prog 29 = false) ∧ (zerosV Tryz.prog 29 = some [.exact Go.Value.nilFunc]) ∧ (Tryz.prog.underlying 29 = some (Go.TypeDesc.func #[23, 23] #[4] false)) := And.intro tyS29 (And.intro tyA29 (And.intro sp29 (And.intro zV29 (Tryz.underlying29))))
theorem tyS30 : tySize Tryz.prog 30 = some 1 := by kernel_rfl
theorem tyA30 : tyAgg Tryz.prog 30 = some false := by kernel_rfl
theorem sp30 : selfP Tryz.prog 30 = false := by kernel_rfl
theorem zV30 : zerosV Tryz.prog 30 = some [.exact Go.Value.nilFunc] := by kernel_rfl
theorem F30 : (tySize Tryz.prog 30 = some 1) ∧ (tyAgg Tryz.prog 30 = some false) ∧ (selfP Tryz.prog 30 = false) ∧ (zerosV Tryz.prog 30 = some [.exact Go.Value.nilFunc]) ∧ (Tryz.prog.underlying 30 = some (Go.TypeDesc.func #[23] #[9] false)) := And.intro tyS30 (And.intro tyA30 (And.intro sp30 (And.intro zV30 (Tryz.underlying30))))
theorem tyS31 : tySize Tryz.prog 31 = some 1 := by kernel_rfl
theorem tyA31 : tyAgg Tryz.prog 31 = some false := by kernel_rfl
theorem sp31 : selfP Tryz.prog 31 = false := by kernel_rfl
theorem zV31 : zerosV Tryz.prog 31 = some [.exact Go.Value.nilFunc] := by kernel_rfl
theorem F31 : (tySize Tryz.prog 31 = some 1) ∧ (tyAgg Tryz.prog 31 = some false) ∧ (selfP Tryz.prog 31 = false) ∧ (zerosV Tryz.prog 31 = some [.exact Go.Value.nilFunc]) ∧ (Tryz.prog.underlying 31 = some (Go.TypeDesc.func #[9] #[4] false)) := And.intro tyS31 (And.intro tyA31 (And.intro sp31 (And.intro zV31 (Tryz.underlying31))))
theorem tyS32 : tySize Tryz.prog 32 = some 1 := by kernel_rfl
theorem tyA32 : tyAgg Tryz.prog 32 = some false := by kernel_rfl
theorem sp32 : selfP Tryz.prog 32 = false := by kernel_rfl
theorem zV32 : zerosV Tryz.prog 32 = some [.sl .nil []] := by kernel_rfl
theorem F32 : (tySize Tryz.prog 32 = some 1) ∧ (tyAgg Tryz.prog 32 = some false) ∧ (selfP Tryz.prog 32 = false) ∧ (zerosV Tryz.prog 32 = some [.sl .nil []]) ∧ (Tryz.prog.underlying 32 = some (Go.TypeDesc.slice 23)) := And.intro tyS32 (And.intro tyA32 (And.intro sp32 (And.intro zV32 (Tryz.underlying32))))
theorem tyS33 : tySize Tryz.prog 33 = some 1 := by kernel_rfl
theorem tyA33 : tyAgg Tryz.prog 33 = some false := by kernel_rfl
theorem sp33 : selfP Tryz.prog 33 = false := by kernel_rfl
theorem zV33 : zerosV Tryz.prog 33 = some [.sl .nil []] := by kernel_rfl
theorem F33 : (tySize Tryz.prog 33 = some 1) ∧ (tyAgg Tryz.prog 33 = some false) ∧ (selfP Tryz.prog 33 = false) ∧ (zerosV Tryz.prog 33 = some [.sl .nil []]) ∧ (Tryz.prog.underlying 33 = some (Go.TypeDesc.slice 9)) := And.intro tyS33 (And.intro tyA33 (And.intro sp33 (And.intro zV33 (Tryz.underlying33))))
theorem tyS34 : tySize Tryz.prog 34 = some 4 := by kernel_rfl
theorem tyA34 : tyAgg Tryz.prog 34 = some true := by kernel_rfl
theorem sp34 : selfP Tryz.prog 34 = false := by kernel_rfl
theorem zV34 : zerosV Tryz.prog 34 = some [.int .i64 0, .int .i64 0, .int .i64 0, .sl .nil []] := by kernel_rfl
theorem pl34 : places Tryz.prog 34 = some [(0, 1), (1, 1), (2, 1), (3, 1)] := by kernel_rfl
theorem fl34_0 : fld Tryz.prog 34 0 = some (0, 3) := by kernel_rfl
theorem fl34_1 : fld Tryz.prog 34 1 = some (1, 3) := by kernel_rfl
theorem fl34_2 : fld Tryz.prog 34 2 = some (2, 3) := by kernel_rfl
theorem fl34_3 : fld Tryz.prog 34 3 = some (3, 33) := by kernel_rfl
theorem F34 : (tySize Tryz.prog 34 = some 4) ∧ (tyAgg Tryz.prog 34 = some true) ∧ (selfP Tryz.prog 34 = false) ∧ (zerosV Tryz.prog 34 = some [.int .i64 0, .int .i64 0, .int .i64 0, .sl .nil []]) ∧ (places Tryz.prog 34 = some [(0, 1), (1, 1), (2, 1), (3, 1)]) ∧ (fld Tryz.prog 34 0 = some (0, 3)) ∧ (fld Tryz.prog 34 1 = some (1, 3)) ∧ (fld Tryz.prog 34 2 = some (2, 3)) ∧ (fld Tryz.prog 34 3 = some (3, 33)) ∧ (Tryz.prog.underlying 34 = some (Go.TypeDesc.struct #[{ name := "Major", type := 3, offset := 0, embedded := false, tag := "", pkgPath := "", byteOffset := 0 }, { name := "Minor", type := 3, offset := 1, embedded := false, tag := "", pkgPath := "", byteOffset := 8 }, { name := "Patch", type := 3, offset := 2, embedded := false, tag := "", pkgPath := "", byteOffset := 16 }, { name := "Pre", type := 33, offset := 3, embedded := false, tag := "", pkgPath := "", byteOffset := 24 }])) := And.intro tyS34 (And.intro tyA34 (And.intro sp34 (And.intro zV34 (And.intro pl34 (And.intro fl34_0 (And.intro fl34_1 (And.intro fl34_2 (And.intro fl34_3 (Tryz.underlying34)))))))))
theorem tyS35 : tySize Tryz.prog 35 = some 4 := by kernel_rfl
theorem tyA35 : tyAgg Tryz.prog 35 = some true := by kernel_rfl
theorem sp35 : selfP Tryz.prog 35 = false := by kernel_rfl
theorem zV35 : zerosV Tryz.prog 35 = some [.int .i64 0, .int .i64 0, .int .i64 0, .sl .nil []] := by kernel_rfl
theorem pl35 : places Tryz.prog 35 = some [(0, 1), (1, 1), (2, 1), (3, 1)] := by kernel_rfl
theorem fl35_0 : fld Tryz.prog 35 0 = some (0, 3) := by kernel_rfl
theorem fl35_1 : fld Tryz.prog 35 1 = some (1, 3) := by kernel_rfl
theorem fl35_2 : fld Tryz.prog 35 2 = some (2, 3) := by kernel_rfl
theorem fl35_3 : fld Tryz.prog 35 3 = some (3, 33) := by kernel_rfl
theorem F35 : (tySize Tryz.prog 35 = some 4) ∧ (tyAgg Tryz.prog 35 = some true) ∧ (selfP Tryz.prog 35 = false) ∧ (zerosV Tryz.prog 35 = some [.int .i64 0, .int .i64 0, .int .i64 0, .sl .nil []]) ∧ (places Tryz.prog 35 = some [(0, 1), (1, 1), (2, 1), (3, 1)]) ∧ (fld Tryz.prog 35 0 = some (0, 3)) ∧ (fld Tryz.prog 35 1 = some (1, 3)) ∧ (fld Tryz.prog 35 2 = some (2, 3)) ∧ (fld Tryz.prog 35 3 = some (3, 33)) ∧ (Tryz.prog.underlying 35 = some (Go.TypeDesc.struct #[{ name := "Major", type := 3, offset := 0, embedded := false, tag := "", pkgPath := "", byteOffset := 0 }, { name := "Minor", type := 3, offset := 1, embedded := false, tag := "", pkgPath := "", byteOffset := 8 }, { name := "Patch", type := 3, offset := 2, embedded := false, tag := "", pkgPath := "", byteOffset := 16 }, { name := "Pre", type := 33, offset := 3, embedded := false, tag := "", pkgPath := "", byteOffset := 24 }])) := And.intro tyS35 (And.intro tyA35 (And.intro sp35 (And.intro zV35 (And.intro pl35 (And.intro fl35_0 (And.intro fl35_1 (And.intro fl35_2 (And.intro fl35_3 (Tryz.underlying35)))))))))
theorem tyS36 : tySize Tryz.prog 36 = some 32 := by kernel_rfl
theorem tyA36 : tyAgg Tryz.prog 36 = some true := by kernel_rfl
theorem sp36 : selfP Tryz.prog 36 = false := by kernel_rfl
theorem zV36 : zerosV Tryz.prog 36 = some [.int .u8 0, .int .u8 0, .int .u8 0, .int .u8 0, .int .u8 0, .int .u8 0, .int .u8 0, .int .u8 0, .int .u8 0, .int .u8 0, .int .u8 0, .int .u8 0, .int .u8 0, .int .u8 0, .int .u8 0, .int .u8 0, .int .u8 0, .int .u8 0, .int .u8 0, .int .u8 0, .int .u8 0, .int .u8 0, .int .u8 0, .int .u8 0, .int .u8 0, .int .u8 0, .int .u8 0, .int .u8 0, .int .u8 0, .int .u8 0, .int .u8 0, .int .u8 0] := by kernel_rfl
theorem iK36 : isKey Tryz.prog 36 = some (32, 5) := by kernel_rfl
theorem F36 : (tySize Tryz.prog 36 = some 32) ∧ (tyAgg Tryz.prog 36 = some true) ∧ (selfP Tryz.prog 36 = false) ∧ (zerosV Tryz.prog 36 = some [.int .u8 0, .int .u8 0, .int .u8 0, .int .u8 0, .int .u8 0, .int .u8 0, .int .u8 0, .int .u8 0, .int .u8 0, .int .u8 0, .int .u8 0, .int .u8 0, .int .u8 0, .int .u8 0, .int .u8 0, .int .u8 0, .int .u8 0, .int .u8 0, .int .u8 0, .int .u8 0, .int .u8 0, .int .u8 0, .int .u8 0, .int .u8 0, .int .u8 0, .int .u8 0, .int .u8 0, .int .u8 0, .int .u8 0, .int .u8 0, .int .u8 0, .int .u8 0]) ∧ (isKey Tryz.prog 36 = some (32, 5)) ∧ (Tryz.prog.underlying 36 = some (Go.TypeDesc.array 32 5)) := And.intro tyS36 (And.intro tyA36 (And.intro sp36 (And.intro zV36 (And.intro iK36 (Tryz.underlying36)))))
theorem tyS37 : tySize Tryz.prog 37 = some 32 := by kernel_rfl
theorem tyA37 : tyAgg Tryz.prog 37 = some true := by kernel_rfl
theorem sp37 : selfP Tryz.prog 37 = false := by kernel_rfl
theorem zV37 : zerosV Tryz.prog 37 = some [.int .u8 0, .int .u8 0, .int .u8 0, .int .u8 0, .int .u8 0, .int .u8 0, .int .u8 0, .int .u8 0, .int .u8 0, .int .u8 0, .int .u8 0, .int .u8 0, .int .u8 0, .int .u8 0, .int .u8 0, .int .u8 0, .int .u8 0, .int .u8 0, .int .u8 0, .int .u8 0, .int .u8 0, .int .u8 0, .int .u8 0, .int .u8 0, .int .u8 0, .int .u8 0, .int .u8 0, .int .u8 0, .int .u8 0, .int .u8 0, .int .u8 0, .int .u8 0] := by kernel_rfl
theorem iK37 : isKey Tryz.prog 37 = some (32, 5) := by kernel_rfl
theorem F37 : (tySize Tryz.prog 37 = some 32) ∧ (tyAgg Tryz.prog 37 = some true) ∧ (selfP Tryz.prog 37 = false) ∧ (zerosV Tryz.prog 37 = some [.int .u8 0, .int .u8 0, .int .u8 0, .int .u8 0, .int .u8 0, .int .u8 0, .int .u8 0, .int .u8 0, .int .u8 0, .int .u8 0, .int .u8 0, .int .u8 0, .int .u8 0, .int .u8 0, .int .u8 0, .int .u8 0, .int .u8 0, .int .u8 0, .int .u8 0, .int .u8 0, .int .u8 0, .int .u8 0, .int .u8 0, .int .u8 0, .int .u8 0, .int .u8 0, .int .u8 0, .int .u8 0, .int .u8 0, .int .u8 0, .int .u8 0, .int .u8 0]) ∧ (isKey Tryz.prog 37 = some (32, 5)) ∧ (Tryz.prog.underlying 37 = some (Go.TypeDesc.array 32 5)) := And.intro tyS37 (And.intro tyA37 (And.intro sp37 (And.intro zV37 (And.intro iK37 (Tryz.underlying37)))))
theorem tyS38 : tySize Tryz.prog 38 = some 37 := by kernel_rfl
theorem tyA38 : tyAgg Tryz.prog 38 = some true := by kernel_rfl
theorem sp38 : selfP Tryz.prog 38 = false := by kernel_rfl
theorem zV38 : zerosV Tryz.prog 38 = some [.str [], .int .i64 0, .int .i64 0, .int .i64 0, .sl .nil [], .int .u8 0, .int .u8 0, .int .u8 0, .int .u8 0, .int .u8 0, .int .u8 0, .int .u8 0, .int .u8 0, .int .u8 0, .int .u8 0, .int .u8 0, .int .u8 0, .int .u8 0, .int .u8 0, .int .u8 0, .int .u8 0, .int .u8 0, .int .u8 0, .int .u8 0, .int .u8 0, .int .u8 0, .int .u8 0, .int .u8 0, .int .u8 0, .int .u8 0, .int .u8 0, .int .u8 0, .int .u8 0, .int .u8 0, .int .u8 0, .int .u8 0, .int .u8 0] := by kernel_rfl
theorem pl38 : places Tryz.prog 38 = some [(0, 1), (1, 4), (5, 32)] := by kernel_rfl
theorem fl38_0 : fld Tryz.prog 38 0 = some (0, 9) := by kernel_rfl
theorem fl38_1 : fld Tryz.prog 38 1 = some (1, 35) := by kernel_rfl
theorem fl38_2 : fld Tryz.prog 38 2 = some (5, 37) := by kernel_rfl
theorem F38 : (tySize Tryz.prog 38 = some 37) ∧ (tyAgg Tryz.prog 38 = some true) ∧ (selfP Tryz.prog 38 = false) ∧ (zerosV Tryz.prog 38 = some [.str [], .int .i64 0, .int .i64 0, .int .i64 0, .sl .nil [], .int .u8 0, .int .u8 0, .int .u8 0, .int .u8 0, .int .u8 0, .int .u8 0, .int .u8 0, .int .u8 0, .int .u8 0, .int .u8 0, .int .u8 0, .int .u8 0, .int .u8 0, .int .u8 0, .int .u8 0, .int .u8 0, .int .u8 0, .int .u8 0, .int .u8 0, .int .u8 0, .int .u8 0, .int .u8 0, .int .u8 0, .int .u8 0, .int .u8 0, .int .u8 0, .int .u8 0, .int .u8 0, .int .u8 0, .int .u8 0, .int .u8 0, .int .u8 0]) ∧ (places Tryz.prog 38 = some [(0, 1), (1, 4), (5, 32)]) ∧ (fld Tryz.prog 38 0 = some (0, 9)) ∧ (fld Tryz.prog 38 1 = some (1, 35)) ∧ (fld Tryz.prog 38 2 = some (5, 37)) ∧ (Tryz.prog.underlying 38 = some (Go.TypeDesc.struct #[{ name := "Name", type := 9, offset := 0, embedded := false, tag := "", pkgPath := "", byteOffset := 0 }, { name := "V", type := 35, offset := 1, embedded := false, tag := "", pkgPath := "", byteOffset := 16 }, { name := "Sum", type := 37, offset := 5, embedded := false, tag := "", pkgPath := "", byteOffset := 64 }])) := And.intro tyS38 (And.intro tyA38 (And.intro sp38 (And.intro zV38 (And.intro pl38 (And.intro fl38_0 (And.intro fl38_1 (And.intro fl38_2 (Tryz.underlying38))))))))
theorem tyS39 : tySize Tryz.prog 39 = some 37 := by kernel_rfl
theorem tyA39 : tyAgg Tryz.prog 39 = some true := by kernel_rfl
theorem sp39 : selfP Tryz.prog 39 = false := by kernel_rfl
theorem zV39 : zerosV Tryz.prog 39 = some [.str [], .int .i64 0, .int .i64 0, .int .i64 0, .sl .nil [], .int .u8 0, .int .u8 0, .int .u8 0, .int .u8 0, .int .u8 0, .int .u8 0, .int .u8 0, .int .u8 0, .int .u8 0, .int .u8 0, .int .u8 0, .int .u8 0, .int .u8 0, .int .u8 0, .int .u8 0, .int .u8 0, .int .u8 0, .int .u8 0, .int .u8 0, .int .u8 0, .int .u8 0, .int .u8 0, .int .u8 0, .int .u8 0, .int .u8 0, .int .u8 0, .int .u8 0, .int .u8 0, .int .u8 0, .int .u8 0, .int .u8 0, .int .u8 0] := by kernel_rfl
theorem pl39 : places Tryz.prog 39 = some [(0, 1), (1, 4), (5, 32)] := by kernel_rfl
theorem fl39_0 : fld Tryz.prog 39 0 = some (0, 9) := by kernel_rfl
theorem fl39_1 : fld Tryz.prog 39 1 = some (1, 35) := by kernel_rfl
theorem fl39_2 : fld Tryz.prog 39 2 = some (5, 37) := by kernel_rfl
theorem F39 : (tySize Tryz.prog 39 = some 37) ∧ (tyAgg Tryz.prog 39 = some true) ∧ (selfP Tryz.prog 39 = false) ∧ (zerosV Tryz.prog 39 = some [.str [], .int .i64 0, .int .i64 0, .int .i64 0, .sl .nil [], .int .u8 0, .int .u8 0, .int .u8 0, .int .u8 0, .int .u8 0, .int .u8 0, .int .u8 0, .int .u8 0, .int .u8 0, .int .u8 0, .int .u8 0, .int .u8 0, .int .u8 0, .int .u8 0, .int .u8 0, .int .u8 0, .int .u8 0, .int .u8 0, .int .u8 0, .int .u8 0, .int .u8 0, .int .u8 0, .int .u8 0, .int .u8 0, .int .u8 0, .int .u8 0, .int .u8 0, .int .u8 0, .int .u8 0, .int .u8 0, .int .u8 0, .int .u8 0]) ∧ (places Tryz.prog 39 = some [(0, 1), (1, 4), (5, 32)]) ∧ (fld Tryz.prog 39 0 = some (0, 9)) ∧ (fld Tryz.prog 39 1 = some (1, 35)) ∧ (fld Tryz.prog 39 2 = some (5, 37)) ∧ (Tryz.prog.underlying 39 = some (Go.TypeDesc.struct #[{ name := "Name", type := 9, offset := 0, embedded := false, tag := "", pkgPath := "", byteOffset := 0 }, { name := "V", type := 35, offset := 1, embedded := false, tag := "", pkgPath := "", byteOffset := 16 }, { name := "Sum", type := 37, offset := 5, embedded := false, tag := "", pkgPath := "", byteOffset := 64 }])) := And.intro tyS39 (And.intro tyA39 (And.intro sp39 (And.intro zV39 (And.intro pl39 (And.intro fl39_0 (And.intro fl39_1 (And.intro fl39_2 (Tryz.underlying39))))))))
theorem tyS40 : tySize Tryz.prog 40 = some 1 := by kernel_rfl
theorem tyA40 : tyAgg Tryz.prog 40 = some false := by kernel_rfl
theorem sp40 : selfP Tryz.prog 40 = false := by kernel_rfl
theorem zV40 : zerosV Tryz.prog 40 = some [.exact Go.Value.nilFunc] := by kernel_rfl
theorem F40 : (tySize Tryz.prog 40 = some 1) ∧ (tyAgg Tryz.prog 40 = some false) ∧ (selfP Tryz.prog 40 = false) ∧ (zerosV Tryz.prog 40 = some [.exact Go.Value.nilFunc]) ∧ (Tryz.prog.underlying 40 = some (Go.TypeDesc.func #[35] #[4] false)) := And.intro tyS40 (And.intro tyA40 (And.intro sp40 (And.intro zV40 (Tryz.underlying40))))
theorem tyS41 : tySize Tryz.prog 41 = some 1 := by kernel_rfl
theorem tyA41 : tyAgg Tryz.prog 41 = some false := by kernel_rfl
theorem sp41 : selfP Tryz.prog 41 = false := by kernel_rfl
theorem zV41 : zerosV Tryz.prog 41 = some [.sl .nil []] := by kernel_rfl
theorem F41 : (tySize Tryz.prog 41 = some 1) ∧ (tyAgg Tryz.prog 41 = some false) ∧ (selfP Tryz.prog 41 = false) ∧ (zerosV Tryz.prog 41 = some [.sl .nil []]) ∧ (Tryz.prog.underlying 41 = some (Go.TypeDesc.slice 5)) := And.intro tyS41 (And.intro tyA41 (And.intro sp41 (And.intro zV41 (Tryz.underlying41))))
theorem tyS42 : tySize Tryz.prog 42 = some 1 := by kernel_rfl
theorem tyA42 : tyAgg Tryz.prog 42 = some false := by kernel_rfl
theorem sp42 : selfP Tryz.prog 42 = false := by kernel_rfl
theorem zV42 : zerosV Tryz.prog 42 = some [.sl .nil []] := by kernel_rfl
theorem F42 : (tySize Tryz.prog 42 = some 1) ∧ (tyAgg Tryz.prog 42 = some false) ∧ (selfP Tryz.prog 42 = false) ∧ (zerosV Tryz.prog 42 = some [.sl .nil []]) ∧ (Tryz.prog.underlying 42 = some (Go.TypeDesc.slice 36)) := And.intro tyS42 (And.intro tyA42 (And.intro sp42 (And.intro zV42 (Tryz.underlying42))))
theorem tyS43 : tySize Tryz.prog 43 = some 1 := by kernel_rfl
theorem tyA43 : tyAgg Tryz.prog 43 = some false := by kernel_rfl
theorem sp43 : selfP Tryz.prog 43 = false := by kernel_rfl
theorem F43 : (tySize Tryz.prog 43 = some 1) ∧ (tyAgg Tryz.prog 43 = some false) ∧ (selfP Tryz.prog 43 = false) ∧ (Tryz.prog.underlying 43 = some (Go.TypeDesc.tuple #[35, 3])) := And.intro tyS43 (And.intro tyA43 (And.intro sp43 (Tryz.underlying43)))
theorem tyS44 : tySize Tryz.prog 44 = some 1 := by kernel_rfl
theorem tyA44 : tyAgg Tryz.prog 44 = some false := by kernel_rfl
theorem sp44 : selfP Tryz.prog 44 = false := by kernel_rfl
theorem zV44 : zerosV Tryz.prog 44 = some [.exact Go.Value.nilFunc] := by kernel_rfl
theorem F44 : (tySize Tryz.prog 44 = some 1) ∧ (tyAgg Tryz.prog 44 = some false) ∧ (selfP Tryz.prog 44 = false) ∧ (zerosV Tryz.prog 44 = some [.exact Go.Value.nilFunc]) ∧ (Tryz.prog.underlying 44 = some (Go.TypeDesc.func #[9] #[35, 3] false)) := And.intro tyS44 (And.intro tyA44 (And.intro sp44 (And.intro zV44 (Tryz.underlying44))))
theorem tyS45 : tySize Tryz.prog 45 = some 1 := by kernel_rfl
theorem tyA45 : tyAgg Tryz.prog 45 = some false := by kernel_rfl
theorem sp45 : selfP Tryz.prog 45 = false := by kernel_rfl
theorem zV45 : zerosV Tryz.prog 45 = some [.exact Go.Value.nilFunc] := by kernel_rfl
theorem F45 : (tySize Tryz.prog 45 = some 1) ∧ (tyAgg Tryz.prog 45 = some false) ∧ (selfP Tryz.prog 45 = false) ∧ (zerosV Tryz.prog 45 = some [.exact Go.Value.nilFunc]) ∧ (Tryz.prog.underlying 45 = some (Go.TypeDesc.func #[3] #[9] false)) := And.intro tyS45 (And.intro tyA45 (And.intro sp45 (And.intro zV45 (Tryz.underlying45))))
theorem tyS46 : tySize Tryz.prog 46 = some 1 := by kernel_rfl
theorem tyA46 : tyAgg Tryz.prog 46 = some false := by kernel_rfl
theorem sp46 : selfP Tryz.prog 46 = false := by kernel_rfl
theorem zV46 : zerosV Tryz.prog 46 = some [.exact Go.Value.nilFunc] := by kernel_rfl
theorem F46 : (tySize Tryz.prog 46 = some 1) ∧ (tyAgg Tryz.prog 46 = some false) ∧ (selfP Tryz.prog 46 = false) ∧ (zerosV Tryz.prog 46 = some [.exact Go.Value.nilFunc]) ∧ (Tryz.prog.underlying 46 = some (Go.TypeDesc.func #[23] #[23] false)) := And.intro tyS46 (And.intro tyA46 (And.intro sp46 (And.intro zV46 (Tryz.underlying46))))
theorem tyS47 : tySize Tryz.prog 47 = some 1 := by kernel_rfl
theorem tyA47 : tyAgg Tryz.prog 47 = some false := by kernel_rfl
theorem sp47 : selfP Tryz.prog 47 = false := by kernel_rfl
theorem zV47 : zerosV Tryz.prog 47 = some [.exact Go.Value.nilFunc] := by kernel_rfl
theorem F47 : (tySize Tryz.prog 47 = some 1) ∧ (tyAgg Tryz.prog 47 = some false) ∧ (selfP Tryz.prog 47 = false) ∧ (zerosV Tryz.prog 47 = some [.exact Go.Value.nilFunc]) ∧ (Tryz.prog.underlying 47 = some (Go.TypeDesc.func #[3, 3] #[3] false)) := And.intro tyS47 (And.intro tyA47 (And.intro sp47 (And.intro zV47 (Tryz.underlying47))))
theorem tyS48 : tySize Tryz.prog 48 = some 1 := by kernel_rfl
theorem tyA48 : tyAgg Tryz.prog 48 = some false := by kernel_rfl
theorem sp48 : selfP Tryz.prog 48 = false := by kernel_rfl
theorem zV48 : zerosV Tryz.prog 48 = some [.exact Go.Value.nilFunc] := by kernel_rfl
theorem F48 : (tySize Tryz.prog 48 = some 1) ∧ (tyAgg Tryz.prog 48 = some false) ∧ (selfP Tryz.prog 48 = false) ∧ (zerosV Tryz.prog 48 = some [.exact Go.Value.nilFunc]) ∧ (Tryz.prog.underlying 48 = some (Go.TypeDesc.func #[41, 41, 42, 3, 5] #[4] false)) := And.intro tyS48 (And.intro tyA48 (And.intro sp48 (And.intro zV48 (Tryz.underlying48))))
theorem tyS49 : tySize Tryz.prog 49 = some 1 := by kernel_rfl
theorem tyA49 : tyAgg Tryz.prog 49 = some false := by kernel_rfl
theorem sp49 : selfP Tryz.prog 49 = false := by kernel_rfl
theorem zV49 : zerosV Tryz.prog 49 = some [.exact Go.Value.nilFunc] := by kernel_rfl
theorem F49 : (tySize Tryz.prog 49 = some 1) ∧ (tyAgg Tryz.prog 49 = some false) ∧ (selfP Tryz.prog 49 = false) ∧ (zerosV Tryz.prog 49 = some [.exact Go.Value.nilFunc]) ∧ (Tryz.prog.underlying 49 = some (Go.TypeDesc.func #[41, 5] #[4] false)) := And.intro tyS49 (And.intro tyA49 (And.intro sp49 (And.intro zV49 (Tryz.underlying49))))
theorem tyS50 : tySize Tryz.prog 50 = some 1 := by kernel_rfl
theorem tyA50 : tyAgg Tryz.prog 50 = some false := by kernel_rfl
theorem sp50 : selfP Tryz.prog 50 = false := by kernel_rfl
theorem zV50 : zerosV Tryz.prog 50 = some [.exact Go.Value.nilFunc] := by kernel_rfl
theorem F50 : (tySize Tryz.prog 50 = some 1) ∧ (tyAgg Tryz.prog 50 = some false) ∧ (selfP Tryz.prog 50 = false) ∧ (zerosV Tryz.prog 50 = some [.exact Go.Value.nilFunc]) ∧ (Tryz.prog.underlying 50 = some (Go.TypeDesc.func #[5, 5, 5] #[4] false)) := And.intro tyS50 (And.intro tyA50 (And.intro sp50 (And.intro zV50 (Tryz.underlying50))))
theorem tyS51 : tySize Tryz.prog 51 = some 1 := by kernel_rfl
theorem tyA51 : tyAgg Tryz.prog 51 = some false := by kernel_rfl
theorem sp51 : selfP Tryz.prog 51 = false := by kernel_rfl
theorem zV51 : zerosV Tryz.prog 51 = some [.sl .nil []] := by kernel_rfl
theorem F51 : (tySize Tryz.prog 51 = some 1) ∧ (tyAgg Tryz.prog 51 = some false) ∧ (selfP Tryz.prog 51 = false) ∧ (zerosV Tryz.prog 51 = some [.sl .nil []]) ∧ (Tryz.prog.underlying 51 = some (Go.TypeDesc.slice 136)) := And.intro tyS51 (And.intro tyA51 (And.intro sp51 (And.intro zV51 (Tryz.underlying51))))
theorem tyS52 : tySize Tryz.prog 52 = some 2 := by kernel_rfl
theorem tyA52 : tyAgg Tryz.prog 52 = some true := by kernel_rfl
theorem sp52 : selfP Tryz.prog 52 = false := by kernel_rfl
theorem zV52 : zerosV Tryz.prog 52 = some [.bool false, .sl .nil []] := by kernel_rfl
theorem pl52 : places Tryz.prog 52 = some [(0, 1), (1, 1)] := by kernel_rfl
theorem fl52_0 : fld Tryz.prog 52 0 = some (0, 4) := by kernel_rfl
theorem fl52_1 : fld Tryz.prog 52 1 = some (1, 51) := by kernel_rfl
theorem F52 : (tySize Tryz.prog 52 = some 2) ∧ (tyAgg Tryz.prog 52 = some true) ∧ (selfP Tryz.prog 52 = false) ∧ (zerosV Tryz.prog 52 = some [.bool false, .sl .nil []]) ∧ (places Tryz.prog 52 = some [(0, 1), (1, 1)]) ∧ (fld Tryz.prog 52 0 = some (0, 4)) ∧ (fld Tryz.prog 52 1 = some (1, 51)) ∧ (Tryz.prog.underlying 52 = some (Go.TypeDesc.struct #[{ name := "Any", type := 4, offset := 0, embedded := false, tag := "", pkgPath := "", byteOffset := 0 }, { name := "Or", type := 51, offset := 1, embedded := false, tag := "", pkgPath := "", byteOffset := 8 }])) := And.intro tyS52 (And.intro tyA52 (And.intro sp52 (And.intro zV52 (And.intro pl52 (And.intro fl52_0 (And.intro fl52_1 (Tryz.underlying52)))))))
theorem tyS53 : tySize Tryz.prog 53 = some 2 := by kernel_rfl
theorem tyA53 : tyAgg Tryz.prog 53 = some true := by kernel_rfl
theorem sp53 : selfP Tryz.prog 53 = false := by kernel_rfl
theorem zV53 : zerosV Tryz.prog 53 = some [.bool false, .sl .nil []] := by kernel_rfl
theorem pl53 : places Tryz.prog 53 = some [(0, 1), (1, 1)] := by kernel_rfl
theorem fl53_0 : fld Tryz.prog 53 0 = some (0, 4) := by kernel_rfl
theorem fl53_1 : fld Tryz.prog 53 1 = some (1, 51) := by kernel_rfl
theorem F53 : (tySize Tryz.prog 53 = some 2) ∧ (tyAgg Tryz.prog 53 = some true) ∧ (selfP Tryz.prog 53 = false) ∧ (zerosV Tryz.prog 53 = some [.bool false, .sl .nil []]) ∧ (places Tryz.prog 53 = some [(0, 1), (1, 1)]) ∧ (fld Tryz.prog 53 0 = some (0, 4)) ∧ (fld Tryz.prog 53 1 = some (1, 51)) ∧ (Tryz.prog.underlying 53 = some (Go.TypeDesc.struct #[{ name := "Any", type := 4, offset := 0, embedded := false, tag := "", pkgPath := "", byteOffset := 0 }, { name := "Or", type := 51, offset := 1, embedded := false, tag := "", pkgPath := "", byteOffset := 8 }])) := And.intro tyS53 (And.intro tyA53 (And.intro sp53 (And.intro zV53 (And.intro pl53 (And.intro fl53_0 (And.intro fl53_1 (Tryz.underlying53)))))))
theorem tyS54 : tySize Tryz.prog 54 = some 1 := by kernel_rfl
theorem tyA54 : tyAgg Tryz.prog 54 = some false := by kernel_rfl
theorem sp54 : selfP Tryz.prog 54 = false := by kernel_rfl
theorem F54 : (tySize Tryz.prog 54 = some 1) ∧ (tyAgg Tryz.prog 54 = some false) ∧ (selfP Tryz.prog 54 = false) ∧ (Tryz.prog.underlying 54 = some (Go.TypeDesc.tuple #[53, 24])) := And.intro tyS54 (And.intro tyA54 (And.intro sp54 (Tryz.underlying54)))
theorem tyS55 : tySize Tryz.prog 55 = some 1 := by kernel_rfl
theorem tyA55 : tyAgg Tryz.prog 55 = some false := by kernel_rfl
theorem sp55 : selfP Tryz.prog 55 = false := by kernel_rfl
theorem zV55 : zerosV Tryz.prog 55 = some [.exact Go.Value.nilFunc] := by kernel_rfl
theorem F55 : (tySize Tryz.prog 55 = some 1) ∧ (tyAgg Tryz.prog 55 = some false) ∧ (selfP Tryz.prog 55 = false) ∧ (zerosV Tryz.prog 55 = some [.exact Go.Value.nilFunc]) ∧ (Tryz.prog.underlying 55 = some (Go.TypeDesc.func #[9] #[53, 24] false)) := And.intro tyS55 (And.intro tyA55 (And.intro sp55 (And.intro zV55 (Tryz.underlying55))))
theorem tyS56 : tySize Tryz.prog 56 = some 1 := by kernel_rfl
theorem tyA56 : tyAgg Tryz.prog 56 = some false := by kernel_rfl
theorem sp56 : selfP Tryz.prog 56 = false := by kernel_rfl
theorem F56 : (tySize Tryz.prog 56 = some 1) ∧ (tyAgg Tryz.prog 56 = some false) ∧ (selfP Tryz.prog 56 = false) ∧ (Tryz.prog.underlying 56 = some (Go.TypeDesc.tuple #[53, 3])) := And.intro tyS56 (And.intro tyA56 (And.intro sp56 (Tryz.underlying56)))
theorem tyS57 : tySize Tryz.prog 57 = some 1 := by kernel_rfl
theorem tyA57 : tyAgg Tryz.prog 57 = some false := by kernel_rfl
theorem sp57 : selfP Tryz.prog 57 = false := by kernel_rfl
theorem zV57 : zerosV Tryz.prog 57 = some [.exact Go.Value.nilFunc] := by kernel_rfl
theorem F57 : (tySize Tryz.prog 57 = some 1) ∧ (tyAgg Tryz.prog 57 = some false) ∧ (selfP Tryz.prog 57 = false) ∧ (zerosV Tryz.prog 57 = some [.exact Go.Value.nilFunc]) ∧ (Tryz.prog.underlying 57 = some (Go.TypeDesc.func #[9] #[53, 3] false)) := And.intro tyS57 (And.intro tyA57 (And.intro sp57 (And.intro zV57 (Tryz.underlying57))))
theorem tyS58 : tySize Tryz.prog 58 = some 1 := by kernel_rfl
theorem tyA58 : tyAgg Tryz.prog 58 = some false := by kernel_rfl
theorem sp58 : selfP Tryz.prog 58 = false := by kernel_rfl
theorem zV58 : zerosV Tryz.prog 58 = some [.exact Go.Value.nilFunc] := by kernel_rfl
theorem F58 : (tySize Tryz.prog 58 = some 1) ∧ (tyAgg Tryz.prog 58 = some false) ∧ (selfP Tryz.prog 58 = false) ∧ (zerosV Tryz.prog 58 = some [.exact Go.Value.nilFunc]) ∧ (Tryz.prog.underlying 58 = some (Go.TypeDesc.func #[53, 53] #[4] false)) := And.intro tyS58 (And.intro tyA58 (And.intro sp58 (And.intro zV58 (Tryz.underlying58))))
theorem tyS59 : tySize Tryz.prog 59 = some 1 := by kernel_rfl
theorem tyA59 : tyAgg Tryz.prog 59 = some false := by kernel_rfl
theorem sp59 : selfP Tryz.prog 59 = false := by kernel_rfl
theorem zV59 : zerosV Tryz.prog 59 = some [.exact Go.Value.nilFunc] := by kernel_rfl
theorem F59 : (tySize Tryz.prog 59 = some 1) ∧ (tyAgg Tryz.prog 59 = some false) ∧ (selfP Tryz.prog 59 = false) ∧ (zerosV Tryz.prog 59 = some [.exact Go.Value.nilFunc]) ∧ (Tryz.prog.underlying 59 = some (Go.TypeDesc.func #[53] #[9] false)) := And.intro tyS59 (And.intro tyA59 (And.intro sp59 (And.intro zV59 (Tryz.underlying59))))
theorem tyS60 : tySize Tryz.prog 60 = some 1 := by kernel_rfl
theorem tyA60 : tyAgg Tryz.prog 60 = some false := by kernel_rfl
theorem sp60 : selfP Tryz.prog 60 = false := by kernel_rfl
theorem zV60 : zerosV Tryz.prog 60 = some [.exact Go.Value.nilFunc] := by kernel_rfl
theorem F60 : (tySize Tryz.prog 60 = some 1) ∧ (tyAgg Tryz.prog 60 = some false) ∧ (selfP Tryz.prog 60 = false) ∧ (zerosV Tryz.prog 60 = some [.exact Go.Value.nilFunc]) ∧ (Tryz.prog.underlying 60 = some (Go.TypeDesc.func #[53, 35] #[4] false)) := And.intro tyS60 (And.intro tyA60 (And.intro sp60 (And.intro zV60 (Tryz.underlying60))))
theorem tyS61 : tySize Tryz.prog 61 = some 1 := by kernel_rfl
theorem tyA61 : tyAgg Tryz.prog 61 = some false := by kernel_rfl
theorem sp61 : selfP Tryz.prog 61 = false := by kernel_rfl
theorem zV61 : zerosV Tryz.prog 61 = some [.exact Go.Value.nilFunc] := by kernel_rfl
theorem F61 : (tySize Tryz.prog 61 = some 1) ∧ (tyAgg Tryz.prog 61 = some false) ∧ (selfP Tryz.prog 61 = false) ∧ (zerosV Tryz.prog 61 = some [.exact Go.Value.nilFunc]) ∧ (Tryz.prog.underlying 61 = some (Go.TypeDesc.func #[9, 9] #[4] false)) := And.intro tyS61 (And.intro tyA61 (And.intro sp61 (And.intro zV61 (Tryz.underlying61))))
theorem tyS62 : tySize Tryz.prog 62 = some 1 := by kernel_rfl
theorem tyA62 : tyAgg Tryz.prog 62 = some false := by kernel_rfl
theorem sp62 : selfP Tryz.prog 62 = false := by kernel_rfl
theorem zV62 : zerosV Tryz.prog 62 = some [.sl .nil []] := by kernel_rfl
theorem F62 : (tySize Tryz.prog 62 = some 1) ∧ (tyAgg Tryz.prog 62 = some false) ∧ (selfP Tryz.prog 62 = false) ∧ (zerosV Tryz.prog 62 = some [.sl .nil []]) ∧ (Tryz.prog.underlying 62 = some (Go.TypeDesc.slice 35)) := And.intro tyS62 (And.intro tyA62 (And.intro sp62 (And.intro zV62 (Tryz.underlying62))))
theorem tyS63 : tySize Tryz.prog 63 = some 1 := by kernel_rfl
theorem tyA63 : tyAgg Tryz.prog 63 = some false := by kernel_rfl
theorem sp63 : selfP Tryz.prog 63 = false := by kernel_rfl
theorem zV63 : zerosV Tryz.prog 63 = some [.exact Go.Value.nilFunc] := by kernel_rfl
theorem F63 : (tySize Tryz.prog 63 = some 1) ∧ (tyAgg Tryz.prog 63 = some false) ∧ (selfP Tryz.prog 63 = false) ∧ (zerosV Tryz.prog 63 = some [.exact Go.Value.nilFunc]) ∧ (Tryz.prog.underlying 63 = some (Go.TypeDesc.func #[53] #[4] false)) := And.intro tyS63 (And.intro tyA63 (And.intro sp63 (And.intro zV63 (Tryz.underlying63))))
theorem tyS64 : tySize Tryz.prog 64 = some 1 := by kernel_rfl
theorem tyA64 : tyAgg Tryz.prog 64 = some false := by kernel_rfl
theorem sp64 : selfP Tryz.prog 64 = false := by kernel_rfl
theorem F64 : (tySize Tryz.prog 64 = some 1) ∧ (tyAgg Tryz.prog 64 = some false) ∧ (selfP Tryz.prog 64 = false) ∧ (Tryz.prog.underlying 64 = some (Go.TypeDesc.tuple #[3, 4])) := And.intro tyS64 (And.intro tyA64 (And.intro sp64 (Tryz.underlying64)))
theorem tyS65 : tySize Tryz.prog 65 = some 1 := by kernel_rfl
theorem tyA65 : tyAgg Tryz.prog 65 = some false := by kernel_rfl
theorem sp65 : selfP Tryz.prog 65 = false := by kernel_rfl
theorem zV65 : zerosV Tryz.prog 65 = some [.exact Go.Value.nilFunc] := by kernel_rfl
theorem F65 : (tySize Tryz.prog 65 = some 1) ∧ (tyAgg Tryz.prog 65 = some false) ∧ (selfP Tryz.prog 65 = false) ∧ (zerosV Tryz.prog 65 = some [.exact Go.Value.nilFunc]) ∧ (Tryz.prog.underlying 65 = some (Go.TypeDesc.func #[53, 62] #[3, 4] false)) := And.intro tyS65 (And.intro tyA65 (And.intro sp65 (And.intro zV65 (Tryz.underlying65))))
theorem tyS66 : tySize Tryz.prog 66 = some 1 := by kernel_rfl
theorem tyA66 : tyAgg Tryz.prog 66 = some false := by kernel_rfl
theorem sp66 : selfP Tryz.prog 66 = false := by kernel_rfl
theorem zV66 : zerosV Tryz.prog 66 = some [.exact Go.Value.nilFunc] := by kernel_rfl
theorem F66 : (tySize Tryz.prog 66 = some 1) ∧ (tyAgg Tryz.prog 66 = some false) ∧ (selfP Tryz.prog 66 = false) ∧ (zerosV Tryz.prog 66 = some [.exact Go.Value.nilFunc]) ∧ (Tryz.prog.underlying 66 = some (Go.TypeDesc.func #[53, 62] #[4] false)) := And.intro tyS66 (And.intro tyA66 (And.intro sp66 (And.intro zV66 (Tryz.underlying66))))
theorem tyS67 : tySize Tryz.prog 67 = some 3 := by kernel_rfl
theorem tyA67 : tyAgg Tryz.prog 67 = some true := by kernel_rfl
theorem sp67 : selfP Tryz.prog 67 = false := by kernel_rfl
theorem zV67 : zerosV Tryz.prog 67 = some [.int .u8 0, .int .u8 0, .int .u8 0] := by kernel_rfl
theorem iK67 : isKey Tryz.prog 67 = some (3, 5) := by kernel_rfl
theorem F67 : (tySize Tryz.prog 67 = some 3) ∧ (tyAgg Tryz.prog 67 = some true) ∧ (selfP Tryz.prog 67 = false) ∧ (zerosV Tryz.prog 67 = some [.int .u8 0, .int .u8 0, .int .u8 0]) ∧ (isKey Tryz.prog 67 = some (3, 5)) ∧ (Tryz.prog.underlying 67 = some (Go.TypeDesc.array 3 5)) := And.intro tyS67 (And.intro tyA67 (And.intro sp67 (And.intro zV67 (And.intro iK67 (Tryz.underlying67)))))
theorem tyS68 : tySize Tryz.prog 68 = some 1 := by kernel_rfl
theorem tyA68 : tyAgg Tryz.prog 68 = some false := by kernel_rfl
theorem sp68 : selfP Tryz.prog 68 = false := by kernel_rfl
theorem zV68 : zerosV Tryz.prog 68 = some [.exact Go.Value.nilFunc] := by kernel_rfl
theorem F68 : (tySize Tryz.prog 68 = some 1) ∧ (tyAgg Tryz.prog 68 = some false) ∧ (selfP Tryz.prog 68 = false) ∧ (zerosV Tryz.prog 68 = some [.exact Go.Value.nilFunc]) ∧ (Tryz.prog.underlying 68 = some (Go.TypeDesc.func #[35] #[9] false)) := And.intro tyS68 (And.intro tyA68 (And.intro sp68 (And.intro zV68 (Tryz.underlying68))))
theorem tyS69 : tySize Tryz.prog 69 = some 1 := by kernel_rfl
theorem tyA69 : tyAgg Tryz.prog 69 = some false := by kernel_rfl
theorem sp69 : selfP Tryz.prog 69 = false := by kernel_rfl
theorem zV69 : zerosV Tryz.prog 69 = some [.exact Go.Value.nilFunc] := by kernel_rfl
theorem F69 : (tySize Tryz.prog 69 = some 1) ∧ (tyAgg Tryz.prog 69 = some false) ∧ (selfP Tryz.prog 69 = false) ∧ (zerosV Tryz.prog 69 = some [.exact Go.Value.nilFunc]) ∧ (Tryz.prog.underlying 69 = some (Go.TypeDesc.func #[35, 35] #[3] false)) := And.intro tyS69 (And.intro tyA69 (And.intro sp69 (And.intro zV69 (Tryz.underlying69))))
theorem tyS70 : tySize Tryz.prog 70 = some 1 := by kernel_rfl
theorem tyA70 : tyAgg Tryz.prog 70 = some false := by kernel_rfl
theorem sp70 : selfP Tryz.prog 70 = false := by kernel_rfl
theorem zV70 : zerosV Tryz.prog 70 = some [.exact Go.Value.nilFunc] := by kernel_rfl
theorem F70 : (tySize Tryz.prog 70 = some 1) ∧ (tyAgg Tryz.prog 70 = some false) ∧ (selfP Tryz.prog 70 = false) ∧ (zerosV Tryz.prog 70 = some [.exact Go.Value.nilFunc]) ∧ (Tryz.prog.underlying 70 = some (Go.TypeDesc.func #[67, 67, 5] #[4] false)) := And.intro tyS70 (And.intro tyA70 (And.intro sp70 (And.intro zV70 (Tryz.underlying70))))
theorem tyS71 : tySize Tryz.prog 71 = some 1 := by kernel_rfl
theorem tyA71 : tyAgg Tryz.prog 71 = some false := by kernel_rfl
theorem sp71 : selfP Tryz.prog 71 = false := by kernel_rfl
theorem zV71 : zerosV Tryz.prog 71 = some [.exact Go.Value.nilFunc] := by kernel_rfl
theorem F71 : (tySize Tryz.prog 71 = some 1) ∧ (tyAgg Tryz.prog 71 = some false) ∧ (selfP Tryz.prog 71 = false) ∧ (zerosV Tryz.prog 71 = some [.exact Go.Value.nilFunc]) ∧ (Tryz.prog.underlying 71 = some (Go.TypeDesc.func #[41] #[9] false)) := And.intro tyS71 (And.intro tyA71 (And.intro sp71 (And.intro zV71 (Tryz.underlying71))))
theorem tyS72 : tySize Tryz.prog 72 = some 1 := by kernel_rfl
theorem tyA72 : tyAgg Tryz.prog 72 = some false := by kernel_rfl
theorem sp72 : selfP Tryz.prog 72 = false := by kernel_rfl
theorem zV72 : zerosV Tryz.prog 72 = some [.exact Go.Value.nilFunc] := by kernel_rfl
theorem F72 : (tySize Tryz.prog 72 = some 1) ∧ (tyAgg Tryz.prog 72 = some false) ∧ (selfP Tryz.prog 72 = false) ∧ (zerosV Tryz.prog 72 = some [.exact Go.Value.nilFunc]) ∧ (Tryz.prog.underlying 72 = some (Go.TypeDesc.func #[5] #[9] false)) := And.intro tyS72 (And.intro tyA72 (And.intro sp72 (And.intro zV72 (Tryz.underlying72))))
theorem tyS73 : tySize Tryz.prog 73 = some 1 := by kernel_rfl
theorem tyA73 : tyAgg Tryz.prog 73 = some false := by kernel_rfl
theorem sp73 : selfP Tryz.prog 73 = false := by kernel_rfl
theorem zV73 : zerosV Tryz.prog 73 = some [.exact Go.Value.nilFunc] := by kernel_rfl
theorem F73 : (tySize Tryz.prog 73 = some 1) ∧ (tyAgg Tryz.prog 73 = some false) ∧ (selfP Tryz.prog 73 = false) ∧ (zerosV Tryz.prog 73 = some [.exact Go.Value.nilFunc]) ∧ (Tryz.prog.underlying 73 = some (Go.TypeDesc.func #[41, 41, 67] #[4] false)) := And.intro tyS73 (And.intro tyA73 (And.intro sp73 (And.intro zV73 (Tryz.underlying73))))
theorem tyS74 : tySize Tryz.prog 74 = some 2 := by kernel_rfl
theorem tyA74 : tyAgg Tryz.prog 74 = some true := by kernel_rfl
theorem sp74 : selfP Tryz.prog 74 = false := by kernel_rfl
theorem zV74 : zerosV Tryz.prog 74 = some [.int .u8 0, .int .u8 0] := by kernel_rfl
theorem iK74 : isKey Tryz.prog 74 = some (2, 5) := by kernel_rfl
theorem F74 : (tySize Tryz.prog 74 = some 2) ∧ (tyAgg Tryz.prog 74 = some true) ∧ (selfP Tryz.prog 74 = false) ∧ (zerosV Tryz.prog 74 = some [.int .u8 0, .int .u8 0]) ∧ (isKey Tryz.prog 74 = some (2, 5)) ∧ (Tryz.prog.underlying 74 = some (Go.TypeDesc.array 2 5)) := And.intro tyS74 (And.intro tyA74 (And.intro sp74 (And.intro zV74 (And.intro iK74 (Tryz.underlying74)))))
theorem tyS75 : tySize Tryz.prog 75 = some 1 := by kernel_rfl
theorem tyA75 : tyAgg Tryz.prog 75 = some false := by kernel_rfl
theorem sp75 : selfP Tryz.prog 75 = false := by kernel_rfl
theorem zV75 : zerosV Tryz.prog 75 = some [.exact Go.Value.nilFunc] := by kernel_rfl
theorem F75 : (tySize Tryz.prog 75 = some 1) ∧ (tyAgg Tryz.prog 75 = some false) ∧ (selfP Tryz.prog 75 = false) ∧ (zerosV Tryz.prog 75 = some [.exact Go.Value.nilFunc]) ∧ (Tryz.prog.underlying 75 = some (Go.TypeDesc.func #[5, 74, 74, 4] #[4] false)) := And.intro tyS75 (And.intro tyA75 (And.intro sp75 (And.intro zV75 (Tryz.underlying75))))
theorem tyS76 : tySize Tryz.prog 76 = some 1 := by kernel_rfl
theorem tyA76 : tyAgg Tryz.prog 76 = some false := by kernel_rfl
theorem sp76 : selfP Tryz.prog 76 = false := by kernel_rfl
theorem zV76 : zerosV Tryz.prog 76 = some [.sl .nil []] := by kernel_rfl
theorem F76 : (tySize Tryz.prog 76 = some 1) ∧ (tyAgg Tryz.prog 76 = some false) ∧ (selfP Tryz.prog 76 = false) ∧ (zerosV Tryz.prog 76 = some [.sl .nil []]) ∧ (Tryz.prog.underlying 76 = some (Go.TypeDesc.slice 67)) := And.intro tyS76 (And.intro tyA76 (And.intro sp76 (And.intro zV76 (Tryz.underlying76))))
theorem tyS77 : tySize Tryz.prog 77 = some 1 := by kernel_rfl
theorem tyA77 : tyAgg Tryz.prog 77 = some false := by kernel_rfl
theorem sp77 : selfP Tryz.prog 77 = false := by kernel_rfl
theorem zV77 : zerosV Tryz.prog 77 = some [.exact Go.Value.nilFunc] := by kernel_rfl
theorem F77 : (tySize Tryz.prog 77 = some 1) ∧ (tyAgg Tryz.prog 77 = some false) ∧ (selfP Tryz.prog 77 = false) ∧ (zerosV Tryz.prog 77 = some [.exact Go.Value.nilFunc]) ∧ (Tryz.prog.underlying 77 = some (Go.TypeDesc.func #[76, 41] #[4] false)) := And.intro tyS77 (And.intro tyA77 (And.intro sp77 (And.intro zV77 (Tryz.underlying77))))
theorem tyS78 : tySize Tryz.prog 78 = some 1 := by kernel_rfl
theorem tyA78 : tyAgg Tryz.prog 78 = some false := by kernel_rfl
theorem sp78 : selfP Tryz.prog 78 = false := by kernel_rfl
theorem zV78 : zerosV Tryz.prog 78 = some [.sl .nil []] := by kernel_rfl
theorem F78 : (tySize Tryz.prog 78 = some 1) ∧ (tyAgg Tryz.prog 78 = some false) ∧ (selfP Tryz.prog 78 = false) ∧ (zerosV Tryz.prog 78 = some [.sl .nil []]) ∧ (Tryz.prog.underlying 78 = some (Go.TypeDesc.slice 92)) := And.intro tyS78 (And.intro tyA78 (And.intro sp78 (And.intro zV78 (Tryz.underlying78))))
theorem tyS79 : tySize Tryz.prog 79 = some 6 := by kernel_rfl
theorem tyA79 : tyAgg Tryz.prog 79 = some true := by kernel_rfl
theorem sp79 : selfP Tryz.prog 79 = false := by kernel_rfl
theorem zV79 : zerosV Tryz.prog 79 = some [.str [], .int .i64 0, .int .i64 0, .int .i64 0, .sl .nil [], .sl .nil []] := by kernel_rfl
theorem pl79 : places Tryz.prog 79 = some [(0, 1), (1, 4), (5, 1)] := by kernel_rfl
theorem fl79_0 : fld Tryz.prog 79 0 = some (0, 9) := by kernel_rfl
theorem fl79_1 : fld Tryz.prog 79 1 = some (1, 35) := by kernel_rfl
theorem fl79_2 : fld Tryz.prog 79 2 = some (5, 78) := by kernel_rfl
theorem F79 : (tySize Tryz.prog 79 = some 6) ∧ (tyAgg Tryz.prog 79 = some true) ∧ (selfP Tryz.prog 79 = false) ∧ (zerosV Tryz.prog 79 = some [.str [], .int .i64 0, .int .i64 0, .int .i64 0, .sl .nil [], .sl .nil []]) ∧ (places Tryz.prog 79 = some [(0, 1), (1, 4), (5, 1)]) ∧ (fld Tryz.prog 79 0 = some (0, 9)) ∧ (fld Tryz.prog 79 1 = some (1, 35)) ∧ (fld Tryz.prog 79 2 = some (5, 78)) ∧ (Tryz.prog.underlying 79 = some (Go.TypeDesc.struct #[{ name := "Name", type := 9, offset := 0, embedded := false, tag := "", pkgPath := "", byteOffset := 0 }, { name := "V", type := 35, offset := 1, embedded := false, tag := "", pkgPath := "", byteOffset := 16 }, { name := "Needs", type := 78, offset := 5, embedded := false, tag := "", pkgPath := "", byteOffset := 64 }])) := And.intro tyS79 (And.intro tyA79 (And.intro sp79 (And.intro zV79 (And.intro pl79 (And.intro fl79_0 (And.intro fl79_1 (And.intro fl79_2 (Tryz.underlying79))))))))
theorem tyS80 : tySize Tryz.prog 80 = some 6 := by kernel_rfl
theorem tyA80 : tyAgg Tryz.prog 80 = some true := by kernel_rfl
theorem sp80 : selfP Tryz.prog 80 = false := by kernel_rfl
theorem zV80 : zerosV Tryz.prog 80 = some [.str [], .int .i64 0, .int .i64 0, .int .i64 0, .sl .nil [], .sl .nil []] := by kernel_rfl
theorem pl80 : places Tryz.prog 80 = some [(0, 1), (1, 4), (5, 1)] := by kernel_rfl
theorem fl80_0 : fld Tryz.prog 80 0 = some (0, 9) := by kernel_rfl
theorem fl80_1 : fld Tryz.prog 80 1 = some (1, 35) := by kernel_rfl
theorem fl80_2 : fld Tryz.prog 80 2 = some (5, 78) := by kernel_rfl
theorem F80 : (tySize Tryz.prog 80 = some 6) ∧ (tyAgg Tryz.prog 80 = some true) ∧ (selfP Tryz.prog 80 = false) ∧ (zerosV Tryz.prog 80 = some [.str [], .int .i64 0, .int .i64 0, .int .i64 0, .sl .nil [], .sl .nil []]) ∧ (places Tryz.prog 80 = some [(0, 1), (1, 4), (5, 1)]) ∧ (fld Tryz.prog 80 0 = some (0, 9)) ∧ (fld Tryz.prog 80 1 = some (1, 35)) ∧ (fld Tryz.prog 80 2 = some (5, 78)) ∧ (Tryz.prog.underlying 80 = some (Go.TypeDesc.struct #[{ name := "Name", type := 9, offset := 0, embedded := false, tag := "", pkgPath := "", byteOffset := 0 }, { name := "V", type := 35, offset := 1, embedded := false, tag := "", pkgPath := "", byteOffset := 16 }, { name := "Needs", type := 78, offset := 5, embedded := false, tag := "", pkgPath := "", byteOffset := 64 }])) := And.intro tyS80 (And.intro tyA80 (And.intro sp80 (And.intro zV80 (And.intro pl80 (And.intro fl80_0 (And.intro fl80_1 (And.intro fl80_2 (Tryz.underlying80))))))))
theorem tyS81 : tySize Tryz.prog 81 = some 1 := by kernel_rfl
theorem tyA81 : tyAgg Tryz.prog 81 = some false := by kernel_rfl
theorem sp81 : selfP Tryz.prog 81 = false := by kernel_rfl
theorem F81 : (tySize Tryz.prog 81 = some 1) ∧ (tyAgg Tryz.prog 81 = some false) ∧ (selfP Tryz.prog 81 = false) ∧ (Tryz.prog.underlying 81 = some (Go.TypeDesc.tuple #[80, 3, 24])) := And.intro tyS81 (And.intro tyA81 (And.intro sp81 (Tryz.underlying81)))
theorem tyS82 : tySize Tryz.prog 82 = some 1 := by kernel_rfl
theorem tyA82 : tyAgg Tryz.prog 82 = some false := by kernel_rfl
theorem sp82 : selfP Tryz.prog 82 = false := by kernel_rfl
theorem zV82 : zerosV Tryz.prog 82 = some [.exact Go.Value.nilFunc] := by kernel_rfl
theorem F82 : (tySize Tryz.prog 82 = some 1) ∧ (tyAgg Tryz.prog 82 = some false) ∧ (selfP Tryz.prog 82 = false) ∧ (zerosV Tryz.prog 82 = some [.exact Go.Value.nilFunc]) ∧ (Tryz.prog.underlying 82 = some (Go.TypeDesc.func #[9] #[80, 3, 24] false)) := And.intro tyS82 (And.intro tyA82 (And.intro sp82 (And.intro zV82 (Tryz.underlying82))))
theorem tyS83 : tySize Tryz.prog 83 = some 1 := by kernel_rfl
theorem tyA83 : tyAgg Tryz.prog 83 = some false := by kernel_rfl
theorem sp83 : selfP Tryz.prog 83 = false := by kernel_rfl
theorem F83 : (tySize Tryz.prog 83 = some 1) ∧ (tyAgg Tryz.prog 83 = some false) ∧ (selfP Tryz.prog 83 = false) ∧ (Tryz.prog.underlying 83 = some (Go.TypeDesc.tuple #[80, 3, 3])) := And.intro tyS83 (And.intro tyA83 (And.intro sp83 (Tryz.underlying83)))
theorem tyS84 : tySize Tryz.prog 84 = some 1 := by kernel_rfl
theorem tyA84 : tyAgg Tryz.prog 84 = some false := by kernel_rfl
theorem sp84 : selfP Tryz.prog 84 = false := by kernel_rfl
theorem zV84 : zerosV Tryz.prog 84 = some [.exact Go.Value.nilFunc] := by kernel_rfl
theorem F84 : (tySize Tryz.prog 84 = some 1) ∧ (tyAgg Tryz.prog 84 = some false) ∧ (selfP Tryz.prog 84 = false) ∧ (zerosV Tryz.prog 84 = some [.exact Go.Value.nilFunc]) ∧ (Tryz.prog.underlying 84 = some (Go.TypeDesc.func #[9] #[80, 3, 3] false)) := And.intro tyS84 (And.intro tyA84 (And.intro sp84 (And.intro zV84 (Tryz.underlying84))))
theorem tyS85 : tySize Tryz.prog 85 = some 1 := by kernel_rfl
theorem tyA85 : tyAgg Tryz.prog 85 = some false := by kernel_rfl
theorem sp85 : selfP Tryz.prog 85 = false := by kernel_rfl
theorem zV85 : zerosV Tryz.prog 85 = some [.exact Go.Value.nilFunc] := by kernel_rfl
theorem F85 : (tySize Tryz.prog 85 = some 1) ∧ (tyAgg Tryz.prog 85 = some false) ∧ (selfP Tryz.prog 85 = false) ∧ (zerosV Tryz.prog 85 = some [.exact Go.Value.nilFunc]) ∧ (Tryz.prog.underlying 85 = some (Go.TypeDesc.func #[80, 80] #[4] false)) := And.intro tyS85 (And.intro tyA85 (And.intro sp85 (And.intro zV85 (Tryz.underlying85))))
theorem tyS86 : tySize Tryz.prog 86 = some 1 := by kernel_rfl
theorem tyA86 : tyAgg Tryz.prog 86 = some false := by kernel_rfl
theorem sp86 : selfP Tryz.prog 86 = false := by kernel_rfl
theorem zV86 : zerosV Tryz.prog 86 = some [.exact Go.Value.nilFunc] := by kernel_rfl
theorem F86 : (tySize Tryz.prog 86 = some 1) ∧ (tyAgg Tryz.prog 86 = some false) ∧ (selfP Tryz.prog 86 = false) ∧ (zerosV Tryz.prog 86 = some [.exact Go.Value.nilFunc]) ∧ (Tryz.prog.underlying 86 = some (Go.TypeDesc.func #[80] #[9] false)) := And.intro tyS86 (And.intro tyA86 (And.intro sp86 (And.intro zV86 (Tryz.underlying86))))
theorem tyS87 : tySize Tryz.prog 87 = some 1 := by kernel_rfl
theorem tyA87 : tyAgg Tryz.prog 87 = some false := by kernel_rfl
theorem sp87 : selfP Tryz.prog 87 = false := by kernel_rfl
theorem zV87 : zerosV Tryz.prog 87 = some [.exact Go.Value.nilFunc] := by kernel_rfl
theorem F87 : (tySize Tryz.prog 87 = some 1) ∧ (tyAgg Tryz.prog 87 = some false) ∧ (selfP Tryz.prog 87 = false) ∧ (zerosV Tryz.prog 87 = some [.exact Go.Value.nilFunc]) ∧ (Tryz.prog.underlying 87 = some (Go.TypeDesc.func #[9, 5] #[4] false)) := And.intro tyS87 (And.intro tyA87 (And.intro sp87 (And.intro zV87 (Tryz.underlying87))))
theorem tyS88 : tySize Tryz.prog 88 = some 1 := by kernel_rfl
theorem tyA88 : tyAgg Tryz.prog 88 = some false := by kernel_rfl
theorem sp88 : selfP Tryz.prog 88 = false := by kernel_rfl
theorem zV88 : zerosV Tryz.prog 88 = some [.exact Go.Value.nilFunc] := by kernel_rfl
theorem F88 : (tySize Tryz.prog 88 = some 1) ∧ (tyAgg Tryz.prog 88 = some false) ∧ (selfP Tryz.prog 88 = false) ∧ (zerosV Tryz.prog 88 = some [.exact Go.Value.nilFunc]) ∧ (Tryz.prog.underlying 88 = some (Go.TypeDesc.func #[5, 5] #[4] false)) := And.intro tyS88 (And.intro tyA88 (And.intro sp88 (And.intro zV88 (Tryz.underlying88))))
theorem tyS89 : tySize Tryz.prog 89 = some 1 := by kernel_rfl
theorem tyA89 : tyAgg Tryz.prog 89 = some false := by kernel_rfl
theorem sp89 : selfP Tryz.prog 89 = false := by kernel_rfl
theorem zV89 : zerosV Tryz.prog 89 = some [.sl .nil []] := by kernel_rfl
theorem F89 : (tySize Tryz.prog 89 = some 1) ∧ (tyAgg Tryz.prog 89 = some false) ∧ (selfP Tryz.prog 89 = false) ∧ (zerosV Tryz.prog 89 = some [.sl .nil []]) ∧ (Tryz.prog.underlying 89 = some (Go.TypeDesc.slice 102)) := And.intro tyS89 (And.intro tyA89 (And.intro sp89 (And.intro zV89 (Tryz.underlying89))))
theorem tyS90 : tySize Tryz.prog 90 = some 1 := by kernel_rfl
theorem tyA90 : tyAgg Tryz.prog 90 = some false := by kernel_rfl
theorem sp90 : selfP Tryz.prog 90 = false := by kernel_rfl
theorem zV90 : zerosV Tryz.prog 90 = some [.exact Go.Value.nilFunc] := by kernel_rfl
theorem F90 : (tySize Tryz.prog 90 = some 1) ∧ (tyAgg Tryz.prog 90 = some false) ∧ (selfP Tryz.prog 90 = false) ∧ (zerosV Tryz.prog 90 = some [.exact Go.Value.nilFunc]) ∧ (Tryz.prog.underlying 90 = some (Go.TypeDesc.func #[89] #[78] false)) := And.intro tyS90 (And.intro tyA90 (And.intro sp90 (And.intro zV90 (Tryz.underlying90))))
theorem tyS91 : tySize Tryz.prog 91 = some 4 := by kernel_rfl
theorem tyA91 : tyAgg Tryz.prog 91 = some true := by kernel_rfl
theorem sp91 : selfP Tryz.prog 91 = false := by kernel_rfl
theorem zV91 : zerosV Tryz.prog 91 = some [.str [], .bool false, .sl .nil [], .str []] := by kernel_rfl
theorem pl91 : places Tryz.prog 91 = some [(0, 1), (1, 2), (3, 1)] := by kernel_rfl
theorem fl91_0 : fld Tryz.prog 91 0 = some (0, 9) := by kernel_rfl
theorem fl91_1 : fld Tryz.prog 91 1 = some (1, 53) := by kernel_rfl
theorem fl91_2 : fld Tryz.prog 91 2 = some (3, 9) := by kernel_rfl
theorem F91 : (tySize Tryz.prog 91 = some 4) ∧ (tyAgg Tryz.prog 91 = some true) ∧ (selfP Tryz.prog 91 = false) ∧ (zerosV Tryz.prog 91 = some [.str [], .bool false, .sl .nil [], .str []]) ∧ (places Tryz.prog 91 = some [(0, 1), (1, 2), (3, 1)]) ∧ (fld Tryz.prog 91 0 = some (0, 9)) ∧ (fld Tryz.prog 91 1 = some (1, 53)) ∧ (fld Tryz.prog 91 2 = some (3, 9)) ∧ (Tryz.prog.underlying 91 = some (Go.TypeDesc.struct #[{ name := "Name", type := 9, offset := 0, embedded := false, tag := "", pkgPath := "", byteOffset := 0 }, { name := "Span", type := 53, offset := 1, embedded := false, tag := "", pkgPath := "", byteOffset := 16 }, { name := "Text", type := 9, offset := 3, embedded := false, tag := "", pkgPath := "", byteOffset := 48 }])) := And.intro tyS91 (And.intro tyA91 (And.intro sp91 (And.intro zV91 (And.intro pl91 (And.intro fl91_0 (And.intro fl91_1 (And.intro fl91_2 (Tryz.underlying91))))))))
theorem tyS92 : tySize Tryz.prog 92 = some 4 := by kernel_rfl
theorem tyA92 : tyAgg Tryz.prog 92 = some true := by kernel_rfl
theorem sp92 : selfP Tryz.prog 92 = false := by kernel_rfl
theorem zV92 : zerosV Tryz.prog 92 = some [.str [], .bool false, .sl .nil [], .str []] := by kernel_rfl
theorem pl92 : places Tryz.prog 92 = some [(0, 1), (1, 2), (3, 1)] := by kernel_rfl
theorem fl92_0 : fld Tryz.prog 92 0 = some (0, 9) := by kernel_rfl
theorem fl92_1 : fld Tryz.prog 92 1 = some (1, 53) := by kernel_rfl
theorem fl92_2 : fld Tryz.prog 92 2 = some (3, 9) := by kernel_rfl
theorem F92 : (tySize Tryz.prog 92 = some 4) ∧ (tyAgg Tryz.prog 92 = some true) ∧ (selfP Tryz.prog 92 = false) ∧ (zerosV Tryz.prog 92 = some [.str [], .bool false, .sl .nil [], .str []]) ∧ (places Tryz.prog 92 = some [(0, 1), (1, 2), (3, 1)]) ∧ (fld Tryz.prog 92 0 = some (0, 9)) ∧ (fld Tryz.prog 92 1 = some (1, 53)) ∧ (fld Tryz.prog 92 2 = some (3, 9)) ∧ (Tryz.prog.underlying 92 = some (Go.TypeDesc.struct #[{ name := "Name", type := 9, offset := 0, embedded := false, tag := "", pkgPath := "", byteOffset := 0 }, { name := "Span", type := 53, offset := 1, embedded := false, tag := "", pkgPath := "", byteOffset := 16 }, { name := "Text", type := 9, offset := 3, embedded := false, tag := "", pkgPath := "", byteOffset := 48 }])) := And.intro tyS92 (And.intro tyA92 (And.intro sp92 (And.intro zV92 (And.intro pl92 (And.intro fl92_0 (And.intro fl92_1 (And.intro fl92_2 (Tryz.underlying92))))))))
theorem tyS93 : tySize Tryz.prog 93 = some 1 := by kernel_rfl
theorem tyA93 : tyAgg Tryz.prog 93 = some false := by kernel_rfl
theorem sp93 : selfP Tryz.prog 93 = false := by kernel_rfl
theorem zV93 : zerosV Tryz.prog 93 = some [.exact Go.Value.nilFunc] := by kernel_rfl
theorem F93 : (tySize Tryz.prog 93 = some 1) ∧ (tyAgg Tryz.prog 93 = some false) ∧ (selfP Tryz.prog 93 = false) ∧ (zerosV Tryz.prog 93 = some [.exact Go.Value.nilFunc]) ∧ (Tryz.prog.underlying 93 = some (Go.TypeDesc.func #[89, 41, 5] #[4] false)) := And.intro tyS93 (And.intro tyA93 (And.intro sp93 (And.intro zV93 (Tryz.underlying93))))
theorem tyS94 : tySize Tryz.prog 94 = some 1 := by kernel_rfl
theorem tyA94 : tyAgg Tryz.prog 94 = some false := by kernel_rfl
theorem sp94 : selfP Tryz.prog 94 = false := by kernel_rfl
theorem zV94 : zerosV Tryz.prog 94 = some [.sl .nil []] := by kernel_rfl
theorem F94 : (tySize Tryz.prog 94 = some 1) ∧ (tyAgg Tryz.prog 94 = some false) ∧ (selfP Tryz.prog 94 = false) ∧ (zerosV Tryz.prog 94 = some [.sl .nil []]) ∧ (Tryz.prog.underlying 94 = some (Go.TypeDesc.slice 4)) := And.intro tyS94 (And.intro tyA94 (And.intro sp94 (And.intro zV94 (Tryz.underlying94))))
theorem tyS95 : tySize Tryz.prog 95 = some 1 := by kernel_rfl
theorem tyA95 : tyAgg Tryz.prog 95 = some false := by kernel_rfl
theorem sp95 : selfP Tryz.prog 95 = false := by kernel_rfl
theorem F95 : (tySize Tryz.prog 95 = some 1) ∧ (tyAgg Tryz.prog 95 = some false) ∧ (selfP Tryz.prog 95 = false) ∧ (Tryz.prog.underlying 95 = some (Go.TypeDesc.tuple #[80, 4])) := And.intro tyS95 (And.intro tyA95 (And.intro sp95 (Tryz.underlying95)))
theorem tyS96 : tySize Tryz.prog 96 = some 1 := by kernel_rfl
theorem tyA96 : tyAgg Tryz.prog 96 = some false := by kernel_rfl
theorem sp96 : selfP Tryz.prog 96 = false := by kernel_rfl
theorem zV96 : zerosV Tryz.prog 96 = some [.exact Go.Value.nilFunc] := by kernel_rfl
theorem F96 : (tySize Tryz.prog 96 = some 1) ∧ (tyAgg Tryz.prog 96 = some false) ∧ (selfP Tryz.prog 96 = false) ∧ (zerosV Tryz.prog 96 = some [.exact Go.Value.nilFunc]) ∧ (Tryz.prog.underlying 96 = some (Go.TypeDesc.func #[80, 9] #[80, 4] false)) := And.intro tyS96 (And.intro tyA96 (And.intro sp96 (And.intro zV96 (Tryz.underlying96))))
theorem tyS97 : tySize Tryz.prog 97 = some 1 := by kernel_rfl
theorem tyA97 : tyAgg Tryz.prog 97 = some false := by kernel_rfl
theorem sp97 : selfP Tryz.prog 97 = false := by kernel_rfl
theorem F97 : (tySize Tryz.prog 97 = some 1) ∧ (tyAgg Tryz.prog 97 = some false) ∧ (selfP Tryz.prog 97 = false) ∧ (Tryz.prog.underlying 97 = some (Go.TypeDesc.tuple #[80, 24])) := And.intro tyS97 (And.intro tyA97 (And.intro sp97 (Tryz.underlying97)))
theorem tyS98 : tySize Tryz.prog 98 = some 1 := by kernel_rfl
theorem tyA98 : tyAgg Tryz.prog 98 = some false := by kernel_rfl
theorem sp98 : selfP Tryz.prog 98 = false := by kernel_rfl
theorem zV98 : zerosV Tryz.prog 98 = some [.exact Go.Value.nilFunc] := by kernel_rfl
theorem F98 : (tySize Tryz.prog 98 = some 1) ∧ (tyAgg Tryz.prog 98 = some false) ∧ (selfP Tryz.prog 98 = false) ∧ (zerosV Tryz.prog 98 = some [.exact Go.Value.nilFunc]) ∧ (Tryz.prog.underlying 98 = some (Go.TypeDesc.func #[80, 92] #[80, 24] false)) := And.intro tyS98 (And.intro tyA98 (And.intro sp98 (And.intro zV98 (Tryz.underlying98))))
theorem tyS99 : tySize Tryz.prog 99 = some 1 := by kernel_rfl
theorem tyA99 : tyAgg Tryz.prog 99 = some false := by kernel_rfl
theorem sp99 : selfP Tryz.prog 99 = false := by kernel_rfl
theorem F99 : (tySize Tryz.prog 99 = some 1) ∧ (tyAgg Tryz.prog 99 = some false) ∧ (selfP Tryz.prog 99 = false) ∧ (Tryz.prog.underlying 99 = some (Go.TypeDesc.tuple #[80, 3])) := And.intro tyS99 (And.intro tyA99 (And.intro sp99 (Tryz.underlying99)))
theorem tyS100 : tySize Tryz.prog 100 = some 1 := by kernel_rfl
theorem tyA100 : tyAgg Tryz.prog 100 = some false := by kernel_rfl
theorem sp100 : selfP Tryz.prog 100 = false := by kernel_rfl
theorem zV100 : zerosV Tryz.prog 100 = some [.exact Go.Value.nilFunc] := by kernel_rfl
theorem F100 : (tySize Tryz.prog 100 = some 1) ∧ (tyAgg Tryz.prog 100 = some false) ∧ (selfP Tryz.prog 100 = false) ∧ (zerosV Tryz.prog 100 = some [.exact Go.Value.nilFunc]) ∧ (Tryz.prog.underlying 100 = some (Go.TypeDesc.func #[80, 92] #[80, 3] false)) := And.intro tyS100 (And.intro tyA100 (And.intro sp100 (And.intro zV100 (Tryz.underlying100))))
theorem tyS101 : tySize Tryz.prog 101 = some 1 := by kernel_rfl
theorem tyA101 : tyAgg Tryz.prog 101 = some false := by kernel_rfl
theorem sp101 : selfP Tryz.prog 101 = false := by kernel_rfl
theorem zV101 : zerosV Tryz.prog 101 = some [.exact Go.Value.nilFunc] := by kernel_rfl
theorem F101 : (tySize Tryz.prog 101 = some 1) ∧ (tyAgg Tryz.prog 101 = some false) ∧ (selfP Tryz.prog 101 = false) ∧ (zerosV Tryz.prog 101 = some [.exact Go.Value.nilFunc]) ∧ (Tryz.prog.underlying 101 = some (Go.TypeDesc.func #[78, 94] #[4] false)) := And.intro tyS101 (And.intro tyA101 (And.intro sp101 (And.intro zV101 (Tryz.underlying101))))
theorem tyS102 : tySize Tryz.prog 102 = some 1 := by kernel_rfl
theorem tyA102 : tyAgg Tryz.prog 102 = some false := by kernel_rfl
theorem sp102 : selfP Tryz.prog 102 = false := by kernel_rfl
theorem zV102 : zerosV Tryz.prog 102 = some [.int .u16 0] := by kernel_rfl
theorem F102 : (tySize Tryz.prog 102 = some 1) ∧ (tyAgg Tryz.prog 102 = some false) ∧ (selfP Tryz.prog 102 = false) ∧ (zerosV Tryz.prog 102 = some [.int .u16 0]) ∧ (Tryz.prog.underlying 102 = some (Go.TypeDesc.int Go.IntKind.u16)) := And.intro tyS102 (And.intro tyA102 (And.intro sp102 (And.intro zV102 (Tryz.underlying102))))
theorem tyS103 : tySize Tryz.prog 103 = some 1 := by kernel_rfl
theorem tyA103 : tyAgg Tryz.prog 103 = some false := by kernel_rfl
theorem sp103 : selfP Tryz.prog 103 = false := by kernel_rfl
theorem zV103 : zerosV Tryz.prog 103 = some [.exact Go.Value.nilFunc] := by kernel_rfl
theorem F103 : (tySize Tryz.prog 103 = some 1) ∧ (tyAgg Tryz.prog 103 = some false) ∧ (selfP Tryz.prog 103 = false) ∧ (zerosV Tryz.prog 103 = some [.exact Go.Value.nilFunc]) ∧ (Tryz.prog.underlying 103 = some (Go.TypeDesc.func #[89, 102, 102] #[4] false)) := And.intro tyS103 (And.intro tyA103 (And.intro sp103 (And.intro zV103 (Tryz.underlying103))))
theorem tyS104 : tySize Tryz.prog 104 = some 1 := by kernel_rfl
theorem tyA104 : tyAgg Tryz.prog 104 = some true := by kernel_rfl
theorem sp104 : selfP Tryz.prog 104 = false := by kernel_rfl
theorem zV104 : zerosV Tryz.prog 104 = some [.int .i64 0] := by kernel_rfl
theorem pl104 : places Tryz.prog 104 = some [(0, 1)] := by kernel_rfl
theorem fl104_0 : fld Tryz.prog 104 0 = some (0, 3) := by kernel_rfl
theorem F104 : (tySize Tryz.prog 104 = some 1) ∧ (tyAgg Tryz.prog 104 = some true) ∧ (selfP Tryz.prog 104 = false) ∧ (zerosV Tryz.prog 104 = some [.int .i64 0]) ∧ (places Tryz.prog 104 = some [(0, 1)]) ∧ (fld Tryz.prog 104 0 = some (0, 3)) ∧ (Tryz.prog.underlying 104 = some (Go.TypeDesc.struct #[{ name := "line", type := 3, offset := 0, embedded := false, tag := "", pkgPath := "haversack/lockfile", byteOffset := 0 }])) := And.intro tyS104 (And.intro tyA104 (And.intro sp104 (And.intro zV104 (And.intro pl104 (And.intro fl104_0 (Tryz.underlying104))))))
theorem tyS105 : tySize Tryz.prog 105 = some 1 := by kernel_rfl
theorem tyA105 : tyAgg Tryz.prog 105 = some true := by kernel_rfl
theorem sp105 : selfP Tryz.prog 105 = false := by kernel_rfl
theorem zV105 : zerosV Tryz.prog 105 = some [.int .i64 0] := by kernel_rfl
theorem pl105 : places Tryz.prog 105 = some [(0, 1)] := by kernel_rfl
theorem fl105_0 : fld Tryz.prog 105 0 = some (0, 3) := by kernel_rfl
theorem F105 : (tySize Tryz.prog 105 = some 1) ∧ (tyAgg Tryz.prog 105 = some true) ∧ (selfP Tryz.prog 105 = false) ∧ (zerosV Tryz.prog 105 = some [.int .i64 0]) ∧ (places Tryz.prog 105 = some [(0, 1)]) ∧ (fld Tryz.prog 105 0 = some (0, 3)) ∧ (Tryz.prog.underlying 105 = some (Go.TypeDesc.struct #[{ name := "line", type := 3, offset := 0, embedded := false, tag := "", pkgPath := "haversack/lockfile", byteOffset := 0 }])) := And.intro tyS105 (And.intro tyA105 (And.intro sp105 (And.intro zV105 (And.intro pl105 (And.intro fl105_0 (Tryz.underlying105))))))
theorem tyS106 : tySize Tryz.prog 106 = some 1 := by kernel_rfl
theorem tyA106 : tyAgg Tryz.prog 106 = some false := by kernel_rfl
theorem sp106 : selfP Tryz.prog 106 = false := by kernel_rfl
theorem F106 : (tySize Tryz.prog 106 = some 1) ∧ (tyAgg Tryz.prog 106 = some false) ∧ (selfP Tryz.prog 106 = false) ∧ (Tryz.prog.underlying 106 = some (Go.TypeDesc.tuple #[105, 4])) := And.intro tyS106 (And.intro tyA106 (And.intro sp106 (Tryz.underlying106)))
theorem tyS107 : tySize Tryz.prog 107 = some 1 := by kernel_rfl
theorem tyA107 : tyAgg Tryz.prog 107 = some false := by kernel_rfl
theorem sp107 : selfP Tryz.prog 107 = false := by kernel_rfl
theorem zV107 : zerosV Tryz.prog 107 = some [.exact Go.Value.nilFunc] := by kernel_rfl
theorem F107 : (tySize Tryz.prog 107 = some 1) ∧ (tyAgg Tryz.prog 107 = some false) ∧ (selfP Tryz.prog 107 = false) ∧ (zerosV Tryz.prog 107 = some [.exact Go.Value.nilFunc]) ∧ (Tryz.prog.underlying 107 = some (Go.TypeDesc.func #[4, 3] #[] false)) := And.intro tyS107 (And.intro tyA107 (And.intro sp107 (And.intro zV107 (Tryz.underlying107))))
theorem tyS108 : tySize Tryz.prog 108 = some 1 := by kernel_rfl
theorem tyA108 : tyAgg Tryz.prog 108 = some false := by kernel_rfl
theorem sp108 : selfP Tryz.prog 108 = false := by kernel_rfl
theorem zV108 : zerosV Tryz.prog 108 = some [.exact Go.Value.nilFunc] := by kernel_rfl
theorem F108 : (tySize Tryz.prog 108 = some 1) ∧ (tyAgg Tryz.prog 108 = some false) ∧ (selfP Tryz.prog 108 = false) ∧ (zerosV Tryz.prog 108 = some [.exact Go.Value.nilFunc]) ∧ (Tryz.prog.underlying 108 = some (Go.TypeDesc.func #[9, 9] #[33] false)) := And.intro tyS108 (And.intro tyA108 (And.intro sp108 (And.intro zV108 (Tryz.underlying108))))
theorem tyS109 : tySize Tryz.prog 109 = some 1 := by kernel_rfl
theorem tyA109 : tyAgg Tryz.prog 109 = some false := by kernel_rfl
theorem sp109 : selfP Tryz.prog 109 = false := by kernel_rfl
theorem zV109 : zerosV Tryz.prog 109 = some [.exact Go.Value.nilFunc] := by kernel_rfl
theorem F109 : (tySize Tryz.prog 109 = some 1) ∧ (tyAgg Tryz.prog 109 = some false) ∧ (selfP Tryz.prog 109 = false) ∧ (zerosV Tryz.prog 109 = some [.exact Go.Value.nilFunc]) ∧ (Tryz.prog.underlying 109 = some (Go.TypeDesc.func #[9, 9] #[9] false)) := And.intro tyS109 (And.intro tyA109 (And.intro sp109 (And.intro zV109 (Tryz.underlying109))))
theorem tyS110 : tySize Tryz.prog 110 = some 1 := by kernel_rfl
theorem tyA110 : tyAgg Tryz.prog 110 = some false := by kernel_rfl
theorem sp110 : selfP Tryz.prog 110 = false := by kernel_rfl
theorem zV110 : zerosV Tryz.prog 110 = some [.exact Go.Value.nilFunc] := by kernel_rfl
theorem F110 : (tySize Tryz.prog 110 = some 1) ∧ (tyAgg Tryz.prog 110 = some false) ∧ (selfP Tryz.prog 110 = false) ∧ (zerosV Tryz.prog 110 = some [.exact Go.Value.nilFunc]) ∧ (Tryz.prog.underlying 110 = some (Go.TypeDesc.func #[9, 3] #[39] false)) := And.intro tyS110 (And.intro tyA110 (And.intro sp110 (And.intro zV110 (Tryz.underlying110))))
theorem tyS111 : tySize Tryz.prog 111 = some 1 := by kernel_rfl
theorem tyA111 : tyAgg Tryz.prog 111 = some false := by kernel_rfl
theorem sp111 : selfP Tryz.prog 111 = false := by kernel_rfl
theorem zV111 : zerosV Tryz.prog 111 = some [.exact Go.Value.nilFunc] := by kernel_rfl
theorem F111 : (tySize Tryz.prog 111 = some 1) ∧ (tyAgg Tryz.prog 111 = some false) ∧ (selfP Tryz.prog 111 = false) ∧ (zerosV Tryz.prog 111 = some [.exact Go.Value.nilFunc]) ∧ (Tryz.prog.underlying 111 = some (Go.TypeDesc.func #[9] #[33] false)) := And.intro tyS111 (And.intro tyA111 (And.intro sp111 (And.intro zV111 (Tryz.underlying111))))
theorem tyS112 : tySize Tryz.prog 112 = some 1 := by kernel_rfl
theorem tyA112 : tyAgg Tryz.prog 112 = some false := by kernel_rfl
theorem sp112 : selfP Tryz.prog 112 = false := by kernel_rfl
theorem zV112 : zerosV Tryz.prog 112 = some [.exact Go.Value.nilFunc] := by kernel_rfl
theorem F112 : (tySize Tryz.prog 112 = some 1) ∧ (tyAgg Tryz.prog 112 = some false) ∧ (selfP Tryz.prog 112 = false) ∧ (zerosV Tryz.prog 112 = some [.exact Go.Value.nilFunc]) ∧ (Tryz.prog.underlying 112 = some (Go.TypeDesc.func #[9, 5] #[33] false)) := And.intro tyS112 (And.intro tyA112 (And.intro sp112 (And.intro zV112 (Tryz.underlying112))))
theorem tyS113 : tySize Tryz.prog 113 = some 1 := by kernel_rfl
theorem tyA113 : tyAgg Tryz.prog 113 = some false := by kernel_rfl
theorem sp113 : selfP Tryz.prog 113 = false := by kernel_rfl
theorem F113 : (tySize Tryz.prog 113 = some 1) ∧ (tyAgg Tryz.prog 113 = some false) ∧ (selfP Tryz.prog 113 = false) ∧ (Tryz.prog.underlying 113 = some (Go.TypeDesc.tuple #[37, 4])) := And.intro tyS113 (And.intro tyA113 (And.intro sp113 (Tryz.underlying113)))
theorem tyS114 : tySize Tryz.prog 114 = some 1 := by kernel_rfl
theorem tyA114 : tyAgg Tryz.prog 114 = some false := by kernel_rfl
theorem sp114 : selfP Tryz.prog 114 = false := by kernel_rfl
theorem zV114 : zerosV Tryz.prog 114 = some [.exact Go.Value.nilFunc] := by kernel_rfl
theorem F114 : (tySize Tryz.prog 114 = some 1) ∧ (tyAgg Tryz.prog 114 = some false) ∧ (selfP Tryz.prog 114 = false) ∧ (zerosV Tryz.prog 114 = some [.exact Go.Value.nilFunc]) ∧ (Tryz.prog.underlying 114 = some (Go.TypeDesc.func #[9] #[37, 4] false)) := And.intro tyS114 (And.intro tyA114 (And.intro sp114 (And.intro zV114 (Tryz.underlying114))))
theorem tyS115 : tySize Tryz.prog 115 = some 1 := by kernel_rfl
theorem tyA115 : tyAgg Tryz.prog 115 = some false := by kernel_rfl
theorem sp115 : selfP Tryz.prog 115 = false := by kernel_rfl
theorem zV115 : zerosV Tryz.prog 115 = some [.exact Go.Value.nilFunc] := by kernel_rfl
theorem F115 : (tySize Tryz.prog 115 = some 1) ∧ (tyAgg Tryz.prog 115 = some false) ∧ (selfP Tryz.prog 115 = false) ∧ (zerosV Tryz.prog 115 = some [.exact Go.Value.nilFunc]) ∧ (Tryz.prog.underlying 115 = some (Go.TypeDesc.func #[35, 35] #[4] false)) := And.intro tyS115 (And.intro tyA115 (And.intro sp115 (And.intro zV115 (Tryz.underlying115))))
theorem tyS116 : tySize Tryz.prog 116 = some 1 := by kernel_rfl
theorem tyA116 : tyAgg Tryz.prog 116 = some false := by kernel_rfl
theorem sp116 : selfP Tryz.prog 116 = false := by kernel_rfl
theorem zV116 : zerosV Tryz.prog 116 = some [.exact Go.Value.nilFunc] := by kernel_rfl
theorem F116 : (tySize Tryz.prog 116 = some 1) ∧ (tyAgg Tryz.prog 116 = some false) ∧ (selfP Tryz.prog 116 = false) ∧ (zerosV Tryz.prog 116 = some [.exact Go.Value.nilFunc]) ∧ (Tryz.prog.underlying 116 = some (Go.TypeDesc.func #[23, 118] #[] false)) := And.intro tyS116 (And.intro tyA116 (And.intro sp116 (And.intro zV116 (Tryz.underlying116))))
theorem tyS117 : tySize Tryz.prog 117 = some 1 := by kernel_rfl
theorem tyA117 : tyAgg Tryz.prog 117 = some false := by kernel_rfl
theorem sp117 : selfP Tryz.prog 117 = false := by kernel_rfl
theorem zV117 : zerosV Tryz.prog 117 = some [.exact Go.Value.nilFunc] := by kernel_rfl
theorem F117 : (tySize Tryz.prog 117 = some 1) ∧ (tyAgg Tryz.prog 117 = some false) ∧ (selfP Tryz.prog 117 = false) ∧ (zerosV Tryz.prog 117 = some [.exact Go.Value.nilFunc]) ∧ (Tryz.prog.underlying 117 = some (Go.TypeDesc.func #[9, 9] #[3] false)) := And.intro tyS117 (And.intro tyA117 (And.intro sp117 (And.intro zV117 (Tryz.underlying117))))
theorem tyS118 : tySize Tryz.prog 118 = some 1 := by kernel_rfl
theorem tyA118 : tyAgg Tryz.prog 118 = some false := by kernel_rfl
theorem sp118 : selfP Tryz.prog 118 = false := by kernel_rfl
theorem zV118 : zerosV Tryz.prog 118 = some [.exact Go.Value.nilFunc] := by kernel_rfl
theorem F118 : (tySize Tryz.prog 118 = some 1) ∧ (tyAgg Tryz.prog 118 = some false) ∧ (selfP Tryz.prog 118 = false) ∧ (zerosV Tryz.prog 118 = some [.exact Go.Value.nilFunc]) ∧ (Tryz.prog.underlying 118 = some (Go.TypeDesc.func #[39, 39] #[3] false)) := And.intro tyS118 (And.intro tyA118 (And.intro sp118 (And.intro zV118 (Tryz.underlying118))))
theorem tyS119 : tySize Tryz.prog 119 = some 1 := by kernel_rfl
theorem tyA119 : tyAgg Tryz.prog 119 = some false := by kernel_rfl
theorem sp119 : selfP Tryz.prog 119 = false := by kernel_rfl
theorem zV119 : zerosV Tryz.prog 119 = some [.exact (Go.Value.pointer none)] := by kernel_rfl
theorem F119 : (tySize Tryz.prog 119 = some 1) ∧ (tyAgg Tryz.prog 119 = some false) ∧ (selfP Tryz.prog 119 = false) ∧ (zerosV Tryz.prog 119 = some [.exact (Go.Value.pointer none)]) ∧ (Tryz.prog.underlying 119 = some (Go.TypeDesc.pointer 121)) := And.intro tyS119 (And.intro tyA119 (And.intro sp119 (And.intro zV119 (Tryz.underlying119))))
theorem tyS120 : tySize Tryz.prog 120 = some 2 := by kernel_rfl
theorem tyA120 : tyAgg Tryz.prog 120 = some true := by kernel_rfl
theorem sp120 : selfP Tryz.prog 120 = false := by kernel_rfl
theorem zV120 : zerosV Tryz.prog 120 = some [.exact (Go.Value.pointer none), .sl .nil []] := by kernel_rfl
theorem pl120 : places Tryz.prog 120 = some [(0, 1), (1, 1)] := by kernel_rfl
theorem fl120_0 : fld Tryz.prog 120 0 = some (0, 119) := by kernel_rfl
theorem fl120_1 : fld Tryz.prog 120 1 = some (1, 41) := by kernel_rfl
theorem F120 : (tySize Tryz.prog 120 = some 2) ∧ (tyAgg Tryz.prog 120 = some true) ∧ (selfP Tryz.prog 120 = false) ∧ (zerosV Tryz.prog 120 = some [.exact (Go.Value.pointer none), .sl .nil []]) ∧ (places Tryz.prog 120 = some [(0, 1), (1, 1)]) ∧ (fld Tryz.prog 120 0 = some (0, 119)) ∧ (fld Tryz.prog 120 1 = some (1, 41)) ∧ (Tryz.prog.underlying 120 = some (Go.TypeDesc.struct #[{ name := "addr", type := 119, offset := 0, embedded := false, tag := "", pkgPath := "strings", byteOffset := 0 }, { name := "buf", type := 41, offset := 1, embedded := false, tag := "", pkgPath := "strings", byteOffset := 8 }])) := And.intro tyS120 (And.intro tyA120 (And.intro sp120 (And.intro zV120 (And.intro pl120 (And.intro fl120_0 (And.intro fl120_1 (Tryz.underlying120)))))))
theorem tyS121 : tySize Tryz.prog 121 = some 2 := by kernel_rfl
theorem tyA121 : tyAgg Tryz.prog 121 = some true := by kernel_rfl
theorem sp121 : selfP Tryz.prog 121 = true := by kernel_rfl
theorem liB121 : liesB Tryz.prog 121 2 0 121 = true := by kernel_rfl
theorem zV121 : zerosV Tryz.prog 121 = some [.exact (Go.Value.pointer none), .sl .nil []] := by kernel_rfl
theorem pl121 : places Tryz.prog 121 = some [(0, 1), (1, 1)] := by kernel_rfl
theorem fl121_0 : fld Tryz.prog 121 0 = some (0, 119) := by kernel_rfl
theorem fl121_1 : fld Tryz.prog 121 1 = some (1, 41) := by kernel_rfl
theorem F121 : (tySize Tryz.prog 121 = some 2) ∧ (tyAgg Tryz.prog 121 = some true) ∧ (selfP Tryz.prog 121 = true) ∧ (liesB Tryz.prog 121 2 0 121 = true) ∧ (zerosV Tryz.prog 121 = some [.exact (Go.Value.pointer none), .sl .nil []]) ∧ (places Tryz.prog 121 = some [(0, 1), (1, 1)]) ∧ (fld Tryz.prog 121 0 = some (0, 119)) ∧ (fld Tryz.prog 121 1 = some (1, 41)) ∧ (Tryz.prog.underlying 121 = some (Go.TypeDesc.struct #[{ name := "addr", type := 119, offset := 0, embedded := false, tag := "", pkgPath := "strings", byteOffset := 0 }, { name := "buf", type := 41, offset := 1, embedded := false, tag := "", pkgPath := "strings", byteOffset := 8 }])) := And.intro tyS121 (And.intro tyA121 (And.intro sp121 (And.intro liB121 (And.intro zV121 (And.intro pl121 (And.intro fl121_0 (And.intro fl121_1 (Tryz.underlying121))))))))
theorem tyS122 : tySize Tryz.prog 122 = some 1 := by kernel_rfl
theorem tyA122 : tyAgg Tryz.prog 122 = some false := by kernel_rfl
theorem sp122 : selfP Tryz.prog 122 = false := by kernel_rfl
theorem zV122 : zerosV Tryz.prog 122 = some [.exact Go.Value.nilIface] := by kernel_rfl
theorem F122 : (tySize Tryz.prog 122 = some 1) ∧ (tyAgg Tryz.prog 122 = some false) ∧ (selfP Tryz.prog 122 = false) ∧ (zerosV Tryz.prog 122 = some [.exact Go.Value.nilIface]) := And.intro tyS122 (And.intro tyA122 (And.intro sp122 (zV122)))
theorem tyS123 : tySize Tryz.prog 123 = some 1 := by kernel_rfl
theorem tyA123 : tyAgg Tryz.prog 123 = some false := by kernel_rfl
theorem sp123 : selfP Tryz.prog 123 = false := by kernel_rfl
theorem zV123 : zerosV Tryz.prog 123 = some [.exact Go.Value.nilIface] := by kernel_rfl
theorem F123 : (tySize Tryz.prog 123 = some 1) ∧ (tyAgg Tryz.prog 123 = some false) ∧ (selfP Tryz.prog 123 = false) ∧ (zerosV Tryz.prog 123 = some [.exact Go.Value.nilIface]) := And.intro tyS123 (And.intro tyA123 (And.intro sp123 (zV123)))
theorem tyS124 : tySize Tryz.prog 124 = some 1 := by kernel_rfl
theorem tyA124 : tyAgg Tryz.prog 124 = some false := by kernel_rfl
theorem sp124 : selfP Tryz.prog 124 = false := by kernel_rfl
theorem F124 : (tySize Tryz.prog 124 = some 1) ∧ (tyAgg Tryz.prog 124 = some false) ∧ (selfP Tryz.prog 124 = false) ∧ (Tryz.prog.underlying 124 = some (Go.TypeDesc.tuple #[3, 123])) := And.intro tyS124 (And.intro tyA124 (And.intro sp124 (Tryz.underlying124)))
theorem tyS125 : tySize Tryz.prog 125 = some 1 := by kernel_rfl
theorem tyA125 : tyAgg Tryz.prog 125 = some false := by kernel_rfl
theorem sp125 : selfP Tryz.prog 125 = false := by kernel_rfl
theorem zV125 : zerosV Tryz.prog 125 = some [.exact Go.Value.nilFunc] := by kernel_rfl
theorem F125 : (tySize Tryz.prog 125 = some 1) ∧ (tyAgg Tryz.prog 125 = some false) ∧ (selfP Tryz.prog 125 = false) ∧ (zerosV Tryz.prog 125 = some [.exact Go.Value.nilFunc]) ∧ (Tryz.prog.underlying 125 = some (Go.TypeDesc.func #[9] #[3, 123] false)) := And.intro tyS125 (And.intro tyA125 (And.intro sp125 (And.intro zV125 (Tryz.underlying125))))
theorem tyS126 : tySize Tryz.prog 126 = some 1 := by kernel_rfl
theorem tyA126 : tyAgg Tryz.prog 126 = some false := by kernel_rfl
theorem sp126 : selfP Tryz.prog 126 = false := by kernel_rfl
theorem zV126 : zerosV Tryz.prog 126 = some [.exact Go.Value.nilFunc] := by kernel_rfl
theorem F126 : (tySize Tryz.prog 126 = some 1) ∧ (tyAgg Tryz.prog 126 = some false) ∧ (selfP Tryz.prog 126 = false) ∧ (zerosV Tryz.prog 126 = some [.exact Go.Value.nilFunc]) ∧ (Tryz.prog.underlying 126 = some (Go.TypeDesc.func #[37] #[9] false)) := And.intro tyS126 (And.intro tyA126 (And.intro sp126 (And.intro zV126 (Tryz.underlying126))))
theorem tyS127 : tySize Tryz.prog 127 = some 1 := by kernel_rfl
theorem tyA127 : tyAgg Tryz.prog 127 = some false := by kernel_rfl
theorem sp127 : selfP Tryz.prog 127 = false := by kernel_rfl
theorem zV127 : zerosV Tryz.prog 127 = some [.exact Go.Value.nilFunc] := by kernel_rfl
theorem F127 : (tySize Tryz.prog 127 = some 1) ∧ (tyAgg Tryz.prog 127 = some false) ∧ (selfP Tryz.prog 127 = false) ∧ (zerosV Tryz.prog 127 = some [.exact Go.Value.nilFunc]) ∧ (Tryz.prog.underlying 127 = some (Go.TypeDesc.func #[] #[9] false)) := And.intro tyS127 (And.intro tyA127 (And.intro sp127 (And.intro zV127 (Tryz.underlying127))))
theorem tyS128 : tySize Tryz.prog 128 = some 1 := by kernel_rfl
theorem tyA128 : tyAgg Tryz.prog 128 = some false := by kernel_rfl
theorem sp128 : selfP Tryz.prog 128 = false := by kernel_rfl
theorem zV128 : zerosV Tryz.prog 128 = some [.exact Go.Value.nilFunc] := by kernel_rfl
theorem F128 : (tySize Tryz.prog 128 = some 1) ∧ (tyAgg Tryz.prog 128 = some false) ∧ (selfP Tryz.prog 128 = false) ∧ (zerosV Tryz.prog 128 = some [.exact Go.Value.nilFunc]) ∧ (Tryz.prog.underlying 128 = some (Go.TypeDesc.func #[23, 23, 129] #[4] false)) := And.intro tyS128 (And.intro tyA128 (And.intro sp128 (And.intro zV128 (Tryz.underlying128))))
theorem tyS129 : tySize Tryz.prog 129 = some 1 := by kernel_rfl
theorem tyA129 : tyAgg Tryz.prog 129 = some false := by kernel_rfl
theorem sp129 : selfP Tryz.prog 129 = false := by kernel_rfl
theorem zV129 : zerosV Tryz.prog 129 = some [.exact Go.Value.nilFunc] := by kernel_rfl
theorem F129 : (tySize Tryz.prog 129 = some 1) ∧ (tyAgg Tryz.prog 129 = some false) ∧ (selfP Tryz.prog 129 = false) ∧ (zerosV Tryz.prog 129 = some [.exact Go.Value.nilFunc]) ∧ (Tryz.prog.underlying 129 = some (Go.TypeDesc.func #[39, 39] #[4] false)) := And.intro tyS129 (And.intro tyA129 (And.intro sp129 (And.intro zV129 (Tryz.underlying129))))
theorem tyS130 : tySize Tryz.prog 130 = some 1 := by kernel_rfl
theorem tyA130 : tyAgg Tryz.prog 130 = some false := by kernel_rfl
theorem sp130 : selfP Tryz.prog 130 = false := by kernel_rfl
theorem zV130 : zerosV Tryz.prog 130 = some [.exact Go.Value.nilFunc] := by kernel_rfl
theorem F130 : (tySize Tryz.prog 130 = some 1) ∧ (tyAgg Tryz.prog 130 = some false) ∧ (selfP Tryz.prog 130 = false) ∧ (zerosV Tryz.prog 130 = some [.exact Go.Value.nilFunc]) ∧ (Tryz.prog.underlying 130 = some (Go.TypeDesc.func #[9, 3] #[3, 4] false)) := And.intro tyS130 (And.intro tyA130 (And.intro sp130 (And.intro zV130 (Tryz.underlying130))))
theorem tyS131 : tySize Tryz.prog 131 = some 1 := by kernel_rfl
theorem tyA131 : tyAgg Tryz.prog 131 = some false := by kernel_rfl
theorem sp131 : selfP Tryz.prog 131 = false := by kernel_rfl
theorem zV131 : zerosV Tryz.prog 131 = some [.exact Go.Value.nilFunc] := by kernel_rfl
theorem F131 : (tySize Tryz.prog 131 = some 1) ∧ (tyAgg Tryz.prog 131 = some false) ∧ (selfP Tryz.prog 131 = false) ∧ (zerosV Tryz.prog 131 = some [.exact Go.Value.nilFunc]) ∧ (Tryz.prog.underlying 131 = some (Go.TypeDesc.func #[31] #[] false)) := And.intro tyS131 (And.intro tyA131 (And.intro sp131 (And.intro zV131 (Tryz.underlying131))))
theorem tyS132 : tySize Tryz.prog 132 = some 1 := by kernel_rfl
theorem tyA132 : tyAgg Tryz.prog 132 = some false := by kernel_rfl
theorem sp132 : selfP Tryz.prog 132 = false := by kernel_rfl
theorem zV132 : zerosV Tryz.prog 132 = some [.exact Go.Value.nilFunc] := by kernel_rfl
theorem F132 : (tySize Tryz.prog 132 = some 1) ∧ (tyAgg Tryz.prog 132 = some false) ∧ (selfP Tryz.prog 132 = false) ∧ (zerosV Tryz.prog 132 = some [.exact Go.Value.nilFunc]) ∧ (Tryz.prog.underlying 132 = some (Go.TypeDesc.func #[31] #[] false)) := And.intro tyS132 (And.intro tyA132 (And.intro sp132 (And.intro zV132 (Tryz.underlying132))))
theorem tyS133 : tySize Tryz.prog 133 = some 1 := by kernel_rfl
theorem tyA133 : tyAgg Tryz.prog 133 = some false := by kernel_rfl
theorem sp133 : selfP Tryz.prog 133 = false := by kernel_rfl
theorem zV133 : zerosV Tryz.prog 133 = some [.exact Go.Value.nilFunc] := by kernel_rfl
theorem F133 : (tySize Tryz.prog 133 = some 1) ∧ (tyAgg Tryz.prog 133 = some false) ∧ (selfP Tryz.prog 133 = false) ∧ (zerosV Tryz.prog 133 = some [.exact Go.Value.nilFunc]) ∧ (Tryz.prog.underlying 133 = some (Go.TypeDesc.func #[9, 9] #[132] false)) := And.intro tyS133 (And.intro tyA133 (And.intro sp133 (And.intro zV133 (Tryz.underlying133))))
theorem tyS134 : tySize Tryz.prog 134 = some 1 := by kernel_rfl
theorem tyA134 : tyAgg Tryz.prog 134 = some false := by kernel_rfl
theorem sp134 : selfP Tryz.prog 134 = false := by kernel_rfl
theorem zV134 : zerosV Tryz.prog 134 = some [.exact Go.Value.nilFunc] := by kernel_rfl
theorem F134 : (tySize Tryz.prog 134 = some 1) ∧ (tyAgg Tryz.prog 134 = some false) ∧ (selfP Tryz.prog 134 = false) ∧ (zerosV Tryz.prog 134 = some [.exact Go.Value.nilFunc]) ∧ (Tryz.prog.underlying 134 = some (Go.TypeDesc.func #[9, 135] #[33] false)) := And.intro tyS134 (And.intro tyA134 (And.intro sp134 (And.intro zV134 (Tryz.underlying134))))
theorem tyS135 : tySize Tryz.prog 135 = some 1 := by kernel_rfl
theorem tyA135 : tyAgg Tryz.prog 135 = some false := by kernel_rfl
theorem sp135 : selfP Tryz.prog 135 = false := by kernel_rfl
theorem zV135 : zerosV Tryz.prog 135 = some [.exact Go.Value.nilFunc] := by kernel_rfl
theorem F135 : (tySize Tryz.prog 135 = some 1) ∧ (tyAgg Tryz.prog 135 = some false) ∧ (selfP Tryz.prog 135 = false) ∧ (zerosV Tryz.prog 135 = some [.exact Go.Value.nilFunc]) ∧ (Tryz.prog.underlying 135 = some (Go.TypeDesc.func #[21] #[4] false)) := And.intro tyS135 (And.intro tyA135 (And.intro sp135 (And.intro zV135 (Tryz.underlying135))))
theorem tyS136 : tySize Tryz.prog 136 = some 1 := by kernel_rfl
theorem tyA136 : tyAgg Tryz.prog 136 = some false := by kernel_rfl
theorem sp136 : selfP Tryz.prog 136 = false := by kernel_rfl
theorem zV136 : zerosV Tryz.prog 136 = some [.sl .nil []] := by kernel_rfl
theorem F136 : (tySize Tryz.prog 136 = some 1) ∧ (tyAgg Tryz.prog 136 = some false) ∧ (selfP Tryz.prog 136 = false) ∧ (zerosV Tryz.prog 136 = some [.sl .nil []]) ∧ (Tryz.prog.underlying 136 = some (Go.TypeDesc.slice 140)) := And.intro tyS136 (And.intro tyA136 (And.intro sp136 (And.intro zV136 (Tryz.underlying136))))
theorem tyS137 : tySize Tryz.prog 137 = some 1 := by kernel_rfl
theorem tyA137 : tyAgg Tryz.prog 137 = some false := by kernel_rfl
theorem sp137 : selfP Tryz.prog 137 = false := by kernel_rfl
theorem F137 : (tySize Tryz.prog 137 = some 1) ∧ (tyAgg Tryz.prog 137 = some false) ∧ (selfP Tryz.prog 137 = false) ∧ (Tryz.prog.underlying 137 = some (Go.TypeDesc.tuple #[136, 4])) := And.intro tyS137 (And.intro tyA137 (And.intro sp137 (Tryz.underlying137)))
theorem tyS138 : tySize Tryz.prog 138 = some 1 := by kernel_rfl
theorem tyA138 : tyAgg Tryz.prog 138 = some false := by kernel_rfl
theorem sp138 : selfP Tryz.prog 138 = false := by kernel_rfl
theorem zV138 : zerosV Tryz.prog 138 = some [.exact Go.Value.nilFunc] := by kernel_rfl
theorem F138 : (tySize Tryz.prog 138 = some 1) ∧ (tyAgg Tryz.prog 138 = some false) ∧ (selfP Tryz.prog 138 = false) ∧ (zerosV Tryz.prog 138 = some [.exact Go.Value.nilFunc]) ∧ (Tryz.prog.underlying 138 = some (Go.TypeDesc.func #[9] #[136, 4] false)) := And.intro tyS138 (And.intro tyA138 (And.intro sp138 (And.intro zV138 (Tryz.underlying138))))
theorem tyS139 : tySize Tryz.prog 139 = some 5 := by kernel_rfl
theorem tyA139 : tyAgg Tryz.prog 139 = some true := by kernel_rfl
theorem sp139 : selfP Tryz.prog 139 = false := by kernel_rfl
theorem zV139 : zerosV Tryz.prog 139 = some [.str [], .int .i64 0, .int .i64 0, .int .i64 0, .sl .nil []] := by kernel_rfl
theorem pl139 : places Tryz.prog 139 = some [(0, 1), (1, 4)] := by kernel_rfl
theorem fl139_0 : fld Tryz.prog 139 0 = some (0, 9) := by kernel_rfl
theorem fl139_1 : fld Tryz.prog 139 1 = some (1, 35) := by kernel_rfl
theorem F139 : (tySize Tryz.prog 139 = some 5) ∧ (tyAgg Tryz.prog 139 = some true) ∧ (selfP Tryz.prog 139 = false) ∧ (zerosV Tryz.prog 139 = some [.str [], .int .i64 0, .int .i64 0, .int .i64 0, .sl .nil []]) ∧ (places Tryz.prog 139 = some [(0, 1), (1, 4)]) ∧ (fld Tryz.prog 139 0 = some (0, 9)) ∧ (fld Tryz.prog 139 1 = some (1, 35)) ∧ (Tryz.prog.underlying 139 = some (Go.TypeDesc.struct #[{ name := "Sign", type := 9, offset := 0, embedded := false, tag := "", pkgPath := "", byteOffset := 0 }, { name := "V", type := 35, offset := 1, embedded := false, tag := "", pkgPath := "", byteOffset := 16 }])) := And.intro tyS139 (And.intro tyA139 (And.intro sp139 (And.intro zV139 (And.intro pl139 (And.intro fl139_0 (And.intro fl139_1 (Tryz.underlying139)))))))
theorem tyS140 : tySize Tryz.prog 140 = some 5 := by kernel_rfl
theorem tyA140 : tyAgg Tryz.prog 140 = some true := by kernel_rfl
theorem sp140 : selfP Tryz.prog 140 = false := by kernel_rfl
theorem zV140 : zerosV Tryz.prog 140 = some [.str [], .int .i64 0, .int .i64 0, .int .i64 0, .sl .nil []] := by kernel_rfl
theorem pl140 : places Tryz.prog 140 = some [(0, 1), (1, 4)] := by kernel_rfl
theorem fl140_0 : fld Tryz.prog 140 0 = some (0, 9) := by kernel_rfl
theorem fl140_1 : fld Tryz.prog 140 1 = some (1, 35) := by kernel_rfl
theorem F140 : (tySize Tryz.prog 140 = some 5) ∧ (tyAgg Tryz.prog 140 = some true) ∧ (selfP Tryz.prog 140 = false) ∧ (zerosV Tryz.prog 140 = some [.str [], .int .i64 0, .int .i64 0, .int .i64 0, .sl .nil []]) ∧ (places Tryz.prog 140 = some [(0, 1), (1, 4)]) ∧ (fld Tryz.prog 140 0 = some (0, 9)) ∧ (fld Tryz.prog 140 1 = some (1, 35)) ∧ (Tryz.prog.underlying 140 = some (Go.TypeDesc.struct #[{ name := "Sign", type := 9, offset := 0, embedded := false, tag := "", pkgPath := "", byteOffset := 0 }, { name := "V", type := 35, offset := 1, embedded := false, tag := "", pkgPath := "", byteOffset := 16 }])) := And.intro tyS140 (And.intro tyA140 (And.intro sp140 (And.intro zV140 (And.intro pl140 (And.intro fl140_0 (And.intro fl140_1 (Tryz.underlying140)))))))
theorem tyS141 : tySize Tryz.prog 141 = some 1 := by kernel_rfl
theorem tyA141 : tyAgg Tryz.prog 141 = some false := by kernel_rfl
theorem sp141 : selfP Tryz.prog 141 = false := by kernel_rfl
theorem zV141 : zerosV Tryz.prog 141 = some [.exact Go.Value.nilFunc] := by kernel_rfl
theorem F141 : (tySize Tryz.prog 141 = some 1) ∧ (tyAgg Tryz.prog 141 = some false) ∧ (selfP Tryz.prog 141 = false) ∧ (zerosV Tryz.prog 141 = some [.exact Go.Value.nilFunc]) ∧ (Tryz.prog.underlying 141 = some (Go.TypeDesc.func #[33, 9] #[9] false)) := And.intro tyS141 (And.intro tyA141 (And.intro sp141 (And.intro zV141 (Tryz.underlying141))))
theorem tyS142 : tySize Tryz.prog 142 = some 1 := by kernel_rfl
theorem tyA142 : tyAgg Tryz.prog 142 = some false := by kernel_rfl
theorem sp142 : selfP Tryz.prog 142 = false := by kernel_rfl
theorem zV142 : zerosV Tryz.prog 142 = some [.exact Go.Value.nilFunc] := by kernel_rfl
theorem F142 : (tySize Tryz.prog 142 = some 1) ∧ (tyAgg Tryz.prog 142 = some false) ∧ (selfP Tryz.prog 142 = false) ∧ (zerosV Tryz.prog 142 = some [.exact Go.Value.nilFunc]) ∧ (Tryz.prog.underlying 142 = some (Go.TypeDesc.func #[51, 146] #[4] false)) := And.intro tyS142 (And.intro tyA142 (And.intro sp142 (And.intro zV142 (Tryz.underlying142))))
theorem tyS143 : tySize Tryz.prog 143 = some 1 := by kernel_rfl
theorem tyA143 : tyAgg Tryz.prog 143 = some false := by kernel_rfl
theorem sp143 : selfP Tryz.prog 143 = false := by kernel_rfl
theorem zV143 : zerosV Tryz.prog 143 = some [.exact Go.Value.nilFunc] := by kernel_rfl
theorem F143 : (tySize Tryz.prog 143 = some 1) ∧ (tyAgg Tryz.prog 143 = some false) ∧ (selfP Tryz.prog 143 = false) ∧ (zerosV Tryz.prog 143 = some [.exact Go.Value.nilFunc]) ∧ (Tryz.prog.underlying 143 = some (Go.TypeDesc.func #[136, 145] #[4] false)) := And.intro tyS143 (And.intro tyA143 (And.intro sp143 (And.intro zV143 (Tryz.underlying143))))
theorem tyS144 : tySize Tryz.prog 144 = some 1 := by kernel_rfl
theorem tyA144 : tyAgg Tryz.prog 144 = some false := by kernel_rfl
theorem sp144 : selfP Tryz.prog 144 = false := by kernel_rfl
theorem zV144 : zerosV Tryz.prog 144 = some [.exact Go.Value.nilFunc] := by kernel_rfl
theorem F144 : (tySize Tryz.prog 144 = some 1) ∧ (tyAgg Tryz.prog 144 = some false) ∧ (selfP Tryz.prog 144 = false) ∧ (zerosV Tryz.prog 144 = some [.exact Go.Value.nilFunc]) ∧ (Tryz.prog.underlying 144 = some (Go.TypeDesc.func #[140, 35] #[4] false)) := And.intro tyS144 (And.intro tyA144 (And.intro sp144 (And.intro zV144 (Tryz.underlying144))))
theorem tyS145 : tySize Tryz.prog 145 = some 1 := by kernel_rfl
theorem tyA145 : tyAgg Tryz.prog 145 = some false := by kernel_rfl
theorem sp145 : selfP Tryz.prog 145 = false := by kernel_rfl
theorem zV145 : zerosV Tryz.prog 145 = some [.exact Go.Value.nilFunc] := by kernel_rfl
theorem F145 : (tySize Tryz.prog 145 = some 1) ∧ (tyAgg Tryz.prog 145 = some false) ∧ (selfP Tryz.prog 145 = false) ∧ (zerosV Tryz.prog 145 = some [.exact Go.Value.nilFunc]) ∧ (Tryz.prog.underlying 145 = some (Go.TypeDesc.func #[140] #[4] false)) := And.intro tyS145 (And.intro tyA145 (And.intro sp145 (And.intro zV145 (Tryz.underlying145))))
theorem tyS146 : tySize Tryz.prog 146 = some 1 := by kernel_rfl
theorem tyA146 : tyAgg Tryz.prog 146 = some false := by kernel_rfl
theorem sp146 : selfP Tryz.prog 146 = false := by kernel_rfl
theorem zV146 : zerosV Tryz.prog 146 = some [.exact Go.Value.nilFunc] := by kernel_rfl
theorem F146 : (tySize Tryz.prog 146 = some 1) ∧ (tyAgg Tryz.prog 146 = some false) ∧ (selfP Tryz.prog 146 = false) ∧ (zerosV Tryz.prog 146 = some [.exact Go.Value.nilFunc]) ∧ (Tryz.prog.underlying 146 = some (Go.TypeDesc.func #[136] #[4] false)) := And.intro tyS146 (And.intro tyA146 (And.intro sp146 (And.intro zV146 (Tryz.underlying146))))
theorem tyS147 : tySize Tryz.prog 147 = some 1 := by kernel_rfl
theorem tyA147 : tyAgg Tryz.prog 147 = some false := by kernel_rfl
theorem sp147 : selfP Tryz.prog 147 = false := by kernel_rfl
theorem zV147 : zerosV Tryz.prog 147 = some [.exact Go.Value.nilFunc] := by kernel_rfl
theorem F147 : (tySize Tryz.prog 147 = some 1) ∧ (tyAgg Tryz.prog 147 = some false) ∧ (selfP Tryz.prog 147 = false) ∧ (zerosV Tryz.prog 147 = some [.exact Go.Value.nilFunc]) ∧ (Tryz.prog.underlying 147 = some (Go.TypeDesc.func #[4] #[3] false)) := And.intro tyS147 (And.intro tyA147 (And.intro sp147 (And.intro zV147 (Tryz.underlying147))))
theorem tyS148 : tySize Tryz.prog 148 = some 1 := by kernel_rfl
theorem tyA148 : tyAgg Tryz.prog 148 = some false := by kernel_rfl
theorem sp148 : selfP Tryz.prog 148 = false := by kernel_rfl
theorem zV148 : zerosV Tryz.prog 148 = some [.exact Go.Value.nilFunc] := by kernel_rfl
theorem F148 : (tySize Tryz.prog 148 = some 1) ∧ (tyAgg Tryz.prog 148 = some false) ∧ (selfP Tryz.prog 148 = false) ∧ (zerosV Tryz.prog 148 = some [.exact Go.Value.nilFunc]) ∧ (Tryz.prog.underlying 148 = some (Go.TypeDesc.func #[149, 3, 9] #[4] false)) := And.intro tyS148 (And.intro tyA148 (And.intro sp148 (And.intro zV148 (Tryz.underlying148))))
theorem tyS149 : tySize Tryz.prog 149 = some 1 := by kernel_rfl
theorem tyA149 : tyAgg Tryz.prog 149 = some false := by kernel_rfl
theorem sp149 : selfP Tryz.prog 149 = false := by kernel_rfl
theorem zV149 : zerosV Tryz.prog 149 = some [.exact (Go.Value.pointer none)] := by kernel_rfl
theorem F149 : (tySize Tryz.prog 149 = some 1) ∧ (tyAgg Tryz.prog 149 = some false) ∧ (selfP Tryz.prog 149 = false) ∧ (zerosV Tryz.prog 149 = some [.exact (Go.Value.pointer none)]) ∧ (Tryz.prog.underlying 149 = some (Go.TypeDesc.pointer 80)) := And.intro tyS149 (And.intro tyA149 (And.intro sp149 (And.intro zV149 (Tryz.underlying149))))
theorem tyS150 : tySize Tryz.prog 150 = some 1 := by kernel_rfl
theorem tyA150 : tyAgg Tryz.prog 150 = some false := by kernel_rfl
theorem sp150 : selfP Tryz.prog 150 = false := by kernel_rfl
theorem zV150 : zerosV Tryz.prog 150 = some [.exact Go.Value.nilFunc] := by kernel_rfl
theorem F150 : (tySize Tryz.prog 150 = some 1) ∧ (tyAgg Tryz.prog 150 = some false) ∧ (selfP Tryz.prog 150 = false) ∧ (zerosV Tryz.prog 150 = some [.exact Go.Value.nilFunc]) ∧ (Tryz.prog.underlying 150 = some (Go.TypeDesc.func #[78, 151] #[] false)) := And.intro tyS150 (And.intro tyA150 (And.intro sp150 (And.intro zV150 (Tryz.underlying150))))
theorem tyS151 : tySize Tryz.prog 151 = some 1 := by kernel_rfl
theorem tyA151 : tyAgg Tryz.prog 151 = some false := by kernel_rfl
theorem sp151 : selfP Tryz.prog 151 = false := by kernel_rfl
theorem zV151 : zerosV Tryz.prog 151 = some [.exact Go.Value.nilFunc] := by kernel_rfl
theorem F151 : (tySize Tryz.prog 151 = some 1) ∧ (tyAgg Tryz.prog 151 = some false) ∧ (selfP Tryz.prog 151 = false) ∧ (zerosV Tryz.prog 151 = some [.exact Go.Value.nilFunc]) ∧ (Tryz.prog.underlying 151 = some (Go.TypeDesc.func #[92, 92] #[3] false)) := And.intro tyS151 (And.intro tyA151 (And.intro sp151 (And.intro zV151 (Tryz.underlying151))))
theorem tyS152 : tySize Tryz.prog 152 = some 1 := by kernel_rfl
theorem tyA152 : tyAgg Tryz.prog 152 = some false := by kernel_rfl
theorem sp152 : selfP Tryz.prog 152 = false := by kernel_rfl
theorem F152 : (tySize Tryz.prog 152 = some 1) ∧ (tyAgg Tryz.prog 152 = some false) ∧ (selfP Tryz.prog 152 = false) ∧ (Tryz.prog.underlying 152 = some (Go.TypeDesc.tuple #[92, 4])) := And.intro tyS152 (And.intro tyA152 (And.intro sp152 (Tryz.underlying152)))
theorem tyS153 : tySize Tryz.prog 153 = some 1 := by kernel_rfl
theorem tyA153 : tyAgg Tryz.prog 153 = some false := by kernel_rfl
theorem sp153 : selfP Tryz.prog 153 = false := by kernel_rfl
theorem zV153 : zerosV Tryz.prog 153 = some [.exact Go.Value.nilFunc] := by kernel_rfl
theorem F153 : (tySize Tryz.prog 153 = some 1) ∧ (tyAgg Tryz.prog 153 = some false) ∧ (selfP Tryz.prog 153 = false) ∧ (zerosV Tryz.prog 153 = some [.exact Go.Value.nilFunc]) ∧ (Tryz.prog.underlying 153 = some (Go.TypeDesc.func #[9] #[92, 4] false)) := And.intro tyS153 (And.intro tyA153 (And.intro sp153 (And.intro zV153 (Tryz.underlying153))))
theorem tyS154 : tySize Tryz.prog 154 = some 1 := by kernel_rfl
theorem tyA154 : tyAgg Tryz.prog 154 = some false := by kernel_rfl
theorem sp154 : selfP Tryz.prog 154 = false := by kernel_rfl
theorem F154 : (tySize Tryz.prog 154 = some 1) ∧ (tyAgg Tryz.prog 154 = some false) ∧ (selfP Tryz.prog 154 = false) ∧ (Tryz.prog.underlying 154 = some (Go.TypeDesc.tuple #[78, 4])) := And.intro tyS154 (And.intro tyA154 (And.intro sp154 (Tryz.underlying154)))
theorem tyS155 : tySize Tryz.prog 155 = some 1 := by kernel_rfl
theorem tyA155 : tyAgg Tryz.prog 155 = some false := by kernel_rfl
theorem sp155 : selfP Tryz.prog 155 = false := by kernel_rfl
theorem zV155 : zerosV Tryz.prog 155 = some [.exact Go.Value.nilFunc] := by kernel_rfl
theorem F155 : (tySize Tryz.prog 155 = some 1) ∧ (tyAgg Tryz.prog 155 = some false) ∧ (selfP Tryz.prog 155 = false) ∧ (zerosV Tryz.prog 155 = some [.exact Go.Value.nilFunc]) ∧ (Tryz.prog.underlying 155 = some (Go.TypeDesc.func #[78, 92] #[78, 4] false)) := And.intro tyS155 (And.intro tyA155 (And.intro sp155 (And.intro zV155 (Tryz.underlying155))))
theorem tyS156 : tySize Tryz.prog 156 = some 1 := by kernel_rfl
theorem tyA156 : tyAgg Tryz.prog 156 = some false := by kernel_rfl
theorem sp156 : selfP Tryz.prog 156 = false := by kernel_rfl
theorem zV156 : zerosV Tryz.prog 156 = some [.exact Go.Value.nilFunc] := by kernel_rfl
theorem F156 : (tySize Tryz.prog 156 = some 1) ∧ (tyAgg Tryz.prog 156 = some false) ∧ (selfP Tryz.prog 156 = false) ∧ (zerosV Tryz.prog 156 = some [.exact Go.Value.nilFunc]) ∧ (Tryz.prog.underlying 156 = some (Go.TypeDesc.func #[78, 78] #[4] false)) := And.intro tyS156 (And.intro tyA156 (And.intro sp156 (And.intro zV156 (Tryz.underlying156))))
theorem tyS157 : tySize Tryz.prog 157 = some 1 := by kernel_rfl
theorem tyA157 : tyAgg Tryz.prog 157 = some false := by kernel_rfl
theorem sp157 : selfP Tryz.prog 157 = false := by kernel_rfl
theorem zV157 : zerosV Tryz.prog 157 = some [.exact Go.Value.nilFunc] := by kernel_rfl
theorem F157 : (tySize Tryz.prog 157 = some 1) ∧ (tyAgg Tryz.prog 157 = some false) ∧ (selfP Tryz.prog 157 = false) ∧ (zerosV Tryz.prog 157 = some [.exact Go.Value.nilFunc]) ∧ (Tryz.prog.underlying 157 = some (Go.TypeDesc.func #[78] #[78] false)) := And.intro tyS157 (And.intro tyA157 (And.intro sp157 (And.intro zV157 (Tryz.underlying157))))
theorem tyS158 : tySize Tryz.prog 158 = some 1 := by kernel_rfl
theorem tyA158 : tyAgg Tryz.prog 158 = some false := by kernel_rfl
theorem sp158 : selfP Tryz.prog 158 = false := by kernel_rfl
theorem zV158 : zerosV Tryz.prog 158 = some [.exact Go.Value.nilFunc] := by kernel_rfl
theorem F158 : (tySize Tryz.prog 158 = some 1) ∧ (tyAgg Tryz.prog 158 = some false) ∧ (selfP Tryz.prog 158 = false) ∧ (zerosV Tryz.prog 158 = some [.exact Go.Value.nilFunc]) ∧ (Tryz.prog.underlying 158 = some (Go.TypeDesc.func #[5] #[4] false)) := And.intro tyS158 (And.intro tyA158 (And.intro sp158 (And.intro zV158 (Tryz.underlying158))))
theorem tyS159 : tySize Tryz.prog 159 = some 1 := by kernel_rfl
theorem tyA159 : tyAgg Tryz.prog 159 = some false := by kernel_rfl
theorem sp159 : selfP Tryz.prog 159 = false := by kernel_rfl
theorem zV159 : zerosV Tryz.prog 159 = some [.exact Go.Value.nilFunc] := by kernel_rfl
theorem F159 : (tySize Tryz.prog 159 = some 1) ∧ (tyAgg Tryz.prog 159 = some false) ∧ (selfP Tryz.prog 159 = false) ∧ (zerosV Tryz.prog 159 = some [.exact Go.Value.nilFunc]) ∧ (Tryz.prog.underlying 159 = some (Go.TypeDesc.func #[78, 9] #[4] false)) := And.intro tyS159 (And.intro tyA159 (And.intro sp159 (And.intro zV159 (Tryz.underlying159))))
theorem tyS160 : tySize Tryz.prog 160 = some 1 := by kernel_rfl
theorem tyA160 : tyAgg Tryz.prog 160 = some false := by kernel_rfl
theorem sp160 : selfP Tryz.prog 160 = false := by kernel_rfl
theorem zV160 : zerosV Tryz.prog 160 = some [.exact Go.Value.nilFunc] := by kernel_rfl
theorem F160 : (tySize Tryz.prog 160 = some 1) ∧ (tyAgg Tryz.prog 160 = some false) ∧ (selfP Tryz.prog 160 = false) ∧ (zerosV Tryz.prog 160 = some [.exact Go.Value.nilFunc]) ∧ (Tryz.prog.underlying 160 = some (Go.TypeDesc.func #[78, 161] #[78] false)) := And.intro tyS160 (And.intro tyA160 (And.intro sp160 (And.intro zV160 (Tryz.underlying160))))
theorem tyS161 : tySize Tryz.prog 161 = some 1 := by kernel_rfl
theorem tyA161 : tyAgg Tryz.prog 161 = some false := by kernel_rfl
theorem sp161 : selfP Tryz.prog 161 = false := by kernel_rfl
theorem zV161 : zerosV Tryz.prog 161 = some [.exact Go.Value.nilFunc] := by kernel_rfl
theorem F161 : (tySize Tryz.prog 161 = some 1) ∧ (tyAgg Tryz.prog 161 = some false) ∧ (selfP Tryz.prog 161 = false) ∧ (zerosV Tryz.prog 161 = some [.exact Go.Value.nilFunc]) ∧ (Tryz.prog.underlying 161 = some (Go.TypeDesc.func #[92] #[4] false)) := And.intro tyS161 (And.intro tyA161 (And.intro sp161 (And.intro zV161 (Tryz.underlying161))))
theorem tyS162 : tySize Tryz.prog 162 = some 1 := by kernel_rfl
theorem tyA162 : tyAgg Tryz.prog 162 = some false := by kernel_rfl
theorem sp162 : selfP Tryz.prog 162 = false := by kernel_rfl
theorem zV162 : zerosV Tryz.prog 162 = some [.exact Go.Value.nilFunc] := by kernel_rfl
theorem F162 : (tySize Tryz.prog 162 = some 1) ∧ (tyAgg Tryz.prog 162 = some false) ∧ (selfP Tryz.prog 162 = false) ∧ (zerosV Tryz.prog 162 = some [.exact Go.Value.nilFunc]) ∧ (Tryz.prog.underlying 162 = some (Go.TypeDesc.func #[9, 9, 3, 3] #[33] false)) := And.intro tyS162 (And.intro tyA162 (And.intro sp162 (And.intro zV162 (Tryz.underlying162))))
theorem tyS163 : tySize Tryz.prog 163 = some 1 := by kernel_rfl
theorem tyA163 : tyAgg Tryz.prog 163 = some false := by kernel_rfl
theorem sp163 : selfP Tryz.prog 163 = false := by kernel_rfl
theorem F163 : (tySize Tryz.prog 163 = some 1) ∧ (tyAgg Tryz.prog 163 = some false) ∧ (selfP Tryz.prog 163 = false) ∧ (Tryz.prog.underlying 163 = some (Go.TypeDesc.tuple #[35, 24])) := And.intro tyS163 (And.intro tyA163 (And.intro sp163 (Tryz.underlying163)))
theorem tyS164 : tySize Tryz.prog 164 = some 1 := by kernel_rfl
theorem tyA164 : tyAgg Tryz.prog 164 = some false := by kernel_rfl
theorem sp164 : selfP Tryz.prog 164 = false := by kernel_rfl
theorem zV164 : zerosV Tryz.prog 164 = some [.exact Go.Value.nilFunc] := by kernel_rfl
theorem F164 : (tySize Tryz.prog 164 = some 1) ∧ (tyAgg Tryz.prog 164 = some false) ∧ (selfP Tryz.prog 164 = false) ∧ (zerosV Tryz.prog 164 = some [.exact Go.Value.nilFunc]) ∧ (Tryz.prog.underlying 164 = some (Go.TypeDesc.func #[9] #[35, 24] false)) := And.intro tyS164 (And.intro tyA164 (And.intro sp164 (And.intro zV164 (Tryz.underlying164))))
theorem tyS165 : tySize Tryz.prog 165 = some 1 := by kernel_rfl
theorem tyA165 : tyAgg Tryz.prog 165 = some false := by kernel_rfl
theorem sp165 : selfP Tryz.prog 165 = false := by kernel_rfl
theorem zV165 : zerosV Tryz.prog 165 = some [.int .u64 0] := by kernel_rfl
theorem F165 : (tySize Tryz.prog 165 = some 1) ∧ (tyAgg Tryz.prog 165 = some false) ∧ (selfP Tryz.prog 165 = false) ∧ (zerosV Tryz.prog 165 = some [.int .u64 0]) ∧ (Tryz.prog.underlying 165 = some (Go.TypeDesc.int Go.IntKind.u64)) := And.intro tyS165 (And.intro tyA165 (And.intro sp165 (And.intro zV165 (Tryz.underlying165))))
theorem tyS166 : tySize Tryz.prog 166 = some 1 := by kernel_rfl
theorem tyA166 : tyAgg Tryz.prog 166 = some false := by kernel_rfl
theorem sp166 : selfP Tryz.prog 166 = false := by kernel_rfl
theorem zV166 : zerosV Tryz.prog 166 = some [.exact Go.Value.nilFunc] := by kernel_rfl
theorem F166 : (tySize Tryz.prog 166 = some 1) ∧ (tyAgg Tryz.prog 166 = some false) ∧ (selfP Tryz.prog 166 = false) ∧ (zerosV Tryz.prog 166 = some [.exact Go.Value.nilFunc]) ∧ (Tryz.prog.underlying 166 = some (Go.TypeDesc.func #[33, 33] #[4] false)) := And.intro tyS166 (And.intro tyA166 (And.intro sp166 (And.intro zV166 (Tryz.underlying166))))
theorem tyS167 : tySize Tryz.prog 167 = some 1 := by kernel_rfl
theorem tyA167 : tyAgg Tryz.prog 167 = some false := by kernel_rfl
theorem sp167 : selfP Tryz.prog 167 = false := by kernel_rfl
theorem zV167 : zerosV Tryz.prog 167 = some [.exact Go.Value.nilFunc] := by kernel_rfl
theorem F167 : (tySize Tryz.prog 167 = some 1) ∧ (tyAgg Tryz.prog 167 = some false) ∧ (selfP Tryz.prog 167 = false) ∧ (zerosV Tryz.prog 167 = some [.exact Go.Value.nilFunc]) ∧ (Tryz.prog.underlying 167 = some (Go.TypeDesc.func #[23, 3, 118] #[] false)) := And.intro tyS167 (And.intro tyA167 (And.intro sp167 (And.intro zV167 (Tryz.underlying167))))
theorem tyS168 : tySize Tryz.prog 168 = some 1 := by kernel_rfl
theorem tyA168 : tyAgg Tryz.prog 168 = some false := by kernel_rfl
theorem sp168 : selfP Tryz.prog 168 = false := by kernel_rfl
theorem zV168 : zerosV Tryz.prog 168 = some [.exact (Go.Value.pointer none)] := by kernel_rfl
theorem F168 : (tySize Tryz.prog 168 = some 1) ∧ (tyAgg Tryz.prog 168 = some false) ∧ (selfP Tryz.prog 168 = false) ∧ (zerosV Tryz.prog 168 = some [.exact (Go.Value.pointer none)]) ∧ (Tryz.prog.underlying 168 = some (Go.TypeDesc.pointer 5)) := And.intro tyS168 (And.intro tyA168 (And.intro sp168 (And.intro zV168 (Tryz.underlying168))))
theorem tyS169 : tySize Tryz.prog 169 = some 1 := by kernel_rfl
theorem tyA169 : tyAgg Tryz.prog 169 = some false := by kernel_rfl
theorem sp169 : selfP Tryz.prog 169 = false := by kernel_rfl
theorem zV169 : zerosV Tryz.prog 169 = some [.exact Go.Value.nilFunc] := by kernel_rfl
theorem F169 : (tySize Tryz.prog 169 = some 1) ∧ (tyAgg Tryz.prog 169 = some false) ∧ (selfP Tryz.prog 169 = false) ∧ (zerosV Tryz.prog 169 = some [.exact Go.Value.nilFunc]) ∧ (Tryz.prog.underlying 169 = some (Go.TypeDesc.func #[9, 5] #[9] false)) := And.intro tyS169 (And.intro tyA169 (And.intro sp169 (And.intro zV169 (Tryz.underlying169))))
theorem tyS170 : tySize Tryz.prog 170 = some 256 := by kernel_rfl
theorem tyA170 : tyAgg Tryz.prog 170 = some true := by kernel_rfl
theorem F170 : (tySize Tryz.prog 170 = some 256) ∧ (tyAgg Tryz.prog 170 = some true) ∧ (Tryz.prog.underlying 170 = some (Go.TypeDesc.array 256 4)) := And.intro tyS170 (And.intro tyA170 (Tryz.underlying170))
theorem tyS171 : tySize Tryz.prog 171 = some 256 := by kernel_rfl
theorem tyA171 : tyAgg Tryz.prog 171 = some true := by kernel_rfl
theorem F171 : (tySize Tryz.prog 171 = some 256) ∧ (tyAgg Tryz.prog 171 = some true) ∧ (Tryz.prog.underlying 171 = some (Go.TypeDesc.array 256 4)) := And.intro tyS171 (And.intro tyA171 (Tryz.underlying171))
theorem tyS172 : tySize Tryz.prog 172 = some 1 := by kernel_rfl
theorem tyA172 : tyAgg Tryz.prog 172 = some false := by kernel_rfl
theorem sp172 : selfP Tryz.prog 172 = false := by kernel_rfl
theorem F172 : (tySize Tryz.prog 172 = some 1) ∧ (tyAgg Tryz.prog 172 = some false) ∧ (selfP Tryz.prog 172 = false) ∧ (Tryz.prog.underlying 172 = some (Go.TypeDesc.tuple #[171, 4])) := And.intro tyS172 (And.intro tyA172 (And.intro sp172 (Tryz.underlying172)))
theorem tyS173 : tySize Tryz.prog 173 = some 1 := by kernel_rfl
theorem tyA173 : tyAgg Tryz.prog 173 = some false := by kernel_rfl
theorem sp173 : selfP Tryz.prog 173 = false := by kernel_rfl
theorem zV173 : zerosV Tryz.prog 173 = some [.exact Go.Value.nilFunc] := by kernel_rfl
theorem F173 : (tySize Tryz.prog 173 = some 1) ∧ (tyAgg Tryz.prog 173 = some false) ∧ (selfP Tryz.prog 173 = false) ∧ (zerosV Tryz.prog 173 = some [.exact Go.Value.nilFunc]) ∧ (Tryz.prog.underlying 173 = some (Go.TypeDesc.func #[9] #[171, 4] false)) := And.intro tyS173 (And.intro tyA173 (And.intro sp173 (And.intro zV173 (Tryz.underlying173))))
theorem tyS174 : tySize Tryz.prog 174 = some 1 := by kernel_rfl
theorem tyA174 : tyAgg Tryz.prog 174 = some false := by kernel_rfl
theorem sp174 : selfP Tryz.prog 174 = false := by kernel_rfl
theorem zV174 : zerosV Tryz.prog 174 = some [.exact Go.Value.nilFunc] := by kernel_rfl
theorem F174 : (tySize Tryz.prog 174 = some 1) ∧ (tyAgg Tryz.prog 174 = some false) ∧ (selfP Tryz.prog 174 = false) ∧ (zerosV Tryz.prog 174 = some [.exact Go.Value.nilFunc]) ∧ (Tryz.prog.underlying 174 = some (Go.TypeDesc.func #[9, 175] #[9] false)) := And.intro tyS174 (And.intro tyA174 (And.intro sp174 (And.intro zV174 (Tryz.underlying174))))
theorem tyS175 : tySize Tryz.prog 175 = some 1 := by kernel_rfl
theorem tyA175 : tyAgg Tryz.prog 175 = some false := by kernel_rfl
theorem sp175 : selfP Tryz.prog 175 = false := by kernel_rfl
theorem zV175 : zerosV Tryz.prog 175 = some [.exact (Go.Value.pointer none)] := by kernel_rfl
theorem F175 : (tySize Tryz.prog 175 = some 1) ∧ (tyAgg Tryz.prog 175 = some false) ∧ (selfP Tryz.prog 175 = false) ∧ (zerosV Tryz.prog 175 = some [.exact (Go.Value.pointer none)]) ∧ (Tryz.prog.underlying 175 = some (Go.TypeDesc.pointer 171)) := And.intro tyS175 (And.intro tyA175 (And.intro sp175 (And.intro zV175 (Tryz.underlying175))))
theorem tyS176 : tySize Tryz.prog 176 = some 1 := by kernel_rfl
theorem tyA176 : tyAgg Tryz.prog 176 = some false := by kernel_rfl
theorem sp176 : selfP Tryz.prog 176 = false := by kernel_rfl
theorem zV176 : zerosV Tryz.prog 176 = some [.exact Go.Value.nilFunc] := by kernel_rfl
theorem F176 : (tySize Tryz.prog 176 = some 1) ∧ (tyAgg Tryz.prog 176 = some false) ∧ (selfP Tryz.prog 176 = false) ∧ (zerosV Tryz.prog 176 = some [.exact Go.Value.nilFunc]) ∧ (Tryz.prog.underlying 176 = some (Go.TypeDesc.func #[9, 9, 3] #[132] false)) := And.intro tyS176 (And.intro tyA176 (And.intro sp176 (And.intro zV176 (Tryz.underlying176))))
theorem tyS177 : tySize Tryz.prog 177 = some 1 := by kernel_rfl
theorem tyA177 : tyAgg Tryz.prog 177 = some false := by kernel_rfl
theorem sp177 : selfP Tryz.prog 177 = false := by kernel_rfl
theorem zV177 : zerosV Tryz.prog 177 = some [.sl .nil []] := by kernel_rfl
theorem F177 : (tySize Tryz.prog 177 = some 1) ∧ (tyAgg Tryz.prog 177 = some false) ∧ (selfP Tryz.prog 177 = false) ∧ (zerosV Tryz.prog 177 = some [.sl .nil []]) ∧ (Tryz.prog.underlying 177 = some (Go.TypeDesc.slice 179)) := And.intro tyS177 (And.intro tyA177 (And.intro sp177 (And.intro zV177 (Tryz.underlying177))))
theorem tyS178 : tySize Tryz.prog 178 = some 2 := by kernel_rfl
theorem tyA178 : tyAgg Tryz.prog 178 = some true := by kernel_rfl
theorem sp178 : selfP Tryz.prog 178 = false := by kernel_rfl
theorem zV178 : zerosV Tryz.prog 178 = some [.int .i64 0, .int .i64 0] := by kernel_rfl
theorem pl178 : places Tryz.prog 178 = some [(0, 1), (1, 1)] := by kernel_rfl
theorem fl178_0 : fld Tryz.prog 178 0 = some (0, 3) := by kernel_rfl
theorem fl178_1 : fld Tryz.prog 178 1 = some (1, 3) := by kernel_rfl
theorem F178 : (tySize Tryz.prog 178 = some 2) ∧ (tyAgg Tryz.prog 178 = some true) ∧ (selfP Tryz.prog 178 = false) ∧ (zerosV Tryz.prog 178 = some [.int .i64 0, .int .i64 0]) ∧ (places Tryz.prog 178 = some [(0, 1), (1, 1)]) ∧ (fld Tryz.prog 178 0 = some (0, 3)) ∧ (fld Tryz.prog 178 1 = some (1, 3)) ∧ (Tryz.prog.underlying 178 = some (Go.TypeDesc.struct #[{ name := "start", type := 3, offset := 0, embedded := false, tag := "", pkgPath := "strings", byteOffset := 0 }, { name := "end", type := 3, offset := 1, embedded := false, tag := "", pkgPath := "strings", byteOffset := 8 }])) := And.intro tyS178 (And.intro tyA178 (And.intro sp178 (And.intro zV178 (And.intro pl178 (And.intro fl178_0 (And.intro fl178_1 (Tryz.underlying178)))))))
theorem tyS179 : tySize Tryz.prog 179 = some 2 := by kernel_rfl
theorem tyA179 : tyAgg Tryz.prog 179 = some true := by kernel_rfl
theorem sp179 : selfP Tryz.prog 179 = false := by kernel_rfl
theorem zV179 : zerosV Tryz.prog 179 = some [.int .i64 0, .int .i64 0] := by kernel_rfl
theorem pl179 : places Tryz.prog 179 = some [(0, 1), (1, 1)] := by kernel_rfl
theorem fl179_0 : fld Tryz.prog 179 0 = some (0, 3) := by kernel_rfl
theorem fl179_1 : fld Tryz.prog 179 1 = some (1, 3) := by kernel_rfl
theorem F179 : (tySize Tryz.prog 179 = some 2) ∧ (tyAgg Tryz.prog 179 = some true) ∧ (selfP Tryz.prog 179 = false) ∧ (zerosV Tryz.prog 179 = some [.int .i64 0, .int .i64 0]) ∧ (places Tryz.prog 179 = some [(0, 1), (1, 1)]) ∧ (fld Tryz.prog 179 0 = some (0, 3)) ∧ (fld Tryz.prog 179 1 = some (1, 3)) ∧ (Tryz.prog.underlying 179 = some (Go.TypeDesc.struct #[{ name := "start", type := 3, offset := 0, embedded := false, tag := "", pkgPath := "strings", byteOffset := 0 }, { name := "end", type := 3, offset := 1, embedded := false, tag := "", pkgPath := "strings", byteOffset := 8 }])) := And.intro tyS179 (And.intro tyA179 (And.intro sp179 (And.intro zV179 (And.intro pl179 (And.intro fl179_0 (And.intro fl179_1 (Tryz.underlying179)))))))
theorem tyS180 : tySize Tryz.prog 180 = some 1 := by kernel_rfl
theorem tyA180 : tyAgg Tryz.prog 180 = some false := by kernel_rfl
theorem sp180 : selfP Tryz.prog 180 = false := by kernel_rfl
theorem F180 : (tySize Tryz.prog 180 = some 1) ∧ (tyAgg Tryz.prog 180 = some false) ∧ (selfP Tryz.prog 180 = false) ∧ (Tryz.prog.underlying 180 = some (Go.TypeDesc.tuple #[9, 9])) := And.intro tyS180 (And.intro tyA180 (And.intro sp180 (Tryz.underlying180)))
theorem tyS181 : tySize Tryz.prog 181 = some 1 := by kernel_rfl
theorem tyA181 : tyAgg Tryz.prog 181 = some false := by kernel_rfl
theorem sp181 : selfP Tryz.prog 181 = false := by kernel_rfl
theorem zV181 : zerosV Tryz.prog 181 = some [.exact Go.Value.nilFunc] := by kernel_rfl
theorem F181 : (tySize Tryz.prog 181 = some 1) ∧ (tyAgg Tryz.prog 181 = some false) ∧ (selfP Tryz.prog 181 = false) ∧ (zerosV Tryz.prog 181 = some [.exact Go.Value.nilFunc]) ∧ (Tryz.prog.underlying 181 = some (Go.TypeDesc.func #[9] #[9, 9] false)) := And.intro tyS181 (And.intro tyA181 (And.intro sp181 (And.intro zV181 (Tryz.underlying181))))
theorem tyS182 : tySize Tryz.prog 182 = some 1 := by kernel_rfl
theorem tyA182 : tyAgg Tryz.prog 182 = some false := by kernel_rfl
theorem sp182 : selfP Tryz.prog 182 = false := by kernel_rfl
theorem zV182 : zerosV Tryz.prog 182 = some [.exact Go.Value.nilFunc] := by kernel_rfl
theorem F182 : (tySize Tryz.prog 182 = some 1) ∧ (tyAgg Tryz.prog 182 = some false) ∧ (selfP Tryz.prog 182 = false) ∧ (zerosV Tryz.prog 182 = some [.exact Go.Value.nilFunc]) ∧ (Tryz.prog.underlying 182 = some (Go.TypeDesc.func #[35, 3] #[35] false)) := And.intro tyS182 (And.intro tyA182 (And.intro sp182 (And.intro zV182 (Tryz.underlying182))))
theorem tyS183 : tySize Tryz.prog 183 = some 1 := by kernel_rfl
theorem tyA183 : tyAgg Tryz.prog 183 = some false := by kernel_rfl
theorem sp183 : selfP Tryz.prog 183 = false := by kernel_rfl
theorem zV183 : zerosV Tryz.prog 183 = some [.exact Go.Value.nilFunc] := by kernel_rfl
theorem F183 : (tySize Tryz.prog 183 = some 1) ∧ (tyAgg Tryz.prog 183 = some false) ∧ (selfP Tryz.prog 183 = false) ∧ (zerosV Tryz.prog 183 = some [.exact Go.Value.nilFunc]) ∧ (Tryz.prog.underlying 183 = some (Go.TypeDesc.func #[3] #[] false)) := And.intro tyS183 (And.intro tyA183 (And.intro sp183 (And.intro zV183 (Tryz.underlying183))))
theorem tyS184 : tySize Tryz.prog 184 = some 1 := by kernel_rfl
theorem tyA184 : tyAgg Tryz.prog 184 = some false := by kernel_rfl
theorem sp184 : selfP Tryz.prog 184 = false := by kernel_rfl
theorem zV184 : zerosV Tryz.prog 184 = some [.exact Go.Value.nilFunc] := by kernel_rfl
theorem F184 : (tySize Tryz.prog 184 = some 1) ∧ (tyAgg Tryz.prog 184 = some false) ∧ (selfP Tryz.prog 184 = false) ∧ (zerosV Tryz.prog 184 = some [.exact Go.Value.nilFunc]) ∧ (Tryz.prog.underlying 184 = some (Go.TypeDesc.func #[51, 146] #[3] false)) := And.intro tyS184 (And.intro tyA184 (And.intro sp184 (And.intro zV184 (Tryz.underlying184))))
theorem tyS185 : tySize Tryz.prog 185 = some 1 := by kernel_rfl
theorem tyA185 : tyAgg Tryz.prog 185 = some false := by kernel_rfl
theorem sp185 : selfP Tryz.prog 185 = false := by kernel_rfl
theorem zV185 : zerosV Tryz.prog 185 = some [.exact Go.Value.nilFunc] := by kernel_rfl
theorem F185 : (tySize Tryz.prog 185 = some 1) ∧ (tyAgg Tryz.prog 185 = some false) ∧ (selfP Tryz.prog 185 = false) ∧ (zerosV Tryz.prog 185 = some [.exact Go.Value.nilFunc]) ∧ (Tryz.prog.underlying 185 = some (Go.TypeDesc.func #[136, 145] #[3] false)) := And.intro tyS185 (And.intro tyA185 (And.intro sp185 (And.intro zV185 (Tryz.underlying185))))
theorem tyS186 : tySize Tryz.prog 186 = some 1 := by kernel_rfl
theorem tyA186 : tyAgg Tryz.prog 186 = some false := by kernel_rfl
theorem sp186 : selfP Tryz.prog 186 = false := by kernel_rfl
theorem zV186 : zerosV Tryz.prog 186 = some [.exact Go.Value.nilFunc] := by kernel_rfl
theorem F186 : (tySize Tryz.prog 186 = some 1) ∧ (tyAgg Tryz.prog 186 = some false) ∧ (selfP Tryz.prog 186 = false) ∧ (zerosV Tryz.prog 186 = some [.exact Go.Value.nilFunc]) ∧ (Tryz.prog.underlying 186 = some (Go.TypeDesc.func #[210] #[3] true)) := And.intro tyS186 (And.intro tyA186 (And.intro sp186 (And.intro zV186 (Tryz.underlying186))))
theorem tyS187 : tySize Tryz.prog 187 = some 1 := by kernel_rfl
theorem tyA187 : tyAgg Tryz.prog 187 = some false := by kernel_rfl
theorem sp187 : selfP Tryz.prog 187 = false := by kernel_rfl
theorem zV187 : zerosV Tryz.prog 187 = some [.exact Go.Value.nilFunc] := by kernel_rfl
theorem F187 : (tySize Tryz.prog 187 = some 1) ∧ (tyAgg Tryz.prog 187 = some false) ∧ (selfP Tryz.prog 187 = false) ∧ (zerosV Tryz.prog 187 = some [.exact Go.Value.nilFunc]) ∧ (Tryz.prog.underlying 187 = some (Go.TypeDesc.func #[33, 33, 117] #[3] false)) := And.intro tyS187 (And.intro tyA187 (And.intro sp187 (And.intro zV187 (Tryz.underlying187))))
theorem tyS188 : tySize Tryz.prog 188 = some 1 := by kernel_rfl
theorem tyA188 : tyAgg Tryz.prog 188 = some false := by kernel_rfl
theorem sp188 : selfP Tryz.prog 188 = false := by kernel_rfl
theorem F188 : (tySize Tryz.prog 188 = some 1) ∧ (tyAgg Tryz.prog 188 = some false) ∧ (selfP Tryz.prog 188 = false) ∧ (Tryz.prog.underlying 188 = some (Go.TypeDesc.tuple #[9, 4])) := And.intro tyS188 (And.intro tyA188 (And.intro sp188 (Tryz.underlying188)))
theorem tyS189 : tySize Tryz.prog 189 = some 1 := by kernel_rfl
theorem tyA189 : tyAgg Tryz.prog 189 = some false := by kernel_rfl
theorem sp189 : selfP Tryz.prog 189 = false := by kernel_rfl
theorem zV189 : zerosV Tryz.prog 189 = some [.exact Go.Value.nilFunc] := by kernel_rfl
theorem F189 : (tySize Tryz.prog 189 = some 1) ∧ (tyAgg Tryz.prog 189 = some false) ∧ (selfP Tryz.prog 189 = false) ∧ (zerosV Tryz.prog 189 = some [.exact Go.Value.nilFunc]) ∧ (Tryz.prog.underlying 189 = some (Go.TypeDesc.func #[9, 9] #[9, 4] false)) := And.intro tyS189 (And.intro tyA189 (And.intro sp189 (And.intro zV189 (Tryz.underlying189))))
theorem tyS190 : tySize Tryz.prog 190 = some 1 := by kernel_rfl
theorem tyA190 : tyAgg Tryz.prog 190 = some false := by kernel_rfl
theorem sp190 : selfP Tryz.prog 190 = false := by kernel_rfl
theorem zV190 : zerosV Tryz.prog 190 = some [.exact Go.Value.nilFunc] := by kernel_rfl
theorem F190 : (tySize Tryz.prog 190 = some 1) ∧ (tyAgg Tryz.prog 190 = some false) ∧ (selfP Tryz.prog 190 = false) ∧ (zerosV Tryz.prog 190 = some [.exact Go.Value.nilFunc]) ∧ (Tryz.prog.underlying 190 = some (Go.TypeDesc.func #[78, 3, 151] #[] false)) := And.intro tyS190 (And.intro tyA190 (And.intro sp190 (And.intro zV190 (Tryz.underlying190))))
theorem tyS191 : tySize Tryz.prog 191 = some 1 := by kernel_rfl
theorem tyA191 : tyAgg Tryz.prog 191 = some false := by kernel_rfl
theorem sp191 : selfP Tryz.prog 191 = false := by kernel_rfl
theorem zV191 : zerosV Tryz.prog 191 = some [.exact Go.Value.nilFunc] := by kernel_rfl
theorem F191 : (tySize Tryz.prog 191 = some 1) ∧ (tyAgg Tryz.prog 191 = some false) ∧ (selfP Tryz.prog 191 = false) ∧ (zerosV Tryz.prog 191 = some [.exact Go.Value.nilFunc]) ∧ (Tryz.prog.underlying 191 = some (Go.TypeDesc.func #[78, 161] #[4] false)) := And.intro tyS191 (And.intro tyA191 (And.intro sp191 (And.intro zV191 (Tryz.underlying191))))
theorem tyS192 : tySize Tryz.prog 192 = some 1 := by kernel_rfl
theorem tyA192 : tyAgg Tryz.prog 192 = some false := by kernel_rfl
theorem sp192 : selfP Tryz.prog 192 = false := by kernel_rfl
theorem zV192 : zerosV Tryz.prog 192 = some [.exact Go.Value.nilFunc] := by kernel_rfl
theorem F192 : (tySize Tryz.prog 192 = some 1) ∧ (tyAgg Tryz.prog 192 = some false) ∧ (selfP Tryz.prog 192 = false) ∧ (zerosV Tryz.prog 192 = some [.exact Go.Value.nilFunc]) ∧ (Tryz.prog.underlying 192 = some (Go.TypeDesc.func #[78, 161] #[3] false)) := And.intro tyS192 (And.intro tyA192 (And.intro sp192 (And.intro zV192 (Tryz.underlying192))))
theorem tyS193 : tySize Tryz.prog 193 = some 1 := by kernel_rfl
theorem tyA193 : tyAgg Tryz.prog 193 = some false := by kernel_rfl
theorem sp193 : selfP Tryz.prog 193 = false := by kernel_rfl
theorem zV193 : zerosV Tryz.prog 193 = some [.exact Go.Value.nilFunc] := by kernel_rfl
theorem F193 : (tySize Tryz.prog 193 = some 1) ∧ (tyAgg Tryz.prog 193 = some false) ∧ (selfP Tryz.prog 193 = false) ∧ (zerosV Tryz.prog 193 = some [.exact Go.Value.nilFunc]) ∧ (Tryz.prog.underlying 193 = some (Go.TypeDesc.func #[9, 3] #[33] false)) := And.intro tyS193 (And.intro tyA193 (And.intro sp193 (And.intro zV193 (Tryz.underlying193))))
theorem tyS194 : tySize Tryz.prog 194 = some 1 := by kernel_rfl
theorem tyA194 : tyAgg Tryz.prog 194 = some false := by kernel_rfl
theorem sp194 : selfP Tryz.prog 194 = false := by kernel_rfl
theorem F194 : (tySize Tryz.prog 194 = some 1) ∧ (tyAgg Tryz.prog 194 = some false) ∧ (selfP Tryz.prog 194 = false) ∧ (Tryz.prog.underlying 194 = some (Go.TypeDesc.tuple #[9, 9, 4])) := And.intro tyS194 (And.intro tyA194 (And.intro sp194 (Tryz.underlying194)))
theorem tyS195 : tySize Tryz.prog 195 = some 1 := by kernel_rfl
theorem tyA195 : tyAgg Tryz.prog 195 = some false := by kernel_rfl
theorem sp195 : selfP Tryz.prog 195 = false := by kernel_rfl
theorem zV195 : zerosV Tryz.prog 195 = some [.exact Go.Value.nilFunc] := by kernel_rfl
theorem F195 : (tySize Tryz.prog 195 = some 1) ∧ (tyAgg Tryz.prog 195 = some false) ∧ (selfP Tryz.prog 195 = false) ∧ (zerosV Tryz.prog 195 = some [.exact Go.Value.nilFunc]) ∧ (Tryz.prog.underlying 195 = some (Go.TypeDesc.func #[9, 9] #[9, 9, 4] false)) := And.intro tyS195 (And.intro tyA195 (And.intro sp195 (And.intro zV195 (Tryz.underlying195))))
theorem tyS196 : tySize Tryz.prog 196 = some 3 := by kernel_rfl
theorem tyA196 : tyAgg Tryz.prog 196 = some true := by kernel_rfl
theorem sp196 : selfP Tryz.prog 196 = false := by kernel_rfl
theorem zV196 : zerosV Tryz.prog 196 = some [.int .i64 0, .int .i64 0, .int .i64 0] := by kernel_rfl
theorem F196 : (tySize Tryz.prog 196 = some 3) ∧ (tyAgg Tryz.prog 196 = some true) ∧ (selfP Tryz.prog 196 = false) ∧ (zerosV Tryz.prog 196 = some [.int .i64 0, .int .i64 0, .int .i64 0]) ∧ (Tryz.prog.underlying 196 = some (Go.TypeDesc.array 3 3)) := And.intro tyS196 (And.intro tyA196 (And.intro sp196 (And.intro zV196 (Tryz.underlying196))))
theorem tyS197 : tySize Tryz.prog 197 = some 1 := by kernel_rfl
theorem tyA197 : tyAgg Tryz.prog 197 = some false := by kernel_rfl
theorem sp197 : selfP Tryz.prog 197 = false := by kernel_rfl
theorem zV197 : zerosV Tryz.prog 197 = some [.exact Go.Value.nilFunc] := by kernel_rfl
theorem F197 : (tySize Tryz.prog 197 = some 1) ∧ (tyAgg Tryz.prog 197 = some false) ∧ (selfP Tryz.prog 197 = false) ∧ (zerosV Tryz.prog 197 = some [.exact Go.Value.nilFunc]) ∧ (Tryz.prog.underlying 197 = some (Go.TypeDesc.func #[9] #[3, 4] false)) := And.intro tyS197 (And.intro tyA197 (And.intro sp197 (And.intro zV197 (Tryz.underlying197))))
theorem tyS198 : tySize Tryz.prog 198 = some 1 := by kernel_rfl
theorem tyA198 : tyAgg Tryz.prog 198 = some false := by kernel_rfl
theorem sp198 : selfP Tryz.prog 198 = false := by kernel_rfl
theorem zV198 : zerosV Tryz.prog 198 = some [.exact Go.Value.nilFunc] := by kernel_rfl
theorem F198 : (tySize Tryz.prog 198 = some 1) ∧ (tyAgg Tryz.prog 198 = some false) ∧ (selfP Tryz.prog 198 = false) ∧ (zerosV Tryz.prog 198 = some [.exact Go.Value.nilFunc]) ∧ (Tryz.prog.underlying 198 = some (Go.TypeDesc.func #[33, 31] #[4] false)) := And.intro tyS198 (And.intro tyA198 (And.intro sp198 (And.intro zV198 (Tryz.underlying198))))
theorem tyS199 : tySize Tryz.prog 199 = some 1 := by kernel_rfl
theorem tyA199 : tyAgg Tryz.prog 199 = some false := by kernel_rfl
theorem sp199 : selfP Tryz.prog 199 = false := by kernel_rfl
theorem zV199 : zerosV Tryz.prog 199 = some [.exact Go.Value.nilFunc] := by kernel_rfl
theorem F199 : (tySize Tryz.prog 199 = some 1) ∧ (tyAgg Tryz.prog 199 = some false) ∧ (selfP Tryz.prog 199 = false) ∧ (zerosV Tryz.prog 199 = some [.exact Go.Value.nilFunc]) ∧ (Tryz.prog.underlying 199 = some (Go.TypeDesc.func #[9, 5] #[3] false)) := And.intro tyS199 (And.intro tyA199 (And.intro sp199 (And.intro zV199 (Tryz.underlying199))))
theorem tyS200 : tySize Tryz.prog 200 = some 1 := by kernel_rfl
theorem tyA200 : tyAgg Tryz.prog 200 = some false := by kernel_rfl
theorem sp200 : selfP Tryz.prog 200 = false := by kernel_rfl
theorem zV200 : zerosV Tryz.prog 200 = some [.exact Go.Value.nilFunc] := by kernel_rfl
theorem F200 : (tySize Tryz.prog 200 = some 1) ∧ (tyAgg Tryz.prog 200 = some false) ∧ (selfP Tryz.prog 200 = false) ∧ (zerosV Tryz.prog 200 = some [.exact Go.Value.nilFunc]) ∧ (Tryz.prog.underlying 200 = some (Go.TypeDesc.func #[23, 3, 3, 118] #[] false)) := And.intro tyS200 (And.intro tyA200 (And.intro sp200 (And.intro zV200 (Tryz.underlying200))))
theorem tyS201 : tySize Tryz.prog 201 = some 1 := by kernel_rfl
theorem tyA201 : tyAgg Tryz.prog 201 = some false := by kernel_rfl
theorem sp201 : selfP Tryz.prog 201 = false := by kernel_rfl
theorem zV201 : zerosV Tryz.prog 201 = some [.exact Go.Value.nilFunc] := by kernel_rfl
theorem F201 : (tySize Tryz.prog 201 = some 1) ∧ (tyAgg Tryz.prog 201 = some false) ∧ (selfP Tryz.prog 201 = false) ∧ (zerosV Tryz.prog 201 = some [.exact Go.Value.nilFunc]) ∧ (Tryz.prog.underlying 201 = some (Go.TypeDesc.func #[23, 3, 3, 3, 118] #[] false)) := And.intro tyS201 (And.intro tyA201 (And.intro sp201 (And.intro zV201 (Tryz.underlying201))))
theorem tyS202 : tySize Tryz.prog 202 = some 1 := by kernel_rfl
theorem tyA202 : tyAgg Tryz.prog 202 = some false := by kernel_rfl
theorem sp202 : selfP Tryz.prog 202 = false := by kernel_rfl
theorem zV202 : zerosV Tryz.prog 202 = some [.exact (Go.Value.pointer none)] := by kernel_rfl
theorem F202 : (tySize Tryz.prog 202 = some 1) ∧ (tyAgg Tryz.prog 202 = some false) ∧ (selfP Tryz.prog 202 = false) ∧ (zerosV Tryz.prog 202 = some [.exact (Go.Value.pointer none)]) ∧ (Tryz.prog.underlying 202 = some Go.TypeDesc.unsafePointer) := And.intro tyS202 (And.intro tyA202 (And.intro sp202 (And.intro zV202 (Tryz.underlying202))))
theorem tyS203 : tySize Tryz.prog 203 = some 1 := by kernel_rfl
theorem tyA203 : tyAgg Tryz.prog 203 = some false := by kernel_rfl
theorem sp203 : selfP Tryz.prog 203 = false := by kernel_rfl
theorem zV203 : zerosV Tryz.prog 203 = some [.exact Go.Value.nilFunc] := by kernel_rfl
theorem F203 : (tySize Tryz.prog 203 = some 1) ∧ (tyAgg Tryz.prog 203 = some false) ∧ (selfP Tryz.prog 203 = false) ∧ (zerosV Tryz.prog 203 = some [.exact Go.Value.nilFunc]) ∧ (Tryz.prog.underlying 203 = some (Go.TypeDesc.func #[202] #[202] false)) := And.intro tyS203 (And.intro tyA203 (And.intro sp203 (And.intro zV203 (Tryz.underlying203))))
theorem tyS204 : tySize Tryz.prog 204 = some 1 := by kernel_rfl
theorem tyA204 : tyAgg Tryz.prog 204 = some false := by kernel_rfl
theorem sp204 : selfP Tryz.prog 204 = false := by kernel_rfl
theorem F204 : (tySize Tryz.prog 204 = some 1) ∧ (tyAgg Tryz.prog 204 = some false) ∧ (selfP Tryz.prog 204 = false) ∧ (Tryz.prog.underlying 204 = some (Go.TypeDesc.tuple #[21, 3])) := And.intro tyS204 (And.intro tyA204 (And.intro sp204 (Tryz.underlying204)))
theorem tyS205 : tySize Tryz.prog 205 = some 1 := by kernel_rfl
theorem tyA205 : tyAgg Tryz.prog 205 = some false := by kernel_rfl
theorem sp205 : selfP Tryz.prog 205 = false := by kernel_rfl
theorem zV205 : zerosV Tryz.prog 205 = some [.exact Go.Value.nilFunc] := by kernel_rfl
theorem F205 : (tySize Tryz.prog 205 = some 1) ∧ (tyAgg Tryz.prog 205 = some false) ∧ (selfP Tryz.prog 205 = false) ∧ (zerosV Tryz.prog 205 = some [.exact Go.Value.nilFunc]) ∧ (Tryz.prog.underlying 205 = some (Go.TypeDesc.func #[9] #[21, 3] false)) := And.intro tyS205 (And.intro tyA205 (And.intro sp205 (And.intro zV205 (Tryz.underlying205))))
theorem tyS206 : tySize Tryz.prog 206 = some 1 := by kernel_rfl
theorem tyA206 : tyAgg Tryz.prog 206 = some false := by kernel_rfl
theorem sp206 : selfP Tryz.prog 206 = false := by kernel_rfl
theorem zV206 : zerosV Tryz.prog 206 = some [.exact Go.Value.nilFunc] := by kernel_rfl
theorem F206 : (tySize Tryz.prog 206 = some 1) ∧ (tyAgg Tryz.prog 206 = some false) ∧ (selfP Tryz.prog 206 = false) ∧ (zerosV Tryz.prog 206 = some [.exact Go.Value.nilFunc]) ∧ (Tryz.prog.underlying 206 = some (Go.TypeDesc.func #[9, 21] #[4] false)) := And.intro tyS206 (And.intro tyA206 (And.intro sp206 (And.intro zV206 (Tryz.underlying206))))
theorem tyS207 : tySize Tryz.prog 207 = some 1 := by kernel_rfl
theorem tyA207 : tyAgg Tryz.prog 207 = some false := by kernel_rfl
theorem sp207 : selfP Tryz.prog 207 = false := by kernel_rfl
theorem zV207 : zerosV Tryz.prog 207 = some [.exact (Go.Value.pointer none)] := by kernel_rfl
theorem F207 : (tySize Tryz.prog 207 = some 1) ∧ (tyAgg Tryz.prog 207 = some false) ∧ (selfP Tryz.prog 207 = false) ∧ (zerosV Tryz.prog 207 = some [.exact (Go.Value.pointer none)]) ∧ (Tryz.prog.underlying 207 = some (Go.TypeDesc.pointer 3)) := And.intro tyS207 (And.intro tyA207 (And.intro sp207 (And.intro zV207 (Tryz.underlying207))))
theorem tyS208 : tySize Tryz.prog 208 = some 1 := by kernel_rfl
theorem tyA208 : tyAgg Tryz.prog 208 = some false := by kernel_rfl
theorem sp208 : selfP Tryz.prog 208 = false := by kernel_rfl
theorem zV208 : zerosV Tryz.prog 208 = some [.sl .nil []] := by kernel_rfl
theorem F208 : (tySize Tryz.prog 208 = some 1) ∧ (tyAgg Tryz.prog 208 = some false) ∧ (selfP Tryz.prog 208 = false) ∧ (zerosV Tryz.prog 208 = some [.sl .nil []]) ∧ (Tryz.prog.underlying 208 = some (Go.TypeDesc.slice 207)) := And.intro tyS208 (And.intro tyA208 (And.intro sp208 (And.intro zV208 (Tryz.underlying208))))
theorem tyS209 : tySize Tryz.prog 209 = some 1 := by kernel_rfl
theorem tyA209 : tyAgg Tryz.prog 209 = some false := by kernel_rfl
theorem sp209 : selfP Tryz.prog 209 = false := by kernel_rfl
theorem zV209 : zerosV Tryz.prog 209 = some [.exact Go.Value.nilFunc] := by kernel_rfl
theorem F209 : (tySize Tryz.prog 209 = some 1) ∧ (tyAgg Tryz.prog 209 = some false) ∧ (selfP Tryz.prog 209 = false) ∧ (zerosV Tryz.prog 209 = some [.exact Go.Value.nilFunc]) ∧ (Tryz.prog.underlying 209 = some (Go.TypeDesc.func #[3] #[3] false)) := And.intro tyS209 (And.intro tyA209 (And.intro sp209 (And.intro zV209 (Tryz.underlying209))))
theorem tyS210 : tySize Tryz.prog 210 = some 1 := by kernel_rfl
theorem tyA210 : tyAgg Tryz.prog 210 = some false := by kernel_rfl
theorem sp210 : selfP Tryz.prog 210 = false := by kernel_rfl
theorem zV210 : zerosV Tryz.prog 210 = some [.sl .nil []] := by kernel_rfl
theorem F210 : (tySize Tryz.prog 210 = some 1) ∧ (tyAgg Tryz.prog 210 = some false) ∧ (selfP Tryz.prog 210 = false) ∧ (zerosV Tryz.prog 210 = some [.sl .nil []]) ∧ (Tryz.prog.underlying 210 = some (Go.TypeDesc.slice 3)) := And.intro tyS210 (And.intro tyA210 (And.intro sp210 (And.intro zV210 (Tryz.underlying210))))
theorem tyS211 : tySize Tryz.prog 211 = some 1 := by kernel_rfl
theorem tyA211 : tyAgg Tryz.prog 211 = some false := by kernel_rfl
theorem sp211 : selfP Tryz.prog 211 = false := by kernel_rfl
theorem zV211 : zerosV Tryz.prog 211 = some [.exact Go.Value.nilFunc] := by kernel_rfl
theorem F211 : (tySize Tryz.prog 211 = some 1) ∧ (tyAgg Tryz.prog 211 = some false) ∧ (selfP Tryz.prog 211 = false) ∧ (zerosV Tryz.prog 211 = some [.exact Go.Value.nilFunc]) ∧ (Tryz.prog.underlying 211 = some (Go.TypeDesc.func #[3] #[4] false)) := And.intro tyS211 (And.intro tyA211 (And.intro sp211 (And.intro zV211 (Tryz.underlying211))))
theorem tyS212 : tySize Tryz.prog 212 = some 1 := by kernel_rfl
theorem tyA212 : tyAgg Tryz.prog 212 = some false := by kernel_rfl
theorem sp212 : selfP Tryz.prog 212 = false := by kernel_rfl
theorem zV212 : zerosV Tryz.prog 212 = some [.exact Go.Value.nilFunc] := by kernel_rfl
theorem F212 : (tySize Tryz.prog 212 = some 1) ∧ (tyAgg Tryz.prog 212 = some false) ∧ (selfP Tryz.prog 212 = false) ∧ (zerosV Tryz.prog 212 = some [.exact Go.Value.nilFunc]) ∧ (Tryz.prog.underlying 212 = some (Go.TypeDesc.func #[78, 3, 3, 151] #[] false)) := And.intro tyS212 (And.intro tyA212 (And.intro sp212 (And.intro zV212 (Tryz.underlying212))))
theorem tyS213 : tySize Tryz.prog 213 = some 1 := by kernel_rfl
theorem tyA213 : tyAgg Tryz.prog 213 = some false := by kernel_rfl
theorem sp213 : selfP Tryz.prog 213 = false := by kernel_rfl
theorem zV213 : zerosV Tryz.prog 213 = some [.exact Go.Value.nilFunc] := by kernel_rfl
theorem F213 : (tySize Tryz.prog 213 = some 1) ∧ (tyAgg Tryz.prog 213 = some false) ∧ (selfP Tryz.prog 213 = false) ∧ (zerosV Tryz.prog 213 = some [.exact Go.Value.nilFunc]) ∧ (Tryz.prog.underlying 213 = some (Go.TypeDesc.func #[78, 3, 3, 3, 151] #[] false)) := And.intro tyS213 (And.intro tyA213 (And.intro sp213 (And.intro zV213 (Tryz.underlying213))))
theorem tyS214 : tySize Tryz.prog 214 = some 1 := by kernel_rfl
theorem tyA214 : tyAgg Tryz.prog 214 = some false := by kernel_rfl
theorem sp214 : selfP Tryz.prog 214 = false := by kernel_rfl
theorem zV214 : zerosV Tryz.prog 214 = some [.exact Go.Value.nilFunc] := by kernel_rfl
theorem F214 : (tySize Tryz.prog 214 = some 1) ∧ (tyAgg Tryz.prog 214 = some false) ∧ (selfP Tryz.prog 214 = false) ∧ (zerosV Tryz.prog 214 = some [.exact Go.Value.nilFunc]) ∧ (Tryz.prog.underlying 214 = some (Go.TypeDesc.func #[9] #[3] false)) := And.intro tyS214 (And.intro tyA214 (And.intro sp214 (And.intro zV214 (Tryz.underlying214))))
theorem tyS215 : tySize Tryz.prog 215 = some 1 := by kernel_rfl
theorem tyA215 : tyAgg Tryz.prog 215 = some false := by kernel_rfl
theorem sp215 : selfP Tryz.prog 215 = false := by kernel_rfl
theorem zV215 : zerosV Tryz.prog 215 = some [.exact Go.Value.nilFunc] := by kernel_rfl
theorem F215 : (tySize Tryz.prog 215 = some 1) ∧ (tyAgg Tryz.prog 215 = some false) ∧ (selfP Tryz.prog 215 = false) ∧ (zerosV Tryz.prog 215 = some [.exact Go.Value.nilFunc]) ∧ (Tryz.prog.underlying 215 = some (Go.TypeDesc.func #[33, 31] #[3] false)) := And.intro tyS215 (And.intro tyA215 (And.intro sp215 (And.intro zV215 (Tryz.underlying215))))
theorem tyS216 : tySize Tryz.prog 216 = some 1 := by kernel_rfl
theorem tyA216 : tyAgg Tryz.prog 216 = some false := by kernel_rfl
theorem sp216 : selfP Tryz.prog 216 = false := by kernel_rfl
theorem zV216 : zerosV Tryz.prog 216 = some [.exact Go.Value.nilFunc] := by kernel_rfl
theorem F216 : (tySize Tryz.prog 216 = some 1) ∧ (tyAgg Tryz.prog 216 = some false) ∧ (selfP Tryz.prog 216 = false) ∧ (zerosV Tryz.prog 216 = some [.exact Go.Value.nilFunc]) ∧ (Tryz.prog.underlying 216 = some (Go.TypeDesc.func #[2, 3] #[9] false)) := And.intro tyS216 (And.intro tyA216 (And.intro sp216 (And.intro zV216 (Tryz.underlying216))))
theorem tyS217 : tySize Tryz.prog 217 = some 1 := by kernel_rfl
theorem tyA217 : tyAgg Tryz.prog 217 = some false := by kernel_rfl
theorem sp217 : selfP Tryz.prog 217 = false := by kernel_rfl
theorem zV217 : zerosV Tryz.prog 217 = some [.exact Go.Value.nilFunc] := by kernel_rfl
theorem F217 : (tySize Tryz.prog 217 = some 1) ∧ (tyAgg Tryz.prog 217 = some false) ∧ (selfP Tryz.prog 217 = false) ∧ (zerosV Tryz.prog 217 = some [.exact Go.Value.nilFunc]) ∧ (Tryz.prog.underlying 217 = some (Go.TypeDesc.func #[9, 21] #[3] false)) := And.intro tyS217 (And.intro tyA217 (And.intro sp217 (And.intro zV217 (Tryz.underlying217))))
theorem tyS218 : tySize Tryz.prog 218 = some 1 := by kernel_rfl
theorem tyA218 : tyAgg Tryz.prog 218 = some false := by kernel_rfl
theorem sp218 : selfP Tryz.prog 218 = false := by kernel_rfl
theorem zV218 : zerosV Tryz.prog 218 = some [.exact Go.Value.nilFunc] := by kernel_rfl
theorem F218 : (tySize Tryz.prog 218 = some 1) ∧ (tyAgg Tryz.prog 218 = some false) ∧ (selfP Tryz.prog 218 = false) ∧ (zerosV Tryz.prog 218 = some [.exact Go.Value.nilFunc]) ∧ (Tryz.prog.underlying 218 = some (Go.TypeDesc.func #[3] #[41] false)) := And.intro tyS218 (And.intro tyA218 (And.intro sp218 (And.intro zV218 (Tryz.underlying218))))
theorem tyS219 : tySize Tryz.prog 219 = some 1 := by kernel_rfl
theorem tyA219 : tyAgg Tryz.prog 219 = some false := by kernel_rfl
theorem sp219 : selfP Tryz.prog 219 = false := by kernel_rfl
theorem zV219 : zerosV Tryz.prog 219 = some [.exact Go.Value.nilFunc] := by kernel_rfl
theorem F219 : (tySize Tryz.prog 219 = some 1) ∧ (tyAgg Tryz.prog 219 = some false) ∧ (selfP Tryz.prog 219 = false) ∧ (zerosV Tryz.prog 219 = some [.exact Go.Value.nilFunc]) ∧ (Tryz.prog.underlying 219 = some (Go.TypeDesc.func #[9, 9, 3, 3, 123] #[123] false)) := And.intro tyS219 (And.intro tyA219 (And.intro sp219 (And.intro zV219 (Tryz.underlying219))))
theorem tyS220 : tySize Tryz.prog 220 = some 24 := by kernel_rfl
theorem tyA220 : tyAgg Tryz.prog 220 = some true := by kernel_rfl
theorem sp220 : selfP Tryz.prog 220 = false := by kernel_rfl
theorem zV220 : zerosV Tryz.prog 220 = some [.int .u8 0, .int .u8 0, .int .u8 0, .int .u8 0, .int .u8 0, .int .u8 0, .int .u8 0, .int .u8 0, .int .u8 0, .int .u8 0, .int .u8 0, .int .u8 0, .int .u8 0, .int .u8 0, .int .u8 0, .int .u8 0, .int .u8 0, .int .u8 0, .int .u8 0, .int .u8 0, .int .u8 0, .int .u8 0, .int .u8 0, .int .u8 0] := by kernel_rfl
theorem iK220 : isKey Tryz.prog 220 = some (24, 5) := by kernel_rfl
theorem F220 : (tySize Tryz.prog 220 = some 24) ∧ (tyAgg Tryz.prog 220 = some true) ∧ (selfP Tryz.prog 220 = false) ∧ (zerosV Tryz.prog 220 = some [.int .u8 0, .int .u8 0, .int .u8 0, .int .u8 0, .int .u8 0, .int .u8 0, .int .u8 0, .int .u8 0, .int .u8 0, .int .u8 0, .int .u8 0, .int .u8 0, .int .u8 0, .int .u8 0, .int .u8 0, .int .u8 0, .int .u8 0, .int .u8 0, .int .u8 0, .int .u8 0, .int .u8 0, .int .u8 0, .int .u8 0, .int .u8 0]) ∧ (isKey Tryz.prog 220 = some (24, 5)) ∧ (Tryz.prog.underlying 220 = some (Go.TypeDesc.array 24 5)) := And.intro tyS220 (And.intro tyA220 (And.intro sp220 (And.intro zV220 (And.intro iK220 (Tryz.underlying220)))))
theorem tyS221 : tySize Tryz.prog 221 = some 1 := by kernel_rfl
theorem tyA221 : tyAgg Tryz.prog 221 = some false := by kernel_rfl
theorem sp221 : selfP Tryz.prog 221 = false := by kernel_rfl
theorem zV221 : zerosV Tryz.prog 221 = some [.int .u64 0] := by kernel_rfl
theorem F221 : (tySize Tryz.prog 221 = some 1) ∧ (tyAgg Tryz.prog 221 = some false) ∧ (selfP Tryz.prog 221 = false) ∧ (zerosV Tryz.prog 221 = some [.int .u64 0]) ∧ (Tryz.prog.underlying 221 = some (Go.TypeDesc.int Go.IntKind.u64)) := And.intro tyS221 (And.intro tyA221 (And.intro sp221 (And.intro zV221 (Tryz.underlying221))))
theorem tyS222 : tySize Tryz.prog 222 = some 1 := by kernel_rfl
theorem tyA222 : tyAgg Tryz.prog 222 = some false := by kernel_rfl
theorem sp222 : selfP Tryz.prog 222 = false := by kernel_rfl
theorem zV222 : zerosV Tryz.prog 222 = some [.exact Go.Value.nilFunc] := by kernel_rfl
theorem F222 : (tySize Tryz.prog 222 = some 1) ∧ (tyAgg Tryz.prog 222 = some false) ∧ (selfP Tryz.prog 222 = false) ∧ (zerosV Tryz.prog 222 = some [.exact Go.Value.nilFunc]) ∧ (Tryz.prog.underlying 222 = some (Go.TypeDesc.func #[221] #[3] false)) := And.intro tyS222 (And.intro tyA222 (And.intro sp222 (And.intro zV222 (Tryz.underlying222))))
theorem tyS223 : tySize Tryz.prog 223 = some 1 := by kernel_rfl
theorem tyA223 : tyAgg Tryz.prog 223 = some false := by kernel_rfl
theorem sp223 : selfP Tryz.prog 223 = false := by kernel_rfl
theorem zV223 : zerosV Tryz.prog 223 = some [.exact Go.Value.nilFunc] := by kernel_rfl
theorem F223 : (tySize Tryz.prog 223 = some 1) ∧ (tyAgg Tryz.prog 223 = some false) ∧ (selfP Tryz.prog 223 = false) ∧ (zerosV Tryz.prog 223 = some [.exact Go.Value.nilFunc]) ∧ (Tryz.prog.underlying 223 = some (Go.TypeDesc.func #[41, 221] #[] false)) := And.intro tyS223 (And.intro tyA223 (And.intro sp223 (And.intro zV223 (Tryz.underlying223))))
theorem tyS224 : tySize Tryz.prog 224 = some 1 := by kernel_rfl
theorem tyA224 : tyAgg Tryz.prog 224 = some false := by kernel_rfl
theorem sp224 : selfP Tryz.prog 224 = false := by kernel_rfl
theorem F224 : (tySize Tryz.prog 224 = some 1) ∧ (tyAgg Tryz.prog 224 = some false) ∧ (selfP Tryz.prog 224 = false) ∧ (Tryz.prog.underlying 224 = some (Go.TypeDesc.tuple #[41, 9])) := And.intro tyS224 (And.intro tyA224 (And.intro sp224 (Tryz.underlying224)))
theorem tyS225 : tySize Tryz.prog 225 = some 1 := by kernel_rfl
theorem tyA225 : tyAgg Tryz.prog 225 = some false := by kernel_rfl
theorem sp225 : selfP Tryz.prog 225 = false := by kernel_rfl
theorem zV225 : zerosV Tryz.prog 225 = some [.exact Go.Value.nilFunc] := by kernel_rfl
theorem F225 : (tySize Tryz.prog 225 = some 1) ∧ (tyAgg Tryz.prog 225 = some false) ∧ (selfP Tryz.prog 225 = false) ∧ (zerosV Tryz.prog 225 = some [.exact Go.Value.nilFunc]) ∧ (Tryz.prog.underlying 225 = some (Go.TypeDesc.func #[41, 221, 3, 4, 4] #[41, 9] false)) := And.intro tyS225 (And.intro tyA225 (And.intro sp225 (And.intro zV225 (Tryz.underlying225))))
theorem tyS226 : tySize Tryz.prog 226 = some 256 := by kernel_rfl
theorem tyA226 : tyAgg Tryz.prog 226 = some true := by kernel_rfl
theorem iK226 : isKey Tryz.prog 226 = some (256, 5) := by kernel_rfl
theorem F226 : (tySize Tryz.prog 226 = some 256) ∧ (tyAgg Tryz.prog 226 = some true) ∧ (isKey Tryz.prog 226 = some (256, 5)) ∧ (Tryz.prog.underlying 226 = some (Go.TypeDesc.array 256 5)) := And.intro tyS226 (And.intro tyA226 (And.intro iK226 (Tryz.underlying226)))
theorem tyS227 : tySize Tryz.prog 227 = some 2 := by kernel_rfl
theorem tyA227 : tyAgg Tryz.prog 227 = some true := by kernel_rfl
theorem sp227 : selfP Tryz.prog 227 = false := by kernel_rfl
theorem zV227 : zerosV Tryz.prog 227 = some [.int .u8 0, .int .u8 0] := by kernel_rfl
theorem pl227 : places Tryz.prog 227 = some [(0, 1), (1, 1)] := by kernel_rfl
theorem fl227_0 : fld Tryz.prog 227 0 = some (0, 5) := by kernel_rfl
theorem fl227_1 : fld Tryz.prog 227 1 = some (1, 5) := by kernel_rfl
theorem F227 : (tySize Tryz.prog 227 = some 2) ∧ (tyAgg Tryz.prog 227 = some true) ∧ (selfP Tryz.prog 227 = false) ∧ (zerosV Tryz.prog 227 = some [.int .u8 0, .int .u8 0]) ∧ (places Tryz.prog 227 = some [(0, 1), (1, 1)]) ∧ (fld Tryz.prog 227 0 = some (0, 5)) ∧ (fld Tryz.prog 227 1 = some (1, 5)) ∧ (Tryz.prog.underlying 227 = some (Go.TypeDesc.struct #[{ name := "lo", type := 5, offset := 0, embedded := false, tag := "", pkgPath := "unicode/utf8", byteOffset := 0 }, { name := "hi", type := 5, offset := 1, embedded := false, tag := "", pkgPath := "unicode/utf8", byteOffset := 1 }])) := And.intro tyS227 (And.intro tyA227 (And.intro sp227 (And.intro zV227 (And.intro pl227 (And.intro fl227_0 (And.intro fl227_1 (Tryz.underlying227)))))))
theorem tyS228 : tySize Tryz.prog 228 = some 2 := by kernel_rfl
theorem tyA228 : tyAgg Tryz.prog 228 = some true := by kernel_rfl
theorem sp228 : selfP Tryz.prog 228 = false := by kernel_rfl
theorem zV228 : zerosV Tryz.prog 228 = some [.int .u8 0, .int .u8 0] := by kernel_rfl
theorem pl228 : places Tryz.prog 228 = some [(0, 1), (1, 1)] := by kernel_rfl
theorem fl228_0 : fld Tryz.prog 228 0 = some (0, 5) := by kernel_rfl
theorem fl228_1 : fld Tryz.prog 228 1 = some (1, 5) := by kernel_rfl
theorem F228 : (tySize Tryz.prog 228 = some 2) ∧ (tyAgg Tryz.prog 228 = some true) ∧ (selfP Tryz.prog 228 = false) ∧ (zerosV Tryz.prog 228 = some [.int .u8 0, .int .u8 0]) ∧ (places Tryz.prog 228 = some [(0, 1), (1, 1)]) ∧ (fld Tryz.prog 228 0 = some (0, 5)) ∧ (fld Tryz.prog 228 1 = some (1, 5)) ∧ (Tryz.prog.underlying 228 = some (Go.TypeDesc.struct #[{ name := "lo", type := 5, offset := 0, embedded := false, tag := "", pkgPath := "unicode/utf8", byteOffset := 0 }, { name := "hi", type := 5, offset := 1, embedded := false, tag := "", pkgPath := "unicode/utf8", byteOffset := 1 }])) := And.intro tyS228 (And.intro tyA228 (And.intro sp228 (And.intro zV228 (And.intro pl228 (And.intro fl228_0 (And.intro fl228_1 (Tryz.underlying228)))))))
theorem tyS229 : tySize Tryz.prog 229 = some 32 := by kernel_rfl
theorem tyA229 : tyAgg Tryz.prog 229 = some true := by kernel_rfl
theorem sp229 : selfP Tryz.prog 229 = false := by kernel_rfl
theorem zV229 : zerosV Tryz.prog 229 = some [.int .u8 0, .int .u8 0, .int .u8 0, .int .u8 0, .int .u8 0, .int .u8 0, .int .u8 0, .int .u8 0, .int .u8 0, .int .u8 0, .int .u8 0, .int .u8 0, .int .u8 0, .int .u8 0, .int .u8 0, .int .u8 0, .int .u8 0, .int .u8 0, .int .u8 0, .int .u8 0, .int .u8 0, .int .u8 0, .int .u8 0, .int .u8 0, .int .u8 0, .int .u8 0, .int .u8 0, .int .u8 0, .int .u8 0, .int .u8 0, .int .u8 0, .int .u8 0] := by kernel_rfl
theorem F229 : (tySize Tryz.prog 229 = some 32) ∧ (tyAgg Tryz.prog 229 = some true) ∧ (selfP Tryz.prog 229 = false) ∧ (zerosV Tryz.prog 229 = some [.int .u8 0, .int .u8 0, .int .u8 0, .int .u8 0, .int .u8 0, .int .u8 0, .int .u8 0, .int .u8 0, .int .u8 0, .int .u8 0, .int .u8 0, .int .u8 0, .int .u8 0, .int .u8 0, .int .u8 0, .int .u8 0, .int .u8 0, .int .u8 0, .int .u8 0, .int .u8 0, .int .u8 0, .int .u8 0, .int .u8 0, .int .u8 0, .int .u8 0, .int .u8 0, .int .u8 0, .int .u8 0, .int .u8 0, .int .u8 0, .int .u8 0, .int .u8 0]) ∧ (Tryz.prog.underlying 229 = some (Go.TypeDesc.array 16 228)) := And.intro tyS229 (And.intro tyA229 (And.intro sp229 (And.intro zV229 (Tryz.underlying229))))
theorem tyS230 : tySize Tryz.prog 230 = some 1 := by kernel_rfl
theorem tyA230 : tyAgg Tryz.prog 230 = some false := by kernel_rfl
theorem sp230 : selfP Tryz.prog 230 = false := by kernel_rfl
theorem zV230 : zerosV Tryz.prog 230 = some [.int .u32 0] := by kernel_rfl
theorem F230 : (tySize Tryz.prog 230 = some 1) ∧ (tyAgg Tryz.prog 230 = some false) ∧ (selfP Tryz.prog 230 = false) ∧ (zerosV Tryz.prog 230 = some [.int .u32 0]) ∧ (Tryz.prog.underlying 230 = some (Go.TypeDesc.int Go.IntKind.u32)) := And.intro tyS230 (And.intro tyA230 (And.intro sp230 (And.intro zV230 (Tryz.underlying230))))
theorem tyS231 : tySize Tryz.prog 231 = some 1 := by kernel_rfl
theorem tyA231 : tyAgg Tryz.prog 231 = some false := by kernel_rfl
theorem sp231 : selfP Tryz.prog 231 = false := by kernel_rfl
theorem F231 : (tySize Tryz.prog 231 = some 1) ∧ (tyAgg Tryz.prog 231 = some false) ∧ (selfP Tryz.prog 231 = false) ∧ (Tryz.prog.underlying 231 = some (Go.TypeDesc.tuple #[230, 230])) := And.intro tyS231 (And.intro tyA231 (And.intro sp231 (Tryz.underlying231)))
theorem tyS232 : tySize Tryz.prog 232 = some 1 := by kernel_rfl
theorem tyA232 : tyAgg Tryz.prog 232 = some false := by kernel_rfl
theorem sp232 : selfP Tryz.prog 232 = false := by kernel_rfl
theorem zV232 : zerosV Tryz.prog 232 = some [.exact Go.Value.nilFunc] := by kernel_rfl
theorem F232 : (tySize Tryz.prog 232 = some 1) ∧ (tyAgg Tryz.prog 232 = some false) ∧ (selfP Tryz.prog 232 = false) ∧ (zerosV Tryz.prog 232 = some [.exact Go.Value.nilFunc]) ∧ (Tryz.prog.underlying 232 = some (Go.TypeDesc.func #[9] #[230, 230] false)) := And.intro tyS232 (And.intro tyA232 (And.intro sp232 (And.intro zV232 (Tryz.underlying232))))
theorem tyS233 : tySize Tryz.prog 233 = some 1 := by kernel_rfl
theorem tyA233 : tyAgg Tryz.prog 233 = some false := by kernel_rfl
theorem sp233 : selfP Tryz.prog 233 = false := by kernel_rfl
theorem zV233 : zerosV Tryz.prog 233 = some [.int .i64 0] := by kernel_rfl
theorem F233 : (tySize Tryz.prog 233 = some 1) ∧ (tyAgg Tryz.prog 233 = some false) ∧ (selfP Tryz.prog 233 = false) ∧ (zerosV Tryz.prog 233 = some [.int .i64 0]) ∧ (Tryz.prog.underlying 233 = some (Go.TypeDesc.int Go.IntKind.i64)) := And.intro tyS233 (And.intro tyA233 (And.intro sp233 (And.intro zV233 (Tryz.underlying233))))
theorem tyS234 : tySize Tryz.prog 234 = some 1 := by kernel_rfl
theorem tyA234 : tyAgg Tryz.prog 234 = some false := by kernel_rfl
theorem sp234 : selfP Tryz.prog 234 = false := by kernel_rfl
theorem F234 : (tySize Tryz.prog 234 = some 1) ∧ (tyAgg Tryz.prog 234 = some false) ∧ (selfP Tryz.prog 234 = false) ∧ (Tryz.prog.underlying 234 = some (Go.TypeDesc.tuple #[2, 123])) := And.intro tyS234 (And.intro tyA234 (And.intro sp234 (Tryz.underlying234)))
theorem tyS235 : tySize Tryz.prog 235 = some 1 := by kernel_rfl
theorem tyA235 : tyAgg Tryz.prog 235 = some false := by kernel_rfl
theorem sp235 : selfP Tryz.prog 235 = false := by kernel_rfl
theorem zV235 : zerosV Tryz.prog 235 = some [.exact Go.Value.nilFunc] := by kernel_rfl
theorem F235 : (tySize Tryz.prog 235 = some 1) ∧ (tyAgg Tryz.prog 235 = some false) ∧ (selfP Tryz.prog 235 = false) ∧ (zerosV Tryz.prog 235 = some [.exact Go.Value.nilFunc]) ∧ (Tryz.prog.underlying 235 = some (Go.TypeDesc.func #[9, 3, 3] #[2, 123] false)) := And.intro tyS235 (And.intro tyA235 (And.intro sp235 (And.intro zV235 (Tryz.underlying235))))
theorem tyS236 : tySize Tryz.prog 236 = some 1 := by kernel_rfl
theorem tyA236 : tyAgg Tryz.prog 236 = some false := by kernel_rfl
theorem sp236 : selfP Tryz.prog 236 = false := by kernel_rfl
theorem zV236 : zerosV Tryz.prog 236 = some [.exact (Go.Value.pointer none)] := by kernel_rfl
theorem F236 : (tySize Tryz.prog 236 = some 1) ∧ (tyAgg Tryz.prog 236 = some false) ∧ (selfP Tryz.prog 236 = false) ∧ (zerosV Tryz.prog 236 = some [.exact (Go.Value.pointer none)]) ∧ (Tryz.prog.underlying 236 = some (Go.TypeDesc.pointer 246)) := And.intro tyS236 (And.intro tyA236 (And.intro sp236 (And.intro zV236 (Tryz.underlying236))))
theorem tyS237 : tySize Tryz.prog 237 = some 1 := by kernel_rfl
theorem tyA237 : tyAgg Tryz.prog 237 = some false := by kernel_rfl
theorem sp237 : selfP Tryz.prog 237 = false := by kernel_rfl
theorem zV237 : zerosV Tryz.prog 237 = some [.exact Go.Value.nilFunc] := by kernel_rfl
theorem F237 : (tySize Tryz.prog 237 = some 1) ∧ (tyAgg Tryz.prog 237 = some false) ∧ (selfP Tryz.prog 237 = false) ∧ (zerosV Tryz.prog 237 = some [.exact Go.Value.nilFunc]) ∧ (Tryz.prog.underlying 237 = some (Go.TypeDesc.func #[9, 9] #[236] false)) := And.intro tyS237 (And.intro tyA237 (And.intro sp237 (And.intro zV237 (Tryz.underlying237))))
theorem tyS238 : tySize Tryz.prog 238 = some 1 := by kernel_rfl
theorem tyA238 : tyAgg Tryz.prog 238 = some false := by kernel_rfl
theorem sp238 : selfP Tryz.prog 238 = false := by kernel_rfl
theorem zV238 : zerosV Tryz.prog 238 = some [.exact Go.Value.nilFunc] := by kernel_rfl
theorem F238 : (tySize Tryz.prog 238 = some 1) ∧ (tyAgg Tryz.prog 238 = some false) ∧ (selfP Tryz.prog 238 = false) ∧ (zerosV Tryz.prog 238 = some [.exact Go.Value.nilFunc]) ∧ (Tryz.prog.underlying 238 = some (Go.TypeDesc.func #[9, 9, 3] #[236] false)) := And.intro tyS238 (And.intro tyA238 (And.intro sp238 (And.intro zV238 (Tryz.underlying238))))
theorem tyS239 : tySize Tryz.prog 239 = some 20 := by kernel_rfl
theorem tyA239 : tyAgg Tryz.prog 239 = some true := by kernel_rfl
theorem sp239 : selfP Tryz.prog 239 = false := by kernel_rfl
theorem zV239 : zerosV Tryz.prog 239 = some [.int .u64 0, .int .u64 0, .int .u64 0, .int .u64 0, .int .u64 0, .int .u64 0, .int .u64 0, .int .u64 0, .int .u64 0, .int .u64 0, .int .u64 0, .int .u64 0, .int .u64 0, .int .u64 0, .int .u64 0, .int .u64 0, .int .u64 0, .int .u64 0, .int .u64 0, .int .u64 0] := by kernel_rfl
theorem F239 : (tySize Tryz.prog 239 = some 20) ∧ (tyAgg Tryz.prog 239 = some true) ∧ (selfP Tryz.prog 239 = false) ∧ (zerosV Tryz.prog 239 = some [.int .u64 0, .int .u64 0, .int .u64 0, .int .u64 0, .int .u64 0, .int .u64 0, .int .u64 0, .int .u64 0, .int .u64 0, .int .u64 0, .int .u64 0, .int .u64 0, .int .u64 0, .int .u64 0, .int .u64 0, .int .u64 0, .int .u64 0, .int .u64 0, .int .u64 0, .int .u64 0]) ∧ (Tryz.prog.underlying 239 = some (Go.TypeDesc.array 20 221)) := And.intro tyS239 (And.intro tyA239 (And.intro sp239 (And.intro zV239 (Tryz.underlying239))))
theorem tyS240 : tySize Tryz.prog 240 = some 65 := by kernel_rfl
theorem tyA240 : tyAgg Tryz.prog 240 = some true := by kernel_rfl
theorem iK240 : isKey Tryz.prog 240 = some (65, 5) := by kernel_rfl
theorem F240 : (tySize Tryz.prog 240 = some 65) ∧ (tyAgg Tryz.prog 240 = some true) ∧ (isKey Tryz.prog 240 = some (65, 5)) ∧ (Tryz.prog.underlying 240 = some (Go.TypeDesc.array 65 5)) := And.intro tyS240 (And.intro tyA240 (And.intro iK240 (Tryz.underlying240)))
theorem tyS241 : tySize Tryz.prog 241 = some 1 := by kernel_rfl
theorem tyA241 : tyAgg Tryz.prog 241 = some false := by kernel_rfl
theorem sp241 : selfP Tryz.prog 241 = false := by kernel_rfl
theorem zV241 : zerosV Tryz.prog 241 = some [.exact Go.Value.nilFunc] := by kernel_rfl
theorem F241 : (tySize Tryz.prog 241 = some 1) ∧ (tyAgg Tryz.prog 241 = some false) ∧ (selfP Tryz.prog 241 = false) ∧ (zerosV Tryz.prog 241 = some [.exact Go.Value.nilFunc]) ∧ (Tryz.prog.underlying 241 = some (Go.TypeDesc.func #[165] #[3] false)) := And.intro tyS241 (And.intro tyA241 (And.intro sp241 (And.intro zV241 (Tryz.underlying241))))
theorem tyS242 : tySize Tryz.prog 242 = some 1 := by kernel_rfl
theorem tyA242 : tyAgg Tryz.prog 242 = some false := by kernel_rfl
theorem sp242 : selfP Tryz.prog 242 = false := by kernel_rfl
theorem F242 : (tySize Tryz.prog 242 = some 1) ∧ (tyAgg Tryz.prog 242 = some false) ∧ (selfP Tryz.prog 242 = false) ∧ (Tryz.prog.underlying 242 = some (Go.TypeDesc.tuple #[221, 123])) := And.intro tyS242 (And.intro tyA242 (And.intro sp242 (Tryz.underlying242)))
theorem tyS243 : tySize Tryz.prog 243 = some 1 := by kernel_rfl
theorem tyA243 : tyAgg Tryz.prog 243 = some false := by kernel_rfl
theorem sp243 : selfP Tryz.prog 243 = false := by kernel_rfl
theorem zV243 : zerosV Tryz.prog 243 = some [.exact Go.Value.nilFunc] := by kernel_rfl
theorem F243 : (tySize Tryz.prog 243 = some 1) ∧ (tyAgg Tryz.prog 243 = some false) ∧ (selfP Tryz.prog 243 = false) ∧ (zerosV Tryz.prog 243 = some [.exact Go.Value.nilFunc]) ∧ (Tryz.prog.underlying 243 = some (Go.TypeDesc.func #[9, 3, 3] #[221, 123] false)) := And.intro tyS243 (And.intro tyA243 (And.intro sp243 (And.intro zV243 (Tryz.underlying243))))
theorem tyS244 : tySize Tryz.prog 244 = some 1 := by kernel_rfl
theorem tyA244 : tyAgg Tryz.prog 244 = some false := by kernel_rfl
theorem sp244 : selfP Tryz.prog 244 = false := by kernel_rfl
theorem zV244 : zerosV Tryz.prog 244 = some [.exact Go.Value.nilFunc] := by kernel_rfl
theorem F244 : (tySize Tryz.prog 244 = some 1) ∧ (tyAgg Tryz.prog 244 = some false) ∧ (selfP Tryz.prog 244 = false) ∧ (zerosV Tryz.prog 244 = some [.exact Go.Value.nilFunc]) ∧ (Tryz.prog.underlying 244 = some (Go.TypeDesc.func #[9] #[9] false)) := And.intro tyS244 (And.intro tyA244 (And.intro sp244 (And.intro zV244 (Tryz.underlying244))))
theorem tyS245 : tySize Tryz.prog 245 = some 3 := by kernel_rfl
theorem tyA245 : tyAgg Tryz.prog 245 = some true := by kernel_rfl
theorem sp245 : selfP Tryz.prog 245 = false := by kernel_rfl
theorem zV245 : zerosV Tryz.prog 245 = some [.str [], .str [], .exact Go.Value.nilIface] := by kernel_rfl
theorem pl245 : places Tryz.prog 245 = some [(0, 1), (1, 1), (2, 1)] := by kernel_rfl
theorem fl245_0 : fld Tryz.prog 245 0 = some (0, 9) := by kernel_rfl
theorem fl245_1 : fld Tryz.prog 245 1 = some (1, 9) := by kernel_rfl
theorem fl245_2 : fld Tryz.prog 245 2 = some (2, 123) := by kernel_rfl
theorem F245 : (tySize Tryz.prog 245 = some 3) ∧ (tyAgg Tryz.prog 245 = some true) ∧ (selfP Tryz.prog 245 = false) ∧ (zerosV Tryz.prog 245 = some [.str [], .str [], .exact Go.Value.nilIface]) ∧ (places Tryz.prog 245 = some [(0, 1), (1, 1), (2, 1)]) ∧ (fld Tryz.prog 245 0 = some (0, 9)) ∧ (fld Tryz.prog 245 1 = some (1, 9)) ∧ (fld Tryz.prog 245 2 = some (2, 123)) ∧ (Tryz.prog.underlying 245 = some (Go.TypeDesc.struct #[{ name := "Func", type := 9, offset := 0, embedded := false, tag := "", pkgPath := "", byteOffset := 0 }, { name := "Num", type := 9, offset := 1, embedded := false, tag := "", pkgPath := "", byteOffset := 16 }, { name := "Err", type := 123, offset := 2, embedded := false, tag := "", pkgPath := "", byteOffset := 32 }])) := And.intro tyS245 (And.intro tyA245 (And.intro sp245 (And.intro zV245 (And.intro pl245 (And.intro fl245_0 (And.intro fl245_1 (And.intro fl245_2 (Tryz.underlying245))))))))
theorem tyS246 : tySize Tryz.prog 246 = some 3 := by kernel_rfl
theorem tyA246 : tyAgg Tryz.prog 246 = some true := by kernel_rfl
theorem sp246 : selfP Tryz.prog 246 = false := by kernel_rfl
theorem zV246 : zerosV Tryz.prog 246 = some [.str [], .str [], .exact Go.Value.nilIface] := by kernel_rfl
theorem pl246 : places Tryz.prog 246 = some [(0, 1), (1, 1), (2, 1)] := by kernel_rfl
theorem fl246_0 : fld Tryz.prog 246 0 = some (0, 9) := by kernel_rfl
theorem fl246_1 : fld Tryz.prog 246 1 = some (1, 9) := by kernel_rfl
theorem fl246_2 : fld Tryz.prog 246 2 = some (2, 123) := by kernel_rfl
theorem F246 : (tySize Tryz.prog 246 = some 3) ∧ (tyAgg Tryz.prog 246 = some true) ∧ (selfP Tryz.prog 246 = false) ∧ (zerosV Tryz.prog 246 = some [.str [], .str [], .exact Go.Value.nilIface]) ∧ (places Tryz.prog 246 = some [(0, 1), (1, 1), (2, 1)]) ∧ (fld Tryz.prog 246 0 = some (0, 9)) ∧ (fld Tryz.prog 246 1 = some (1, 9)) ∧ (fld Tryz.prog 246 2 = some (2, 123)) ∧ (Tryz.prog.underlying 246 = some (Go.TypeDesc.struct #[{ name := "Func", type := 9, offset := 0, embedded := false, tag := "", pkgPath := "", byteOffset := 0 }, { name := "Num", type := 9, offset := 1, embedded := false, tag := "", pkgPath := "", byteOffset := 16 }, { name := "Err", type := 123, offset := 2, embedded := false, tag := "", pkgPath := "", byteOffset := 32 }])) := And.intro tyS246 (And.intro tyA246 (And.intro sp246 (And.intro zV246 (And.intro pl246 (And.intro fl246_0 (And.intro fl246_1 (And.intro fl246_2 (Tryz.underlying246))))))))
theorem tyS247 : tySize Tryz.prog 247 = some 1 := by kernel_rfl
theorem tyA247 : tyAgg Tryz.prog 247 = some false := by kernel_rfl
theorem sp247 : selfP Tryz.prog 247 = false := by kernel_rfl
theorem zV247 : zerosV Tryz.prog 247 = some [.exact Go.Value.nilFunc] := by kernel_rfl
theorem F247 : (tySize Tryz.prog 247 = some 1) ∧ (tyAgg Tryz.prog 247 = some false) ∧ (selfP Tryz.prog 247 = false) ∧ (zerosV Tryz.prog 247 = some [.exact Go.Value.nilFunc]) ∧ (Tryz.prog.underlying 247 = some (Go.TypeDesc.func #[9] #[123] false)) := And.intro tyS247 (And.intro tyA247 (And.intro sp247 (And.intro zV247 (Tryz.underlying247))))
theorem tyS248 : tySize Tryz.prog 248 = some 1 := by kernel_rfl
theorem tyA248 : tyAgg Tryz.prog 248 = some false := by kernel_rfl
theorem sp248 : selfP Tryz.prog 248 = false := by kernel_rfl
theorem zV248 : zerosV Tryz.prog 248 = some [.exact Go.Value.nilFunc] := by kernel_rfl
theorem F248 : (tySize Tryz.prog 248 = some 1) ∧ (tyAgg Tryz.prog 248 = some false) ∧ (selfP Tryz.prog 248 = false) ∧ (zerosV Tryz.prog 248 = some [.exact Go.Value.nilFunc]) ∧ (Tryz.prog.underlying 248 = some (Go.TypeDesc.func #[230] #[3] false)) := And.intro tyS248 (And.intro tyA248 (And.intro sp248 (And.intro zV248 (Tryz.underlying248))))
theorem tyS249 : tySize Tryz.prog 249 = some 1 := by kernel_rfl
theorem tyA249 : tyAgg Tryz.prog 249 = some false := by kernel_rfl
theorem sp249 : selfP Tryz.prog 249 = false := by kernel_rfl
theorem zV249 : zerosV Tryz.prog 249 = some [.exact Go.Value.nilFunc] := by kernel_rfl
theorem F249 : (tySize Tryz.prog 249 = some 1) ∧ (tyAgg Tryz.prog 249 = some false) ∧ (selfP Tryz.prog 249 = false) ∧ (zerosV Tryz.prog 249 = some [.exact Go.Value.nilFunc]) ∧ (Tryz.prog.underlying 249 = some (Go.TypeDesc.func #[5] #[5] false)) := And.intro tyS249 (And.intro tyA249 (And.intro sp249 (And.intro zV249 (Tryz.underlying249))))
theorem tyS250 : tySize Tryz.prog 250 = some 1 := by kernel_rfl
theorem tyA250 : tyAgg Tryz.prog 250 = some false := by kernel_rfl
theorem sp250 : selfP Tryz.prog 250 = false := by kernel_rfl
theorem zV250 : zerosV Tryz.prog 250 = some [.exact (Go.Value.pointer none)] := by kernel_rfl
theorem F250 : (tySize Tryz.prog 250 = some 1) ∧ (tyAgg Tryz.prog 250 = some false) ∧ (selfP Tryz.prog 250 = false) ∧ (zerosV Tryz.prog 250 = some [.exact (Go.Value.pointer none)]) ∧ (Tryz.prog.underlying 250 = some (Go.TypeDesc.pointer 252)) := And.intro tyS250 (And.intro tyA250 (And.intro sp250 (And.intro zV250 (Tryz.underlying250))))
theorem tyS251 : tySize Tryz.prog 251 = some 1 := by kernel_rfl
theorem tyA251 : tyAgg Tryz.prog 251 = some true := by kernel_rfl
theorem sp251 : selfP Tryz.prog 251 = false := by kernel_rfl
theorem zV251 : zerosV Tryz.prog 251 = some [.str []] := by kernel_rfl
theorem pl251 : places Tryz.prog 251 = some [(0, 1)] := by kernel_rfl
theorem fl251_0 : fld Tryz.prog 251 0 = some (0, 9) := by kernel_rfl
theorem F251 : (tySize Tryz.prog 251 = some 1) ∧ (tyAgg Tryz.prog 251 = some true) ∧ (selfP Tryz.prog 251 = false) ∧ (zerosV Tryz.prog 251 = some [.str []]) ∧ (places Tryz.prog 251 = some [(0, 1)]) ∧ (fld Tryz.prog 251 0 = some (0, 9)) ∧ (Tryz.prog.underlying 251 = some (Go.TypeDesc.struct #[{ name := "s", type := 9, offset := 0, embedded := false, tag := "", pkgPath := "errors", byteOffset := 0 }])) := And.intro tyS251 (And.intro tyA251 (And.intro sp251 (And.intro zV251 (And.intro pl251 (And.intro fl251_0 (Tryz.underlying251))))))
theorem tyS252 : tySize Tryz.prog 252 = some 1 := by kernel_rfl
theorem tyA252 : tyAgg Tryz.prog 252 = some true := by kernel_rfl
theorem sp252 : selfP Tryz.prog 252 = false := by kernel_rfl
theorem zV252 : zerosV Tryz.prog 252 = some [.str []] := by kernel_rfl
theorem pl252 : places Tryz.prog 252 = some [(0, 1)] := by kernel_rfl
theorem fl252_0 : fld Tryz.prog 252 0 = some (0, 9) := by kernel_rfl
theorem F252 : (tySize Tryz.prog 252 = some 1) ∧ (tyAgg Tryz.prog 252 = some true) ∧ (selfP Tryz.prog 252 = false) ∧ (zerosV Tryz.prog 252 = some [.str []]) ∧ (places Tryz.prog 252 = some [(0, 1)]) ∧ (fld Tryz.prog 252 0 = some (0, 9)) ∧ (Tryz.prog.underlying 252 = some (Go.TypeDesc.struct #[{ name := "s", type := 9, offset := 0, embedded := false, tag := "", pkgPath := "errors", byteOffset := 0 }])) := And.intro tyS252 (And.intro tyA252 (And.intro sp252 (And.intro zV252 (And.intro pl252 (And.intro fl252_0 (Tryz.underlying252))))))
theorem tyS253 : tySize Tryz.prog 253 = some 64 := by kernel_rfl
theorem tyA253 : tyAgg Tryz.prog 253 = some true := by kernel_rfl
theorem sp253 : selfP Tryz.prog 253 = false := by kernel_rfl
theorem zV253 : zerosV Tryz.prog 253 = some [.int .u8 0, .int .u8 0, .int .u8 0, .int .u8 0, .int .u8 0, .int .u8 0, .int .u8 0, .int .u8 0, .int .u8 0, .int .u8 0, .int .u8 0, .int .u8 0, .int .u8 0, .int .u8 0, .int .u8 0, .int .u8 0, .int .u8 0, .int .u8 0, .int .u8 0, .int .u8 0, .int .u8 0, .int .u8 0, .int .u8 0, .int .u8 0, .int .u8 0, .int .u8 0, .int .u8 0, .int .u8 0, .int .u8 0, .int .u8 0, .int .u8 0, .int .u8 0, .int .u8 0, .int .u8 0, .int .u8 0, .int .u8 0, .int .u8 0, .int .u8 0, .int .u8 0, .int .u8 0, .int .u8 0, .int .u8 0, .int .u8 0, .int .u8 0, .int .u8 0, .int .u8 0, .int .u8 0, .int .u8 0, .int .u8 0, .int .u8 0, .int .u8 0, .int .u8 0, .int .u8 0, .int .u8 0, .int .u8 0, .int .u8 0, .int .u8 0, .int .u8 0, .int .u8 0, .int .u8 0, .int .u8 0, .int .u8 0, .int .u8 0, .int .u8 0] := by kernel_rfl
theorem iK253 : isKey Tryz.prog 253 = some (64, 5) := by kernel_rfl
theorem F253 : (tySize Tryz.prog 253 = some 64) ∧ (tyAgg Tryz.prog 253 = some true) ∧ (selfP Tryz.prog 253 = false) ∧ (zerosV Tryz.prog 253 = some [.int .u8 0, .int .u8 0, .int .u8 0, .int .u8 0, .int .u8 0, .int .u8 0, .int .u8 0, .int .u8 0, .int .u8 0, .int .u8 0, .int .u8 0, .int .u8 0, .int .u8 0, .int .u8 0, .int .u8 0, .int .u8 0, .int .u8 0, .int .u8 0, .int .u8 0, .int .u8 0, .int .u8 0, .int .u8 0, .int .u8 0, .int .u8 0, .int .u8 0, .int .u8 0, .int .u8 0, .int .u8 0, .int .u8 0, .int .u8 0, .int .u8 0, .int .u8 0, .int .u8 0, .int .u8 0, .int .u8 0, .int .u8 0, .int .u8 0, .int .u8 0, .int .u8 0, .int .u8 0, .int .u8 0, .int .u8 0, .int .u8 0, .int .u8 0, .int .u8 0, .int .u8 0, .int .u8 0, .int .u8 0, .int .u8 0, .int .u8 0, .int .u8 0, .int .u8 0, .int .u8 0, .int .u8 0, .int .u8 0, .int .u8 0, .int .u8 0, .int .u8 0, .int .u8 0, .int .u8 0, .int .u8 0, .int .u8 0, .int .u8 0, .int .u8 0]) ∧ (isKey Tryz.prog 253 = some (64, 5)) ∧ (Tryz.prog.underlying 253 = some (Go.TypeDesc.array 64 5)) := And.intro tyS253 (And.intro tyA253 (And.intro sp253 (And.intro zV253 (And.intro iK253 (Tryz.underlying253)))))
theorem tyS254 : tySize Tryz.prog 254 = some 4 := by kernel_rfl
theorem tyA254 : tyAgg Tryz.prog 254 = some true := by kernel_rfl
theorem sp254 : selfP Tryz.prog 254 = false := by kernel_rfl
theorem zV254 : zerosV Tryz.prog 254 = some [.exact (Go.Value.pointer none), .exact (Go.Value.pointer none), .exact (Go.Value.pointer none), .str []] := by kernel_rfl
theorem pl254 : places Tryz.prog 254 = some [(0, 1), (1, 1), (2, 1), (3, 1)] := by kernel_rfl
theorem fl254_0 : fld Tryz.prog 254 0 = some (0, 17) := by kernel_rfl
theorem fl254_1 : fld Tryz.prog 254 1 = some (1, 17) := by kernel_rfl
theorem fl254_2 : fld Tryz.prog 254 2 = some (2, 17) := by kernel_rfl
theorem fl254_3 : fld Tryz.prog 254 3 = some (3, 9) := by kernel_rfl
theorem F254 : (tySize Tryz.prog 254 = some 4) ∧ (tyAgg Tryz.prog 254 = some true) ∧ (selfP Tryz.prog 254 = false) ∧ (zerosV Tryz.prog 254 = some [.exact (Go.Value.pointer none), .exact (Go.Value.pointer none), .exact (Go.Value.pointer none), .str []]) ∧ (places Tryz.prog 254 = some [(0, 1), (1, 1), (2, 1), (3, 1)]) ∧ (fld Tryz.prog 254 0 = some (0, 17)) ∧ (fld Tryz.prog 254 1 = some (1, 17)) ∧ (fld Tryz.prog 254 2 = some (2, 17)) ∧ (fld Tryz.prog 254 3 = some (3, 9)) := And.intro tyS254 (And.intro tyA254 (And.intro sp254 (And.intro zV254 (And.intro pl254 (And.intro fl254_0 (And.intro fl254_1 (And.intro fl254_2 (fl254_3))))))))
theorem tyS255 : tySize Tryz.prog 255 = some 4 := by kernel_rfl
theorem tyA255 : tyAgg Tryz.prog 255 = some true := by kernel_rfl
theorem sp255 : selfP Tryz.prog 255 = false := by kernel_rfl
theorem zV255 : zerosV Tryz.prog 255 = some [.exact (Go.Value.pointer none), .exact (Go.Value.pointer none), .exact (Go.Value.pointer none), .str []] := by kernel_rfl
theorem pl255 : places Tryz.prog 255 = some [(0, 1), (1, 1), (2, 1), (3, 1)] := by kernel_rfl
theorem fl255_0 : fld Tryz.prog 255 0 = some (0, 17) := by kernel_rfl
theorem fl255_1 : fld Tryz.prog 255 1 = some (1, 17) := by kernel_rfl
theorem fl255_2 : fld Tryz.prog 255 2 = some (2, 17) := by kernel_rfl
theorem fl255_3 : fld Tryz.prog 255 3 = some (3, 9) := by kernel_rfl
theorem F255 : (tySize Tryz.prog 255 = some 4) ∧ (tyAgg Tryz.prog 255 = some true) ∧ (selfP Tryz.prog 255 = false) ∧ (zerosV Tryz.prog 255 = some [.exact (Go.Value.pointer none), .exact (Go.Value.pointer none), .exact (Go.Value.pointer none), .str []]) ∧ (places Tryz.prog 255 = some [(0, 1), (1, 1), (2, 1), (3, 1)]) ∧ (fld Tryz.prog 255 0 = some (0, 17)) ∧ (fld Tryz.prog 255 1 = some (1, 17)) ∧ (fld Tryz.prog 255 2 = some (2, 17)) ∧ (fld Tryz.prog 255 3 = some (3, 9)) := And.intro tyS255 (And.intro tyA255 (And.intro sp255 (And.intro zV255 (And.intro pl255 (And.intro fl255_0 (And.intro fl255_1 (And.intro fl255_2 (fl255_3))))))))
theorem tyS256 : tySize Tryz.prog 256 = some 0 := by kernel_rfl
theorem tyA256 : tyAgg Tryz.prog 256 = some true := by kernel_rfl
theorem sp256 : selfP Tryz.prog 256 = false := by kernel_rfl
theorem zV256 : zerosV Tryz.prog 256 = some [] := by kernel_rfl
theorem F256 : (tySize Tryz.prog 256 = some 0) ∧ (tyAgg Tryz.prog 256 = some true) ∧ (selfP Tryz.prog 256 = false) ∧ (zerosV Tryz.prog 256 = some []) ∧ (Tryz.prog.underlying 256 = some (Go.TypeDesc.array 0 16)) := And.intro tyS256 (And.intro tyA256 (And.intro sp256 (And.intro zV256 (Tryz.underlying256))))
theorem tyS257 : tySize Tryz.prog 257 = some 0 := by kernel_rfl
theorem tyA257 : tyAgg Tryz.prog 257 = some true := by kernel_rfl
theorem sp257 : selfP Tryz.prog 257 = false := by kernel_rfl
theorem zV257 : zerosV Tryz.prog 257 = some [] := by kernel_rfl
theorem pl257 : places Tryz.prog 257 = some [(0, 0)] := by kernel_rfl
theorem fl257_0 : fld Tryz.prog 257 0 = some (0, 256) := by kernel_rfl
theorem F257 : (tySize Tryz.prog 257 = some 0) ∧ (tyAgg Tryz.prog 257 = some true) ∧ (selfP Tryz.prog 257 = false) ∧ (zerosV Tryz.prog 257 = some []) ∧ (places Tryz.prog 257 = some [(0, 0)]) ∧ (fld Tryz.prog 257 0 = some (0, 256)) ∧ (Tryz.prog.underlying 257 = some (Go.TypeDesc.struct #[{ name := "_", type := 256, offset := 0, embedded := false, tag := "", pkgPath := "runtime", byteOffset := 0 }])) := And.intro tyS257 (And.intro tyA257 (And.intro sp257 (And.intro zV257 (And.intro pl257 (And.intro fl257_0 (Tryz.underlying257))))))
theorem tyS258 : tySize Tryz.prog 258 = some 0 := by kernel_rfl
theorem tyA258 : tyAgg Tryz.prog 258 = some true := by kernel_rfl
theorem sp258 : selfP Tryz.prog 258 = false := by kernel_rfl
theorem zV258 : zerosV Tryz.prog 258 = some [] := by kernel_rfl
theorem pl258 : places Tryz.prog 258 = some [(0, 0)] := by kernel_rfl
theorem fl258_0 : fld Tryz.prog 258 0 = some (0, 256) := by kernel_rfl
theorem F258 : (tySize Tryz.prog 258 = some 0) ∧ (tyAgg Tryz.prog 258 = some true) ∧ (selfP Tryz.prog 258 = false) ∧ (zerosV Tryz.prog 258 = some []) ∧ (places Tryz.prog 258 = some [(0, 0)]) ∧ (fld Tryz.prog 258 0 = some (0, 256)) ∧ (Tryz.prog.underlying 258 = some (Go.TypeDesc.struct #[{ name := "_", type := 256, offset := 0, embedded := false, tag := "", pkgPath := "runtime", byteOffset := 0 }])) := And.intro tyS258 (And.intro tyA258 (And.intro sp258 (And.intro zV258 (And.intro pl258 (And.intro fl258_0 (Tryz.underlying258))))))
theorem tyS259 : tySize Tryz.prog 259 = some 1 := by kernel_rfl
theorem tyA259 : tyAgg Tryz.prog 259 = some false := by kernel_rfl
theorem sp259 : selfP Tryz.prog 259 = false := by kernel_rfl
theorem zV259 : zerosV Tryz.prog 259 = some [.exact Go.Value.nilFunc] := by kernel_rfl
theorem F259 : (tySize Tryz.prog 259 = some 1) ∧ (tyAgg Tryz.prog 259 = some false) ∧ (selfP Tryz.prog 259 = false) ∧ (zerosV Tryz.prog 259 = some [.exact Go.Value.nilFunc]) ∧ (Tryz.prog.underlying 259 = some (Go.TypeDesc.func #[] #[3] false)) := And.intro tyS259 (And.intro tyA259 (And.intro sp259 (And.intro zV259 (Tryz.underlying259))))
theorem tyS260 : tySize Tryz.prog 260 = some 1 := by kernel_rfl
theorem tyA260 : tyAgg Tryz.prog 260 = some false := by kernel_rfl
theorem sp260 : selfP Tryz.prog 260 = false := by kernel_rfl
theorem zV260 : zerosV Tryz.prog 260 = some [.int .u8 0] := by kernel_rfl
theorem F260 : (tySize Tryz.prog 260 = some 1) ∧ (tyAgg Tryz.prog 260 = some false) ∧ (selfP Tryz.prog 260 = false) ∧ (zerosV Tryz.prog 260 = some [.int .u8 0]) ∧ (Tryz.prog.underlying 260 = some (Go.TypeDesc.int Go.IntKind.u8)) := And.intro tyS260 (And.intro tyA260 (And.intro sp260 (And.intro zV260 (Tryz.underlying260))))
theorem tyS261 : tySize Tryz.prog 261 = some 1 := by kernel_rfl
theorem tyA261 : tyAgg Tryz.prog 261 = some false := by kernel_rfl
theorem sp261 : selfP Tryz.prog 261 = false := by kernel_rfl
theorem zV261 : zerosV Tryz.prog 261 = some [.int .u8 0] := by kernel_rfl
theorem F261 : (tySize Tryz.prog 261 = some 1) ∧ (tyAgg Tryz.prog 261 = some false) ∧ (selfP Tryz.prog 261 = false) ∧ (zerosV Tryz.prog 261 = some [.int .u8 0]) ∧ (Tryz.prog.underlying 261 = some (Go.TypeDesc.int Go.IntKind.u8)) := And.intro tyS261 (And.intro tyA261 (And.intro sp261 (And.intro zV261 (Tryz.underlying261))))
theorem tyS262 : tySize Tryz.prog 262 = some 1 := by kernel_rfl
theorem tyA262 : tyAgg Tryz.prog 262 = some false := by kernel_rfl
theorem sp262 : selfP Tryz.prog 262 = false := by kernel_rfl
theorem zV262 : zerosV Tryz.prog 262 = some [.exact Go.Value.nilFunc] := by kernel_rfl
theorem F262 : (tySize Tryz.prog 262 = some 1) ∧ (tyAgg Tryz.prog 262 = some false) ∧ (selfP Tryz.prog 262 = false) ∧ (zerosV Tryz.prog 262 = some [.exact Go.Value.nilFunc]) ∧ (Tryz.prog.underlying 262 = some (Go.TypeDesc.func #[202, 202] #[4] false)) := And.intro tyS262 (And.intro tyA262 (And.intro sp262 (And.intro zV262 (Tryz.underlying262))))
theorem tyS263 : tySize Tryz.prog 263 = some 1 := by kernel_rfl
theorem tyA263 : tyAgg Tryz.prog 263 = some false := by kernel_rfl
theorem sp263 : selfP Tryz.prog 263 = false := by kernel_rfl
theorem zV263 : zerosV Tryz.prog 263 = some [.int .i32 0] := by kernel_rfl
theorem F263 : (tySize Tryz.prog 263 = some 1) ∧ (tyAgg Tryz.prog 263 = some false) ∧ (selfP Tryz.prog 263 = false) ∧ (zerosV Tryz.prog 263 = some [.int .i32 0]) ∧ (Tryz.prog.underlying 263 = some (Go.TypeDesc.int Go.IntKind.i32)) := And.intro tyS263 (And.intro tyA263 (And.intro sp263 (And.intro zV263 (Tryz.underlying263))))
theorem tyS264 : tySize Tryz.prog 264 = some 1 := by kernel_rfl
theorem tyA264 : tyAgg Tryz.prog 264 = some false := by kernel_rfl
theorem sp264 : selfP Tryz.prog 264 = false := by kernel_rfl
theorem zV264 : zerosV Tryz.prog 264 = some [.int .i32 0] := by kernel_rfl
theorem F264 : (tySize Tryz.prog 264 = some 1) ∧ (tyAgg Tryz.prog 264 = some false) ∧ (selfP Tryz.prog 264 = false) ∧ (zerosV Tryz.prog 264 = some [.int .i32 0]) ∧ (Tryz.prog.underlying 264 = some (Go.TypeDesc.int Go.IntKind.i32)) := And.intro tyS264 (And.intro tyA264 (And.intro sp264 (And.intro zV264 (Tryz.underlying264))))
theorem tyS265 : tySize Tryz.prog 265 = some 11 := by kernel_rfl
theorem tyA265 : tyAgg Tryz.prog 265 = some true := by kernel_rfl
theorem sp265 : selfP Tryz.prog 265 = false := by kernel_rfl
theorem zV265 : zerosV Tryz.prog 265 = some [.int .u64 0, .int .u64 0, .int .u32 0, .int .u8 0, .int .u8 0, .int .u8 0, .int .u8 0, .exact Go.Value.nilFunc, .exact (Go.Value.pointer none), .int .i32 0, .int .i32 0] := by kernel_rfl
theorem pl265 : places Tryz.prog 265 = some [(0, 1), (1, 1), (2, 1), (3, 1), (4, 1), (5, 1), (6, 1), (7, 1), (8, 1), (9, 1), (10, 1)] := by kernel_rfl
theorem fl265_0 : fld Tryz.prog 265 0 = some (0, 12) := by kernel_rfl
theorem fl265_1 : fld Tryz.prog 265 1 = some (1, 12) := by kernel_rfl
theorem fl265_2 : fld Tryz.prog 265 2 = some (2, 230) := by kernel_rfl
theorem fl265_3 : fld Tryz.prog 265 3 = some (3, 260) := by kernel_rfl
theorem fl265_4 : fld Tryz.prog 265 4 = some (4, 5) := by kernel_rfl
theorem fl265_5 : fld Tryz.prog 265 5 = some (5, 5) := by kernel_rfl
theorem fl265_6 : fld Tryz.prog 265 6 = some (6, 261) := by kernel_rfl
theorem fl265_7 : fld Tryz.prog 265 7 = some (7, 262) := by kernel_rfl
theorem fl265_8 : fld Tryz.prog 265 8 = some (8, 168) := by kernel_rfl
theorem fl265_9 : fld Tryz.prog 265 9 = some (9, 263) := by kernel_rfl
theorem fl265_10 : fld Tryz.prog 265 10 = some (10, 264) := by kernel_rfl
theorem F265 : (tySize Tryz.prog 265 = some 11) ∧ (tyAgg Tryz.prog 265 = some true) ∧ (selfP Tryz.prog 265 = false) ∧ (zerosV Tryz.prog 265 = some [.int .u64 0, .int .u64 0, .int .u32 0, .int .u8 0, .int .u8 0, .int .u8 0, .int .u8 0, .exact Go.Value.nilFunc, .exact (Go.Value.pointer none), .int .i32 0, .int .i32 0]) ∧ (places Tryz.prog 265 = some [(0, 1), (1, 1), (2, 1), (3, 1), (4, 1), (5, 1), (6, 1), (7, 1), (8, 1), (9, 1), (10, 1)]) ∧ (fld Tryz.prog 265 0 = some (0, 12)) ∧ (fld Tryz.prog 265 1 = some (1, 12)) ∧ (fld Tryz.prog 265 2 = some (2, 230)) ∧ (fld Tryz.prog 265 3 = some (3, 260)) ∧ (fld Tryz.prog 265 4 = some (4, 5)) ∧ (fld Tryz.prog 265 5 = some (5, 5)) ∧ (fld Tryz.prog 265 6 = some (6, 261)) ∧ (fld Tryz.prog 265 7 = some (7, 262)) ∧ (fld Tryz.prog 265 8 = some (8, 168)) ∧ (fld Tryz.prog 265 9 = some (9, 263)) ∧ (fld Tryz.prog 265 10 = some (10, 264)) ∧ (Tryz.prog.underlying 265 = some (Go.TypeDesc.struct #[{ name := "Size_", type := 12, offset := 0, embedded := false, tag := "", pkgPath := "", byteOffset := 0 }, { name := "PtrBytes", type := 12, offset := 1, embedded := false, tag := "", pkgPath := "", byteOffset := 8 }, { name := "Hash", type := 230, offset := 2, embedded := false, tag := "", pkgPath := "", byteOffset := 16 }, { name := "TFlag", type := 260, offset := 3, embedded := false, tag := "", pkgPath := "", byteOffset := 20 }, { name := "Align_", type := 5, offset := 4, embedded := false, tag := "", pkgPath := "", byteOffset := 21 }, { name := "FieldAlign_", type := 5, offset := 5, embedded := false, tag := "", pkgPath := "", byteOffset := 22 }, { name := "Kind_", type := 261, offset := 6, embedded := false, tag := "", pkgPath := "", byteOffset := 23 }, { name := "Equal", type := 262, offset := 7, embedded := false, tag := "", pkgPath := "", byteOffset := 24 }, { name := "GCData", type := 168, offset := 8, embedded := false, tag := "", pkgPath := "", byteOffset := 32 }, { name := "Str", type := 263, offset := 9, embedded := false, tag := "", pkgPath := "", byteOffset := 40 }, { name := "PtrToThis", type := 264, offset := 10, embedded := false, tag := "", pkgPath := "", byteOffset := 44 }])) := And.intro tyS265 (And.intro tyA265 (And.intro sp265 (And.intro zV265 (And.intro pl265 (And.intro fl265_0 (And.intro fl265_1 (And.intro fl265_2 (And.intro fl265_3 (And.intro fl265_4 (And.intro fl265_5 (And.intro fl265_6 (And.intro fl265_7 (And.intro fl265_8 (And.intro fl265_9 (And.intro fl265_10 (Tryz.underlying265))))))))))))))))
theorem tyS266 : tySize Tryz.prog 266 = some 11 := by kernel_rfl
theorem tyA266 : tyAgg Tryz.prog 266 = some true := by kernel_rfl
theorem sp266 : selfP Tryz.prog 266 = false := by kernel_rfl
theorem zV266 : zerosV Tryz.prog 266 = some [.int .u64 0, .int .u64 0, .int .u32 0, .int .u8 0, .int .u8 0, .int .u8 0, .int .u8 0, .exact Go.Value.nilFunc, .exact (Go.Value.pointer none), .int .i32 0, .int .i32 0] := by kernel_rfl
theorem pl266 : places Tryz.prog 266 = some [(0, 1), (1, 1), (2, 1), (3, 1), (4, 1), (5, 1), (6, 1), (7, 1), (8, 1), (9, 1), (10, 1)] := by kernel_rfl
theorem fl266_0 : fld Tryz.prog 266 0 = some (0, 12) := by kernel_rfl
theorem fl266_1 : fld Tryz.prog 266 1 = some (1, 12) := by kernel_rfl
theorem fl266_2 : fld Tryz.prog 266 2 = some (2, 230) := by kernel_rfl
theorem fl266_3 : fld Tryz.prog 266 3 = some (3, 260) := by kernel_rfl
theorem fl266_4 : fld Tryz.prog 266 4 = some (4, 5) := by kernel_rfl
theorem fl266_5 : fld Tryz.prog 266 5 = some (5, 5) := by kernel_rfl
theorem fl266_6 : fld Tryz.prog 266 6 = some (6, 261) := by kernel_rfl
theorem fl266_7 : fld Tryz.prog 266 7 = some (7, 262) := by kernel_rfl
theorem fl266_8 : fld Tryz.prog 266 8 = some (8, 168) := by kernel_rfl
theorem fl266_9 : fld Tryz.prog 266 9 = some (9, 263) := by kernel_rfl
theorem fl266_10 : fld Tryz.prog 266 10 = some (10, 264) := by kernel_rfl
theorem F266 : (tySize Tryz.prog 266 = some 11) ∧ (tyAgg Tryz.prog 266 = some true) ∧ (selfP Tryz.prog 266 = false) ∧ (zerosV Tryz.prog 266 = some [.int .u64 0, .int .u64 0, .int .u32 0, .int .u8 0, .int .u8 0, .int .u8 0, .int .u8 0, .exact Go.Value.nilFunc, .exact (Go.Value.pointer none), .int .i32 0, .int .i32 0]) ∧ (places Tryz.prog 266 = some [(0, 1), (1, 1), (2, 1), (3, 1), (4, 1), (5, 1), (6, 1), (7, 1), (8, 1), (9, 1), (10, 1)]) ∧ (fld Tryz.prog 266 0 = some (0, 12)) ∧ (fld Tryz.prog 266 1 = some (1, 12)) ∧ (fld Tryz.prog 266 2 = some (2, 230)) ∧ (fld Tryz.prog 266 3 = some (3, 260)) ∧ (fld Tryz.prog 266 4 = some (4, 5)) ∧ (fld Tryz.prog 266 5 = some (5, 5)) ∧ (fld Tryz.prog 266 6 = some (6, 261)) ∧ (fld Tryz.prog 266 7 = some (7, 262)) ∧ (fld Tryz.prog 266 8 = some (8, 168)) ∧ (fld Tryz.prog 266 9 = some (9, 263)) ∧ (fld Tryz.prog 266 10 = some (10, 264)) ∧ (Tryz.prog.underlying 266 = some (Go.TypeDesc.struct #[{ name := "Size_", type := 12, offset := 0, embedded := false, tag := "", pkgPath := "", byteOffset := 0 }, { name := "PtrBytes", type := 12, offset := 1, embedded := false, tag := "", pkgPath := "", byteOffset := 8 }, { name := "Hash", type := 230, offset := 2, embedded := false, tag := "", pkgPath := "", byteOffset := 16 }, { name := "TFlag", type := 260, offset := 3, embedded := false, tag := "", pkgPath := "", byteOffset := 20 }, { name := "Align_", type := 5, offset := 4, embedded := false, tag := "", pkgPath := "", byteOffset := 21 }, { name := "FieldAlign_", type := 5, offset := 5, embedded := false, tag := "", pkgPath := "", byteOffset := 22 }, { name := "Kind_", type := 261, offset := 6, embedded := false, tag := "", pkgPath := "", byteOffset := 23 }, { name := "Equal", type := 262, offset := 7, embedded := false, tag := "", pkgPath := "", byteOffset := 24 }, { name := "GCData", type := 168, offset := 8, embedded := false, tag := "", pkgPath := "", byteOffset := 32 }, { name := "Str", type := 263, offset := 9, embedded := false, tag := "", pkgPath := "", byteOffset := 40 }, { name := "PtrToThis", type := 264, offset := 10, embedded := false, tag := "", pkgPath := "", byteOffset := 44 }])) := And.intro tyS266 (And.intro tyA266 (And.intro sp266 (And.intro zV266 (And.intro pl266 (And.intro fl266_0 (And.intro fl266_1 (And.intro fl266_2 (And.intro fl266_3 (And.intro fl266_4 (And.intro fl266_5 (And.intro fl266_6 (And.intro fl266_7 (And.intro fl266_8 (And.intro fl266_9 (And.intro fl266_10 (Tryz.underlying266))))))))))))))))
theorem eI23 : elemI Tryz.prog 23 = some (39, 37, 96) := by kernel_rfl
theorem eI32 : elemI Tryz.prog 32 = some (23, 1, 24) := by kernel_rfl
theorem eI33 : elemI Tryz.prog 33 = some (9, 1, 16) := by kernel_rfl
theorem eI41 : elemI Tryz.prog 41 = some (5, 1, 1) := by kernel_rfl
theorem eI42 : elemI Tryz.prog 42 = some (36, 32, 32) := by kernel_rfl
theorem eI51 : elemI Tryz.prog 51 = some (136, 1, 24) := by kernel_rfl
theorem eI62 : elemI Tryz.prog 62 = some (35, 4, 48) := by kernel_rfl
theorem eI76 : elemI Tryz.prog 76 = some (67, 3, 3) := by kernel_rfl
theorem eI78 : elemI Tryz.prog 78 = some (92, 4, 64) := by kernel_rfl
theorem eI89 : elemI Tryz.prog 89 = some (102, 1, 2) := by kernel_rfl
theorem eI94 : elemI Tryz.prog 94 = some (4, 1, 1) := by kernel_rfl
theorem eI136 : elemI Tryz.prog 136 = some (140, 5, 64) := by kernel_rfl
theorem eI177 : elemI Tryz.prog 177 = some (179, 2, 16) := by kernel_rfl
theorem eI208 : elemI Tryz.prog 208 = some (207, 1, 8) := by kernel_rfl
theorem eI210 : elemI Tryz.prog 210 = some (3, 1, 8) := by kernel_rfl
end Go.Proofs.YtdjjlbjagaadaaaGreatDoor.A
/- ver: digits, plain, sign, mark. -/
namespace Go.Proofs.YtdjjlbjagaadaaaGreatDoor.A
open Go Go.RowKit
set_option maxRecDepth 100000
set_option linter.unusedSimpArgs false
set_option linter.unusedVariables false

def GVaA179 := PLift.up <| And.intro F3 <| And.intro F5 <| F9
def GVaA187 := PLift.up <| And.intro F3 <| And.intro F5 <| F9
def GVaA190 := PLift.up <| F5
def GVaA164 := PLift.up <| And.intro F3 <| And.intro F5 <| F9
def dig (c : UInt8) : Bool := 48 ≤ c && c ≤ 57
def digits (s : List UInt8) : Bool := !s.isEmpty && s.all dig

theorem dig_ff (c : UInt8) : (decide ((c.toNat : Int) < 48) || decide (57 < (c.toNat : Int))) = !dig c := by
  unfold dig
  rw [Bool.eq_iff_iff]
  simp [UInt8.le_iff_toNat_le, UInt8.lt_iff_toNat_lt]
  omega
theorem take_all {p : UInt8 → Bool} {s : List UInt8} {k : Nat} (h : k < s.length) (hd : ∀ c ∈ s.take k, p c = true) (hk : p (s.getD k 0) = true) : ∀ c ∈ s.take (k + 1), p c = true := by
  intro c hc
  rw [List.take_succ_eq_append_getElem h] at hc
  rcases List.mem_append.1 hc with hc | hc
  · exact hd c hc
  · rw [List.mem_singleton.1 hc]
    simpa [List.getD_eq_getElem?_getD, List.getElem?_eq_getElem h] using hk
theorem digits_ok (s : List UInt8) (σ : List AE) (hs : s.length ≤ 9223372036854775806) : Gives Tryz.prog 179 [.str s] σ (.bool (digits s)) := by
  refine ent Tryz.func179 Tryz.ntmps179 Tryz.results179 ?_
  refine wlk GVaA179.down ?_
  refine AWP_loop (α := { k : Nat // k ≤ s.length ∧ ∀ c ∈ s.take k, dig c = true }) (fun k => [.str s, .junk, .bool false, .junk, .junk, .int .i64 s.length, .int .i64 (k.1 : Int), .junk, .junk, .junk, .junk, .junk, .junk, .junk, .junk, .junk, .junk, .junk, .junk, .junk, .junk, .junk]) (fun _ => σ) (fun k => s.length - k.1) ⟨0, by omega, by simp⟩ (.same ?_) (fun _ => Nat.le_refl _) ?_
  · exact lle
  · rintro ⟨k, hk, hd⟩
    refine wlk GVaA179.down ?_
    refine AWP_cond rfl (fun h => ?_) (fun h => ?_)
    · have hlt : k < s.length := by simpa using h
      refine wlk (And.intro hlt GVaA179.down) ?_
      refine AWP_cond rfl (fun h => ?_) (fun h => ?_)
      · rw [dig_ff] at h
        refine wlk GVaA179.down ?_
        refine rtr GVaA179.down ?_
        refine ⟨?_, rfl⟩
        have : digits s = false := by
          unfold digits
          have hm : s.all dig = false := by
            rw [List.all_eq_false]
            refine ⟨s.getD k 0, ?_, by simpa using h⟩
            rw [List.getD_eq_getElem?_getD, List.getElem?_eq_getElem hlt]
            exact List.getElem_mem _
          simp [hm]
        rw [this]
      · rw [dig_ff] at h
        refine wlk GVaA179.down ?_
        refine ⟨⟨k + 1, by omega, take_all hlt hd (by simpa using h)⟩, by simp; omega, .same ?_⟩
        rw [wrap_in (by omega) (by omega)]
        exact lle
    · refine wlk GVaA179.down ?_
      refine rtr GVaA179.down ?_
      refine ⟨?_, rfl⟩
      have hk' : k = s.length := by have : ¬ k < s.length := by simpa using h
                                    omega
      subst hk'
      have : digits s = !(s == []) := by
        unfold digits
        rw [List.take_length] at hd
        have hm : s.all dig = true := List.all_eq_true.2 hd
        rw [hm]
        cases s <;> rfl
      rw [this]

/-! ### plain, sign, mark -/
def plain (s : List UInt8) : Bool := s.length == 1 || s.getD 0 0 != 48
theorem beqN (a b : Nat) : ((a : Int) == (b : Int)) = (a == b) := by rw [Bool.eq_iff_iff]; simp; omega
theorem bneN (a b : Nat) : ((a : Int) != (b : Int)) = (a != b) := by rw [Bool.eq_iff_iff]; simp; omega
theorem u8beq (c d : UInt8) : (c.toNat == d.toNat) = (c == d) := by rw [Bool.eq_iff_iff]; simp [UInt8.toNat_inj]
theorem u8ble (c d : UInt8) : decide ((c.toNat : Int) ≤ (d.toNat : Int)) = decide (c ≤ d) := by simp [UInt8.le_iff_toNat_le]
theorem plain_ok (s : List UInt8) (σ : List AE) (hs : 0 < s.length) : Gives Tryz.prog 187 [.str s] σ (.bool (plain s)) := by
  refine ent Tryz.func187 Tryz.ntmps187 Tryz.results187 ?_
  refine wlk (And.intro hs (And.intro @indexV.eq_def GVaA187.down)) ?_
  refine rtr GVaA187.down ?_
  refine ⟨?_, rfl⟩
  congr 2
  unfold plain
  rw [Bool.eq_iff_iff]
  simp [← UInt8.toNat_inj]
  omega
def sgn (c : UInt8) : Bool := dig c || (97 ≤ c && c ≤ 122) || (65 ≤ c && c ≤ 90) || c == 45
theorem sgn_eq (c : UInt8) : sgn c = (((decide (48 ≤ (c.toNat : Int)) && decide ((c.toNat : Int) ≤ 57)) || (decide (97 ≤ (c.toNat : Int)) && decide ((c.toNat : Int) ≤ 122))) || (decide (65 ≤ (c.toNat : Int)) && decide ((c.toNat : Int) ≤ 90)) || ((c.toNat : Int) == 45)) := by
  unfold sgn dig
  rw [Bool.eq_iff_iff]
  simp [UInt8.le_iff_toNat_le, ← UInt8.toNat_inj]
  omega
theorem sign_ok (c : UInt8) (σ : List AE) : Gives Tryz.prog 190 [.int .u8 (c.toNat : Int)] σ (.bool (sgn c)) := by
  refine ent Tryz.func190 Tryz.ntmps190 Tryz.results190 ?_
  refine wlk GVaA190.down ?_
  refine AWP_cond rfl (fun h => ?_) (fun h => ?_)
  · refine wlk GVaA190.down ?_
    refine rtr GVaA190.down ?_
    refine ⟨?_, rfl⟩
    rw [sgn_eq, h]
    rfl
  · have h1 := h
    refine wlk GVaA190.down ?_
    refine AWP_cond rfl (fun h => ?_) (fun h => ?_)
    · refine wlk GVaA190.down ?_
      refine rtr GVaA190.down ?_
      refine ⟨?_, rfl⟩
      rw [sgn_eq, h1, h]
      rfl
    · have h2 := h
      refine wlk GVaA190.down ?_
      refine AWP_cond rfl (fun h => ?_) (fun h => ?_)
      · refine wlk GVaA190.down ?_
        refine rtr GVaA190.down ?_
        refine ⟨?_, rfl⟩
        rw [sgn_eq, h1, h2, h]
        rfl
      · refine wlk GVaA190.down ?_
        refine rtr GVaA190.down ?_
        refine ⟨?_, rfl⟩
        rw [sgn_eq, h1, h2, h]
        rfl
def mark (s : List UInt8) : Bool := !s.isEmpty && decide (s.length ≤ 16) && (!digits s || plain s) && s.all sgn
theorem digits_pos {s : List UInt8} (h : digits s = true) : 0 < s.length := by
  cases s with
  | nil => simp [digits] at h
  | cons _ _ => simp
theorem all_of_take {p : UInt8 → Bool} {s : List UInt8} {k : Nat} (hk : s.length ≤ k) (h : ∀ c ∈ s.take k, p c = true) : s.all p = true := by
  rw [List.take_of_length_le hk] at h
  exact List.all_eq_true.2 h
theorem not_all {p : UInt8 → Bool} {s : List UInt8} {k : Nat} (hk : k < s.length) (h : p (s.getD k 0) = false) : s.all p = false := by
  rw [List.all_eq_false]
  refine ⟨s.getD k 0, ?_, by rw [h]; simp⟩
  rw [List.getD_eq_getElem?_getD, List.getElem?_eq_getElem hk]
  exact List.getElem_mem _
theorem mark_ok (s : List UInt8) (σ : List AE) (hs : s.length ≤ 9223372036854775806) : Gives Tryz.prog 164 [.str s] σ (.bool (mark s)) := by
  refine ent Tryz.func164 Tryz.ntmps164 Tryz.results164 ?_
  refine wlk GVaA164.down ?_
  refine cll (digits_ok s σ hs) ?_
  refine wlk GVaA164.down ?_
  first
    | refine AOps_callU (plain_ok s σ (digits_pos (by simp_all))) rfl rfl rfl rfl (by first | rfl | (simp only [gv, ung, cv, SL]; done) | (simp only [gv, ung, cv, SL]; exact rfl)) ?_
    | refine AOps_callG rfl (fun hg => plain_ok s σ (digits_pos (by simp_all))) rfl rfl rfl (by first | rfl | (simp only [gv, ung, cv, SL]; done) | (simp only [gv, ung, cv, SL]; exact rfl)) ?_
    | refine LexA_callU (plain_ok s σ (digits_pos (by simp_all))) rfl rfl rfl rfl (by first | rfl | (simp only [gv, ung, cv, SL]; done) | (simp only [gv, ung, cv, SL]; exact rfl)) ?_
    | refine LexA_callG rfl (fun hg => plain_ok s σ (digits_pos (by simp_all))) rfl rfl rfl (by first | rfl | (simp only [gv, ung, cv, SL]; done) | (simp only [gv, ung, cv, SL]; exact rfl)) ?_
  simp only [pt, SL]
  refine wlk GVaA164.down ?_
  refine AWP_cond rfl (fun h => ?_) (fun h => ?_)
  · refine wlk GVaA164.down ?_
    refine rtr GVaA164.down ?_
    refine ⟨?_, rfl⟩
    congr 2
    have : (s == []) = s.isEmpty := by cases s <;> rfl
    rw [this] at h
    unfold mark
    cases h1 : s.isEmpty <;> cases h2 : digits s <;> cases h3 : plain s <;> simp_all <;> omega
  · refine wlk GVaA164.down ?_
    have h0 : s.isEmpty = false ∧ s.length ≤ 16 ∧ (!digits s || plain s) = true := by
      have : (s == []) = s.isEmpty := by cases s <;> rfl
      rw [this] at h
      cases h1 : s.isEmpty <;> cases h2 : digits s <;> cases h3 : plain s <;> simp_all <;> omega
    refine AWP_loop (α := { k : Nat // k ≤ s.length ∧ ∀ c ∈ s.take k, sgn c = true }) (fun k => [.str s, .junk, .bool false, .junk, .junk, .junk, .junk, .junk, .junk, .junk, .junk, .junk, .junk, .junk, .junk, .junk, .junk, .junk, .junk, .junk, .junk, .int .i64 s.length, .int .i64 (k.1 : Int), .junk, .junk, .junk, .junk, .junk, .junk, .junk, .junk]) (fun _ => σ) (fun k => s.length - k.1) ⟨0, by omega, by simp⟩ (.same ?_) (fun _ => Nat.le_refl _) ?_
    · exact lle
    · rintro ⟨k, hk, hd⟩
      refine wlk GVaA164.down ?_
      refine AWP_cond rfl (fun h => ?_) (fun h => ?_)
      · have hlt : k < s.length := by simpa using h
        refine wlk (And.intro hlt GVaA164.down) ?_
        refine cll (sign_ok _ σ) ?_
        refine wlk GVaA164.down ?_
        refine AWP_cond rfl (fun h => ?_) (fun h => ?_)
        · refine wlk GVaA164.down ?_
          refine rtr GVaA164.down ?_
          refine ⟨?_, rfl⟩
          have : s.all sgn = false := not_all hlt (by simpa using h)
          simp [mark, this]
        · refine wlk GVaA164.down ?_
          refine ⟨⟨k + 1, by omega, take_all hlt hd (by simpa using h)⟩, by simp; omega, .same ?_⟩
          rw [wrap_in (by omega) (by omega)]
          exact lle
      · refine wlk GVaA164.down ?_
        refine rtr GVaA164.down ?_
        refine ⟨?_, rfl⟩
        have : s.all sgn = true := all_of_take (by have : ¬ k < s.length := by simpa using h
                                                   omega) hd
        simp [mark, this, h0]
end Go.Proofs.YtdjjlbjagaadaaaGreatDoor.A
