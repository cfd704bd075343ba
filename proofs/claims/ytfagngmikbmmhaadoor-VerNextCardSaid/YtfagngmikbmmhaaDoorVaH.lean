/- Telling and ordering: Text, VersionText, Dec, Cmp of both. -/
import Derived.Test.YtfagngmikbmmhaaDoorVaG
namespace Go.Proofs.YtfagngmikbmmhaaDoor.A
open Go Go.RowKit
set_option maxRecDepth 100000
set_option linter.unusedSimpArgs false
set_option linter.unusedVariables false

def dec (n : Int) : List UInt8 := Lib.itoa (max n 0)
theorem dec_small {n : Int} (h : n < 10) : dec n = [UInt8.ofNat (48 + (max n 0).toNat)] := by
  have h1 : ¬ max n 0 < 0 := by omega
  have h2 : (max n 0).toNat < 10 := by omega
  rw [dec, Lib.itoa, if_neg h1, Lib.decDigits, dif_pos h2]
theorem dec_big {n : Int} (h : ¬ n < 10) : dec n = dec (n / 10) ++ [UInt8.ofNat (48 + (n % 10).toNat)] := by
  have h1 : ¬ max n 0 < 0 := by omega
  have h2 : ¬ max (n / 10) 0 < 0 := by omega
  have h3 : ¬ (max n 0).toNat < 10 := by omega
  rw [dec, Lib.itoa, if_neg h1, Lib.decDigits, dif_neg h3, dec, Lib.itoa, if_neg h2]
  have e1 : (max n 0).toNat / 10 = (max (n / 10) 0).toNat := by omega
  have e2 : (max n 0).toNat % 10 = (n % 10).toNat := by omega
  rw [e1, e2]
theorem dec_len : ∀ (k : Nat) (n : Int), n < 10 ^ (k + 1) → (dec n).length ≤ k + 1
  | 0, n, h => by rw [dec_small (by simpa using h)]; simp
  | k + 1, n, h => by
    by_cases h1 : n < 10
    · rw [dec_small h1]; simp
    · rw [dec_big h1]
      have := dec_len k (n / 10) (by
        rw [Int.pow_succ] at h
        omega)
      simp; omega
theorem tenth : ∀ m : Nat, m < 10 → (48 :: ([49, 50, 51, 52, 53, 54, 55, 56, 57] : List UInt8).take m).drop m = [UInt8.ofNat (48 + m)] := by decide
theorem rdec_small (n : Int) (σ : List AE) (hn : n < 10) : Gives Tryd.prog 23 [.int .i64 n] σ (.str (dec n)) := by
  refine ACalls_body Tryd.func23 rfl rfl ?_
  simp only [Tryd.ntmps23, Tryd.results23, List.length_cons, List.length_nil, Nat.reduceAdd, Nat.reduceSub, List.replicate_succ, List.replicate_zero, List.cons_append, List.nil_append, List.toList_toArray]
  obtain ⟨m, hm, hm10⟩ : ∃ m : Nat, max n 0 = m ∧ m < 10 := ⟨(max n 0).toNat, by omega, by omega⟩
  have e0 : (if (0 : Int) > n then 0 else n) = (m : Int) := by split <;> omega
  have hw := wrap_in (n := (m : Int) + 1) (by omega) (by omega)
  have h1 : (m : Int) ≤ (m : Int) + 1 := by omega
  have h2 : (m : Int) + 1 ≤ 10 := by omega
  have h3 : ((m : Int) + 1).toNat = m + 1 := by omega
  have h4 : (0 : Int) ≤ (m : Int) + 1 := by omega
  have hn' : decide (n < 10) = true := by simpa using hn
  repeat first
    | (with_reducible first
        | refine AWP_seq ?_ | refine then_n ?_ | refine then_r ?_ | refine then_x ?_ | refine AWP_block ?_ | refine blk_n ?_ | refine blk_r ?_ | refine blk_x ?_ | refine blk_y rfl ?_ | refine AWP_skip ?_
        | refine AWP_ret ?_ | refine AWP_exit ?_ | refine AWP_true rfl ?_ | refine AWP_false rfl ?_ | refine AOps_nil ?_ | refine LexA_nil ?_ | refine AWP_region ?_ | refine AWP_draw mixed_ok (by kernel_rfl) ?_)
    | ((first
        | refine AOps_pre rfl (by simp only [postL, isCallV, SL]; exact rfl) fun K2 hK2 => ?_
        | refine LexA_pre rfl rfl (by simp only [postL, isCallV, SL]; exact rfl) fun K2 hK2 => ?_)
       simp (disch := omega) only [SL, evalOps, evalOp, evalG, isPure, gdB, ung, pickG, gv, pt, cv, retV, biV, lenV, boT, bo, intBo, strBo, boolBo, isSh, uo, pickV, nilV, extV, ixOf, mkfV, mmV, mm, preL, postL, isCallV, boxS, cellsV, allocS, storeS, loadV, readT, ptrCells, ofs, fieldAddrV, fieldV, wr, buildV, fillA, buildSliceV, chunks, tagCut, indexV, indexAddrV, sliceV, sliceStr, sliceSl, bnd, if_true, if_false, ite_true, ite_false, and_self, and_true, true_and, beq_self_eq_true, nn, nc0, nc1, nc2, nc3, nc4, nc8, nc10, nc32, Int.toNat_natCast, eq_self, decide_true, decide_false, reduceIte, Nat.reduceAdd, Nat.reduceMul, Nat.reduceSub, Nat.reduceLeDiff, Nat.reduceLT, Nat.reduceEqDiff, Nat.reduceMod, Int.reduceBEq, Int.reduceBNe, Int.reduceNeg, Int.reduceNegSucc, Int.reduceLT, Int.reduceLE, Int.reduceToNat, F3, F9, hn', if_pos]
       refine ⟨_, _, rfl, ?_⟩
       refine hK2 _ _ ?_
       clear hK2 K2)
  · repeat first
      | (with_reducible first
          | refine AWP_seq ?_ | refine then_n ?_ | refine then_r ?_ | refine then_x ?_ | refine AWP_block ?_ | refine blk_n ?_ | refine blk_r ?_ | refine blk_x ?_ | refine blk_y rfl ?_ | refine AWP_skip ?_
          | refine AWP_ret ?_ | refine AWP_exit ?_ | refine AWP_true rfl ?_ | refine AWP_false rfl ?_ | refine AOps_nil ?_ | refine LexA_nil ?_ | refine AWP_region ?_ | refine AWP_draw mixed_ok (by kernel_rfl) ?_)
      | ((first
          | refine AOps_pre rfl (by simp only [postL, isCallV, SL]; exact rfl) fun K2 hK2 => ?_
          | refine LexA_pre rfl rfl (by simp only [postL, isCallV, SL]; exact rfl) fun K2 hK2 => ?_)
         simp (disch := omega) only [SL, evalOps, evalOp, evalG, isPure, gdB, ung, pickG, gv, pt, cv, retV, biV, lenV, boT, bo, intBo, strBo, boolBo, isSh, uo, pickV, nilV, extV, ixOf, mkfV, mmV, mm, preL, postL, isCallV, boxS, cellsV, allocS, storeS, loadV, readT, ptrCells, ofs, fieldAddrV, fieldV, wr, buildV, fillA, buildSliceV, chunks, tagCut, indexV, indexAddrV, sliceV, sliceStr, sliceSl, bnd, if_true, if_false, ite_true, ite_false, and_self, and_true, true_and, beq_self_eq_true, nn, nc0, nc1, nc2, nc3, nc4, nc8, nc10, nc32, Int.toNat_natCast, eq_self, decide_true, decide_false, reduceIte, Nat.reduceAdd, Nat.reduceMul, Nat.reduceSub, Nat.reduceLeDiff, Nat.reduceLT, Nat.reduceEqDiff, Nat.reduceMod, Int.reduceBEq, Int.reduceBNe, Int.reduceNeg, Int.reduceNegSucc, Int.reduceLT, Int.reduceLE, Int.reduceToNat, F3, F9, e0, hw, h1, h2, h3, h4, if_pos]
         refine ⟨_, _, rfl, ?_⟩
         refine hK2 _ _ ?_
         clear hK2 K2)
    refine body_r (by simp only [resA, ptrCells, readT, if_true, SL, Nat.reduceAdd, Nat.reduceLeDiff, F3, F9]; exact rfl) ?_
    dsimp only [outV]
    refine ⟨?_, rfl⟩
    rw [tenth m hm10, dec_small hn]
    congr 4
    omega
theorem rdec_ok (σ : List AE) : ∀ (k : Nat) (n : Int), n < 10 ^ (k + 1) → -9223372036854775808 ≤ n → n ≤ 9223372036854775807 → k ≤ 30 → Gives Tryd.prog 23 [.int .i64 n] σ (.str (dec n)) := by
  intro k
  induction k with
  | zero => intro n hn _ _ _; exact rdec_small n σ (by simpa using hn)
  | succ k ih =>
    intro n hn h0 h1 hk
    by_cases hs : n < 10
    · exact rdec_small n σ hs
    refine ACalls_body Tryd.func23 rfl rfl ?_
    simp only [Tryd.ntmps23, Tryd.results23, List.length_cons, List.length_nil, Nat.reduceAdd, Nat.reduceSub, List.replicate_succ, List.replicate_zero, List.cons_append, List.nil_append, List.toList_toArray]
    have hs' : decide (n < 10) = false := by simpa using hs
    have q1 : n.tdiv 10 = n / 10 := by rw [Int.tdiv_eq_ediv_of_nonneg (by omega)]
    have q2 : n.tmod 10 = n % 10 := by rw [Int.tmod_eq_emod_of_nonneg (by omega)]
    have q3 : IntKind.i64.wrap (n / 10) = n / 10 := wrap_in (by omega) (by omega)
    have q4 : IntKind.i64.wrap (n % 10 + 1) = n % 10 + 1 := wrap_in (by omega) (by omega)
    have h10 : (10 : Int) ≠ 0 := by omega
    obtain ⟨m, hm, hm10⟩ : ∃ m : Nat, n % 10 = m ∧ m < 10 := ⟨(n % 10).toNat, by omega, by omega⟩
    have a1 : (m : Int) ≤ (m : Int) + 1 := by omega
    have a2 : (m : Int) + 1 ≤ 10 := by omega
    have a3 : ((m : Int) + 1).toNat = m + 1 := by omega
    have a4 : (0 : Int) ≤ (m : Int) + 1 := by omega
    have hlt : n / 10 < 10 ^ (k + 1) := by
      rw [Int.pow_succ] at hn
      omega
    have hlen := dec_len k (n / 10) hlt
    have a5 : (dec (n / 10)).length + 1 ≤ 9223372036854775807 := by omega
    rw [hm] at q4
    repeat first
      | (with_reducible first
          | refine AWP_seq ?_ | refine then_n ?_ | refine then_r ?_ | refine then_x ?_ | refine AWP_block ?_ | refine blk_n ?_ | refine blk_r ?_ | refine blk_x ?_ | refine blk_y rfl ?_ | refine AWP_skip ?_
          | refine AWP_ret ?_ | refine AWP_exit ?_ | refine AWP_true rfl ?_ | refine AWP_false rfl ?_ | refine AOps_nil ?_ | refine LexA_nil ?_ | refine AWP_region ?_ | refine AWP_draw mixed_ok (by kernel_rfl) ?_)
      | ((first
          | refine AOps_pre rfl (by simp only [postL, isCallV, SL]; exact rfl) fun K2 hK2 => ?_
          | refine LexA_pre rfl rfl (by simp only [postL, isCallV, SL]; exact rfl) fun K2 hK2 => ?_)
         simp (disch := omega) only [SL, evalOps, evalOp, evalG, isPure, gdB, ung, pickG, gv, pt, cv, retV, biV, lenV, boT, bo, intBo, strBo, boolBo, isSh, uo, pickV, nilV, extV, ixOf, mkfV, mmV, mm, preL, postL, isCallV, boxS, cellsV, allocS, storeS, loadV, readT, ptrCells, ofs, fieldAddrV, fieldV, wr, buildV, fillA, buildSliceV, chunks, tagCut, indexV, indexAddrV, sliceV, sliceStr, sliceSl, bnd, if_true, if_false, ite_true, ite_false, and_self, and_true, true_and, beq_self_eq_true, nn, nc0, nc1, nc2, nc3, nc4, nc8, nc10, nc32, Int.toNat_natCast, eq_self, decide_true, decide_false, reduceIte, Nat.reduceAdd, Nat.reduceMul, Nat.reduceSub, Nat.reduceLeDiff, Nat.reduceLT, Nat.reduceEqDiff, Nat.reduceMod, Int.reduceBEq, Int.reduceBNe, Int.reduceNeg, Int.reduceNegSucc, Int.reduceLT, Int.reduceLE, Int.reduceToNat, F3, F9, hs', q1, q2, q3, hm, q4, a1, a2, a3, a4, h10, if_pos]
         refine ⟨_, _, rfl, ?_⟩
         refine hK2 _ _ ?_
         clear hK2 K2)
    first
      | refine AOps_callU (ih (n / 10) hlt (by omega) (by omega) (by omega)) rfl rfl rfl rfl (by first | rfl | (simp only [gv, ung, cv, SL]; done) | (simp only [gv, ung, cv, SL]; exact rfl)) ?_
      | refine AOps_callG rfl (fun hg => ih (n / 10) hlt (by omega) (by omega) (by omega)) rfl rfl rfl (by first | rfl | (simp only [gv, ung, cv, SL]; done) | (simp only [gv, ung, cv, SL]; exact rfl)) ?_
      | refine LexA_callU (ih (n / 10) hlt (by omega) (by omega) (by omega)) rfl rfl rfl rfl (by first | rfl | (simp only [gv, ung, cv, SL]; done) | (simp only [gv, ung, cv, SL]; exact rfl)) ?_
      | refine LexA_callG rfl (fun hg => ih (n / 10) hlt (by omega) (by omega) (by omega)) rfl rfl rfl (by first | rfl | (simp only [gv, ung, cv, SL]; done) | (simp only [gv, ung, cv, SL]; exact rfl)) ?_
    simp only [pt, SL]
    repeat first
      | (with_reducible first
          | refine AWP_seq ?_ | refine then_n ?_ | refine then_r ?_ | refine then_x ?_ | refine AWP_block ?_ | refine blk_n ?_ | refine blk_r ?_ | refine blk_x ?_ | refine blk_y rfl ?_ | refine AWP_skip ?_
          | refine AWP_ret ?_ | refine AWP_exit ?_ | refine AWP_true rfl ?_ | refine AWP_false rfl ?_ | refine AOps_nil ?_ | refine LexA_nil ?_ | refine AWP_region ?_ | refine AWP_draw mixed_ok (by kernel_rfl) ?_)
      | ((first
          | refine AOps_pre rfl (by simp only [postL, isCallV, SL]; exact rfl) fun K2 hK2 => ?_
          | refine LexA_pre rfl rfl (by simp only [postL, isCallV, SL]; exact rfl) fun K2 hK2 => ?_)
         simp (disch := omega) only [SL, evalOps, evalOp, evalG, isPure, gdB, ung, pickG, gv, pt, cv, retV, biV, lenV, boT, bo, intBo, strBo, boolBo, isSh, uo, pickV, nilV, extV, ixOf, mkfV, mmV, mm, preL, postL, isCallV, boxS, cellsV, allocS, storeS, loadV, readT, ptrCells, ofs, fieldAddrV, fieldV, wr, buildV, fillA, buildSliceV, chunks, tagCut, indexV, indexAddrV, sliceV, sliceStr, sliceSl, bnd, if_true, if_false, ite_true, ite_false, and_self, and_true, true_and, beq_self_eq_true, nn, nc0, nc1, nc2, nc3, nc4, nc8, nc10, nc32, Int.toNat_natCast, eq_self, decide_true, decide_false, reduceIte, Nat.reduceAdd, Nat.reduceMul, Nat.reduceSub, Nat.reduceLeDiff, Nat.reduceLT, Nat.reduceEqDiff, Nat.reduceMod, Int.reduceBEq, Int.reduceBNe, Int.reduceNeg, Int.reduceNegSucc, Int.reduceLT, Int.reduceLE, Int.reduceToNat, F3, F9, hs', q1, q2, q3, hm, q4, a1, a2, a3, a4, h10, tenth m hm10, a5, if_pos]
         refine ⟨_, _, rfl, ?_⟩
         refine hK2 _ _ ?_
         clear hK2 K2)
    refine body_r (by simp only [resA, ptrCells, readT, if_true, SL, Nat.reduceAdd, Nat.reduceLeDiff, F3, F9]; exact rfl) ?_
    dsimp only [outV]
    refine ⟨?_, rfl⟩
    rw [dec_big hs, hm, Int.toNat_natCast]
/-- A row's weight: the bytes of its texts, and one more for each. -/
def lens (l : List (List UInt8)) : Nat := (l.map fun x => x.length + 1).sum
/-- The marks as they are told. -/
def pfx : List (List UInt8) → List UInt8
  | [] => []
  | x :: r => 45 :: (x ++ Lib.joinTail [46] r)
theorem joinTail_len (r : List (List UInt8)) : (Lib.joinTail [46] r).length = lens r := by
  induction r with
  | nil => rfl
  | cons x r ih =>
    have e : Lib.joinTail [46] (x :: r) = ([46] ++ x) ++ Lib.joinTail [46] r := by simp [Lib.joinTail]
    rw [e, List.length_append, ih]
    simp [lens]
theorem pfx_len (l : List (List UInt8)) : (pfx l).length = lens l := by
  cases l with
  | nil => rfl
  | cons x r => simp [pfx, joinTail_len, lens]; omega
theorem pfx_join {l : List (List UInt8)} (h : l ≠ []) : pfx l = 45 :: Lib.join l [46] := by
  cases l with
  | nil => exact absurd rfl h
  | cons x r => rw [Lib.join_cons]; rfl
theorem pfx_snoc (l : List (List UInt8)) (x : List UInt8) : pfx (l ++ [x]) = pfx l ++ [if l = [] then 45 else 46] ++ x := by
  cases l with
  | nil => simp [pfx, Lib.joinTail]
  | cons y r => simp [pfx, Lib.joinTail, List.map_append]
theorem lens_take (l : List (List UInt8)) (k : Nat) : lens (l.take k) ≤ lens l := by
  have : lens l = lens (l.take k) + lens (l.drop k) := by
    conv => lhs; rw [← List.take_append_drop k l]
    simp only [lens, List.map_append, List.sum_append]
  omega
theorem lens_length (l : List (List UInt8)) : l.length ≤ lens l := by
  induction l with
  | nil => simp
  | cons x r ih => simp [lens] at ih ⊢; omega
theorem lens_mem {l : List (List UInt8)} {x : List UInt8} (h : x ∈ l) : x.length < lens l := by
  induction l with
  | nil => cases h
  | cons y r ih =>
    rcases List.mem_cons.1 h with rfl | h
    · simp [lens]; omega
    · have := ih h; simp [lens] at this ⊢; omega
/-- A version's text. -/
def textV (v : Ver) : List UInt8 := dec v.major ++ [46] ++ dec v.minor ++ [46] ++ dec v.patch ++ pfx v.pre
def in64 (n : Int) : Prop := -9223372036854775808 ≤ n ∧ n ≤ 9223372036854775807
/-- Its numbers are ints, its marks not too great. -/
structure VOk (v : Ver) : Prop where
  a : in64 v.major
  b : in64 v.minor
  c : in64 v.patch
  p : lens v.pre ≤ 1099511627776
theorem dec_le {n : Int} (h : in64 n) : (dec n).length ≤ 19 := dec_len 18 n (by have := h.2; omega)
theorem max_eq (n : Int) : (if (0 : Int) > n then 0 else n) = max n 0 := by split <;> omega
theorem itoaD_ok (n : Int) (σ : List AE) (h0 : -9223372036854775808 ≤ n) (h1 : n ≤ 9223372036854775807) (hG : GV σ) : Gives Tryd.prog 34 [.int .i64 (max n 0)] σ (.str (dec n)) := itoa_ok (max n 0) σ (by omega) (by omega) hG
theorem text9_ok (v : Ver) (t : Tag) (σ : List AE) (hv : VOk v) (hG : GV σ) : Gives Tryd.prog 13 [encV t v] σ (.str (textV v)) := by
  refine Gives_drop (hb := fun hb => trivial) ?_
  unfold encV
  obtain ⟨⟨a0, a1⟩, ⟨b0, b1⟩, ⟨c0, c1⟩, hp⟩ := hv
  have la := dec_le ⟨a0, a1⟩
  have lb := dec_le ⟨b0, b1⟩
  have lc := dec_le ⟨c0, c1⟩
  have k1 : (dec v.major).length + 1 ≤ 9223372036854775807 := by omega
  have k2 : (dec v.major).length + (1 + (dec v.minor).length) ≤ 9223372036854775807 := by omega
  have k3 : (dec v.major).length + (1 + ((dec v.minor).length + 1)) ≤ 9223372036854775807 := by omega
  have k4 : (dec v.major).length + (1 + ((dec v.minor).length + (1 + (dec v.patch).length))) ≤ 9223372036854775807 := by omega
  refine ACalls_body Tryd.func13 rfl rfl ?_
  simp only [Tryd.ntmps13, Tryd.results13, List.length_cons, List.length_nil, Nat.reduceAdd, Nat.reduceSub, List.replicate_succ, List.replicate_zero, List.cons_append, List.nil_append, List.toList_toArray]
  repeat first
    | (with_reducible first
        | refine AWP_seq ?_ | refine then_n ?_ | refine then_r ?_ | refine then_x ?_ | refine AWP_block ?_ | refine blk_n ?_ | refine blk_r ?_ | refine blk_x ?_ | refine blk_y rfl ?_ | refine AWP_skip ?_
        | refine AWP_ret ?_ | refine AWP_exit ?_ | refine AWP_true rfl ?_ | refine AWP_false rfl ?_ | refine AOps_nil ?_ | refine LexA_nil ?_ | refine AWP_region ?_ | refine AWP_draw mixed_ok (by kernel_rfl) ?_)
    | ((first
        | refine AOps_pre rfl (by simp only [postL, isCallV, SL]; exact rfl) fun K2 hK2 => ?_
        | refine LexA_pre rfl rfl (by simp only [postL, isCallV, SL]; exact rfl) fun K2 hK2 => ?_)
       simp (disch := omega) only [SL, evalOps, evalOp, evalG, isPure, gdB, ung, pickG, gv, pt, cv, retV, biV, lenV, boT, bo, intBo, strBo, boolBo, isSh, uo, pickV, nilV, extV, ixOf, mkfV, mmV, mm, preL, postL, isCallV, boxS, cellsV, allocS, storeS, loadV, readT, ptrCells, ofs, fieldAddrV, fieldV, wr, buildV, fillA, buildSliceV, chunks, tagCut, indexV, indexAddrV, sliceV, sliceStr, sliceSl, bnd, if_true, if_false, ite_true, ite_false, and_self, and_true, true_and, beq_self_eq_true, nn, nc0, nc1, nc2, nc3, nc4, nc8, nc10, nc32, Int.toNat_natCast, eq_self, decide_true, decide_false, reduceIte, Nat.reduceAdd, Nat.reduceMul, Nat.reduceSub, Nat.reduceLeDiff, Nat.reduceLT, Nat.reduceEqDiff, Nat.reduceMod, Int.reduceBEq, Int.reduceBNe, Int.reduceNeg, Int.reduceNegSucc, Int.reduceLT, Int.reduceLE, Int.reduceToNat, F3, F9, F23, F25, max_eq, if_pos]
       refine ⟨_, _, rfl, ?_⟩
       refine hK2 _ _ ?_
       clear hK2 K2)
  first
    | refine AOps_callU (itoaD_ok v.major _ (by omega) (by omega) (hG.app _)) rfl rfl rfl rfl (by first | rfl | (simp only [gv, ung, cv, SL]; done) | (simp only [gv, ung, cv, SL]; exact rfl)) ?_
    | refine AOps_callG rfl (fun hg => itoaD_ok v.major _ (by omega) (by omega) (hG.app _)) rfl rfl rfl (by first | rfl | (simp only [gv, ung, cv, SL]; done) | (simp only [gv, ung, cv, SL]; exact rfl)) ?_
    | refine LexA_callU (itoaD_ok v.major _ (by omega) (by omega) (hG.app _)) rfl rfl rfl rfl (by first | rfl | (simp only [gv, ung, cv, SL]; done) | (simp only [gv, ung, cv, SL]; exact rfl)) ?_
    | refine LexA_callG rfl (fun hg => itoaD_ok v.major _ (by omega) (by omega) (hG.app _)) rfl rfl rfl (by first | rfl | (simp only [gv, ung, cv, SL]; done) | (simp only [gv, ung, cv, SL]; exact rfl)) ?_
  simp only [pt, SL]
  repeat first
    | (with_reducible first
        | refine AWP_seq ?_ | refine then_n ?_ | refine then_r ?_ | refine then_x ?_ | refine AWP_block ?_ | refine blk_n ?_ | refine blk_r ?_ | refine blk_x ?_ | refine blk_y rfl ?_ | refine AWP_skip ?_
        | refine AWP_ret ?_ | refine AWP_exit ?_ | refine AWP_true rfl ?_ | refine AWP_false rfl ?_ | refine AOps_nil ?_ | refine LexA_nil ?_ | refine AWP_region ?_ | refine AWP_draw mixed_ok (by kernel_rfl) ?_)
    | ((first
        | refine AOps_pre rfl (by simp only [postL, isCallV, SL]; exact rfl) fun K2 hK2 => ?_
        | refine LexA_pre rfl rfl (by simp only [postL, isCallV, SL]; exact rfl) fun K2 hK2 => ?_)
       simp (disch := omega) only [SL, evalOps, evalOp, evalG, isPure, gdB, ung, pickG, gv, pt, cv, retV, biV, lenV, boT, bo, intBo, strBo, boolBo, isSh, uo, pickV, nilV, extV, ixOf, mkfV, mmV, mm, preL, postL, isCallV, boxS, cellsV, allocS, storeS, loadV, readT, ptrCells, ofs, fieldAddrV, fieldV, wr, buildV, fillA, buildSliceV, chunks, tagCut, indexV, indexAddrV, sliceV, sliceStr, sliceSl, bnd, if_true, if_false, ite_true, ite_false, and_self, and_true, true_and, beq_self_eq_true, nn, nc0, nc1, nc2, nc3, nc4, nc8, nc10, nc32, Int.toNat_natCast, eq_self, decide_true, decide_false, reduceIte, Nat.reduceAdd, Nat.reduceMul, Nat.reduceSub, Nat.reduceLeDiff, Nat.reduceLT, Nat.reduceEqDiff, Nat.reduceMod, Int.reduceBEq, Int.reduceBNe, Int.reduceNeg, Int.reduceNegSucc, Int.reduceLT, Int.reduceLE, Int.reduceToNat, F3, F9, F23, F25, max_eq, k1, if_pos]
       refine ⟨_, _, rfl, ?_⟩
       refine hK2 _ _ ?_
       clear hK2 K2)
  first
    | refine AOps_callU (itoaD_ok v.minor _ (by omega) (by omega) (hG.app _)) rfl rfl rfl rfl (by first | rfl | (simp only [gv, ung, cv, SL]; done) | (simp only [gv, ung, cv, SL]; exact rfl)) ?_
    | refine AOps_callG rfl (fun hg => itoaD_ok v.minor _ (by omega) (by omega) (hG.app _)) rfl rfl rfl (by first | rfl | (simp only [gv, ung, cv, SL]; done) | (simp only [gv, ung, cv, SL]; exact rfl)) ?_
    | refine LexA_callU (itoaD_ok v.minor _ (by omega) (by omega) (hG.app _)) rfl rfl rfl rfl (by first | rfl | (simp only [gv, ung, cv, SL]; done) | (simp only [gv, ung, cv, SL]; exact rfl)) ?_
    | refine LexA_callG rfl (fun hg => itoaD_ok v.minor _ (by omega) (by omega) (hG.app _)) rfl rfl rfl (by first | rfl | (simp only [gv, ung, cv, SL]; done) | (simp only [gv, ung, cv, SL]; exact rfl)) ?_
  simp only [pt, SL]
  repeat first
    | (with_reducible first
        | refine AWP_seq ?_ | refine then_n ?_ | refine then_r ?_ | refine then_x ?_ | refine AWP_block ?_ | refine blk_n ?_ | refine blk_r ?_ | refine blk_x ?_ | refine blk_y rfl ?_ | refine AWP_skip ?_
        | refine AWP_ret ?_ | refine AWP_exit ?_ | refine AWP_true rfl ?_ | refine AWP_false rfl ?_ | refine AOps_nil ?_ | refine LexA_nil ?_ | refine AWP_region ?_ | refine AWP_draw mixed_ok (by kernel_rfl) ?_)
    | ((first
        | refine AOps_pre rfl (by simp only [postL, isCallV, SL]; exact rfl) fun K2 hK2 => ?_
        | refine LexA_pre rfl rfl (by simp only [postL, isCallV, SL]; exact rfl) fun K2 hK2 => ?_)
       simp (disch := omega) only [SL, evalOps, evalOp, evalG, isPure, gdB, ung, pickG, gv, pt, cv, retV, biV, lenV, boT, bo, intBo, strBo, boolBo, isSh, uo, pickV, nilV, extV, ixOf, mkfV, mmV, mm, preL, postL, isCallV, boxS, cellsV, allocS, storeS, loadV, readT, ptrCells, ofs, fieldAddrV, fieldV, wr, buildV, fillA, buildSliceV, chunks, tagCut, indexV, indexAddrV, sliceV, sliceStr, sliceSl, bnd, if_true, if_false, ite_true, ite_false, and_self, and_true, true_and, beq_self_eq_true, nn, nc0, nc1, nc2, nc3, nc4, nc8, nc10, nc32, Int.toNat_natCast, eq_self, decide_true, decide_false, reduceIte, Nat.reduceAdd, Nat.reduceMul, Nat.reduceSub, Nat.reduceLeDiff, Nat.reduceLT, Nat.reduceEqDiff, Nat.reduceMod, Int.reduceBEq, Int.reduceBNe, Int.reduceNeg, Int.reduceNegSucc, Int.reduceLT, Int.reduceLE, Int.reduceToNat, F3, F9, F23, F25, max_eq, k2, k3, if_pos]
       refine ⟨_, _, rfl, ?_⟩
       refine hK2 _ _ ?_
       clear hK2 K2)
  first
    | refine AOps_callU (itoaD_ok v.patch _ (by omega) (by omega) (hG.app _)) rfl rfl rfl rfl (by first | rfl | (simp only [gv, ung, cv, SL]; done) | (simp only [gv, ung, cv, SL]; exact rfl)) ?_
    | refine AOps_callG rfl (fun hg => itoaD_ok v.patch _ (by omega) (by omega) (hG.app _)) rfl rfl rfl (by first | rfl | (simp only [gv, ung, cv, SL]; done) | (simp only [gv, ung, cv, SL]; exact rfl)) ?_
    | refine LexA_callU (itoaD_ok v.patch _ (by omega) (by omega) (hG.app _)) rfl rfl rfl rfl (by first | rfl | (simp only [gv, ung, cv, SL]; done) | (simp only [gv, ung, cv, SL]; exact rfl)) ?_
    | refine LexA_callG rfl (fun hg => itoaD_ok v.patch _ (by omega) (by omega) (hG.app _)) rfl rfl rfl (by first | rfl | (simp only [gv, ung, cv, SL]; done) | (simp only [gv, ung, cv, SL]; exact rfl)) ?_
  simp only [pt, SL]
  repeat first
    | (with_reducible first
        | refine AWP_seq ?_ | refine then_n ?_ | refine then_r ?_ | refine then_x ?_ | refine AWP_block ?_ | refine blk_n ?_ | refine blk_r ?_ | refine blk_x ?_ | refine blk_y rfl ?_ | refine AWP_skip ?_
        | refine AWP_ret ?_ | refine AWP_exit ?_ | refine AWP_true rfl ?_ | refine AWP_false rfl ?_ | refine AOps_nil ?_ | refine LexA_nil ?_ | refine AWP_region ?_ | refine AWP_draw mixed_ok (by kernel_rfl) ?_)
    | ((first
        | refine AOps_pre rfl (by simp only [postL, isCallV, SL]; exact rfl) fun K2 hK2 => ?_
        | refine LexA_pre rfl rfl (by simp only [postL, isCallV, SL]; exact rfl) fun K2 hK2 => ?_)
       simp (disch := omega) only [SL, evalOps, evalOp, evalG, isPure, gdB, ung, pickG, gv, pt, cv, retV, biV, lenV, boT, bo, intBo, strBo, boolBo, isSh, uo, pickV, nilV, extV, ixOf, mkfV, mmV, mm, preL, postL, isCallV, boxS, cellsV, allocS, storeS, loadV, readT, ptrCells, ofs, fieldAddrV, fieldV, wr, buildV, fillA, buildSliceV, chunks, tagCut, indexV, indexAddrV, sliceV, sliceStr, sliceSl, bnd, if_true, if_false, ite_true, ite_false, and_self, and_true, true_and, beq_self_eq_true, nn, nc0, nc1, nc2, nc3, nc4, nc8, nc10, nc32, Int.toNat_natCast, eq_self, decide_true, decide_false, reduceIte, Nat.reduceAdd, Nat.reduceMul, Nat.reduceSub, Nat.reduceLeDiff, Nat.reduceLT, Nat.reduceEqDiff, Nat.reduceMod, Int.reduceBEq, Int.reduceBNe, Int.reduceNeg, Int.reduceNegSucc, Int.reduceLT, Int.reduceLE, Int.reduceToNat, F3, F9, F23, F25, k4, strs_len, if_pos]
       refine ⟨_, _, rfl, ?_⟩
       refine hK2 _ _ ?_
       clear hK2 K2)
  have hjl : v.pre ≠ [] → (Lib.join v.pre [46]).length + 1 = lens v.pre := fun h => by
    have := congrArg List.length (pfx_join h)
    rw [pfx_len] at this
    simpa using this.symm
  refine AWP_cond rfl (fun h => ?_) (fun h => ?_)
  · have hne : v.pre ≠ [] := by intro e; simp [e] at h
    have hj := hjl hne
    have hll := lens_length v.pre
    have k5 : 1 + (Lib.join v.pre [46]).length ≤ 9223372036854775807 := by omega
    have k6 : (dec v.major).length + (1 + ((dec v.minor).length + (1 + ((dec v.patch).length + (1 + (Lib.join v.pre [46]).length))))) ≤ 9223372036854775807 := by omega
    have k7 : (dec v.major).length + (1 + ((dec v.minor).length + (1 + ((dec v.patch).length + ((Lib.join v.pre [46]).length + 1))))) ≤ 9223372036854775807 := by omega
    repeat first
      | (with_reducible first
          | refine AWP_seq ?_ | refine then_n ?_ | refine then_r ?_ | refine then_x ?_ | refine AWP_block ?_ | refine blk_n ?_ | refine blk_r ?_ | refine blk_x ?_ | refine blk_y rfl ?_ | refine AWP_skip ?_
          | refine AWP_ret ?_ | refine AWP_exit ?_ | refine AWP_true rfl ?_ | refine AWP_false rfl ?_ | refine AOps_nil ?_ | refine LexA_nil ?_ | refine AWP_region ?_ | refine AWP_draw mixed_ok (by kernel_rfl) ?_)
      | ((first
          | refine AOps_pre rfl (by simp only [postL, isCallV, SL]; exact rfl) fun K2 hK2 => ?_
          | refine LexA_pre rfl rfl (by simp only [postL, isCallV, SL]; exact rfl) fun K2 hK2 => ?_)
         simp (disch := omega) only [SL, evalOps, evalOp, evalG, isPure, gdB, ung, pickG, gv, pt, cv, retV, biV, lenV, boT, bo, intBo, strBo, boolBo, isSh, uo, pickV, nilV, extV, ixOf, mkfV, mmV, mm, preL, postL, isCallV, boxS, cellsV, allocS, storeS, loadV, readT, ptrCells, ofs, fieldAddrV, fieldV, wr, buildV, fillA, buildSliceV, chunks, tagCut, indexV, indexAddrV, sliceV, sliceStr, sliceSl, bnd, if_true, if_false, ite_true, ite_false, and_self, and_true, true_and, beq_self_eq_true, nn, nc0, nc1, nc2, nc3, nc4, nc8, nc10, nc32, Int.toNat_natCast, eq_self, decide_true, decide_false, reduceIte, Nat.reduceAdd, Nat.reduceMul, Nat.reduceSub, Nat.reduceLeDiff, Nat.reduceLT, Nat.reduceEqDiff, Nat.reduceMod, Int.reduceBEq, Int.reduceBNe, Int.reduceNeg, Int.reduceNegSucc, Int.reduceLT, Int.reduceLE, Int.reduceToNat, F3, F9, F23, F25, if_pos]
         refine ⟨_, _, rfl, ?_⟩
         refine hK2 _ _ ?_
         clear hK2 K2)
    first
      | refine AOps_callU (join_ok 46 v.pre t _ (by omega) (by omega)) rfl rfl rfl rfl (by first | rfl | (simp only [gv, ung, cv, SL]; done) | (simp only [gv, ung, cv, SL]; exact rfl)) ?_
      | refine AOps_callG rfl (fun hg => join_ok 46 v.pre t _ (by omega) (by omega)) rfl rfl rfl (by first | rfl | (simp only [gv, ung, cv, SL]; done) | (simp only [gv, ung, cv, SL]; exact rfl)) ?_
      | refine LexA_callU (join_ok 46 v.pre t _ (by omega) (by omega)) rfl rfl rfl rfl (by first | rfl | (simp only [gv, ung, cv, SL]; done) | (simp only [gv, ung, cv, SL]; exact rfl)) ?_
      | refine LexA_callG rfl (fun hg => join_ok 46 v.pre t _ (by omega) (by omega)) rfl rfl rfl (by first | rfl | (simp only [gv, ung, cv, SL]; done) | (simp only [gv, ung, cv, SL]; exact rfl)) ?_
    simp only [pt, SL]
    repeat first
      | (with_reducible first
          | refine AWP_seq ?_ | refine then_n ?_ | refine then_r ?_ | refine then_x ?_ | refine AWP_block ?_ | refine blk_n ?_ | refine blk_r ?_ | refine blk_x ?_ | refine blk_y rfl ?_ | refine AWP_skip ?_
          | refine AWP_ret ?_ | refine AWP_exit ?_ | refine AWP_true rfl ?_ | refine AWP_false rfl ?_ | refine AOps_nil ?_ | refine LexA_nil ?_ | refine AWP_region ?_ | refine AWP_draw mixed_ok (by kernel_rfl) ?_)
      | ((first
          | refine AOps_pre rfl (by simp only [postL, isCallV, SL]; exact rfl) fun K2 hK2 => ?_
          | refine LexA_pre rfl rfl (by simp only [postL, isCallV, SL]; exact rfl) fun K2 hK2 => ?_)
         simp (disch := omega) only [SL, evalOps, evalOp, evalG, isPure, gdB, ung, pickG, gv, pt, cv, retV, biV, lenV, boT, bo, intBo, strBo, boolBo, isSh, uo, pickV, nilV, extV, ixOf, mkfV, mmV, mm, preL, postL, isCallV, boxS, cellsV, allocS, storeS, loadV, readT, ptrCells, ofs, fieldAddrV, fieldV, wr, buildV, fillA, buildSliceV, chunks, tagCut, indexV, indexAddrV, sliceV, sliceStr, sliceSl, bnd, if_true, if_false, ite_true, ite_false, and_self, and_true, true_and, beq_self_eq_true, nn, nc0, nc1, nc2, nc3, nc4, nc8, nc10, nc32, Int.toNat_natCast, eq_self, decide_true, decide_false, reduceIte, Nat.reduceAdd, Nat.reduceMul, Nat.reduceSub, Nat.reduceLeDiff, Nat.reduceLT, Nat.reduceEqDiff, Nat.reduceMod, Int.reduceBEq, Int.reduceBNe, Int.reduceNeg, Int.reduceNegSucc, Int.reduceLT, Int.reduceLE, Int.reduceToNat, F3, F9, F23, F25, k5, k6, k7, if_pos]
         refine ⟨_, _, rfl, ?_⟩
         refine hK2 _ _ ?_
         clear hK2 K2)
    refine body_r (by simp only [resA, ptrCells, readT, if_true, SL, Nat.reduceAdd, Nat.reduceLeDiff, F3, F9, F23, F25]; exact rfl) ?_
    dsimp only [outV]
    first | refine drop_end ?_ | refine drop_end0 ?_
    refine Vle.of_eq ?_
    simp [textV, pfx_join hne]
  · have he : v.pre = [] := by cases hp2 : v.pre with
      | nil => rfl
      | cons x r => rw [hp2] at h; simp at h
    repeat first
      | (with_reducible first
          | refine AWP_seq ?_ | refine then_n ?_ | refine then_r ?_ | refine then_x ?_ | refine AWP_block ?_ | refine blk_n ?_ | refine blk_r ?_ | refine blk_x ?_ | refine blk_y rfl ?_ | refine AWP_skip ?_
          | refine AWP_ret ?_ | refine AWP_exit ?_ | refine AWP_true rfl ?_ | refine AWP_false rfl ?_ | refine AOps_nil ?_ | refine LexA_nil ?_ | refine AWP_region ?_ | refine AWP_draw mixed_ok (by kernel_rfl) ?_)
      | ((first
          | refine AOps_pre rfl (by simp only [postL, isCallV, SL]; exact rfl) fun K2 hK2 => ?_
          | refine LexA_pre rfl rfl (by simp only [postL, isCallV, SL]; exact rfl) fun K2 hK2 => ?_)
         simp (disch := omega) only [SL, evalOps, evalOp, evalG, isPure, gdB, ung, pickG, gv, pt, cv, retV, biV, lenV, boT, bo, intBo, strBo, boolBo, isSh, uo, pickV, nilV, extV, ixOf, mkfV, mmV, mm, preL, postL, isCallV, boxS, cellsV, allocS, storeS, loadV, readT, ptrCells, ofs, fieldAddrV, fieldV, wr, buildV, fillA, buildSliceV, chunks, tagCut, indexV, indexAddrV, sliceV, sliceStr, sliceSl, bnd, if_true, if_false, ite_true, ite_false, and_self, and_true, true_and, beq_self_eq_true, nn, nc0, nc1, nc2, nc3, nc4, nc8, nc10, nc32, Int.toNat_natCast, eq_self, decide_true, decide_false, reduceIte, Nat.reduceAdd, Nat.reduceMul, Nat.reduceSub, Nat.reduceLeDiff, Nat.reduceLT, Nat.reduceEqDiff, Nat.reduceMod, Int.reduceBEq, Int.reduceBNe, Int.reduceNeg, Int.reduceNegSucc, Int.reduceLT, Int.reduceLE, Int.reduceToNat, F3, F9, F23, F25, if_pos]
         refine ⟨_, _, rfl, ?_⟩
         refine hK2 _ _ ?_
         clear hK2 K2)
    refine body_r (by simp only [resA, ptrCells, readT, if_true, SL, Nat.reduceAdd, Nat.reduceLeDiff, F3, F9, F23, F25]; exact rfl) ?_
    dsimp only [outV]
    first | refine drop_end ?_ | refine drop_end0 ?_
    refine Vle.of_eq ?_
    simp [textV, he, pfx]
theorem rtext9_ok (v : Ver) (t : Tag) (σ : List AE) (hv : VOk v) : Gives Tryd.prog 15 [encV t v] σ (.str (textV v)) := by
  refine Gives_drop (hb := fun hb => trivial) ?_
  unfold encV
  obtain ⟨⟨a0, a1⟩, ⟨b0, b1⟩, ⟨c0, c1⟩, hp⟩ := hv
  have la := dec_le ⟨a0, a1⟩
  have lb := dec_le ⟨b0, b1⟩
  have lc := dec_le ⟨c0, c1⟩
  have k1 : (dec v.major).length + 1 ≤ 9223372036854775807 := by omega
  have k2 : (dec v.major).length + (1 + (dec v.minor).length) ≤ 9223372036854775807 := by omega
  have k3 : (dec v.major).length + (1 + ((dec v.minor).length + 1)) ≤ 9223372036854775807 := by omega
  have k4 : (dec v.major).length + (1 + ((dec v.minor).length + (1 + (dec v.patch).length))) ≤ 9223372036854775807 := by omega
  have hbase : textV v = (dec v.major ++ (46 :: (dec v.minor ++ (46 :: dec v.patch)))) ++ pfx v.pre := by simp [textV]
  have hbl : (dec v.major ++ (46 :: (dec v.minor ++ (46 :: dec v.patch)))).length ≤ 60 := by simp; omega
  refine ACalls_body Tryd.func15 rfl rfl ?_
  simp only [Tryd.ntmps15, Tryd.results15, List.length_cons, List.length_nil, Nat.reduceAdd, Nat.reduceSub, List.replicate_succ, List.replicate_zero, List.cons_append, List.nil_append, List.toList_toArray]
  repeat first
    | (with_reducible first
        | refine AWP_seq ?_ | refine then_n ?_ | refine then_r ?_ | refine then_x ?_ | refine AWP_block ?_ | refine blk_n ?_ | refine blk_r ?_ | refine blk_x ?_ | refine blk_y rfl ?_ | refine AWP_skip ?_
        | refine AWP_ret ?_ | refine AWP_exit ?_ | refine AWP_true rfl ?_ | refine AWP_false rfl ?_ | refine AOps_nil ?_ | refine LexA_nil ?_ | refine AWP_region ?_ | refine AWP_draw mixed_ok (by kernel_rfl) ?_)
    | ((first
        | refine AOps_pre rfl (by simp only [postL, isCallV, SL]; exact rfl) fun K2 hK2 => ?_
        | refine LexA_pre rfl rfl (by simp only [postL, isCallV, SL]; exact rfl) fun K2 hK2 => ?_)
       simp (disch := omega) only [SL, evalOps, evalOp, evalG, isPure, gdB, ung, pickG, gv, pt, cv, retV, biV, lenV, boT, bo, intBo, strBo, boolBo, isSh, uo, pickV, nilV, extV, ixOf, mkfV, mmV, mm, preL, postL, isCallV, boxS, cellsV, allocS, storeS, loadV, readT, ptrCells, ofs, fieldAddrV, fieldV, wr, buildV, fillA, buildSliceV, chunks, tagCut, indexV, indexAddrV, sliceV, sliceStr, sliceSl, bnd, if_true, if_false, ite_true, ite_false, and_self, and_true, true_and, beq_self_eq_true, nn, nc0, nc1, nc2, nc3, nc4, nc8, nc10, nc32, Int.toNat_natCast, eq_self, decide_true, decide_false, reduceIte, Nat.reduceAdd, Nat.reduceMul, Nat.reduceSub, Nat.reduceLeDiff, Nat.reduceLT, Nat.reduceEqDiff, Nat.reduceMod, Int.reduceBEq, Int.reduceBNe, Int.reduceNeg, Int.reduceNegSucc, Int.reduceLT, Int.reduceLE, Int.reduceToNat, F3, F9, F23, F25, if_pos]
       refine ⟨_, _, rfl, ?_⟩
       refine hK2 _ _ ?_
       clear hK2 K2)
  first
    | refine AOps_callU (rdec_ok _ 18 v.major (by omega) (by omega) (by omega) (by omega)) rfl rfl rfl rfl (by first | rfl | (simp only [gv, ung, cv, SL]; done) | (simp only [gv, ung, cv, SL]; exact rfl)) ?_
    | refine AOps_callG rfl (fun hg => rdec_ok _ 18 v.major (by omega) (by omega) (by omega) (by omega)) rfl rfl rfl (by first | rfl | (simp only [gv, ung, cv, SL]; done) | (simp only [gv, ung, cv, SL]; exact rfl)) ?_
    | refine LexA_callU (rdec_ok _ 18 v.major (by omega) (by omega) (by omega) (by omega)) rfl rfl rfl rfl (by first | rfl | (simp only [gv, ung, cv, SL]; done) | (simp only [gv, ung, cv, SL]; exact rfl)) ?_
    | refine LexA_callG rfl (fun hg => rdec_ok _ 18 v.major (by omega) (by omega) (by omega) (by omega)) rfl rfl rfl (by first | rfl | (simp only [gv, ung, cv, SL]; done) | (simp only [gv, ung, cv, SL]; exact rfl)) ?_
  simp only [pt, SL]
  repeat first
    | (with_reducible first
        | refine AWP_seq ?_ | refine then_n ?_ | refine then_r ?_ | refine then_x ?_ | refine AWP_block ?_ | refine blk_n ?_ | refine blk_r ?_ | refine blk_x ?_ | refine blk_y rfl ?_ | refine AWP_skip ?_
        | refine AWP_ret ?_ | refine AWP_exit ?_ | refine AWP_true rfl ?_ | refine AWP_false rfl ?_ | refine AOps_nil ?_ | refine LexA_nil ?_ | refine AWP_region ?_ | refine AWP_draw mixed_ok (by kernel_rfl) ?_)
    | ((first
        | refine AOps_pre rfl (by simp only [postL, isCallV, SL]; exact rfl) fun K2 hK2 => ?_
        | refine LexA_pre rfl rfl (by simp only [postL, isCallV, SL]; exact rfl) fun K2 hK2 => ?_)
       simp (disch := omega) only [SL, evalOps, evalOp, evalG, isPure, gdB, ung, pickG, gv, pt, cv, retV, biV, lenV, boT, bo, intBo, strBo, boolBo, isSh, uo, pickV, nilV, extV, ixOf, mkfV, mmV, mm, preL, postL, isCallV, boxS, cellsV, allocS, storeS, loadV, readT, ptrCells, ofs, fieldAddrV, fieldV, wr, buildV, fillA, buildSliceV, chunks, tagCut, indexV, indexAddrV, sliceV, sliceStr, sliceSl, bnd, if_true, if_false, ite_true, ite_false, and_self, and_true, true_and, beq_self_eq_true, nn, nc0, nc1, nc2, nc3, nc4, nc8, nc10, nc32, Int.toNat_natCast, eq_self, decide_true, decide_false, reduceIte, Nat.reduceAdd, Nat.reduceMul, Nat.reduceSub, Nat.reduceLeDiff, Nat.reduceLT, Nat.reduceEqDiff, Nat.reduceMod, Int.reduceBEq, Int.reduceBNe, Int.reduceNeg, Int.reduceNegSucc, Int.reduceLT, Int.reduceLE, Int.reduceToNat, F3, F9, F23, F25, k1, if_pos]
       refine ⟨_, _, rfl, ?_⟩
       refine hK2 _ _ ?_
       clear hK2 K2)
  first
    | refine AOps_callU (rdec_ok _ 18 v.minor (by omega) (by omega) (by omega) (by omega)) rfl rfl rfl rfl (by first | rfl | (simp only [gv, ung, cv, SL]; done) | (simp only [gv, ung, cv, SL]; exact rfl)) ?_
    | refine AOps_callG rfl (fun hg => rdec_ok _ 18 v.minor (by omega) (by omega) (by omega) (by omega)) rfl rfl rfl (by first | rfl | (simp only [gv, ung, cv, SL]; done) | (simp only [gv, ung, cv, SL]; exact rfl)) ?_
    | refine LexA_callU (rdec_ok _ 18 v.minor (by omega) (by omega) (by omega) (by omega)) rfl rfl rfl rfl (by first | rfl | (simp only [gv, ung, cv, SL]; done) | (simp only [gv, ung, cv, SL]; exact rfl)) ?_
    | refine LexA_callG rfl (fun hg => rdec_ok _ 18 v.minor (by omega) (by omega) (by omega) (by omega)) rfl rfl rfl (by first | rfl | (simp only [gv, ung, cv, SL]; done) | (simp only [gv, ung, cv, SL]; exact rfl)) ?_
  simp only [pt, SL]
  repeat first
    | (with_reducible first
        | refine AWP_seq ?_ | refine then_n ?_ | refine then_r ?_ | refine then_x ?_ | refine AWP_block ?_ | refine blk_n ?_ | refine blk_r ?_ | refine blk_x ?_ | refine blk_y rfl ?_ | refine AWP_skip ?_
        | refine AWP_ret ?_ | refine AWP_exit ?_ | refine AWP_true rfl ?_ | refine AWP_false rfl ?_ | refine AOps_nil ?_ | refine LexA_nil ?_ | refine AWP_region ?_ | refine AWP_draw mixed_ok (by kernel_rfl) ?_)
    | ((first
        | refine AOps_pre rfl (by simp only [postL, isCallV, SL]; exact rfl) fun K2 hK2 => ?_
        | refine LexA_pre rfl rfl (by simp only [postL, isCallV, SL]; exact rfl) fun K2 hK2 => ?_)
       simp (disch := omega) only [SL, evalOps, evalOp, evalG, isPure, gdB, ung, pickG, gv, pt, cv, retV, biV, lenV, boT, bo, intBo, strBo, boolBo, isSh, uo, pickV, nilV, extV, ixOf, mkfV, mmV, mm, preL, postL, isCallV, boxS, cellsV, allocS, storeS, loadV, readT, ptrCells, ofs, fieldAddrV, fieldV, wr, buildV, fillA, buildSliceV, chunks, tagCut, indexV, indexAddrV, sliceV, sliceStr, sliceSl, bnd, if_true, if_false, ite_true, ite_false, and_self, and_true, true_and, beq_self_eq_true, nn, nc0, nc1, nc2, nc3, nc4, nc8, nc10, nc32, Int.toNat_natCast, eq_self, decide_true, decide_false, reduceIte, Nat.reduceAdd, Nat.reduceMul, Nat.reduceSub, Nat.reduceLeDiff, Nat.reduceLT, Nat.reduceEqDiff, Nat.reduceMod, Int.reduceBEq, Int.reduceBNe, Int.reduceNeg, Int.reduceNegSucc, Int.reduceLT, Int.reduceLE, Int.reduceToNat, F3, F9, F23, F25, k2, k3, if_pos]
       refine ⟨_, _, rfl, ?_⟩
       refine hK2 _ _ ?_
       clear hK2 K2)
  first
    | refine AOps_callU (rdec_ok _ 18 v.patch (by omega) (by omega) (by omega) (by omega)) rfl rfl rfl rfl (by first | rfl | (simp only [gv, ung, cv, SL]; done) | (simp only [gv, ung, cv, SL]; exact rfl)) ?_
    | refine AOps_callG rfl (fun hg => rdec_ok _ 18 v.patch (by omega) (by omega) (by omega) (by omega)) rfl rfl rfl (by first | rfl | (simp only [gv, ung, cv, SL]; done) | (simp only [gv, ung, cv, SL]; exact rfl)) ?_
    | refine LexA_callU (rdec_ok _ 18 v.patch (by omega) (by omega) (by omega) (by omega)) rfl rfl rfl rfl (by first | rfl | (simp only [gv, ung, cv, SL]; done) | (simp only [gv, ung, cv, SL]; exact rfl)) ?_
    | refine LexA_callG rfl (fun hg => rdec_ok _ 18 v.patch (by omega) (by omega) (by omega) (by omega)) rfl rfl rfl (by first | rfl | (simp only [gv, ung, cv, SL]; done) | (simp only [gv, ung, cv, SL]; exact rfl)) ?_
  simp only [pt, SL]
  repeat first
    | (with_reducible first
        | refine AWP_seq ?_ | refine then_n ?_ | refine then_r ?_ | refine then_x ?_ | refine AWP_block ?_ | refine blk_n ?_ | refine blk_r ?_ | refine blk_x ?_ | refine blk_y rfl ?_ | refine AWP_skip ?_
        | refine AWP_ret ?_ | refine AWP_exit ?_ | refine AWP_true rfl ?_ | refine AWP_false rfl ?_ | refine AOps_nil ?_ | refine LexA_nil ?_ | refine AWP_region ?_ | refine AWP_draw mixed_ok (by kernel_rfl) ?_)
    | ((first
        | refine AOps_pre rfl (by simp only [postL, isCallV, SL]; exact rfl) fun K2 hK2 => ?_
        | refine LexA_pre rfl rfl (by simp only [postL, isCallV, SL]; exact rfl) fun K2 hK2 => ?_)
       simp (disch := omega) only [SL, evalOps, evalOp, evalG, isPure, gdB, ung, pickG, gv, pt, cv, retV, biV, lenV, boT, bo, intBo, strBo, boolBo, isSh, uo, pickV, nilV, extV, ixOf, mkfV, mmV, mm, preL, postL, isCallV, boxS, cellsV, allocS, storeS, loadV, readT, ptrCells, ofs, fieldAddrV, fieldV, wr, buildV, fillA, buildSliceV, chunks, tagCut, indexV, indexAddrV, sliceV, sliceStr, sliceSl, bnd, if_true, if_false, ite_true, ite_false, and_self, and_true, true_and, beq_self_eq_true, nn, nc0, nc1, nc2, nc3, nc4, nc8, nc10, nc32, Int.toNat_natCast, eq_self, decide_true, decide_false, reduceIte, Nat.reduceAdd, Nat.reduceMul, Nat.reduceSub, Nat.reduceLeDiff, Nat.reduceLT, Nat.reduceEqDiff, Nat.reduceMod, Int.reduceBEq, Int.reduceBNe, Int.reduceNeg, Int.reduceNegSucc, Int.reduceLT, Int.reduceLE, Int.reduceToNat, F3, F9, F23, F25, k4, if_pos]
       refine ⟨_, _, rfl, ?_⟩
       refine hK2 _ _ ?_
       clear hK2 K2)
  generalize dec v.major ++ (46 :: (dec v.minor ++ (46 :: dec v.patch))) = base at hbase hbl ⊢
  have hll := lens_length v.pre
  refine AWP_loop (α := { k : Nat // k ≤ v.pre.length }) (fun k => [.junk, .ptr σ.length 0, .junk, .str (base ++ pfx (v.pre.take k.1)), .int .i64 (k.1 : Int), .junk, .junk, .junk, .junk, .junk, .junk, .junk, .junk, .junk, .junk, .junk, .junk, .junk, .junk, .junk, .junk, .junk, .junk, .junk, .junk, .junk, .junk, .junk, .junk, .junk, .junk, .junk, .junk, .junk, .junk, .junk, .junk, .junk, .junk]) (fun k => σ ++ [.box [.int .i64 v.major, .int .i64 v.minor, .int .i64 v.patch, .sl t (strs v.pre)]]) (fun k => v.pre.length - k.1) ⟨0, by omega⟩ (.same ?_) (fun _ => by simp) ?_
  · simp only [List.take_zero, pfx, List.append_nil]
    (repeat' (first | exact trivial | refine And.intro ?_ ?_)
     all_goals first | with_reducible exact Vle.junk _ | with_reducible exact Vle.refl _ | exact Vle.refl _ | exact Vle.ro _ _)
  · rintro ⟨k, hk⟩
    have h7 := lens_take v.pre k
    have h8 := lens_take v.pre (k + 1)
    have h9 := pfx_len (v.pre.take k)
    have e1 : base.length + (pfx (v.pre.take k)).length + 1 ≤ 9223372036854775807 := by omega
    have e2 : base.length + ((pfx (v.pre.take k)).length + 1) ≤ 9223372036854775807 := by omega
    repeat first
      | (with_reducible first
          | refine AWP_seq ?_ | refine then_n ?_ | refine then_r ?_ | refine then_x ?_ | refine AWP_block ?_ | refine blk_n ?_ | refine blk_r ?_ | refine blk_x ?_ | refine blk_y rfl ?_ | refine AWP_skip ?_
          | refine AWP_ret ?_ | refine AWP_exit ?_ | refine AWP_true rfl ?_ | refine AWP_false rfl ?_ | refine AOps_nil ?_ | refine LexA_nil ?_ | refine AWP_region ?_ | refine AWP_draw mixed_ok (by kernel_rfl) ?_)
      | ((first
          | refine AOps_pre rfl (by simp only [postL, isCallV, SL]; exact rfl) fun K2 hK2 => ?_
          | refine LexA_pre rfl rfl (by simp only [postL, isCallV, SL]; exact rfl) fun K2 hK2 => ?_)
         simp (disch := omega) only [SL, evalOps, evalOp, evalG, isPure, gdB, ung, pickG, gv, pt, cv, retV, biV, lenV, boT, bo, intBo, strBo, boolBo, isSh, uo, pickV, nilV, extV, ixOf, mkfV, mmV, mm, preL, postL, isCallV, boxS, cellsV, allocS, storeS, loadV, readT, ptrCells, ofs, fieldAddrV, fieldV, wr, buildV, fillA, buildSliceV, chunks, tagCut, indexV, indexAddrV, sliceV, sliceStr, sliceSl, bnd, if_true, if_false, ite_true, ite_false, and_self, and_true, true_and, beq_self_eq_true, nn, nc0, nc1, nc2, nc3, nc4, nc8, nc10, nc32, Int.toNat_natCast, eq_self, decide_true, decide_false, reduceIte, Nat.reduceAdd, Nat.reduceMul, Nat.reduceSub, Nat.reduceLeDiff, Nat.reduceLT, Nat.reduceEqDiff, Nat.reduceMod, Int.reduceBEq, Int.reduceBNe, Int.reduceNeg, Int.reduceNegSucc, Int.reduceLT, Int.reduceLE, Int.reduceToNat, F3, F9, F23, F25, strs_len, if_pos]
         refine ⟨_, _, rfl, ?_⟩
         refine hK2 _ _ ?_
         clear hK2 K2)
    refine AWP_cond rfl (fun h => ?_) (fun h => ?_)
    · have hlt : k < v.pre.length := by simpa using h
      have hmem : v.pre.getD k [] ∈ v.pre := by rw [List.getD_eq_getElem?_getD, List.getElem?_eq_getElem hlt]; exact List.getElem_mem _
      have hlx := lens_mem hmem
      have e3 : base.length + ((pfx (v.pre.take k)).length + (1 + (v.pre.getD k []).length)) ≤ 9223372036854775807 := by omega
      have hs : pfx (v.pre.take (k + 1)) = pfx (v.pre.take k) ++ [if k = 0 then 45 else 46] ++ v.pre.getD k [] := by
        rw [List.take_succ_eq_append_getElem hlt, pfx_snoc, List.getD_eq_getElem?_getD, List.getElem?_eq_getElem hlt, Option.getD_some]
        have : (v.pre.take k = []) = (k = 0) := by
          rw [eq_iff_iff, List.take_eq_nil_iff]
          constructor
          · rintro (h | h)
            · exact h
            · rw [h] at hlt; simp at hlt
          · exact .inl
        simp only [this]
      repeat first
        | (with_reducible first
            | refine AWP_seq ?_ | refine then_n ?_ | refine then_r ?_ | refine then_x ?_ | refine AWP_block ?_ | refine blk_n ?_ | refine blk_r ?_ | refine blk_x ?_ | refine blk_y rfl ?_ | refine AWP_skip ?_
            | refine AWP_ret ?_ | refine AWP_exit ?_ | refine AWP_true rfl ?_ | refine AWP_false rfl ?_ | refine AOps_nil ?_ | refine LexA_nil ?_ | refine AWP_region ?_ | refine AWP_draw mixed_ok (by kernel_rfl) ?_)
        | ((first
            | refine AOps_pre rfl (by simp only [postL, isCallV, SL]; exact rfl) fun K2 hK2 => ?_
            | refine LexA_pre rfl rfl (by simp only [postL, isCallV, SL]; exact rfl) fun K2 hK2 => ?_)
           simp (disch := omega) only [SL, evalOps, evalOp, evalG, isPure, gdB, ung, pickG, gv, pt, cv, retV, biV, lenV, boT, bo, intBo, strBo, boolBo, isSh, uo, pickV, nilV, extV, ixOf, mkfV, mmV, mm, preL, postL, isCallV, boxS, cellsV, allocS, storeS, loadV, readT, ptrCells, ofs, fieldAddrV, fieldV, wr, buildV, fillA, buildSliceV, chunks, tagCut, indexV, indexAddrV, sliceV, sliceStr, sliceSl, bnd, if_true, if_false, ite_true, ite_false, and_self, and_true, true_and, beq_self_eq_true, nn, nc0, nc1, nc2, nc3, nc4, nc8, nc10, nc32, Int.toNat_natCast, eq_self, decide_true, decide_false, reduceIte, Nat.reduceAdd, Nat.reduceMul, Nat.reduceSub, Nat.reduceLeDiff, Nat.reduceLT, Nat.reduceEqDiff, Nat.reduceMod, Int.reduceBEq, Int.reduceBNe, Int.reduceNeg, Int.reduceNegSucc, Int.reduceLT, Int.reduceLE, Int.reduceToNat, F3, F9, F23, F25, if_pos]
           refine ⟨_, _, rfl, ?_⟩
           refine hK2 _ _ ?_
           clear hK2 K2)
      refine AWP_cond rfl (fun h => ?_) (fun h => ?_)
      · have hk0 : k = 0 := by simpa using h
        repeat first
          | (with_reducible first
              | refine AWP_seq ?_ | refine then_n ?_ | refine then_r ?_ | refine then_x ?_ | refine AWP_block ?_ | refine blk_n ?_ | refine blk_r ?_ | refine blk_x ?_ | refine blk_y rfl ?_ | refine AWP_skip ?_
              | refine AWP_ret ?_ | refine AWP_exit ?_ | refine AWP_true rfl ?_ | refine AWP_false rfl ?_ | refine AOps_nil ?_ | refine LexA_nil ?_ | refine AWP_region ?_ | refine AWP_draw mixed_ok (by kernel_rfl) ?_)
          | ((first
              | refine AOps_pre rfl (by simp only [postL, isCallV, SL]; exact rfl) fun K2 hK2 => ?_
              | refine LexA_pre rfl rfl (by simp only [postL, isCallV, SL]; exact rfl) fun K2 hK2 => ?_)
             simp (disch := omega) only [SL, evalOps, evalOp, evalG, isPure, gdB, ung, pickG, gv, pt, cv, retV, biV, lenV, boT, bo, intBo, strBo, boolBo, isSh, uo, pickV, nilV, extV, ixOf, mkfV, mmV, mm, preL, postL, isCallV, boxS, cellsV, allocS, storeS, loadV, readT, ptrCells, ofs, fieldAddrV, fieldV, wr, buildV, fillA, buildSliceV, chunks, tagCut, indexV, indexAddrV, sliceV, sliceStr, sliceSl, bnd, if_true, if_false, ite_true, ite_false, and_self, and_true, true_and, beq_self_eq_true, nn, nc0, nc1, nc2, nc3, nc4, nc8, nc10, nc32, Int.toNat_natCast, eq_self, decide_true, decide_false, reduceIte, Nat.reduceAdd, Nat.reduceMul, Nat.reduceSub, Nat.reduceLeDiff, Nat.reduceLT, Nat.reduceEqDiff, Nat.reduceMod, Int.reduceBEq, Int.reduceBNe, Int.reduceNeg, Int.reduceNegSucc, Int.reduceLT, Int.reduceLE, Int.reduceToNat, F3, F9, F23, F25, e1, e2, e3, hlt, strs_len, strs_flat, strs_getD hlt, if_pos]
             refine ⟨_, _, rfl, ?_⟩
             refine hK2 _ _ ?_
             clear hK2 K2)
        refine ⟨⟨k + 1, by omega⟩, by simp; omega, ?_⟩
        rw [wrap_in (by omega) (by omega)]
        simp only [hs, if_pos hk0, List.append_assoc, List.cons_append, List.nil_append]
        exact .same (by (repeat' (first | exact trivial | refine And.intro ?_ ?_)
                         all_goals first | with_reducible exact Vle.junk _ | with_reducible exact Vle.refl _ | exact Vle.refl _ | exact Vle.ro _ _))
      · have hk0 : ¬ k = 0 := by simpa using h
        repeat first
          | (with_reducible first
              | refine AWP_seq ?_ | refine then_n ?_ | refine then_r ?_ | refine then_x ?_ | refine AWP_block ?_ | refine blk_n ?_ | refine blk_r ?_ | refine blk_x ?_ | refine blk_y rfl ?_ | refine AWP_skip ?_
              | refine AWP_ret ?_ | refine AWP_exit ?_ | refine AWP_true rfl ?_ | refine AWP_false rfl ?_ | refine AOps_nil ?_ | refine LexA_nil ?_ | refine AWP_region ?_ | refine AWP_draw mixed_ok (by kernel_rfl) ?_)
          | ((first
              | refine AOps_pre rfl (by simp only [postL, isCallV, SL]; exact rfl) fun K2 hK2 => ?_
              | refine LexA_pre rfl rfl (by simp only [postL, isCallV, SL]; exact rfl) fun K2 hK2 => ?_)
             simp (disch := omega) only [SL, evalOps, evalOp, evalG, isPure, gdB, ung, pickG, gv, pt, cv, retV, biV, lenV, boT, bo, intBo, strBo, boolBo, isSh, uo, pickV, nilV, extV, ixOf, mkfV, mmV, mm, preL, postL, isCallV, boxS, cellsV, allocS, storeS, loadV, readT, ptrCells, ofs, fieldAddrV, fieldV, wr, buildV, fillA, buildSliceV, chunks, tagCut, indexV, indexAddrV, sliceV, sliceStr, sliceSl, bnd, if_true, if_false, ite_true, ite_false, and_self, and_true, true_and, beq_self_eq_true, nn, nc0, nc1, nc2, nc3, nc4, nc8, nc10, nc32, Int.toNat_natCast, eq_self, decide_true, decide_false, reduceIte, Nat.reduceAdd, Nat.reduceMul, Nat.reduceSub, Nat.reduceLeDiff, Nat.reduceLT, Nat.reduceEqDiff, Nat.reduceMod, Int.reduceBEq, Int.reduceBNe, Int.reduceNeg, Int.reduceNegSucc, Int.reduceLT, Int.reduceLE, Int.reduceToNat, F3, F9, F23, F25, e1, e2, e3, hlt, strs_len, strs_flat, strs_getD hlt, if_pos]
             refine ⟨_, _, rfl, ?_⟩
             refine hK2 _ _ ?_
             clear hK2 K2)
        refine ⟨⟨k + 1, by omega⟩, by simp; omega, ?_⟩
        rw [wrap_in (by omega) (by omega)]
        simp only [hs, if_neg hk0, List.append_assoc, List.cons_append, List.nil_append]
        exact .same (by (repeat' (first | exact trivial | refine And.intro ?_ ?_)
                         all_goals first | with_reducible exact Vle.junk _ | with_reducible exact Vle.refl _ | exact Vle.refl _ | exact Vle.ro _ _))
    · have hk' : k = v.pre.length := by have : ¬ k < v.pre.length := by simpa using h
                                        omega
      subst hk'
      repeat first
        | (with_reducible first
            | refine AWP_seq ?_ | refine then_n ?_ | refine then_r ?_ | refine then_x ?_ | refine AWP_block ?_ | refine blk_n ?_ | refine blk_r ?_ | refine blk_x ?_ | refine blk_y rfl ?_ | refine AWP_skip ?_
            | refine AWP_ret ?_ | refine AWP_exit ?_ | refine AWP_true rfl ?_ | refine AWP_false rfl ?_ | refine AOps_nil ?_ | refine LexA_nil ?_ | refine AWP_region ?_ | refine AWP_draw mixed_ok (by kernel_rfl) ?_)
        | ((first
            | refine AOps_pre rfl (by simp only [postL, isCallV, SL]; exact rfl) fun K2 hK2 => ?_
            | refine LexA_pre rfl rfl (by simp only [postL, isCallV, SL]; exact rfl) fun K2 hK2 => ?_)
           simp (disch := omega) only [SL, evalOps, evalOp, evalG, isPure, gdB, ung, pickG, gv, pt, cv, retV, biV, lenV, boT, bo, intBo, strBo, boolBo, isSh, uo, pickV, nilV, extV, ixOf, mkfV, mmV, mm, preL, postL, isCallV, boxS, cellsV, allocS, storeS, loadV, readT, ptrCells, ofs, fieldAddrV, fieldV, wr, buildV, fillA, buildSliceV, chunks, tagCut, indexV, indexAddrV, sliceV, sliceStr, sliceSl, bnd, if_true, if_false, ite_true, ite_false, and_self, and_true, true_and, beq_self_eq_true, nn, nc0, nc1, nc2, nc3, nc4, nc8, nc10, nc32, Int.toNat_natCast, eq_self, decide_true, decide_false, reduceIte, Nat.reduceAdd, Nat.reduceMul, Nat.reduceSub, Nat.reduceLeDiff, Nat.reduceLT, Nat.reduceEqDiff, Nat.reduceMod, Int.reduceBEq, Int.reduceBNe, Int.reduceNeg, Int.reduceNegSucc, Int.reduceLT, Int.reduceLE, Int.reduceToNat, F3, F9, F23, F25, if_pos]
           refine ⟨_, _, rfl, ?_⟩
           refine hK2 _ _ ?_
           clear hK2 K2)
      refine body_r (by simp only [resA, ptrCells, readT, if_true, SL, Nat.reduceAdd, Nat.reduceLeDiff, F3, F9, F23, F25]; exact rfl) ?_
      dsimp only [outV]
      first | refine drop_end ?_ | refine drop_end0 ?_
      refine Vle.of_eq ?_
      rw [hbase, List.take_length]
end Go.Proofs.YtfagngmikbmmhaaDoor.A
