/- Texts of the proof, one behind another: LkQ, LkG, LkH. -/
import Derived.Test.YtdjjlbjagaadaaaGreatDoorMa13
/- Locks: the head line, plain. -/
namespace Go.Proofs.YtdjjlbjagaadaaaGreatDoor.A
open Go
set_option linter.unusedSimpArgs false
set_option linter.unusedVariables false

theorem suf10 (s : List UInt8) : Lib.hasSuffix s [10] = (s.getD (s.length - 1) 0 == 10) := by
  rcases List.eq_nil_or_concat s with rfl | ⟨t, c, rfl⟩
  · rfl
  · rw [List.concat_eq_append, Bool.eq_iff_iff]
    simp only [Lib.hasSuffix, List.isSuffixOf_iff_suffix]
    have e : (t ++ [c]).getD ((t ++ [c]).length - 1) 0 = c := by simp
    rw [e, beq_iff_eq]
    constructor
    · rintro ⟨r, hr⟩
      have := List.append_inj_right' hr rfl
      simpa using this.symm
    · rintro rfl
      exact ⟨t, rfl⟩
theorem last10 {s : List UInt8} (h : Lib.hasSuffix s [10] = true) : s = s.dropLast ++ [10] := by
  rw [suf10, beq_iff_eq] at h
  rcases List.eq_nil_or_concat s with rfl | ⟨t, c, rfl⟩
  · simp at h
  · rw [List.concat_eq_append] at h ⊢
    have e : (t ++ [c]).getD ((t ++ [c]).length - 1) 0 = c := by simp
    rw [e] at h
    subst h
    simp
theorem lock_no10 : ∀ b ∈ lockHead, b ≠ 10 := by decide
theorem head_iff (t : List UInt8) : beginsB (t ++ [10]) (lockHead ++ [10]) = true ↔ (spl 10 t).getD 0 [] = lockHead := by
  constructor
  · intro h
    simp only [beginsB, Bool.and_eq_true, decide_eq_true_eq, beq_iff_eq] at h
    obtain ⟨hl, ht⟩ := h
    have e : t ++ [10] = lockHead ++ 10 :: (t ++ [10]).drop 7 := by
      conv => lhs; rw [← List.take_append_drop 7 (t ++ [10])]
      have e7 : (lockHead ++ [10]).length = 7 := rfl
      rw [e7] at ht
      rw [ht, List.append_assoc]
      rfl
    rcases List.eq_nil_or_concat ((t ++ [10]).drop 7) with hr | ⟨r, c, hr⟩
    · rw [hr] at e
      have := List.append_inj_left' e rfl
      rw [this, spl_none lock_no10]
      rfl
    · rw [hr, List.concat_eq_append, show lockHead ++ 10 :: (r ++ [c]) = (lockHead ++ 10 :: r) ++ [c] by simp] at e
      have := List.append_inj_left' e rfl
      rw [this, spl_at lock_no10]
      rfl
  · intro h
    have hj := spl_join 10 t
    cases hs : spl 10 t with
    | nil => exact absurd hs (spl_ne 10 t)
    | cons a r =>
      rw [hs] at h hj
      have ha : a = lockHead := by simpa using h
      subst ha
      have : ∃ r', t ++ [10] = lockHead ++ 10 :: r' := by
        cases r with
        | nil =>
          rw [Lib.join_one] at hj
          exact ⟨[], by rw [← hj]⟩
        | cons b r =>
          rw [Lib.join_cons] at hj
          exact ⟨(b ++ (r.map ([10] ++ ·)).flatten) ++ [10], by rw [← hj]; simp [Lib.joinTail]⟩
      obtain ⟨r', e⟩ := this
      rw [e]
      simp [beginsB, lockHead]
def lines1 (s : List UInt8) : List (List UInt8) := (spl 10 s.dropLast).drop 1
theorem lockOf_1 {s : List UInt8} (h : (decide (s.length ≤ 65536) && Lib.hasSuffix s [10]) = false) : lockOf s = ([], 0, 63) := by
  unfold lockOf lockOk
  rw [← suf10, if_neg]
  intro e
  simp only [Bool.and_eq_true] at e
  rw [e.1.1, e.2] at h
  cases h
theorem lockOf_2 {s : List UInt8} (h : Lib.hasSuffix s [10] = true) (h2 : (spl 10 s.dropLast).getD 0 [] ≠ lockHead) : lockOf s = ([], 0, 63) := by
  unfold lockOf lockOk
  rw [if_neg]
  intro e
  simp only [Bool.and_eq_true] at e
  have := e.1.2
  rw [last10 h] at this
  exact h2 ((head_iff _).1 this)
theorem lockOf_3 {s : List UInt8} (h1 : s.length ≤ 65536) (h : Lib.hasSuffix s [10] = true) (h2 : (spl 10 s.dropLast).getD 0 [] = lockHead) : lockOf s = foldP [] 1 (lines1 s) := by
  unfold lockOf lockOk
  rw [if_pos]
  · rfl
  · simp only [Bool.and_eq_true, decide_eq_true_eq]
    refine ⟨⟨h1, ?_⟩, by rw [← suf10]; exact h⟩
    have := (head_iff s.dropLast).2 h2
    rwa [← last10 h] at this
theorem trim10 {s : List UInt8} (h : Lib.hasSuffix s [10] = true) : Lib.trimSuffix s [10] = s.dropLast := by
  unfold Lib.trimSuffix
  rw [if_pos h, List.dropLast_eq_take]
  rfl
end Go.Proofs.YtdjjlbjagaadaaaGreatDoor.A
/- lockfile.Parse. -/
namespace Go.Proofs.YtdjjlbjagaadaaaGreatDoor.A
open Go Go.RowKit
set_option maxRecDepth 100000
set_option linter.unusedSimpArgs false
set_option linter.unusedVariables false

def GLkG61 := PLift.up <| And.intro F3 <| And.intro F5 <| And.intro F9 <| And.intro F20 <| And.intro Tryz.underlying20 <| And.intro F23 <| And.intro F24 <| And.intro F33 <| And.intro F35 <| And.intro F37 <| And.intro F39 <| F105
theorem sbel_app {n : Nat} : ∀ {s t : List AE}, sbel n (s ++ t) ↔ sbel n s ∧ sbel n t
  | [], t => by simp [sbel]
  | x :: s, t => by
    have ih := sbel_app (n := n) (s := s) (t := t)
    cases x <;> simp only [List.cons_append, sbel, ih, and_assoc]
/-- The entries tell nothing of entries that are not there. -/
theorem AWP_sb {rn : Option Nat} {P : Program} {c : Code} {Q : APost} {fr : List V} {σ : List AE} (h : sbel σ.length σ → AWP rn P c Q fr σ) : AWP rn P c Q fr σ := fun a w en hi hf {_} hd => h hi.sb a w en hi hf hd
theorem hasSuffix_ok (s p : List UInt8) (σ : List AE) (hs : s.length ≤ 9223372036854775807) : Gives Tryz.prog 63 [.str s, .str p] σ (.bool (Lib.hasSuffix s p)) :=
  Gives_of ⟨_, Tryz.func63, rfl, rfl⟩ fun w en vals hi hl => by
    obtain ⟨u, v, rfl, h1, h2⟩ := LR2 hl
    simp only [VR] at h1 h2
    subst h1; subst h2
    refine (Tryz.strings_HasSuffix ⟨s.toArray⟩ ⟨p.toArray⟩ w (by simpa [ByteArray.size] using hs)).mono ?_
    rintro e w' ⟨rfl, rfl⟩
    exact ⟨_, rfl, Below.refl _ _, by simp [VR]⟩
theorem trimSuffix_ok (s p : List UInt8) (σ : List AE) (hs : s.length ≤ 9223372036854775807) : Gives Tryz.prog 65 [.str s, .str p] σ (.str (Lib.trimSuffix s p)) :=
  Gives_of ⟨_, Tryz.func65, rfl, rfl⟩ fun w en vals hi hl => by
    obtain ⟨u, v, rfl, h1, h2⟩ := LR2 hl
    simp only [VR] at h1 h2
    subst h1; subst h2
    refine (Tryz.strings_TrimSuffix ⟨s.toArray⟩ ⟨p.toArray⟩ w (by simpa [ByteArray.size] using hs)).mono ?_
    rintro e w' ⟨rfl, rfl⟩
    exact ⟨_, rfl, Below.refl _ _, by simp [VR]⟩
/-- Behind Parse's body: what the results' boxes hold. -/
def parseQ (s : List UInt8) (σ : List AE) : APost
  | .ret, fr, σ' => (fr.getD 2 .junk = .ptr σ.length 0 ∧ fr.getD 3 .junk = .ptr (σ.length + 1) 0 ∧ fr.getD 4 .junk = .ptr (σ.length + 2) 0) ∧
      ∃ l t τ, σ' = σ ++ ([.box [.sl t (pinsC l)], .box [.int .i64 0], .box [.int .i64 0]] ++ τ) ∧ lockOf s = (l, 0, 0)
  | .panic x, fr, σ' => (fr.getD 2 .junk = .ptr σ.length 0 ∧ fr.getD 3 .junk = .ptr (σ.length + 1) 0 ∧ fr.getD 4 .junk = .ptr (σ.length + 2) 0) ∧
      ∃ n a b c τ, x = .exact (failV n) ∧ σ' = σ ++ ([.box [a], .box [b], .box [c]] ++ τ) ∧ ∃ m : Nat, n = m ∧ lockOf s = ([], m, 63)
  | _, _, _ => False
/-- What Parse comes to. -/
def lockV (s : List UInt8) : V := .tup [.sl .ro (pinsC (lockOf s).1), .int .i64 ((lockOf s).2.1 : Int), .int .i64 ((lockOf s).2.2 : Int)]
/-- The deferred call where nothing has panicked. -/
theorem parse1_ret (a b c : Nat) (σ : List AE) : ACallsD Tryz.prog 61 [.ptr a 0, .ptr b 0, .ptr c 0] .returning .returning σ (fun r σ' => r = .ret (.tup []) ∧ σ' = σ) := by
  
  refine ACallsD_rec Tryz.func61 rfl recs_ret (by decide) ?_
  simp only [Tryz.ntmps61, Tryz.results61, List.length_cons, List.length_nil, Nat.reduceAdd, Nat.reduceSub, List.replicate_succ, List.replicate_zero, List.cons_append, List.nil_append, List.toList_toArray, List.set_cons_succ, List.set_cons_zero]
  refine wlk GLkG61.down ?_
  refine rtn GLkG61.down ?_
  exact ⟨rfl, rfl⟩
/-! A drawn region by hand. -/
section
variable {rn : Option Nat} {P : Program} {X : V → List AE → Prop} {G : List AE → Prop} {md : Region.Mode} {l : List Oper} {F : List V → List AE → Prop} {σ σi σj : List AE} {fr : List V} {fuel : Nat} {listed : Array Bool}
theorem AAny_0 (hr : Region.ready md l.toArray listed = []) (h : F fr σ) : AAny P X G md l.toArray F fuel listed fr σ := by
  cases fuel with
  | zero => exact ⟨hr, h⟩
  | succ n => exact ⟨fun _ => h, fun i hi => by rw [hr] at hi; cases hi⟩
theorem AAny_1 {i : Nat} {o : Oper} {x : V} (hr : Region.ready md l.toArray listed = [i]) (ho : l[i]? = some o) (hg : o.guard = none) (he : evalOp P σ (gv fr) o.op = some (x, σi)) (h : AAny P X G md l.toArray F fuel (listed.setIfInBounds i true) (pt fr o.dst x) σi) : AAny P X G md l.toArray F (fuel + 1) listed fr σ :=
  ⟨fun e => (by rw [hr] at e; cases e), fun k hk => by
    rw [hr, List.mem_singleton] at hk
    subst hk
    exact ⟨o, x, σi, (by simpa using ho), Stp_of hg he, h⟩⟩
theorem AAny_2 {i j : Nat} {o o' : Oper} {x x' : V} (hr : Region.ready md l.toArray listed = [i, j]) (ho : l[i]? = some o) (hg : o.guard = none) (he : evalOp P σ (gv fr) o.op = some (x, σi)) (ho' : l[j]? = some o') (hg' : o'.guard = none) (he' : evalOp P σ (gv fr) o'.op = some (x', σj))
    (h : AAny P X G md l.toArray F fuel (listed.setIfInBounds i true) (pt fr o.dst x) σi) (h' : AAny P X G md l.toArray F fuel (listed.setIfInBounds j true) (pt fr o'.dst x') σj) : AAny P X G md l.toArray F (fuel + 1) listed fr σ :=
  ⟨fun e => (by rw [hr] at e; cases e), fun k hk => by
    rw [hr] at hk
    rcases List.mem_cons.1 hk with rfl | hk
    · exact ⟨o, x, σi, (by simpa using ho), Stp_of hg he, h⟩
    · rw [List.mem_singleton] at hk
      subst hk
      exact ⟨o', x', σj, (by simpa using ho'), Stp_of hg' he', h'⟩⟩
theorem AWP_drawA {Q : APost} {id : Nat} {l : List Oper} (hm : P.follows .mixedOrders = true) (h : AAny P (fun x σ' => ∀ fr', Keeps l fr fr' → Q (.panic x) fr' σ') GN .any l.toArray (fun fr' σ' => Q .normal fr' σ') l.length (Array.replicate l.length false) fr σ) : AWP rn P (.region id l.toArray true) Q fr σ := fun a w en hi hf {_} hd => by
  refine wpIn_region_any hm (any_in rn (LQ_few _ _ _ _) _ _ _ _ (by exact congrArg List.length hd) ?_)
  refine wpAny_of_AAny (G := GN) (F := fun fr' σ' => Q .normal fr' σ') (X := fun x σ' => ∀ fr', Keeps l fr fr' → Q (.panic x) fr' σ') (fr0 := fr) (fun _ _ h => h) (fun _ _ h fr' hk => h fr' (by simpa using hk)) _ _ fr σ a w.drew en (fun _ _ => rfl) hi.drew (hf.ext .drew) hd .drew ?_
  simpa using h
end
theorem app_get {σ τ : List AE} {i : Nat} {x : AE} (h : σ[i]? = some x) : (σ ++ τ)[i]? = some x := by
  rw [List.getElem?_append_left (List.getElem?_eq_some_iff.1 h).1]
  exact h
theorem parse1_pan' (ρ : List AE) (a b c : Nat) (x y z : V) (n : Int) (hab : a ≠ b) (hac : a ≠ c) (hbc : b ≠ c) (ha : ρ[a]? = some (.box [x])) (hb : ρ[b]? = some (.box [y])) (hc : ρ[c]? = some (.box [z])) :
    ACallsD Tryz.prog 61 [.ptr a 0, .ptr b 0, .ptr c 0] (.panicking [{ v := failV n, recovered := false }]) (.panicking [{ v := failV n, recovered := true }]) ρ
    (fun r σ' => r = .ret (.tup []) ∧ σ' = (((ρ ++ [AE.box [.int .i64 n]]).set a (.box [.sl .nil []])).set b (.box [.int .i64 n])).set c (.box [.int .i64 63])) := by
  
  refine ACallsD_rec Tryz.func61 rfl (recs_pan _) (by decide) ?_
  simp only [Tryz.ntmps61, Tryz.results61, List.length_cons, List.length_nil, Nat.reduceAdd, Nat.reduceSub, List.replicate_succ, List.replicate_zero, List.cons_append, List.nil_append, List.toList_toArray, List.set_cons_succ, List.set_cons_zero]
  have hal : a ≠ ρ.length := fun e => by rw [e] at ha; simp at ha
  have hbl : b ≠ ρ.length := fun e => by rw [e] at hb; simp at hb
  have hcl : c ≠ ρ.length := fun e => by rw [e] at hc; simp at hc
  repeat first
    | (with_reducible first
        | refine AWP_seq ?_ | refine then_n ?_ | refine then_r ?_ | refine then_x ?_ | refine AWP_block ?_ | refine blk_n ?_ | refine blk_r ?_ | refine blk_x ?_ | refine blk_y rfl ?_ | refine AWP_skip ?_
        | refine AWP_ret ?_ | refine AWP_exit ?_ | refine AWP_true rfl ?_ | refine AWP_false rfl ?_ | refine AOps_nil ?_ | refine LexA_nil ?_ | refine AWP_region ?_)
    | ((first
        | refine AOps_pre rfl (by simp only [postL, isCallV, SL]; exact rfl) fun K2 hK2 => ?_
        | refine LexA_pre rfl (by simp only [postL, isCallV, SL]; exact rfl) fun K2 hK2 => ?_)
       simp (maxSteps := 2000000) (disch := omega) only [SL, evalOps, evalOp, boX, eqB, isIf0, ptrTo, isSlT, conc, conc1, concL, mkI, tasV, absV, one1, allOne, evalG, isPure, gdB, ung, pickG, gv, pt, cv, retV, biV, lenV, boT, bo, intBo, strBo, boolBo, isSh, uo, pickV, nilV, extV, ixOf, mkfV, mmV, mm, preL, postL, isCallV, boxS, cellsV, allocS, storeS, loadV, readT, ptrCells, ofs, fieldAddrV, fieldV, wr, wr0, List.nil_append, List.cons_append, List.take_succ_cons, List.take_zero, List.drop_succ_cons, List.drop_zero, List.drop_nil, List.append_nil, buildV, fillA, buildSliceV, chunks, tagCut, indexV, indexAddrV, sliceV, sliceStr, sliceSl, sliceRw, bnd, keyBo, decK_keyC, keyC_len, if_true, if_false, ite_true, ite_false, and_self, and_true, true_and, beq_self_eq_true, nn, nc0, nc1, nc2, nc3, nc4, nc8, nc10, nc32, Int.toNat_natCast, eq_self, decide_true, decide_false, reduceIte, Nat.reduceAdd, Nat.reduceMul, Nat.reduceSub, Nat.reduceLeDiff, Nat.reduceLT, Nat.reduceEqDiff, Nat.reduceMod, Int.reduceBEq, Int.reduceBNe, Int.reduceNeg, Int.reduceNegSucc, Int.reduceLT, Int.reduceLE, Int.reduceToNat, F3, F5, F9, F20, Tryz.underlying20, F23, F24, F33, F35, F37, F39, F105, failV, if_pos]
       refine ⟨_, _, rfl, ?_⟩
       refine hK2 _ _ ?_
       clear hK2 K2)
  refine AWP_drawA mixed_ok ?_
  have hA0 : (ρ ++ [AE.box [.int .i64 n]])[a]? = some (.box [x]) := app_get ha
  have hb1 : ((ρ ++ [AE.box [.int .i64 n]]).set a (.box [.sl .nil []]))[b]? = some (.box [y]) := set_get' hab (app_get hb)
  have hl1 : ((ρ ++ [AE.box [.int .i64 n]]).set a (.box [.sl .nil []]))[ρ.length]? = some (.box [.int .i64 n]) := set_get' hal (by simp)
  have hc2 : (((ρ ++ [AE.box [.int .i64 n]]).set a (.box [.sl .nil []])).set b (.box [.int .i64 n]))[c]? = some (.box [z]) := set_get' hbc (set_get' hac (app_get hc))
  refine AAny_2 (i := 0) (j := 2) (by kernel_rfl) rfl rfl (by simp (maxSteps := 2000000) (disch := omega) only [SL, evalOps, evalOp, boX, eqB, isIf0, ptrTo, isSlT, conc, conc1, concL, mkI, tasV, absV, one1, allOne, evalG, isPure, gdB, ung, pickG, gv, pt, cv, retV, biV, lenV, boT, bo, intBo, strBo, boolBo, isSh, uo, pickV, nilV, extV, ixOf, mkfV, mmV, mm, preL, postL, isCallV, boxS, cellsV, allocS, storeS, loadV, readT, ptrCells, ofs, fieldAddrV, fieldV, wr, wr0, List.nil_append, List.cons_append, List.take_succ_cons, List.take_zero, List.drop_succ_cons, List.drop_zero, List.drop_nil, List.append_nil, buildV, fillA, buildSliceV, chunks, tagCut, indexV, indexAddrV, sliceV, sliceStr, sliceSl, sliceRw, bnd, keyBo, decK_keyC, keyC_len, if_true, if_false, ite_true, ite_false, and_self, and_true, true_and, beq_self_eq_true, nn, nc0, nc1, nc2, nc3, nc4, nc8, nc10, nc32, Int.toNat_natCast, eq_self, decide_true, decide_false, reduceIte, Nat.reduceAdd, Nat.reduceMul, Nat.reduceSub, Nat.reduceLeDiff, Nat.reduceLT, Nat.reduceEqDiff, Nat.reduceMod, Int.reduceBEq, Int.reduceBNe, Int.reduceNeg, Int.reduceNegSucc, Int.reduceLT, Int.reduceLE, Int.reduceToNat, F3, F5, F9, F20, Tryz.underlying20, F23, F24, F33, F35, F37, F39, F105, if_pos]; exact rfl) rfl rfl (by simp (maxSteps := 2000000) (disch := omega) only [SL, evalOps, evalOp, boX, eqB, isIf0, ptrTo, isSlT, conc, conc1, concL, mkI, tasV, absV, one1, allOne, evalG, isPure, gdB, ung, pickG, gv, pt, cv, retV, biV, lenV, boT, bo, intBo, strBo, boolBo, isSh, uo, pickV, nilV, extV, ixOf, mkfV, mmV, mm, preL, postL, isCallV, boxS, cellsV, allocS, storeS, loadV, readT, ptrCells, ofs, fieldAddrV, fieldV, wr, wr0, List.nil_append, List.cons_append, List.take_succ_cons, List.take_zero, List.drop_succ_cons, List.drop_zero, List.drop_nil, List.append_nil, buildV, fillA, buildSliceV, chunks, tagCut, indexV, indexAddrV, sliceV, sliceStr, sliceSl, sliceRw, bnd, keyBo, decK_keyC, keyC_len, if_true, if_false, ite_true, ite_false, and_self, and_true, true_and, beq_self_eq_true, nn, nc0, nc1, nc2, nc3, nc4, nc8, nc10, nc32, Int.toNat_natCast, eq_self, decide_true, decide_false, reduceIte, Nat.reduceAdd, Nat.reduceMul, Nat.reduceSub, Nat.reduceLeDiff, Nat.reduceLT, Nat.reduceEqDiff, Nat.reduceMod, Int.reduceBEq, Int.reduceBNe, Int.reduceNeg, Int.reduceNegSucc, Int.reduceLT, Int.reduceLE, Int.reduceToNat, F3, F5, F9, F20, Tryz.underlying20, F23, F24, F33, F35, F37, F39, F105, hA0, if_pos]; exact rfl) ?_ ?_
  · refine AAny_2 (i := 1) (j := 2) (by kernel_rfl) rfl rfl (by simp (maxSteps := 2000000) (disch := omega) only [SL, evalOps, evalOp, boX, eqB, isIf0, ptrTo, isSlT, conc, conc1, concL, mkI, tasV, absV, one1, allOne, evalG, isPure, gdB, ung, pickG, gv, pt, cv, retV, biV, lenV, boT, bo, intBo, strBo, boolBo, isSh, uo, pickV, nilV, extV, ixOf, mkfV, mmV, mm, preL, postL, isCallV, boxS, cellsV, allocS, storeS, loadV, readT, ptrCells, ofs, fieldAddrV, fieldV, wr, wr0, List.nil_append, List.cons_append, List.take_succ_cons, List.take_zero, List.drop_succ_cons, List.drop_zero, List.drop_nil, List.append_nil, buildV, fillA, buildSliceV, chunks, tagCut, indexV, indexAddrV, sliceV, sliceStr, sliceSl, sliceRw, bnd, keyBo, decK_keyC, keyC_len, if_true, if_false, ite_true, ite_false, and_self, and_true, true_and, beq_self_eq_true, nn, nc0, nc1, nc2, nc3, nc4, nc8, nc10, nc32, Int.toNat_natCast, eq_self, decide_true, decide_false, reduceIte, Nat.reduceAdd, Nat.reduceMul, Nat.reduceSub, Nat.reduceLeDiff, Nat.reduceLT, Nat.reduceEqDiff, Nat.reduceMod, Int.reduceBEq, Int.reduceBNe, Int.reduceNeg, Int.reduceNegSucc, Int.reduceLT, Int.reduceLE, Int.reduceToNat, F3, F5, F9, F20, Tryz.underlying20, F23, F24, F33, F35, F37, F39, F105, if_pos]; exact rfl) rfl rfl (by simp (maxSteps := 2000000) (disch := omega) only [SL, evalOps, evalOp, boX, eqB, isIf0, ptrTo, isSlT, conc, conc1, concL, mkI, tasV, absV, one1, allOne, evalG, isPure, gdB, ung, pickG, gv, pt, cv, retV, biV, lenV, boT, bo, intBo, strBo, boolBo, isSh, uo, pickV, nilV, extV, ixOf, mkfV, mmV, mm, preL, postL, isCallV, boxS, cellsV, allocS, storeS, loadV, readT, ptrCells, ofs, fieldAddrV, fieldV, wr, wr0, List.nil_append, List.cons_append, List.take_succ_cons, List.take_zero, List.drop_succ_cons, List.drop_zero, List.drop_nil, List.append_nil, buildV, fillA, buildSliceV, chunks, tagCut, indexV, indexAddrV, sliceV, sliceStr, sliceSl, sliceRw, bnd, keyBo, decK_keyC, keyC_len, if_true, if_false, ite_true, ite_false, and_self, and_true, true_and, beq_self_eq_true, nn, nc0, nc1, nc2, nc3, nc4, nc8, nc10, nc32, Int.toNat_natCast, eq_self, decide_true, decide_false, reduceIte, Nat.reduceAdd, Nat.reduceMul, Nat.reduceSub, Nat.reduceLeDiff, Nat.reduceLT, Nat.reduceEqDiff, Nat.reduceMod, Int.reduceBEq, Int.reduceBNe, Int.reduceNeg, Int.reduceNegSucc, Int.reduceLT, Int.reduceLE, Int.reduceToNat, F3, F5, F9, F20, Tryz.underlying20, F23, F24, F33, F35, F37, F39, F105, hA0, if_pos]; exact rfl) ?_ ?_
    · refine AAny_1 (i := 2) (by kernel_rfl) rfl rfl (by simp (maxSteps := 2000000) (disch := omega) only [SL, evalOps, evalOp, boX, eqB, isIf0, ptrTo, isSlT, conc, conc1, concL, mkI, tasV, absV, one1, allOne, evalG, isPure, gdB, ung, pickG, gv, pt, cv, retV, biV, lenV, boT, bo, intBo, strBo, boolBo, isSh, uo, pickV, nilV, extV, ixOf, mkfV, mmV, mm, preL, postL, isCallV, boxS, cellsV, allocS, storeS, loadV, readT, ptrCells, ofs, fieldAddrV, fieldV, wr, wr0, List.nil_append, List.cons_append, List.take_succ_cons, List.take_zero, List.drop_succ_cons, List.drop_zero, List.drop_nil, List.append_nil, buildV, fillA, buildSliceV, chunks, tagCut, indexV, indexAddrV, sliceV, sliceStr, sliceSl, sliceRw, bnd, keyBo, decK_keyC, keyC_len, if_true, if_false, ite_true, ite_false, and_self, and_true, true_and, beq_self_eq_true, nn, nc0, nc1, nc2, nc3, nc4, nc8, nc10, nc32, Int.toNat_natCast, eq_self, decide_true, decide_false, reduceIte, Nat.reduceAdd, Nat.reduceMul, Nat.reduceSub, Nat.reduceLeDiff, Nat.reduceLT, Nat.reduceEqDiff, Nat.reduceMod, Int.reduceBEq, Int.reduceBNe, Int.reduceNeg, Int.reduceNegSucc, Int.reduceLT, Int.reduceLE, Int.reduceToNat, F3, F5, F9, F20, Tryz.underlying20, F23, F24, F33, F35, F37, F39, F105, hA0, if_pos]; exact rfl) ?_
      refine AAny_1 (i := 3) (by kernel_rfl) rfl rfl (by simp (maxSteps := 2000000) (disch := omega) only [SL, evalOps, evalOp, boX, eqB, isIf0, ptrTo, isSlT, conc, conc1, concL, mkI, tasV, absV, one1, allOne, evalG, isPure, gdB, ung, pickG, gv, pt, cv, retV, biV, lenV, boT, bo, intBo, strBo, boolBo, isSh, uo, pickV, nilV, extV, ixOf, mkfV, mmV, mm, preL, postL, isCallV, boxS, cellsV, allocS, storeS, loadV, readT, ptrCells, ofs, fieldAddrV, fieldV, wr, wr0, List.nil_append, List.cons_append, List.take_succ_cons, List.take_zero, List.drop_succ_cons, List.drop_zero, List.drop_nil, List.append_nil, buildV, fillA, buildSliceV, chunks, tagCut, indexV, indexAddrV, sliceV, sliceStr, sliceSl, sliceRw, bnd, keyBo, decK_keyC, keyC_len, if_true, if_false, ite_true, ite_false, and_self, and_true, true_and, beq_self_eq_true, nn, nc0, nc1, nc2, nc3, nc4, nc8, nc10, nc32, Int.toNat_natCast, eq_self, decide_true, decide_false, reduceIte, Nat.reduceAdd, Nat.reduceMul, Nat.reduceSub, Nat.reduceLeDiff, Nat.reduceLT, Nat.reduceEqDiff, Nat.reduceMod, Int.reduceBEq, Int.reduceBNe, Int.reduceNeg, Int.reduceNegSucc, Int.reduceLT, Int.reduceLE, Int.reduceToNat, F3, F5, F9, F20, Tryz.underlying20, F23, F24, F33, F35, F37, F39, F105, hb1, if_pos]; exact rfl) ?_
      refine AAny_1 (i := 4) (by kernel_rfl) rfl rfl (by simp (maxSteps := 2000000) (disch := omega) only [SL, evalOps, evalOp, boX, eqB, isIf0, ptrTo, isSlT, conc, conc1, concL, mkI, tasV, absV, one1, allOne, evalG, isPure, gdB, ung, pickG, gv, pt, cv, retV, biV, lenV, boT, bo, intBo, strBo, boolBo, isSh, uo, pickV, nilV, extV, ixOf, mkfV, mmV, mm, preL, postL, isCallV, boxS, cellsV, allocS, storeS, loadV, readT, ptrCells, ofs, fieldAddrV, fieldV, wr, wr0, List.nil_append, List.cons_append, List.take_succ_cons, List.take_zero, List.drop_succ_cons, List.drop_zero, List.drop_nil, List.append_nil, buildV, fillA, buildSliceV, chunks, tagCut, indexV, indexAddrV, sliceV, sliceStr, sliceSl, sliceRw, bnd, keyBo, decK_keyC, keyC_len, if_true, if_false, ite_true, ite_false, and_self, and_true, true_and, beq_self_eq_true, nn, nc0, nc1, nc2, nc3, nc4, nc8, nc10, nc32, Int.toNat_natCast, eq_self, decide_true, decide_false, reduceIte, Nat.reduceAdd, Nat.reduceMul, Nat.reduceSub, Nat.reduceLeDiff, Nat.reduceLT, Nat.reduceEqDiff, Nat.reduceMod, Int.reduceBEq, Int.reduceBNe, Int.reduceNeg, Int.reduceNegSucc, Int.reduceLT, Int.reduceLE, Int.reduceToNat, F3, F5, F9, F20, Tryz.underlying20, F23, F24, F33, F35, F37, F39, F105, hc2, if_pos]; exact rfl) ?_
      refine AAny_0 (by kernel_rfl) ?_
      simp only [pt, SL]
      repeat first
        | (with_reducible first
            | refine AWP_seq ?_ | refine then_n ?_ | refine then_r ?_ | refine then_x ?_ | refine AWP_block ?_ | refine blk_n ?_ | refine blk_r ?_ | refine blk_x ?_ | refine blk_y rfl ?_ | refine AWP_skip ?_
            | refine AWP_ret ?_ | refine AWP_exit ?_ | refine AWP_true rfl ?_ | refine AWP_false rfl ?_ | refine AOps_nil ?_ | refine LexA_nil ?_ | refine AWP_region ?_)
        | ((first
            | refine AOps_pre rfl (by simp only [postL, isCallV, SL]; exact rfl) fun K2 hK2 => ?_
            | refine LexA_pre rfl (by simp only [postL, isCallV, SL]; exact rfl) fun K2 hK2 => ?_)
           simp (maxSteps := 2000000) (disch := omega) only [SL, evalOps, evalOp, boX, eqB, isIf0, ptrTo, isSlT, conc, conc1, concL, mkI, tasV, absV, one1, allOne, evalG, isPure, gdB, ung, pickG, gv, pt, cv, retV, biV, lenV, boT, bo, intBo, strBo, boolBo, isSh, uo, pickV, nilV, extV, ixOf, mkfV, mmV, mm, preL, postL, isCallV, boxS, cellsV, allocS, storeS, loadV, readT, ptrCells, ofs, fieldAddrV, fieldV, wr, wr0, List.nil_append, List.cons_append, List.take_succ_cons, List.take_zero, List.drop_succ_cons, List.drop_zero, List.drop_nil, List.append_nil, buildV, fillA, buildSliceV, chunks, tagCut, indexV, indexAddrV, sliceV, sliceStr, sliceSl, sliceRw, bnd, keyBo, decK_keyC, keyC_len, if_true, if_false, ite_true, ite_false, and_self, and_true, true_and, beq_self_eq_true, nn, nc0, nc1, nc2, nc3, nc4, nc8, nc10, nc32, Int.toNat_natCast, eq_self, decide_true, decide_false, reduceIte, Nat.reduceAdd, Nat.reduceMul, Nat.reduceSub, Nat.reduceLeDiff, Nat.reduceLT, Nat.reduceEqDiff, Nat.reduceMod, Int.reduceBEq, Int.reduceBNe, Int.reduceNeg, Int.reduceNegSucc, Int.reduceLT, Int.reduceLE, Int.reduceToNat, F3, F5, F9, F20, Tryz.underlying20, F23, F24, F33, F35, F37, F39, F105, if_pos]
           refine ⟨_, _, rfl, ?_⟩
           refine hK2 _ _ ?_
           clear hK2 K2)
      refine rtn GLkG61.down ?_
      exact ⟨rfl, rfl⟩
    · refine AAny_1 (i := 1) (by kernel_rfl) rfl rfl (by simp (maxSteps := 2000000) (disch := omega) only [SL, evalOps, evalOp, boX, eqB, isIf0, ptrTo, isSlT, conc, conc1, concL, mkI, tasV, absV, one1, allOne, evalG, isPure, gdB, ung, pickG, gv, pt, cv, retV, biV, lenV, boT, bo, intBo, strBo, boolBo, isSh, uo, pickV, nilV, extV, ixOf, mkfV, mmV, mm, preL, postL, isCallV, boxS, cellsV, allocS, storeS, loadV, readT, ptrCells, ofs, fieldAddrV, fieldV, wr, wr0, List.nil_append, List.cons_append, List.take_succ_cons, List.take_zero, List.drop_succ_cons, List.drop_zero, List.drop_nil, List.append_nil, buildV, fillA, buildSliceV, chunks, tagCut, indexV, indexAddrV, sliceV, sliceStr, sliceSl, sliceRw, bnd, keyBo, decK_keyC, keyC_len, if_true, if_false, ite_true, ite_false, and_self, and_true, true_and, beq_self_eq_true, nn, nc0, nc1, nc2, nc3, nc4, nc8, nc10, nc32, Int.toNat_natCast, eq_self, decide_true, decide_false, reduceIte, Nat.reduceAdd, Nat.reduceMul, Nat.reduceSub, Nat.reduceLeDiff, Nat.reduceLT, Nat.reduceEqDiff, Nat.reduceMod, Int.reduceBEq, Int.reduceBNe, Int.reduceNeg, Int.reduceNegSucc, Int.reduceLT, Int.reduceLE, Int.reduceToNat, F3, F5, F9, F20, Tryz.underlying20, F23, F24, F33, F35, F37, F39, F105, hl1, if_pos]; exact rfl) ?_
      refine AAny_1 (i := 3) (by kernel_rfl) rfl rfl (by simp (maxSteps := 2000000) (disch := omega) only [SL, evalOps, evalOp, boX, eqB, isIf0, ptrTo, isSlT, conc, conc1, concL, mkI, tasV, absV, one1, allOne, evalG, isPure, gdB, ung, pickG, gv, pt, cv, retV, biV, lenV, boT, bo, intBo, strBo, boolBo, isSh, uo, pickV, nilV, extV, ixOf, mkfV, mmV, mm, preL, postL, isCallV, boxS, cellsV, allocS, storeS, loadV, readT, ptrCells, ofs, fieldAddrV, fieldV, wr, wr0, List.nil_append, List.cons_append, List.take_succ_cons, List.take_zero, List.drop_succ_cons, List.drop_zero, List.drop_nil, List.append_nil, buildV, fillA, buildSliceV, chunks, tagCut, indexV, indexAddrV, sliceV, sliceStr, sliceSl, sliceRw, bnd, keyBo, decK_keyC, keyC_len, if_true, if_false, ite_true, ite_false, and_self, and_true, true_and, beq_self_eq_true, nn, nc0, nc1, nc2, nc3, nc4, nc8, nc10, nc32, Int.toNat_natCast, eq_self, decide_true, decide_false, reduceIte, Nat.reduceAdd, Nat.reduceMul, Nat.reduceSub, Nat.reduceLeDiff, Nat.reduceLT, Nat.reduceEqDiff, Nat.reduceMod, Int.reduceBEq, Int.reduceBNe, Int.reduceNeg, Int.reduceNegSucc, Int.reduceLT, Int.reduceLE, Int.reduceToNat, F3, F5, F9, F20, Tryz.underlying20, F23, F24, F33, F35, F37, F39, F105, hb1, if_pos]; exact rfl) ?_
      refine AAny_1 (i := 4) (by kernel_rfl) rfl rfl (by simp (maxSteps := 2000000) (disch := omega) only [SL, evalOps, evalOp, boX, eqB, isIf0, ptrTo, isSlT, conc, conc1, concL, mkI, tasV, absV, one1, allOne, evalG, isPure, gdB, ung, pickG, gv, pt, cv, retV, biV, lenV, boT, bo, intBo, strBo, boolBo, isSh, uo, pickV, nilV, extV, ixOf, mkfV, mmV, mm, preL, postL, isCallV, boxS, cellsV, allocS, storeS, loadV, readT, ptrCells, ofs, fieldAddrV, fieldV, wr, wr0, List.nil_append, List.cons_append, List.take_succ_cons, List.take_zero, List.drop_succ_cons, List.drop_zero, List.drop_nil, List.append_nil, buildV, fillA, buildSliceV, chunks, tagCut, indexV, indexAddrV, sliceV, sliceStr, sliceSl, sliceRw, bnd, keyBo, decK_keyC, keyC_len, if_true, if_false, ite_true, ite_false, and_self, and_true, true_and, beq_self_eq_true, nn, nc0, nc1, nc2, nc3, nc4, nc8, nc10, nc32, Int.toNat_natCast, eq_self, decide_true, decide_false, reduceIte, Nat.reduceAdd, Nat.reduceMul, Nat.reduceSub, Nat.reduceLeDiff, Nat.reduceLT, Nat.reduceEqDiff, Nat.reduceMod, Int.reduceBEq, Int.reduceBNe, Int.reduceNeg, Int.reduceNegSucc, Int.reduceLT, Int.reduceLE, Int.reduceToNat, F3, F5, F9, F20, Tryz.underlying20, F23, F24, F33, F35, F37, F39, F105, hc2, if_pos]; exact rfl) ?_
      refine AAny_0 (by kernel_rfl) ?_
      simp only [pt, SL]
      repeat first
        | (with_reducible first
            | refine AWP_seq ?_ | refine then_n ?_ | refine then_r ?_ | refine then_x ?_ | refine AWP_block ?_ | refine blk_n ?_ | refine blk_r ?_ | refine blk_x ?_ | refine blk_y rfl ?_ | refine AWP_skip ?_
            | refine AWP_ret ?_ | refine AWP_exit ?_ | refine AWP_true rfl ?_ | refine AWP_false rfl ?_ | refine AOps_nil ?_ | refine LexA_nil ?_ | refine AWP_region ?_)
        | ((first
            | refine AOps_pre rfl (by simp only [postL, isCallV, SL]; exact rfl) fun K2 hK2 => ?_
            | refine LexA_pre rfl (by simp only [postL, isCallV, SL]; exact rfl) fun K2 hK2 => ?_)
           simp (maxSteps := 2000000) (disch := omega) only [SL, evalOps, evalOp, boX, eqB, isIf0, ptrTo, isSlT, conc, conc1, concL, mkI, tasV, absV, one1, allOne, evalG, isPure, gdB, ung, pickG, gv, pt, cv, retV, biV, lenV, boT, bo, intBo, strBo, boolBo, isSh, uo, pickV, nilV, extV, ixOf, mkfV, mmV, mm, preL, postL, isCallV, boxS, cellsV, allocS, storeS, loadV, readT, ptrCells, ofs, fieldAddrV, fieldV, wr, wr0, List.nil_append, List.cons_append, List.take_succ_cons, List.take_zero, List.drop_succ_cons, List.drop_zero, List.drop_nil, List.append_nil, buildV, fillA, buildSliceV, chunks, tagCut, indexV, indexAddrV, sliceV, sliceStr, sliceSl, sliceRw, bnd, keyBo, decK_keyC, keyC_len, if_true, if_false, ite_true, ite_false, and_self, and_true, true_and, beq_self_eq_true, nn, nc0, nc1, nc2, nc3, nc4, nc8, nc10, nc32, Int.toNat_natCast, eq_self, decide_true, decide_false, reduceIte, Nat.reduceAdd, Nat.reduceMul, Nat.reduceSub, Nat.reduceLeDiff, Nat.reduceLT, Nat.reduceEqDiff, Nat.reduceMod, Int.reduceBEq, Int.reduceBNe, Int.reduceNeg, Int.reduceNegSucc, Int.reduceLT, Int.reduceLE, Int.reduceToNat, F3, F5, F9, F20, Tryz.underlying20, F23, F24, F33, F35, F37, F39, F105, if_pos]
           refine ⟨_, _, rfl, ?_⟩
           refine hK2 _ _ ?_
           clear hK2 K2)
      refine rtn GLkG61.down ?_
      exact ⟨rfl, rfl⟩
  · refine AAny_1 (i := 0) (by kernel_rfl) rfl rfl (by simp (maxSteps := 2000000) (disch := omega) only [SL, evalOps, evalOp, boX, eqB, isIf0, ptrTo, isSlT, conc, conc1, concL, mkI, tasV, absV, one1, allOne, evalG, isPure, gdB, ung, pickG, gv, pt, cv, retV, biV, lenV, boT, bo, intBo, strBo, boolBo, isSh, uo, pickV, nilV, extV, ixOf, mkfV, mmV, mm, preL, postL, isCallV, boxS, cellsV, allocS, storeS, loadV, readT, ptrCells, ofs, fieldAddrV, fieldV, wr, wr0, List.nil_append, List.cons_append, List.take_succ_cons, List.take_zero, List.drop_succ_cons, List.drop_zero, List.drop_nil, List.append_nil, buildV, fillA, buildSliceV, chunks, tagCut, indexV, indexAddrV, sliceV, sliceStr, sliceSl, sliceRw, bnd, keyBo, decK_keyC, keyC_len, if_true, if_false, ite_true, ite_false, and_self, and_true, true_and, beq_self_eq_true, nn, nc0, nc1, nc2, nc3, nc4, nc8, nc10, nc32, Int.toNat_natCast, eq_self, decide_true, decide_false, reduceIte, Nat.reduceAdd, Nat.reduceMul, Nat.reduceSub, Nat.reduceLeDiff, Nat.reduceLT, Nat.reduceEqDiff, Nat.reduceMod, Int.reduceBEq, Int.reduceBNe, Int.reduceNeg, Int.reduceNegSucc, Int.reduceLT, Int.reduceLE, Int.reduceToNat, F3, F5, F9, F20, Tryz.underlying20, F23, F24, F33, F35, F37, F39, F105, if_pos]; exact rfl) ?_
    refine AAny_1 (i := 1) (by kernel_rfl) rfl rfl (by simp (maxSteps := 2000000) (disch := omega) only [SL, evalOps, evalOp, boX, eqB, isIf0, ptrTo, isSlT, conc, conc1, concL, mkI, tasV, absV, one1, allOne, evalG, isPure, gdB, ung, pickG, gv, pt, cv, retV, biV, lenV, boT, bo, intBo, strBo, boolBo, isSh, uo, pickV, nilV, extV, ixOf, mkfV, mmV, mm, preL, postL, isCallV, boxS, cellsV, allocS, storeS, loadV, readT, ptrCells, ofs, fieldAddrV, fieldV, wr, wr0, List.nil_append, List.cons_append, List.take_succ_cons, List.take_zero, List.drop_succ_cons, List.drop_zero, List.drop_nil, List.append_nil, buildV, fillA, buildSliceV, chunks, tagCut, indexV, indexAddrV, sliceV, sliceStr, sliceSl, sliceRw, bnd, keyBo, decK_keyC, keyC_len, if_true, if_false, ite_true, ite_false, and_self, and_true, true_and, beq_self_eq_true, nn, nc0, nc1, nc2, nc3, nc4, nc8, nc10, nc32, Int.toNat_natCast, eq_self, decide_true, decide_false, reduceIte, Nat.reduceAdd, Nat.reduceMul, Nat.reduceSub, Nat.reduceLeDiff, Nat.reduceLT, Nat.reduceEqDiff, Nat.reduceMod, Int.reduceBEq, Int.reduceBNe, Int.reduceNeg, Int.reduceNegSucc, Int.reduceLT, Int.reduceLE, Int.reduceToNat, F3, F5, F9, F20, Tryz.underlying20, F23, F24, F33, F35, F37, F39, F105, hl1, if_pos]; exact rfl) ?_
    refine AAny_1 (i := 3) (by kernel_rfl) rfl rfl (by simp (maxSteps := 2000000) (disch := omega) only [SL, evalOps, evalOp, boX, eqB, isIf0, ptrTo, isSlT, conc, conc1, concL, mkI, tasV, absV, one1, allOne, evalG, isPure, gdB, ung, pickG, gv, pt, cv, retV, biV, lenV, boT, bo, intBo, strBo, boolBo, isSh, uo, pickV, nilV, extV, ixOf, mkfV, mmV, mm, preL, postL, isCallV, boxS, cellsV, allocS, storeS, loadV, readT, ptrCells, ofs, fieldAddrV, fieldV, wr, wr0, List.nil_append, List.cons_append, List.take_succ_cons, List.take_zero, List.drop_succ_cons, List.drop_zero, List.drop_nil, List.append_nil, buildV, fillA, buildSliceV, chunks, tagCut, indexV, indexAddrV, sliceV, sliceStr, sliceSl, sliceRw, bnd, keyBo, decK_keyC, keyC_len, if_true, if_false, ite_true, ite_false, and_self, and_true, true_and, beq_self_eq_true, nn, nc0, nc1, nc2, nc3, nc4, nc8, nc10, nc32, Int.toNat_natCast, eq_self, decide_true, decide_false, reduceIte, Nat.reduceAdd, Nat.reduceMul, Nat.reduceSub, Nat.reduceLeDiff, Nat.reduceLT, Nat.reduceEqDiff, Nat.reduceMod, Int.reduceBEq, Int.reduceBNe, Int.reduceNeg, Int.reduceNegSucc, Int.reduceLT, Int.reduceLE, Int.reduceToNat, F3, F5, F9, F20, Tryz.underlying20, F23, F24, F33, F35, F37, F39, F105, hb1, if_pos]; exact rfl) ?_
    refine AAny_1 (i := 4) (by kernel_rfl) rfl rfl (by simp (maxSteps := 2000000) (disch := omega) only [SL, evalOps, evalOp, boX, eqB, isIf0, ptrTo, isSlT, conc, conc1, concL, mkI, tasV, absV, one1, allOne, evalG, isPure, gdB, ung, pickG, gv, pt, cv, retV, biV, lenV, boT, bo, intBo, strBo, boolBo, isSh, uo, pickV, nilV, extV, ixOf, mkfV, mmV, mm, preL, postL, isCallV, boxS, cellsV, allocS, storeS, loadV, readT, ptrCells, ofs, fieldAddrV, fieldV, wr, wr0, List.nil_append, List.cons_append, List.take_succ_cons, List.take_zero, List.drop_succ_cons, List.drop_zero, List.drop_nil, List.append_nil, buildV, fillA, buildSliceV, chunks, tagCut, indexV, indexAddrV, sliceV, sliceStr, sliceSl, sliceRw, bnd, keyBo, decK_keyC, keyC_len, if_true, if_false, ite_true, ite_false, and_self, and_true, true_and, beq_self_eq_true, nn, nc0, nc1, nc2, nc3, nc4, nc8, nc10, nc32, Int.toNat_natCast, eq_self, decide_true, decide_false, reduceIte, Nat.reduceAdd, Nat.reduceMul, Nat.reduceSub, Nat.reduceLeDiff, Nat.reduceLT, Nat.reduceEqDiff, Nat.reduceMod, Int.reduceBEq, Int.reduceBNe, Int.reduceNeg, Int.reduceNegSucc, Int.reduceLT, Int.reduceLE, Int.reduceToNat, F3, F5, F9, F20, Tryz.underlying20, F23, F24, F33, F35, F37, F39, F105, hc2, if_pos]; exact rfl) ?_
    refine AAny_0 (by kernel_rfl) ?_
    simp only [pt, SL]
    repeat first
      | (with_reducible first
          | refine AWP_seq ?_ | refine then_n ?_ | refine then_r ?_ | refine then_x ?_ | refine AWP_block ?_ | refine blk_n ?_ | refine blk_r ?_ | refine blk_x ?_ | refine blk_y rfl ?_ | refine AWP_skip ?_
          | refine AWP_ret ?_ | refine AWP_exit ?_ | refine AWP_true rfl ?_ | refine AWP_false rfl ?_ | refine AOps_nil ?_ | refine LexA_nil ?_ | refine AWP_region ?_)
      | ((first
          | refine AOps_pre rfl (by simp only [postL, isCallV, SL]; exact rfl) fun K2 hK2 => ?_
          | refine LexA_pre rfl (by simp only [postL, isCallV, SL]; exact rfl) fun K2 hK2 => ?_)
         simp (maxSteps := 2000000) (disch := omega) only [SL, evalOps, evalOp, boX, eqB, isIf0, ptrTo, isSlT, conc, conc1, concL, mkI, tasV, absV, one1, allOne, evalG, isPure, gdB, ung, pickG, gv, pt, cv, retV, biV, lenV, boT, bo, intBo, strBo, boolBo, isSh, uo, pickV, nilV, extV, ixOf, mkfV, mmV, mm, preL, postL, isCallV, boxS, cellsV, allocS, storeS, loadV, readT, ptrCells, ofs, fieldAddrV, fieldV, wr, wr0, List.nil_append, List.cons_append, List.take_succ_cons, List.take_zero, List.drop_succ_cons, List.drop_zero, List.drop_nil, List.append_nil, buildV, fillA, buildSliceV, chunks, tagCut, indexV, indexAddrV, sliceV, sliceStr, sliceSl, sliceRw, bnd, keyBo, decK_keyC, keyC_len, if_true, if_false, ite_true, ite_false, and_self, and_true, true_and, beq_self_eq_true, nn, nc0, nc1, nc2, nc3, nc4, nc8, nc10, nc32, Int.toNat_natCast, eq_self, decide_true, decide_false, reduceIte, Nat.reduceAdd, Nat.reduceMul, Nat.reduceSub, Nat.reduceLeDiff, Nat.reduceLT, Nat.reduceEqDiff, Nat.reduceMod, Int.reduceBEq, Int.reduceBNe, Int.reduceNeg, Int.reduceNegSucc, Int.reduceLT, Int.reduceLE, Int.reduceToNat, F3, F5, F9, F20, Tryz.underlying20, F23, F24, F33, F35, F37, F39, F105, if_pos]
         refine ⟨_, _, rfl, ?_⟩
         refine hK2 _ _ ?_
         clear hK2 K2)
    refine rtn GLkG61.down ?_
    exact ⟨rfl, rfl⟩
theorem parse1_pan (σ : List AE) (x y z : V) (τ : List AE) (n : Int) : ACallsD Tryz.prog 61 [.ptr σ.length 0, .ptr (σ.length + 1) 0, .ptr (σ.length + 2) 0] (.panicking [{ v := failV n, recovered := false }]) (.panicking [{ v := failV n, recovered := true }])
    (σ ++ ([.box [x], .box [y], .box [z]] ++ τ)) (fun r σ' => r = .ret (.tup []) ∧ ∃ τ', σ' = σ ++ ([.box [.sl .nil []], .box [.int .i64 n], .box [.int .i64 63]] ++ τ')) := by
  have h := parse1_pan' (σ ++ ([.box [x], .box [y], .box [z]] ++ τ)) σ.length (σ.length + 1) (σ.length + 2) x y z n (by omega) (by omega) (by omega) (by simp) (by simp) (by simp)
  intro w en vals hi hl
  refine (h w en vals hi hl).mono fun e u' w' hk => ?_
  obtain ⟨hu, r, σ', en', ⟨h1, h2⟩, h3⟩ := hk
  refine ⟨hu, r, σ', en', ⟨h1, τ ++ [.box [.int .i64 n]], ?_⟩, h3⟩
  rw [h2]
  simp [List.set_append]
end Go.Proofs.YtdjjlbjagaadaaaGreatDoor.A
/- lockfile.Parse, the whole. -/
namespace Go.Proofs.YtdjjlbjagaadaaaGreatDoor.A
open Go Go.RowKit
set_option maxRecDepth 100000
set_option linter.unusedSimpArgs false
set_option linter.unusedVariables false

def GLkH21 := PLift.up <| And.intro F3 <| And.intro F4 <| And.intro F5 <| And.intro F9 <| And.intro F23 <| And.intro F24 <| And.intro F33 <| And.intro F35 <| And.intro F37 <| F39
theorem pinC_take {p : Pin} (h : p.k.length = 32) : (pinC p).take 37 = pinC p := List.take_of_length_le (by rw [pinC_len h]; exact Nat.le_refl _)
theorem pinC_drop {p : Pin} (h : p.k.length = 32) : (pinC p).drop 37 = [] := List.drop_of_length_le (by rw [pinC_len h]; exact Nat.le_refl _)
theorem pinC_0 (p : Pin) : (pinC p)[0]? = some (.str p.n) := rfl
theorem rng37 (f : Nat → V) : ((List.range 37).map f).drop 37 = [] := List.drop_of_length_le (by simp)
theorem rngl37 (f : Nat → V) : ((List.range 37).map f).length = 37 := by simp
theorem Sub_drop {fr F : List V} {σ' S τ : List AE} (e : σ' = S ++ τ) (h : Lle fr F) (hb : bels S.length F) (hs : sbel S.length S) : Sub fr σ' F S := e ▸ Sub.drop h hb hs
theorem parse_sub {σ : List AE} {fr F : List V} {l : List Pin} {ver : Nat} {c : AE} (hs : sbel (σ.length + 4) σ) (h : Lle fr F) (hb : bels (σ.length + 4) F) :
    Sub fr (σ ++ [.box [.sl (.own (σ.length + 3) ver) (pinsC l)], .box [.int .i64 0], .box [.int .i64 0], .tok ver 39 37, c]) F (σ ++ [.box [.sl (.own (σ.length + 3) ver) (pinsC l)], .box [.int .i64 0], .box [.int .i64 0], .tok ver 39 37]) := by
  have hl : (σ ++ [AE.box [.sl (.own (σ.length + 3) ver) (pinsC l)], .box [.int .i64 0], .box [.int .i64 0], .tok ver 39 37]).length = σ.length + 4 := by simp
  refine Sub_drop (τ := [c]) (by simp) h (by rw [hl]; exact hb) ?_
  rw [hl]
  exact sbel_app.2 ⟨hs, ⟨⟨show σ.length + 3 < σ.length + 4 by omega, pinsC_bel _ _⟩, trivial⟩, ⟨trivial, trivial⟩, ⟨trivial, trivial⟩, trivial⟩
set_option maxHeartbeats 4000000 in
theorem parse_body (s : List UInt8) (σ : List AE) (hs : s.length < 4294967281) (hG : GV σ) : ACalls Tryz.prog 21 [.str s] σ (fun r σ' => ∃ τ y, σ' = σ ++ τ ∧ r = .ret y ∧ Vle y (lockV s)) := by
  
  refine ACalls_defer (F1 := [.str s, .junk, .ptr σ.length 0, .ptr (σ.length + 1) 0, .ptr (σ.length + 2) 0, .junk, .junk, .junk, .junk, .junk, .junk, .junk, .junk, .junk, .junk, .junk, .junk, .junk, .junk, .junk, .junk, .junk, .junk, .junk, .junk, .junk, .junk, .junk, .junk, .junk, .junk, .junk, .junk, .junk, .junk, .junk, .junk, .junk, .junk, .junk, .junk, .junk, .junk, .junk, .junk, .junk, .junk, .junk, .junk, .junk, .junk, .junk, .junk, .junk, .junk, .junk, .junk, .junk, .junk, .junk, .junk, .junk, .junk, .junk, .junk, .junk, .junk]) (S1 := σ ++ [.box [.sl .nil []], .box [.int .i64 0], .box [.int .i64 0]]) (caps := [.ptr σ.length 0, .ptr (σ.length + 1) 0, .ptr (σ.length + 2) 0]) (QR := parseQ s σ)
    Tryz.func21 rfl rfl ⟨_, Tryz.func61, rfl, rfl⟩ (by simp) rfl ?_ ?_ ?_ ?_ ?_
  · simp only [Tryz.ntmps21, List.length_cons, List.length_nil, Nat.reduceAdd, Nat.reduceSub, List.replicate_succ, List.replicate_zero, List.cons_append, List.nil_append]
    refine wlk GLkH21.down ?_
    exact ⟨rfl, rfl, rfl⟩
  · simp only [List.set_cons_succ, List.set_cons_zero]
    refine AWP_tokB σ.length 0 39 37 (cs := [.sl .nil []]) (by simp) rfl ?_
    simp only [SL, List.length_append, List.length_cons, List.length_nil, Nat.reduceAdd]
    have h63 : s.length ≤ 9223372036854775807 := by omega
    cases h65 : decide ((s.length : Int) ≤ 65536)
    · refine wlk (And.intro h65 GLkH21.down) ?_
      refine AOps_callG (x := .junk) rfl (fun hg => by cases hg) rfl rfl rfl rfl ?_
      simp only [pt, SL]
      refine wlk GLkH21.down ?_
      refine AOps_callP (must_no 0 _) rfl rfl rfl rfl rfl ?_
      exact ⟨⟨rfl, rfl, rfl⟩, 0, _, _, _, _, rfl, rfl, 0, rfl, lockOf_1 (by
        have : decide (s.length ≤ 65536) = false := by simp at h65 ⊢; omega
        rw [this]; rfl)⟩
    · have h65' : s.length ≤ 65536 := by simp at h65; omega
      refine wlk (And.intro h65 GLkH21.down) ?_
      refine cll (hasSuffix_ok s [10] _ h63) ?_
      cases h10 : Lib.hasSuffix s [10]
      · refine wlk GLkH21.down ?_
        refine AOps_callP (must_no 0 _) rfl rfl rfl rfl rfl ?_
        exact ⟨⟨rfl, rfl, rfl⟩, 0, _, _, _, _, rfl, rfl, 0, rfl, lockOf_1 (by rw [h10, Bool.and_false])⟩
      · refine wlk GLkH21.down ?_
        refine cll (must_ok 0 _) ?_
        refine wlk GLkH21.down ?_
        refine cll (trimSuffix_ok s [10] _ h63) ?_
        rw [trim10 h10]
        refine wlk GLkH21.down ?_
        refine cll (split_ok 10 s.dropLast _ (by simp; omega) (hG.app _)) ?_
        obtain ⟨a, r, he⟩ : ∃ a r, spl 10 s.dropLast = a :: r := by
          cases hs : spl 10 s.dropLast with
          | nil => exact absurd hs (spl_ne 10 _)
          | cons a r => exact ⟨a, r, rfl⟩
        have hsp : strs (spl 10 s.dropLast) = [.str a] :: strs r := by rw [he]; rfl
        have hfl : flat 1 ([.str a] :: strs r) = true := by rw [← hsp]; exact strs_flat _
        have hfr : flat 1 (strs r) = true := strs_flat _
        have hrl : r.length ≤ 65536 := by
          have := spl_count 10 s.dropLast
          rw [he] at this
          simp at this
          omega
        have hxl : ∀ x ∈ r, x.length < 4294967281 := fun x hx => by
          have := spl_le 10 s.dropLast x (by rw [he]; exact List.mem_cons_of_mem _ hx)
          simp at this
          omega
        rw [hsp]
        refine wlk (And.intro hfl GLkH21.down) ?_
        cases ha : (a == ([108, 111, 99, 107, 32, 49] : List UInt8))
        · refine AOps_callP (must_no 0 _) rfl rfl rfl rfl rfl ?_
          exact ⟨⟨rfl, rfl, rfl⟩, 0, _, _, _, _, rfl, rfl, 0, rfl, lockOf_2 h10 (by
            rw [he]
            intro e
            have : a = lockHead := e
            rw [this] at ha
            cases ha)⟩
        · have h3 : lockOf s = foldP [] 1 r := by
            rw [lockOf_3 h65' h10 (by rw [he]; exact eq_of_beq ha), lines1, he]
            rfl
          refine cll (must_ok 0 _) ?_
          refine wlk (And.intro hfl GLkH21.down) ?_
          simp only [List.take_length]
          simp only [strs_len]
          refine AWP_loop (α := { p : List Pin × Nat // p.2 ≤ r.length ∧ foldP p.1 (p.2 + 1) (r.drop p.2) = lockOf s ∧ K32 p.1 ∧ p.1.length ≤ 200 }) (fun p => [.str s, .junk, .ptr σ.length 0, .ptr (σ.length + 1) 0, .ptr (σ.length + 2) 0, .junk, .junk, .junk, .junk, .junk, .junk, .junk, .junk, .junk, .junk, .junk, .junk, .junk, .junk, .junk, .junk, .junk, .junk, .junk, .junk, .junk, .junk, .sl .ro (strs r), .int .i64 r.length, .int .i64 (p.1.2 : Int), .junk, .junk, .junk, .junk, .junk, .junk, .junk, .junk, .junk, .junk, .junk, .junk, .junk, .junk, .junk, .junk, .junk, .junk, .junk, .junk, .junk, .junk, .junk, .junk, .junk, .junk, .junk, .junk, .junk, .junk, .junk, .junk, .junk, .junk, .junk, .junk, .junk])
            (fun p => σ ++ [.box [.sl (.own (σ.length + 3) p.1.1.length) (pinsC p.1.1)], .box [.int .i64 0], .box [.int .i64 0], .tok p.1.1.length 39 37]) (fun p => r.length - p.1.2) ⟨([], 0), by simp, by simpa using h3.symm, fun p hp => (by cases hp), by simp⟩ (.same ?_) (fun _ => by simp) ?_
          · exact lle
          · rintro ⟨⟨acc, j⟩, hj, hf, hK, h200⟩
            simp only at hj hf hK h200
            refine AWP_sb fun hsb => ?_
            have hsb' : sbel (σ.length + 4) σ := by
              have := (sbel_app.1 hsb).1
              simpa using this
            refine wlk GLkH21.down ?_
            refine AWP_cond rfl (fun h => ?_) (fun h => ?_)
            · have hlt : j < r.length := by simp at h; omega
              obtain ⟨x, hx⟩ : ∃ x, x = r.getD j [] := ⟨_, rfl⟩
              have hdr : r.drop j = x :: r.drop (j + 1) := by
                rw [hx, List.drop_eq_getElem_cons hlt, List.getD_eq_getElem?_getD, List.getElem?_eq_getElem hlt, Option.getD_some]
              have hxm : x ∈ r := List.mem_of_mem_drop (i := j) (by rw [hdr]; exact List.mem_cons_self)
              have hgx : (strs r).getD j [] = [.str x] := by
                rw [hx]; simp [strs, List.getD_eq_getElem?_getD, hlt]
              have hw2 : IntKind.i64.wrap ((j : Int) + 2) = (j : Int) + 2 := wrap_in (by omega) (by omega)
              have hsl := strs_len r
              rw [hdr] at hf
              refine wlk (And.intro hgx (And.intro hw2 (And.intro hfr (And.intro hsl (And.intro hlt GLkH21.down))))) ?_
              cases hp : pinOk (spl 32 x)
              · refine AOps_callP (pin_no x _ _ (hxl x hxm) (hG.app _) hp) rfl rfl rfl rfl rfl ?_
                exact ⟨⟨rfl, rfl, rfl⟩, _, _, _, _, _, rfl, rfl, j + 2, by push_cast; rfl, by rw [← hf]; simp only [foldP, pinOf, hp]; rfl⟩
              · refine cll (pin_ok x _ _ (hxl x hxm) (hG.app _) hp) ?_
                obtain ⟨p, hpa⟩ : ∃ p, p = pinAt (spl 32 x) := ⟨_, rfl⟩
                rw [← hpa]
                have hpk : p.k.length = 32 := by rw [hpa]; exact pinAt_k _
                have hpo : pinOf x = some p := by rw [hpa]; simp only [pinOf, hp, if_true]
                have hpl := pinC_len hpk
                have hpt := pinC_take hpk
                have hpd := pinC_drop hpk
                have hp0 := pinC_0 p
                simp only [foldP, hpo] at hf
                have hkeep : ∀ {l : List Oper} {fr fr' : List V}, Keeps l fr fr' → ∀ t, (l.all fun o => o.dst != some t) = true → fr'.getD t .junk = fr.getD t .junk := fun h => h
                by_cases hne : acc = []
                · have hok : okNext acc p.n = true := by rw [hne]; rfl
                  have hn : pinsC acc = [] := by rw [hne]; rfl
                  have hl0 : acc.length = 0 := by rw [hne]; rfl
                  have hpv : pinsC acc ++ [pinC p] = pinsC (acc ++ [p]) := by simp [pinsC]
                  refine wlk (And.intro hpl (And.intro hpt (And.intro hpd (And.intro hp0 (And.intro hn (And.intro hl0 GLkH21.down)))))) ?_
                  refine cll (must_ok _ _) ?_
                  refine wlk (And.intro hpl (And.intro hpt (And.intro hpd (And.intro @rng37 (And.intro @rngl37 GLkH21.down))))) ?_
                  refine AOps_append rfl rfl rfl rfl ((getAk _ _ _).trans rfl) eI23 (by decide) rfl (by simp [flat, hpl]) (by simp) (by simp [pinsC_len, maxLen]; try omega) (by simp [pinsC_len]; try omega) ?_
                  simp only [pt, SL]
                  refine wlk GLkH21.down ?_
                  have hw1 : IntKind.i64.wrap ((j : Int) + 1) = ((j + 1 : Nat) : Int) := by rw [wrap_in (by omega) (by omega)]; push_cast; rfl
                  have ho200 : acc.length < 200 := by
                    simp only [okNext, Bool.and_eq_true, decide_eq_true_eq] at hok
                    exact hok.1
                  rw [hok] at hf
                  refine ⟨⟨(acc ++ [p], j + 1), by omega, by simpa using hf, hK.app hpk, by simp; omega⟩, by simp; omega, ?_⟩
                  rw [hw1]
                  have hl1 : (acc ++ [p]).length = 1 := by rw [List.length_append, hl0]; rfl
                  have hpn : pinsC (acc ++ [p]) = [pinC p] := by rw [← hpv, hn]; rfl
                  simp only [hl1, hpn]
                  rw [show [pinC p] = pinsC [p] from rfl]
                  refine parse_sub hsb' ?_ ?_
                  · exact lle
                  · simp [bels, bel, tbel, strs_bel]
                · have hpn := pinsC_len acc
                  have hln : 0 < acc.length := List.length_pos_iff.2 hne
                  have hs1 : IntKind.i64.wrap ((acc.length : Int) - 1) = ((acc.length - 1 : Nat) : Int) := by rw [wrap_in (by omega) (by omega)]; omega
                  have hbd : acc.length - 1 < acc.length := by omega
                  have hfa := pinsC_flat hK
                  have hgl := pinsC_get acc (acc.length - 1) hbd
                  have hq0 := pinC_0 (acc.getD (acc.length - 1) p0)
                  have hz : ((acc.length : Int) == 0) = false := by simp; omega
                  have hpv : pinsC acc ++ [pinC p] = pinsC (acc ++ [p]) := by simp [pinsC]
                  have hcond : (decide ((acc.length : Int) < 200) && Op.bytesLess (acc.getD (acc.length - 1) p0).n p.n) = okNext acc p.n := by
                    unfold okNext ltB
                    have e1 : acc.isEmpty = false := by cases acc with
                      | nil => exact absurd rfl hne
                      | cons _ _ => rfl
                    rw [e1, Bool.false_or]
                    congr 1
                    rw [Bool.eq_iff_iff, decide_eq_true_eq, decide_eq_true_eq]
                    omega
                  refine wlk (And.intro hpl (And.intro hpt (And.intro hpd (And.intro hp0 (And.intro hpn (And.intro hs1 (And.intro hbd (And.intro hfa (And.intro hgl (And.intro hq0 (And.intro hz GLkH21.down))))))))))) ?_
                  rw [hcond]
                  cases hok : okNext acc p.n
                  · refine LexA_callP (must_no _ _) rfl rfl rfl rfl rfl ?_ ?_
                    · intro fr' hk
                      refine ⟨⟨hk 2 (by rfl), hk 3 (by rfl), hk 4 (by rfl)⟩, _, _, _, _, _, rfl, rfl, j + 2, by rw [hw2]; push_cast; rfl, ?_⟩
                      rw [← hf, hok]
                      rfl
                    · simp only [pt, SL]
                      refine LexA_nil ?_
                      refine then_n ?_
                      exact AWP_nov (t := 60) rfl
                  · skip
                    refine cll (must_ok _ _) ?_
                    refine wlk (And.intro hpl (And.intro hpt (And.intro hpd (And.intro @rng37 (And.intro @rngl37 GLkH21.down))))) ?_
                    refine AOps_append rfl rfl rfl rfl ((getAk _ _ _).trans rfl) eI23 (by decide) hfa (by simp [flat, hpl]) (by simp) (by simp [pinsC_len, maxLen]; try omega) (by simp [pinsC_len]; try omega) ?_
                    simp only [pt, SL]
                    refine wlk GLkH21.down ?_
                    have hw1 : IntKind.i64.wrap ((j : Int) + 1) = ((j + 1 : Nat) : Int) := by rw [wrap_in (by omega) (by omega)]; push_cast; rfl
                    have ho200 : acc.length < 200 := by
                      simp only [okNext, Bool.and_eq_true, decide_eq_true_eq] at hok
                      exact hok.1
                    rw [hok] at hf
                    refine ⟨⟨(acc ++ [p], j + 1), by omega, by simpa using hf, hK.app hpk, by simp; omega⟩, by simp; omega, ?_⟩
                    rw [hw1]
                    have hl1 : (acc ++ [p]).length = acc.length + 1 := by rw [List.length_append]; rfl
                    simp only [hl1, ← hpv]
                    rw [hpv]
                    refine parse_sub hsb' ?_ ?_
                    · exact lle
                    · simp [bels, bel, tbel, strs_bel]
            · have hj' : j = r.length := by simp at h; omega
              rw [hj', List.drop_length] at hf
              refine wlk GLkH21.down ?_
              exact ⟨⟨rfl, rfl, rfl⟩, acc, _, _, rfl, hf.symm⟩
  · rintro fr σ' (h | h)
    · obtain ⟨⟨h2, h3, h4⟩, l, t, τ, rfl, hl⟩ := h
      refine ⟨_, parse1_ret _ _ _ _, ?_⟩
      rintro r σ'' ⟨rfl, rfl⟩
      refine ⟨_, [.sl t (pinsC l), .int .i64 0, .int .i64 0], rfl, ?_, _, _, rfl, rfl, ?_⟩
      · simp only [Tryz.results21, List.toList_toArray, resA, h2, h3, h4]
        simp only [SL, evalOps, evalOp, boX, eqB, isIf0, ptrTo, isSlT, conc, conc1, concL, mkI, tasV, absV, one1, allOne, evalG, isPure, gdB, ung, pickG, gv, pt, cv, retV, biV, lenV, boT, bo, intBo, strBo, boolBo, isSh, uo, pickV, nilV, extV, ixOf, mkfV, mmV, mm, preL, postL, isCallV, boxS, cellsV, allocS, storeS, loadV, readT, ptrCells, ofs, fieldAddrV, fieldV, wr, wr0, List.nil_append, List.cons_append, List.take_succ_cons, List.take_zero, List.drop_succ_cons, List.drop_zero, List.drop_nil, List.append_nil, buildV, fillA, buildSliceV, chunks, tagCut, indexV, indexAddrV, sliceV, sliceStr, sliceSl, sliceRw, bnd, keyBo, decK_keyC, keyC_len, if_true, if_false, ite_true, ite_false, and_self, and_true, true_and, beq_self_eq_true, nn, nc0, nc1, nc2, nc3, nc4, nc8, nc10, nc32, Int.toNat_natCast, eq_self, decide_true, decide_false, reduceIte, Nat.reduceAdd, Nat.reduceMul, Nat.reduceSub, Nat.reduceLeDiff, Nat.reduceLT, Nat.reduceEqDiff, Nat.reduceMod, Int.reduceBEq, Int.reduceBNe, Int.reduceNeg, Int.reduceNegSucc, Int.reduceLT, Int.reduceLE, Int.reduceToNat, F3, F4, F5, F9, F23, F24, F33, F35, F37, F39]
      · unfold lockV
        rw [hl]
        exact Vle.tup ⟨Vle.ro _ _, Vle.refl _, Vle.refl _, trivial⟩
    · exact h.elim
  · intro x fr σ' h
    obtain ⟨⟨h2, h3, h4⟩, n, a, b, c, τ, rfl, rfl, m, rfl, hl⟩ := h
    refine ⟨_, rfl, _, parse1_pan σ a b c τ _, ?_⟩
    rintro r σ'' ⟨rfl, τ', rfl⟩
    refine ⟨_, [.sl .nil [], .int .i64 m, .int .i64 63], rfl, ?_, _, _, rfl, rfl, ?_⟩
    · simp only [Tryz.results21, List.toList_toArray, resA, h2, h3, h4]
      simp only [SL, evalOps, evalOp, boX, eqB, isIf0, ptrTo, isSlT, conc, conc1, concL, mkI, tasV, absV, one1, allOne, evalG, isPure, gdB, ung, pickG, gv, pt, cv, retV, biV, lenV, boT, bo, intBo, strBo, boolBo, isSh, uo, pickV, nilV, extV, ixOf, mkfV, mmV, mm, preL, postL, isCallV, boxS, cellsV, allocS, storeS, loadV, readT, ptrCells, ofs, fieldAddrV, fieldV, wr, wr0, List.nil_append, List.cons_append, List.take_succ_cons, List.take_zero, List.drop_succ_cons, List.drop_zero, List.drop_nil, List.append_nil, buildV, fillA, buildSliceV, chunks, tagCut, indexV, indexAddrV, sliceV, sliceStr, sliceSl, sliceRw, bnd, keyBo, decK_keyC, keyC_len, if_true, if_false, ite_true, ite_false, and_self, and_true, true_and, beq_self_eq_true, nn, nc0, nc1, nc2, nc3, nc4, nc8, nc10, nc32, Int.toNat_natCast, eq_self, decide_true, decide_false, reduceIte, Nat.reduceAdd, Nat.reduceMul, Nat.reduceSub, Nat.reduceLeDiff, Nat.reduceLT, Nat.reduceEqDiff, Nat.reduceMod, Int.reduceBEq, Int.reduceBNe, Int.reduceNeg, Int.reduceNegSucc, Int.reduceLT, Int.reduceLE, Int.reduceToNat, F3, F4, F5, F9, F23, F24, F33, F35, F37, F39]
    · unfold lockV
      rw [hl]
      exact Vle.tup ⟨Vle.ro _ _, Vle.refl _, Vle.refl _, trivial⟩
  · intro id fr σ'
    exact ⟨fun h => h, fun h => h⟩
theorem lparse_ok (s : List UInt8) (σ : List AE) (hs : s.length < 4294967281) (hG : GV σ) : Gives Tryz.prog 21 [.str s] σ (lockV s) :=
  Gives_drop (parse_body s σ hs hG) fun _ => ⟨⟨trivial, pinsC_bel _ _⟩, trivial, trivial, trivial⟩
end Go.Proofs.YtdjjlbjagaadaaaGreatDoor.A
