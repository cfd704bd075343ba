/- Walking: a region at one stroke. -/
import Derived.Test.YtfagngmikbmmhaaDoorAhEvalc
import Derived.IntWalk
namespace Go.Proofs.YtfagngmikbmmhaaDoor.A
open Go Go.RowKit
set_option linter.unusedVariables false

section
variable {P : Program} {σ : List AE} {fr : List V} {Q : APost}

/-- Operations one behind the other, none a call of code. -/
def evalOps (P : Program) (ops : Array Oper) : List Oper → List V → List AE → Option (List V × List AE)
  | [], fr, σ => some (fr, σ)
  | o :: l, fr, σ => match o.guard with
    | none => match evalOp P σ (gv fr) o.op with
      | some (x, σ') => evalOps P ops l (pt fr o.dst x) σ'
      | none => none
    | some _ => match gdB ops fr o with
      | some g => match evalG P σ g (gv fr) o.op with
        | some x => evalOps P ops l (pt fr o.dst (.gd g x)) σ
        | none => if g = false then evalOps P ops l (pt fr o.dst .junk) σ else none
      | none => none
theorem AOps_evals {ops : Array Oper} {rest : List Oper} : ∀ {l : List Oper} {fr fr' : List V} {σ σ' : List AE}, evalOps P ops l fr σ = some (fr', σ') → AOps P ops Q rest fr' σ' → AOps P ops Q (l ++ rest) fr σ
  | [], fr, fr', σ, σ', h, k => by
    simp only [evalOps, Option.some.injEq, Prod.mk.injEq] at h
    obtain ⟨rfl, rfl⟩ := h
    exact k
  | o :: l, fr, fr', σ, σ', h, k => by
    simp only [evalOps] at h
    split at h
    · rename_i hg
      split at h
      · rename_i x σ1 he
        exact AOps_eval hg he (AOps_evals h k)
      · cases h
    · split at h
      · rename_i g hg
        split at h
        · rename_i x he
          exact AOps_evalG hg he (AOps_evals h k)
        · split at h
          · rename_i hf
            exact AOps_skip (by rw [hg, hf]) (AOps_evals h k)
          · cases h
      · cases h
/-- A region all of whose operations are evaluated. -/
theorem AWP_regionE {id : Nat} {l : List Oper} (h : ∀ K : List V → List AE → Prop, (∀ fr' σ', Q .normal fr' σ' → K fr' σ') → ∃ fr' σ', evalOps P l.toArray l fr σ = some (fr', σ') ∧ K fr' σ') : AWP P (.region id l.toArray false) Q fr σ := by
  obtain ⟨fr', σ', h1, h2⟩ := h (fun fr' σ' => Q .normal fr' σ') (fun _ _ h => h)
  refine AWP_region ?_
  have := AOps_evals (Q := Q) (rest := []) h1 (AOps_nil h2)
  rwa [List.append_nil] at this
/-- The first n operations. -/
theorem AOps_first {ops : Array Oper} {l : List Oper} (n : Nat) (h : ∀ K : List V → List AE → Prop, (∀ fr' σ', AOps P ops Q (l.drop n) fr' σ' → K fr' σ') → ∃ fr' σ', evalOps P ops (l.take n) fr σ = some (fr', σ') ∧ K fr' σ') : AOps P ops Q l fr σ := by
  obtain ⟨fr', σ', h1, h2⟩ := h (fun fr' σ' => AOps P ops Q (l.drop n) fr' σ') (fun _ _ h => h)
  have := AOps_evals (Q := Q) h1 h2
  rwa [List.take_append_drop] at this
/-- Where a post stands behind a sequence or a block. -/
theorem then_n {next : List V → List AE → Prop} (h : next fr σ) : thenA next Q .normal fr σ := h
theorem then_r {next : List V → List AE → Prop} (h : Q .ret fr σ) : thenA next Q .ret fr σ := h
theorem then_x {next : List V → List AE → Prop} {id : Nat} (h : Q (.exit id) fr σ) : thenA next Q (.exit id) fr σ := h
theorem then_p {next : List V → List AE → Prop} {x : V} (h : Q (.panic x) fr σ) : thenA next Q (.panic x) fr σ := h
theorem blk_n {id : Nat} (h : Q .normal fr σ) : inBlockA id Q .normal fr σ := h
theorem blk_r {id : Nat} (h : Q .ret fr σ) : inBlockA id Q .ret fr σ := h
theorem blk_p {id : Nat} {x : V} (h : Q (.panic x) fr σ) : inBlockA id Q (.panic x) fr σ := h
theorem blk_x {id : Nat} (h : Q .normal fr σ) : inBlockA id Q (.exit id) fr σ := by simp only [inBlockA, if_true]; exact h
theorem blk_y {id id' : Nat} (hne : Nat.beq id' id = false) (h : Q (.exit id') fr σ) : inBlockA id Q (.exit id') fr σ := by
  have : ¬ id' = id := fun e => by subst e; simp at hne
  simp only [inBlockA, this, if_false]; exact h
theorem AWP_true {c : Operand} {x y : Code} (hc : gv fr c = .bool true) (h : AWP P x Q fr σ) : AWP P (.cond c x y) Q fr σ := AWP_cond hc (fun _ => h) (fun h => by cases h)
theorem AWP_false {c : Operand} {x y : Code} (hc : gv fr c = .bool false) (h : AWP P y Q fr σ) : AWP P (.cond c x y) Q fr σ := AWP_cond hc (fun h => by cases h) (fun _ => h)
theorem Vle.of_eq {x y : V} (h : x = y) : Vle x y := h ▸ Vle.refl x
/-- The end of a body: one result, in a slot. -/
theorem body_r {rs : List ResultVar} {R : Out → List AE → Prop} {xs : List V} (h1 : resA P fr σ rs = some xs) (h2 : R (.ret (outV xs)) σ) : bodyQ P rs R .ret fr σ := ⟨xs, h1, h2⟩
theorem body_n {rs : List ResultVar} {R : Out → List AE → Prop} {xs : List V} (h1 : resA P fr σ rs = some xs) (h2 : R (.ret (outV xs)) σ) : bodyQ P rs R .normal fr σ := ⟨xs, h1, h2⟩
theorem AOps_call {ops : Array Oper} {o : Oper} {rest : List Oper} {c : Call} {f : Operand} {g : FuncId} {caps : List V} {x : V} (hg : gdB ops fr o = some true) (ho : o.op = .call c) (hc : c.callee = .value f) (hf : gv fr f = .fn g caps)
    (h : Gives P g (c.args.toList.map (gv fr) ++ caps) σ x) (hr : AOps P ops Q rest (pt fr o.dst x) σ) : AOps P ops Q (o :: rest) fr σ :=
  AOps_call_g hg ho hc hf h (fun x' σ' h => by obtain ⟨h1, rfl⟩ := h; cases h1; exact hr) (fun x' σ' h => by cases h.1)
theorem g_self (g : Bool) : (!g || g) = true := by cases g <;> rfl
theorem g_and (g h : Bool) : (!(g && h) || g) = true := by cases g <;> cases h <;> rfl
theorem g_not (g : Bool) : (! !g || !g) = true := by cases g <;> rfl
theorem cond_bool (c a b : Bool) : (bif c then V.bool a else V.bool b) = V.bool (bif c then a else b) := by cases c <;> rfl
theorem cond_or (c b : Bool) : (bif c then true else b) = (c || b) := by cases c <;> rfl
theorem cond_and (c b : Bool) : (bif c then b else false) = (c && b) := by cases c <;> rfl
theorem tt_tt : (true == true) = true := rfl
theorem tt_ff : (true == false) = false := rfl
theorem ff_tt : (false == true) = false := rfl
theorem ff_ff : (false == false) = true := rfl
theorem wrap_in {n : Int} (h0 : -9223372036854775808 ≤ n) (h1 : n ≤ 9223372036854775807) : IntKind.i64.wrap n = n := IntWalk.i64_in n ⟨h0, h1⟩
end
end Go.Proofs.YtfagngmikbmmhaaDoor.A
