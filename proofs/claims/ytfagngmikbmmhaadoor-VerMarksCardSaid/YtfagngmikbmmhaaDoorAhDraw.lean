/- Regions that hold calls; regions that draw their order: one walk in order serves every order. -/
import Derived.Test.YtfagngmikbmmhaaDoorAhWalk
import Derived.Still
import Derived.Orders
namespace Go.Proofs.YtfagngmikbmmhaaDoor.A
open Go Go.RowKit
set_option linter.unusedVariables false
set_option linter.unusedSimpArgs false

section
variable {P : Program} {σ : List AE} {fr : List V} {Q : APost}

theorem flat_nil (sz : Nat) : flat sz [] = true := rfl
theorem flat_cons (sz : Nat) (x : List V) (xs : List (List V)) : flat sz (x :: xs) = (x.length == sz && flat sz xs) := rfl
theorem rg1 : List.range 1 = [0] := rfl
theorem rg2 : List.range 2 = [0, 1] := rfl
theorem rg3 : List.range 3 = [0, 1, 2] := rfl
theorem rg4 : List.range 4 = [0, 1, 2, 3] := rfl
theorem rg5 : List.range 5 = [0, 1, 2, 3, 4] := rfl
theorem rg6 : List.range 6 = [0, 1, 2, 3, 4, 5] := rfl
theorem rg7 : List.range 7 = [0, 1, 2, 3, 4, 5, 6] := rfl
theorem rg8 : List.range 8 = [0, 1, 2, 3, 4, 5, 6, 7] := rfl
theorem nc1 : ((1 : Nat) : Int) = 1 := rfl
theorem nc2 : ((2 : Nat) : Int) = 2 := rfl
theorem nc3 : ((3 : Nat) : Int) = 3 := rfl
theorem nc4 : ((4 : Nat) : Int) = 4 := rfl
theorem nc8 : ((8 : Nat) : Int) = 8 := rfl
theorem nc10 : ((10 : Nat) : Int) = 10 := rfl
theorem nc32 : ((32 : Nat) : Int) = 32 := rfl
theorem nc0 : ((0 : Nat) : Int) = 0 := rfl
theorem nn (k : Nat) : (0 ≤ (k : Int)) = True := by simp
/-- A call of code (or an append). -/
def isCallV : Op → Bool
  | .call c => match c.callee with
    | .builtin .append => true
    | .builtin _ => false
    | _ => true
  | _ => false
def preL : List Oper → List Oper
  | [] => []
  | o :: l => bif isCallV o.op then [] else o :: preL l
def postL : List Oper → List Oper
  | [] => []
  | o :: l => bif isCallV o.op then o :: l else postL l
theorem pre_post : ∀ l : List Oper, preL l ++ postL l = l
  | [] => rfl
  | o :: l => by
    unfold preL postL
    cases isCallV o.op with
    | true => rfl
    | false => simp [pre_post l]
/-- The operations up to the next call. -/
theorem AOps_pre {ops : Array Oper} {o : Oper} {l l' : List Oper} (hc : isCallV o.op = false) (hp : postL (o :: l) = l') (h : ∀ K : List V → List AE → Prop, (∀ fr' σ', AOps P ops Q l' fr' σ' → K fr' σ') → ∃ fr' σ', evalOps P ops (preL (o :: l)) fr σ = some (fr', σ') ∧ K fr' σ') : AOps P ops Q (o :: l) fr σ := by
  subst hp
  obtain ⟨fr', σ', h1, h2⟩ := h (fun fr' σ' => AOps P ops Q (postL (o :: l)) fr' σ') (fun _ _ h => h)
  have := AOps_evals (Q := Q) h1 h2
  rwa [pre_post] at this

/-- A sequence whose second part is walked once, for all ways that lead to it. -/
theorem AWP_seqJ {x y : Code} {α : Type} (F : α → List V) (S : α → List AE) (hx : AWP P x (thenA (fun fr' σ' => ∃ a, σ.length ≤ (S a).length ∧ Sub fr' σ' (F a) (S a)) Q) fr σ) (hy : ∀ a, AWP P y Q (F a) (S a)) : AWP P (.seq x y) Q fr σ :=
  AWP_seqW (AWP_mono (fun ax fr' σ' h => by
    cases ax with
    | normal => obtain ⟨a, h1, h2⟩ := h; exact ⟨F a, S a, h1, h2, hy a⟩
    | ret => exact h
    | exit id => exact h
    | goto l => exact h
    | panic x => exact h) hx)

/-! ### Calls under guards -/
theorem call_wpR {rd : Operand → V} {o : Oper} {c : Call} {f : Operand} {g : FuncId} {caps : List V} {R : Out → List AE → Prop} (ho : o.op = .call c) (hc : c.callee = .value f) (hf : rd f = .fn g caps) (h : ACalls P g (c.args.toList.map rd ++ caps) σ R)
    (a : Act) (w : World) (en : List CE) (hi : Iv σ en w) (hfr : Rd w en rd a o.op) :
    Oper.wp P o a w (fun a' w' => ∃ v x σ' en', a' = a.put o.dst v ∧ R (.ret x) σ' ∧ VR w' en' x v ∧ Iv σ' en' w' ∧ Ext w en w' en')
      (fun e a' w' => ∃ v x σ' en', e = .panic [{ v := v, recovered := false }] ∧ a' = a ∧ R (.pan x) σ' ∧ VR w' en' x v ∧ Iv σ' en' w' ∧ Ext w en w' en') := by
  have hv := hfr f (by simp [ho, Op.operands, Call.operands, hc])
  rw [hf] at hv
  simp only [VR] at hv
  obtain ⟨us, he, hcaps⟩ := hv
  have hargs := rargs_ok hfr c.args.toList (fun x hx => by simp [ho, Op.operands, Call.operands, hc]; right; simpa using hx)
  have hrun : (execOp a.eval o).run P w = .ok (.enter g (c.args.map a.eval ++ us)) w := by
    have := run_callFunc h.ent (c.args.map a.eval ++ us) w
    simp [execOp, ho, resolve, hc, he, Deferred.ofValue, invoke, this]
  unfold Oper.wp
  rw [hrun]
  simp only [Oper.upon]
  refine (h.go w en (c.args.map a.eval ++ us) hi ?_).mono fun e w' hk => ?_
  · simpa using LR_append hargs hcaps
  · obtain ⟨r, σ', en', h1, h2, h3, h4⟩ := hk
    cases r with
    | ret x => obtain ⟨v, rfl, hx⟩ := h2; exact ⟨v, x, σ', en', rfl, h1, hx, h3, h4⟩
    | pan x => obtain ⟨v, rfl, hx⟩ := h2; exact ⟨v, x, σ', en', by simp, by simp, h1, hx, h3, h4⟩
theorem OpOkR_call {rd : Operand → V} {o : Oper} {c : Call} {f : Operand} {g : FuncId} {caps args : List V} {x : V} (ho : o.op = .call c) (hc : c.callee = .value f) (hf : rd f = .fn g caps) (ha : c.args.toList.map rd ++ caps = args) (h : Gives P g args σ x) : OpOkR P σ rd o x σ := fun a w en hi hfr => by
  subst ha
  refine Oper_wpQ (fun a' w' hk => ?_) (fun e a' w' hk => ?_) (call_wpR ho hc hf h a w en hi hfr)
  · obtain ⟨v, x', σ', en', rfl, h1, h2, h3, h4⟩ := hk
    obtain ⟨h5, rfl⟩ := h1
    cases h5
    exact ⟨v, en', rfl, h2, h3, h4⟩
  · obtain ⟨v, x', σ', en', rfl, rfl, h1, _⟩ := hk
    cases h1.1
/-- An unguarded call that gives one value. -/
theorem AOps_callU {ops : Array Oper} {o : Oper} {rest : List Oper} {c : Call} {f : Operand} {g : FuncId} {caps args : List V} {x : V} (h : Gives P g args σ x) (hg : o.guard = none) (ho : o.op = .call c) (hc : c.callee = .value f) (hf : gv fr f = .fn g caps)
    (ha : c.args.toList.map (gv fr) ++ caps = args) (hr : AOps P ops Q rest (pt fr o.dst x) σ) : AOps P ops Q (o :: rest) fr σ :=
  AOps_op hg (OpOk_of (OpOkR_call ho hc hf ha h)) hr
theorem ungR {rd : Operand → V} {g : Bool} (hg : g = true) {w : World} {en : List CE} {a : Act} {o : Op} (h : Rd w en rd a o) : Rd w en (fun y => ung g (rd y)) a o := fun y hy => ung_ok hg (h y hy)
/-- A guarded call that gives one value. -/
theorem AOps_callG {ops : Array Oper} {o : Oper} {rest : List Oper} {c : Call} {f : Operand} {g : FuncId} {b : Bool} {caps args : List V} {x : V} (hg : gdB ops fr o = some b) (h : b = true → Gives P g args σ x) (ho : o.op = .call c) (hc : c.callee = .value f) (hf : ung b (gv fr f) = .fn g caps)
    (ha : c.args.toList.map (fun y => ung b (gv fr y)) ++ caps = args) (hr : AOps P ops Q rest (pt fr o.dst (.gd b x)) σ) : AOps P ops Q (o :: rest) fr σ := fun a w en hi hfr {_} hd => by
  unfold wpList
  have hw := gdB_ok hfr hg
  cases b with
  | true =>
    rw [if_pos hw]
    refine .inl ?_
    refine Oper_wpQ (fun a' w' hk => ?_) (fun _ _ _ hq => hq.elim) (OpOkR_call (rd := fun y => ung true (gv fr y)) ho hc hf ha (h rfl) a w en hi (ungR rfl fun y hy => gv_ops (hfr.on _) y hy))
    obtain ⟨v, en', rfl, h1, h2, h3⟩ := hk
    refine wpList_mono (fun _ _ _ hq => LQ_ext h3 hq) _ _ _ (hr _ w' en' h2 ((hfr.ext h3).put (by simp only [VR]; exact ⟨fun _ => h1, fun e => by cases e⟩) _) ?_)
    cases o.dst <;> simpa [Act.put] using hd
  | false =>
    rw [if_neg (by rw [hw]; simp)]
    refine hr _ w en hi (hfr.put (by simp [VR]) _) ?_
    cases o.dst <;> simpa [Act.put] using hd

/-! ### Drawn orders -/
/-- In this frame the operation comes to x (or is passed over, x then reading nothing), whatever else has been carried out. -/
def OpA (P : Program) (σ : List AE) (ops : Array Oper) (o : Oper) (fr : List V) (x : V) : Prop := ∀ (a : Act) (w : World) (en : List CE), Iv σ en w → FRon w en fr a (o.looksAt ops) →
  if Region.wanted o (yielded ops a.tmps) then o.wp P a w (fun a' w' => ∃ v en', a' = a.put o.dst v ∧ VR w' en' x v ∧ Iv σ en' w' ∧ Ext w en w' en') (fun _ _ _ => False) else VR w en x undef
def LexA (P : Program) (σ : List AE) (ops : Array Oper) (F : List V → Prop) : List Oper → List V → Prop
  | [], fr => F fr
  | o :: rest, fr => ∃ x, OpA P σ ops o fr x ∧ LexA P σ ops F rest (pt fr o.dst x)
def AAny (P : Program) (σ : List AE) (md : Region.Mode) (ops : Array Oper) (F : List V → Prop) : Nat → Array Bool → List V → Prop
  | 0, listed, fr => Region.ready md ops listed = [] ∧ F fr
  | fuel + 1, listed, fr => (Region.ready md ops listed = [] → F fr) ∧
    ∀ i ∈ Region.ready md ops listed, ∃ o x, ops[i]? = some o ∧ OpA P σ ops o fr x ∧ AAny P σ md ops F fuel (listed.setIfInBounds i true) (pt fr o.dst x)
theorem pt_getD {dst : Option Tmp} {x : V} {t : Nat} (h : ∀ d, dst = some d → d ≠ t) : (pt fr dst x).getD t .junk = fr.getD t .junk := by
  cases dst with
  | none => rfl
  | some d =>
    have : d ≠ t := h d rfl
    simp [pt, List.getD_eq_getElem?_getD, List.getElem?_set, this]
theorem pt_comm {d e : Option Tmp} (x y : V) (h : ∀ t, d = some t → e ≠ some t) : pt (pt fr d x) e y = pt (pt fr e y) d x := by
  cases d with
  | none => rfl
  | some d =>
    cases e with
    | none => rfl
    | some e =>
      have hne : d ≠ e := fun he => h d rfl (he ▸ rfl)
      simp [pt, List.set_comm _ _ hne]
theorem OpA.of_same {ops : Array Oper} {o : Oper} {x : V} {fr' : List V} (h : OpA P σ ops o fr x) (he : ∀ t ∈ o.looksAt ops, fr'.getD t .junk = fr.getD t .junk) : OpA P σ ops o fr' x := fun a w en hi hf =>
  h a w en hi fun t ht => by rw [← he t ht]; exact hf t ht
theorem AAny_first {md : Region.Mode} {ops : Array Oper} {F : List V → Prop} {i : Nat} {oi : Oper} {x : V} (hi : ops[i]? = some oi) :
    ∀ (fuel : Nat) (listed : Array Bool) (fr : List V),
      (∀ j oj, ops[j]? = some oj → j ≠ i → listed.getD j true = false → (∀ e ∈ oj.after, Region.binds md e = true → e.on ≠ i) → oi.apart ops oj = true) →
      i ∈ Region.ready md ops listed → OpA P σ ops oi fr x →
      AAny P σ md ops F fuel (listed.setIfInBounds i true) (pt fr oi.dst x) → AAny P σ md ops F (fuel + 1) listed fr := by
  intro fuel
  induction fuel with
  | zero =>
    intro listed fr _ hr hy H
    refine ⟨fun h => (by rw [h] at hr; cases hr), fun j hj => ?_⟩
    by_cases hji : j = i
    · subst hji; exact ⟨oi, x, hi, hy, H⟩
    · have := ready_mono hj hji
      rw [H.1] at this
      cases this
  | succ fuel ih =>
    intro listed fr hfree hr hy H
    refine ⟨fun h => (by rw [h] at hr; cases hr), fun j hj => ?_⟩
    by_cases hji : j = i
    · subst hji; exact ⟨oi, x, hi, hy, H⟩
    · obtain ⟨oj, y, hoj, hyj, H2⟩ := H.2 j (ready_mono hj hji)
      obtain ⟨hjun, oj', hoj', hall⟩ := mem_ready.1 hj
      rw [hoj] at hoj'
      cases hoj'
      have hnot : ∀ e ∈ oj.after, Region.binds md e = true → e.on ≠ i := fun e he hb heq => by
        have h1 := hall e he hb
        have h0 := (mem_ready.1 hr).1
        rw [heq] at h1
        rcases Nat.lt_or_ge i listed.size with h' | h'
        · simp [h'] at h0 h1; rw [h0] at h1; cases h1
        · simp [Array.getElem?_eq_none h'] at h1
      obtain ⟨a1, a2, a3⟩ := Oper.apart_spec (hfree j oj hoj hji hjun hnot)
      refine ⟨oj, y, hoj, hyj.of_same fun t ht => (pt_getD fun d hd he => a1 d hd (he ▸ ht)).symm, ?_⟩
      refine ih (listed.setIfInBounds j true) _ (fun k ok hk hki hun hno => hfree k ok hk hki ?_ hno) (ready_mono hr (Ne.symm hji)) (hy.of_same fun t ht => pt_getD fun d hd he => a3 d hd (he ▸ ht)) ?_
      · by_cases hjk : j = k
        · subst hjk; exact hjun
        · rw [getD_set_ne true hjk] at hun; exact hun
      · rw [pt_comm _ _ (fun t ht he => a2 t he ht), Array.setIfInBounds_comm _ _ hji]
        exact H2
theorem AAny_lex {md : Region.Mode} {ops : Array Oper} {F : List V → Prop} : ∀ (l : List Oper) (k : Nat) (listed : Array Bool) (fr : List V), (∀ j, l[j]? = ops[k + j]?) →
    Region.lexFrom md ops l.length k listed = true → LexA P σ ops F l fr → AAny P σ md ops F l.length listed fr
  | [], _, _, _, _, hB, h => ⟨by simpa [Region.lexFrom] using hB, h⟩
  | o :: l, k, listed, fr, hl, hB, h => by
    have h0 : ops[k]? = some o := by simpa using (hl 0).symm
    simp only [List.length_cons, Region.lexFrom, Bool.and_eq_true] at hB
    obtain ⟨⟨hr, hf⟩, hB'⟩ := hB
    obtain ⟨x, hy, hK⟩ := h
    exact AAny_first h0 l.length listed fr (Region.free_spec h0 hf) (by simpa using hr) hy
      (AAny_lex l (k + 1) _ _ (fun j => by have := hl (j + 1); simpa [Nat.add_assoc, Nat.add_comm 1 j] using this) hB' hK)
theorem wpAny_of_AAny {ds : List Deferred} {md : Region.Mode} {ops : Array Oper} {F : List V → Prop} (hQ : ∀ fr, F fr → Q .normal fr σ) {w0 : World} {en0 : List CE} : ∀ (fuel : Nat) (listed : Array Bool) (fr : List V) (a : Act) (w : World) (en : List CE),
    Iv σ en w → FR w en fr a → a.defers = ds → Ext w0 en0 w en → AAny P σ md ops F fuel listed fr → wpAny P md ops (LQ ds Q w0 en0) fuel listed a w
  | 0, _, fr, a, w, en, hi, hf, hd, he, h => ⟨h.1, .normal, fr, σ, en, hQ _ h.2, rfl, hi, hf, hd, he⟩
  | fuel + 1, listed, fr, a, w, en, hi, hf, hd, he, h => by
    refine ⟨fun h0 => ⟨.normal, fr, σ, en, hQ _ (h.1 h0), rfl, hi, hf, hd, he⟩, fun i hr => ?_⟩
    obtain ⟨o, x, ho, hop, hk⟩ := h.2 i hr
    unfold wpOp
    simp only [ho]
    have := hop a w en hi (hf.on _)
    split
    · rename_i hw
      rw [if_pos hw] at this
      refine .inl (Oper_wpQ (fun a' w' hh => ?_) (fun _ _ _ hq => hq.elim) this)
      obtain ⟨v, en', rfl, h1, h2, h3⟩ := hh
      refine wpAny_of_AAny hQ fuel _ _ _ w' en' h2 ((hf.ext h3).put h1 _) ?_ (he.trans h3) hk
      cases o.dst <;> simpa [Act.put] using hd
    · rename_i hw
      rw [if_neg hw] at this
      refine wpAny_of_AAny hQ fuel _ _ _ w en hi (hf.put this _) ?_ he hk
      cases o.dst <;> simpa [Act.put] using hd
/-- A region that draws its order. -/
theorem AWP_draw {id : Nat} {l : List Oper} (hm : P.follows .mixedOrders = true) (hB : Region.lexB .any l.toArray = true) (h : LexA P σ l.toArray (fun fr' => Q .normal fr' σ) l fr) : AWP P (.region id l.toArray true) Q fr σ := fun a w en hi hf {_} hd => by
  simp only [Region.lexB, Bool.and_eq_true] at hB
  refine wp_region_any hm ?_
  refine wpAny_of_AAny (F := fun fr' => Q .normal fr' σ) (fun _ h => h) _ _ fr a w.drew en hi.drew (hf.ext .drew) hd .drew ?_
  have := AAny_lex (P := P) (σ := σ) (md := .any) l 0 (Array.replicate l.toArray.size false) fr (by simp) (by simpa using hB.2) h
  simpa using this

/-! ### The walk in order -/
theorem LexA_nil {ops : Array Oper} {F : List V → Prop} (h : F fr) : LexA P σ ops F [] fr := h
def isQ : Op → Bool
  | .alloc _ => false
  | .box _ _ => false
  | .store _ _ _ => false
  | _ => true
theorem evalOp_q {rd : Operand → V} {o : Op} {x : V} {σ' : List AE} (hp : isQ o = true) (h : evalOp P σ rd o = some (x, σ')) : σ' = σ := by
  cases o <;> simp only [isQ] at hp <;> simp only [evalOp] at h <;> first
    | (cases hp; done)
    | (exact (ret_some h).2)
    | (cases h; done)
    | (cases h; rfl)
    | (split at h <;> first | exact (ret_some h).2 | cases h)
theorem gdB_on {ops : Array Oper} {o : Oper} {w : World} {en : List CE} {a : Act} (hf : FRon w en fr a (o.looksAt ops)) {b : Bool} (h : gdB ops fr o = some b) : Region.wanted o (yielded ops a.tmps) = b := by
  unfold gdB at h
  unfold Region.wanted
  split at h
  · rename_i hg; rw [hg]; simpa using h
  · rename_i j want hg
    rw [hg]
    split at h
    · rename_i d hd
      have hv := hf d (by simp [Oper.looksAt, hg, hd])
      split at h
      · rename_i b' hb
        rw [hb] at hv
        simp only [VR] at hv
        simp only [yielded_of hd hv]
        simp only [Option.some.injEq] at h
        subst h
        cases b' <;> cases want <;> rfl
      · rename_i g b' hb
        rw [hb] at hv
        simp only [VR] at hv
        simp only [Option.some.injEq] at h
        subst h
        cases g with
        | true =>
          simp only [yielded_of hd (hv.1 rfl)]
          cases b' <;> cases want <;> rfl
        | false =>
          simp only [yielded_undef hd (hv.2 rfl)]
          cases want <;> rfl
      · cases h
    · cases h
theorem on_rd {ops : Array Oper} {o : Oper} {w : World} {en : List CE} {a : Act} (hf : FRon w en fr a (o.looksAt ops)) : Rd w en (gv fr) a o.op := fun y hy =>
  gv_ops (fun t ht => hf t (by unfold Oper.looksAt; exact List.mem_append_left _ ht)) y hy
theorem OpA_of {ops : Array Oper} {o : Oper} {x : V} (hg : o.guard = none) (h : OpOkR P σ (gv fr) o x σ) : OpA P σ ops o fr x := fun a w en hi hf => by
  have hw : Region.wanted o (yielded ops a.tmps) = true := by unfold Region.wanted; rw [hg]
  rw [if_pos hw]
  exact h a w en hi (on_rd hf)
theorem OpA_ofG {ops : Array Oper} {o : Oper} {x : V} {b : Bool} (hg : gdB ops fr o = some b) (h : b = true → OpOkR P σ (fun y => ung b (gv fr y)) o x σ) : OpA P σ ops o fr (.gd b x) := fun a w en hi hf => by
  have hw := gdB_on hf hg
  cases b with
  | true =>
    rw [if_pos hw]
    refine Oper_wpQ (fun a' w' hk => ?_) (fun _ _ _ hq => hq) (h rfl a w en hi (ungR rfl (on_rd hf)))
    obtain ⟨v, en', h0, h1, h2, h3⟩ := hk
    exact ⟨v, en', h0, by simp only [VR]; exact ⟨fun _ => h1, fun e => by cases e⟩, h2, h3⟩
  | false =>
    rw [if_neg (by rw [hw]; simp)]
    simp only [VR]
    exact ⟨fun e => (by cases e), by simp⟩
def allQ : List Oper → Bool
  | [] => true
  | o :: l => isQ o.op && allQ l
theorem LexA_evals {ops : Array Oper} {F : List V → Prop} {rest : List Oper} : ∀ {l : List Oper} {fr fr' : List V} {σ' : List AE}, allQ l = true → evalOps P ops l fr σ = some (fr', σ') → LexA P σ ops F rest fr' → LexA P σ ops F (l ++ rest) fr
  | [], fr, fr', σ', _, h, k => by
    simp only [evalOps, Option.some.injEq, Prod.mk.injEq] at h
    obtain ⟨rfl, rfl⟩ := h
    exact k
  | o :: l, fr, fr', σ', hq, h, k => by
    simp only [allQ, Bool.and_eq_true] at hq
    simp only [evalOps] at h
    split at h
    · rename_i hg
      split at h
      · rename_i x σ1 he
        have hσ := evalOp_q hq.1 he
        rw [hσ] at h he
        exact ⟨x, OpA_of hg (evalOp_ok he), LexA_evals hq.2 h k⟩
      · cases h
    · split at h
      · rename_i g hg
        split at h
        · rename_i x he
          refine ⟨.gd g x, fun a w en hi hf => ?_, LexA_evals hq.2 h k⟩
          have hw := gdB_on hf hg
          cases g with
          | true =>
            rw [if_pos hw]
            refine Oper_wpQ (fun a' w' hk => ?_) (fun _ _ _ hq => hq) (evalG_ok rfl he a w en hi (on_rd hf))
            obtain ⟨v, en', h0, h1, h2, h3⟩ := hk
            exact ⟨v, en', h0, by simp only [VR]; exact ⟨fun _ => h1, fun e => by cases e⟩, h2, h3⟩
          | false =>
            rw [if_neg (by rw [hw]; simp)]
            simp only [VR]
            exact ⟨fun e => (by cases e), by simp⟩
        · split at h
          · rename_i hf
            refine ⟨.junk, fun a w en hi hfr => ?_, LexA_evals hq.2 h k⟩
            rw [if_neg (by rw [gdB_on hfr hg, hf]; simp)]
            simp [VR]
          · cases h
      · cases h
theorem LexA_pre {ops : Array Oper} {F : List V → Prop} {o : Oper} {l l' : List Oper} (hc : isCallV o.op = false) (hq : allQ (preL (o :: l)) = true) (hp : postL (o :: l) = l') (h : ∀ K : List V → List AE → Prop, (∀ fr' σ', LexA P σ ops F l' fr' → K fr' σ') → ∃ fr' σ', evalOps P ops (preL (o :: l)) fr σ = some (fr', σ') ∧ K fr' σ') : LexA P σ ops F (o :: l) fr := by
  subst hp
  obtain ⟨fr', σ', h1, h2⟩ := h (fun fr' σ' => LexA P σ ops F (postL (o :: l)) fr') (fun _ _ h => h)
  have := LexA_evals hq h1 h2
  rwa [pre_post] at this
theorem LexA_callU {ops : Array Oper} {F : List V → Prop} {o : Oper} {rest : List Oper} {c : Call} {f : Operand} {g : FuncId} {caps args : List V} {x : V} (h : Gives P g args σ x) (hg : o.guard = none) (ho : o.op = .call c) (hc : c.callee = .value f) (hf : gv fr f = .fn g caps)
    (ha : c.args.toList.map (gv fr) ++ caps = args) (hr : LexA P σ ops F rest (pt fr o.dst x)) : LexA P σ ops F (o :: rest) fr :=
  ⟨x, OpA_of hg (OpOkR_call ho hc hf ha h), hr⟩
theorem LexA_callG {ops : Array Oper} {F : List V → Prop} {o : Oper} {rest : List Oper} {c : Call} {f : Operand} {g : FuncId} {b : Bool} {caps args : List V} {x : V} (hg : gdB ops fr o = some b) (h : b = true → Gives P g args σ x) (ho : o.op = .call c) (hc : c.callee = .value f) (hf : ung b (gv fr f) = .fn g caps)
    (ha : c.args.toList.map (fun y => ung b (gv fr y)) ++ caps = args) (hr : LexA P σ ops F rest (pt fr o.dst (.gd b x))) : LexA P σ ops F (o :: rest) fr :=
  ⟨.gd b x, OpA_ofG hg fun hb => OpOkR_call (rd := fun y => ung b (gv fr y)) ho hc hf ha (h hb), hr⟩

end
end Go.Proofs.YtfagngmikbmmhaaDoor.A
