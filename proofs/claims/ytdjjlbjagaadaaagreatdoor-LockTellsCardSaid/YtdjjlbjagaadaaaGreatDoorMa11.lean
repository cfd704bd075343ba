/- Texts of the proof, one behind another: LkA, AhDefer, AhByte. -/
import Derived.Test.YtdjjlbjagaadaaaGreatDoorMa10
import Derived.Recover
import Derived.Test.YtdjjlbjagaadaaaGreatDoorMa3
import Derived.Laws.Externs
import Derived.Lib.AppendStr
/- Names: manifest.Name, the reference's Name; begins; lines. -/
namespace Go.Proofs.YtdjjlbjagaadaaaGreatDoor.A
open Go Go.RowKit
set_option maxRecDepth 100000
set_option linter.unusedSimpArgs false
set_option linter.unusedVariables false

def GLkA116 := PLift.up <| F5
def GLkA54 := PLift.up <| And.intro F3 <| And.intro F5 <| F9
def GLkA55 := PLift.up <| And.intro F3 <| And.intro F5 <| F9
def GLkA67 := PLift.up <| And.intro F3 <| F9
def sml (c : UInt8) : Bool := 97 ≤ c && c ≤ 122
def nch (c : UInt8) : Bool := sml c || dig c || c == 45
def isName (s : List UInt8) : Bool := !s.isEmpty && decide (s.length ≤ 32) && sml (s.getD 0 0) && s.all nch
theorem sml_eq (c : UInt8) : (decide (97 ≤ (c.toNat : Int)) && decide ((c.toNat : Int) ≤ 122)) = sml c := by
  unfold sml
  rw [Bool.eq_iff_iff]
  simp [UInt8.le_iff_toNat_le]
  omega
theorem dig_eq (c : UInt8) : (decide (48 ≤ (c.toNat : Int)) && decide ((c.toNat : Int) ≤ 57)) = dig c := by
  unfold dig
  rw [Bool.eq_iff_iff]
  simp [UInt8.le_iff_toNat_le]
  omega
theorem is45_eq (c : UInt8) : ((c.toNat : Int) == 45) = (c == 45) := by
  rw [Bool.eq_iff_iff]
  simp [← UInt8.toNat_inj]
  omega
theorem small_ok (c : UInt8) (σ : List AE) : Gives Tryz.prog 116 [.int .u8 (c.toNat : Int)] σ (.bool (sml c)) := by
  refine ent Tryz.func116 Tryz.ntmps116 Tryz.results116 ?_
  refine wlk GLkA116.down ?_
  refine rtr GLkA116.down ?_
  exact ⟨by rw [sml_eq], rfl⟩
theorem empty_beq (s : List UInt8) : (s == []) = s.isEmpty := by cases s <;> rfl
theorem name_ok (s : List UInt8) (σ : List AE) (hs : s.length ≤ 9223372036854775807) : Gives Tryz.prog 54 [.str s] σ (.bool (isName s)) := by
  refine ent Tryz.func54 Tryz.ntmps54 Tryz.results54 ?_
  by_cases he : s = []
  · subst he
    refine wlk GLkA54.down ?_
    refine AOps_callG (x := .junk) rfl (fun hg => by cases hg) rfl rfl rfl rfl ?_
    simp only [pt, SL]
    refine wlk GLkA54.down ?_
    refine rtr GLkA54.down ?_
    exact ⟨rfl, rfl⟩
  · have hpos : 0 < s.length := List.length_pos_iff.2 he
    have he' : (s == []) = false := by simpa using he
    have hem : s.isEmpty = false := by rw [← empty_beq, he']
    refine wlk (And.intro hpos (And.intro he' GLkA54.down)) ?_
    refine cll (small_ok (s.getD 0 0) σ) ?_
    refine wlk GLkA54.down ?_
    refine AWP_cond rfl (fun h => ?_) (fun h => ?_)
    · have hn : isName s = false := by
        unfold isName
        rw [hem]
        cases h1 : decide (s.length ≤ 32) <;> cases h2 : sml (s.getD 0 0) <;> simp_all
        omega
      refine wlk GLkA54.down ?_
      refine rtr GLkA54.down ?_
      exact ⟨by rw [hn], rfl⟩
    · have h2 : s.length ≤ 32 ∧ sml (s.getD 0 0) = true := by
        cases h1 : decide (s.length ≤ 32) <;> cases h2 : sml (s.getD 0 0) <;> simp_all
        omega
      refine wlk GLkA54.down ?_
      refine AWP_loop (α := { k : Nat // k ≤ s.length ∧ ∀ c ∈ s.take k, nch c = true }) (fun k => [.str s, .junk, .bool false, .junk, .junk, .junk, .junk, .junk, .junk, .junk, .junk, .junk, .junk, .junk, .junk, .junk, .junk, .junk, .junk, .int .i64 s.length, .int .i64 (k.1 : Int), .junk, .junk, .junk, .junk, .junk, .junk, .junk, .junk, .junk, .junk, .junk, .junk, .junk, .junk, .junk, .junk, .junk, .junk, .junk]) (fun _ => _) (fun k => s.length - k.1) ⟨0, by omega, by simp⟩ (.same ?_) (fun _ => Nat.le_refl _) ?_
      · exact lle
      · rintro ⟨k, hk, hd⟩
        refine wlk GLkA54.down ?_
        refine AWP_cond rfl (fun h => ?_) (fun h => ?_)
        · have hlt : k < s.length := by simpa using h
          have next : ∀ h : nch (s.getD k 0) = true, ∀ c ∈ s.take (k + 1), nch c = true := fun h => take_all hlt hd h
          refine wlk (And.intro hlt GLkA54.down) ?_
          refine cll (small_ok (s.getD k 0) σ) ?_
          refine wlk GLkA54.down ?_
          refine AWP_cond rfl (fun h => ?_) (fun h => ?_)
          · refine wlk GLkA54.down ?_
            refine ⟨⟨k + 1, by omega, next (by unfold nch; rw [h]; rfl)⟩, by simp; omega, ?_⟩
            rw [wrap_in (by omega) (by omega)]
            exact .same (by exact lle)
          · have h3 := h
            refine wlk GLkA54.down ?_
            rw [dig_eq]
            refine AWP_cond rfl (fun h => ?_) (fun h => ?_)
            · refine wlk GLkA54.down ?_
              refine ⟨⟨k + 1, by omega, next (by unfold nch; rw [h]; cases sml _ <;> rfl)⟩, by simp; omega, ?_⟩
              rw [wrap_in (by omega) (by omega)]
              exact .same (by exact lle)
            · have h4 := h
              refine wlk GLkA54.down ?_
              rw [is45_eq]
              refine AWP_cond rfl (fun h => ?_) (fun h => ?_)
              · refine wlk GLkA54.down ?_
                refine ⟨⟨k + 1, by omega, next (by unfold nch; rw [h]; simp)⟩, by simp; omega, ?_⟩
                rw [wrap_in (by omega) (by omega)]
                exact .same (by exact lle)
              · refine wlk GLkA54.down ?_
                refine rtr GLkA54.down ?_
                have : s.all nch = false := not_all hlt (by unfold nch; rw [h3, h4, h]; rfl)
                exact ⟨by simp [isName, this], rfl⟩
        · refine wlk GLkA54.down ?_
          refine rtr GLkA54.down ?_
          have : s.all nch = true := all_of_take (by have : ¬ k < s.length := by simpa using h
                                                     omega) hd
          exact ⟨by unfold isName; rw [hem, h2.2, this]; simp [h2.1], rfl⟩
theorem rname_ok (s : List UInt8) (σ : List AE) (hs : s.length ≤ 9223372036854775807) : Gives Tryz.prog 55 [.str s] σ (.bool (isName s)) := by
  refine ent Tryz.func55 Tryz.ntmps55 Tryz.results55 ?_
  by_cases he : s = []
  · subst he
    refine wlk GLkA55.down ?_
    refine rtr GLkA55.down ?_
    exact ⟨rfl, rfl⟩
  · have hpos : 0 < s.length := List.length_pos_iff.2 he
    have hem : s.isEmpty = false := by cases s with
      | nil => exact absurd rfl he
      | cons _ _ => rfl
    refine wlk (And.intro hpos GLkA55.down) ?_
    have e1 : (((decide ((s.length : Int) < 1) || decide (32 < (s.length : Int))) || decide (((s.getD 0 0).toNat : Int) < 97)) || decide (122 < ((s.getD 0 0).toNat : Int))) = !(decide (s.length ≤ 32) && sml (s.getD 0 0)) := by
      rw [← sml_eq, Bool.eq_iff_iff]
      simp only [Bool.or_eq_true, decide_eq_true_eq, Bool.not_eq_true', Bool.and_eq_false_iff, decide_eq_false_iff_not]
      omega
    rw [e1]
    refine AWP_cond rfl (fun h => ?_) (fun h => ?_)
    · have hn : isName s = false := by
        unfold isName
        rw [hem]
        have h' : (decide (s.length ≤ 32) && sml (s.getD 0 0)) = false := by
          rw [Bool.not_eq_true'] at h
          exact h
        rw [Bool.and_assoc, Bool.and_assoc, ← Bool.and_assoc (decide _), h']
        rfl
      refine wlk GLkA55.down ?_
      refine rtr GLkA55.down ?_
      exact ⟨by rw [hn], rfl⟩
    · have h2 : s.length ≤ 32 ∧ sml (s.getD 0 0) = true := by
        have h' : (decide (s.length ≤ 32) && sml (s.getD 0 0)) = true := by
          rw [Bool.not_eq_false'] at h
          exact h
        rw [Bool.and_eq_true, decide_eq_true_eq] at h'
        exact h'
      refine wlk GLkA55.down ?_
      refine AWP_loop (α := { k : Nat // k ≤ s.length ∧ ∀ c ∈ s.take k, nch c = true }) (fun k => [.str s, .junk, .bool false, .int .i64 (k.1 : Int), .junk, .junk, .junk, .junk, .junk, .junk, .junk, .junk, .junk, .junk, .junk, .junk, .junk, .junk, .junk, .junk, .junk, .junk, .junk, .junk, .junk, .junk, .junk, .junk, .junk, .junk, .junk, .junk, .junk, .junk, .junk, .junk, .junk, .junk, .junk, .junk, .junk, .junk, .junk, .junk, .junk, .junk, .junk, .junk, .junk, .junk, .junk]) (fun _ => _) (fun k => s.length - k.1) ⟨0, by omega, by simp⟩ (.same ?_) (fun _ => Nat.le_refl _) ?_
      · exact lle
      · rintro ⟨k, hk, hd⟩
        refine wlk GLkA55.down ?_
        refine AWP_cond rfl (fun h => ?_) (fun h => ?_)
        · have hlt : k < s.length := by simpa using h
          refine wlk (And.intro hlt GLkA55.down) ?_
          rw [sml_eq, dig_eq, is45_eq]
          refine AWP_cond rfl (fun h => ?_) (fun h => ?_)
          · refine wlk GLkA55.down ?_
            refine rtr GLkA55.down ?_
            have : s.all nch = false := not_all hlt (by unfold nch; rw [Bool.not_eq_true'] at h; exact h)
            exact ⟨by unfold isName; rw [this, Bool.and_false], rfl⟩
          · refine wlk GLkA55.down ?_
            refine ⟨⟨k + 1, by omega, take_all hlt hd (by unfold nch; rw [Bool.not_eq_false'] at h; exact h)⟩, by simp; omega, ?_⟩
            rw [wrap_in (by omega) (by omega)]
            exact .same (by exact lle)
        · refine wlk GLkA55.down ?_
          refine rtr GLkA55.down ?_
          have : s.all nch = true := all_of_take (by have : ¬ k < s.length := by simpa using h
                                                     omega) hd
          exact ⟨by unfold isName; rw [hem, h2.2, this]; simp [h2.1], rfl⟩
def beginsB (s p : List UInt8) : Bool := decide (p.length ≤ s.length) && s.take p.length == p
theorem begins_ok (s p : List UInt8) (σ : List AE) : Gives Tryz.prog 67 [.str s, .str p] σ (.bool (beginsB s p)) := by
  refine ent Tryz.func67 Tryz.ntmps67 Tryz.results67 ?_
  by_cases hl : p.length ≤ s.length
  · refine wlk (And.intro hl GLkA67.down) ?_
    refine rtr GLkA67.down ?_
    exact ⟨by simp [beginsB, hl], rfl⟩
  · have h1 : ((p.length : Int) ≤ (s.length : Int)) = False := eq_false (by omega)
    have h2 : decide ((p.length : Int) ≤ (s.length : Int)) = false := decide_eq_false (by omega)
    refine wlk (And.intro h1 (And.intro h2 GLkA67.down)) ?_
    refine rtr GLkA67.down ?_
    exact ⟨by simp [beginsB, hl], rfl⟩
/-- By LF; an empty last one is none. -/
def linesL (s : List UInt8) : List (List UInt8) := if (spl 10 s).getLastD [] = [] then (spl 10 s).dropLast else spl 10 s
end Go.Proofs.YtdjjlbjagaadaaaGreatDoor.A
/- Panics; a function that defers a closure which recovers. -/
namespace Go.Proofs.YtdjjlbjagaadaaaGreatDoor.A
open Go Go.RowKit
set_option linter.unusedVariables false
set_option linter.unusedSimpArgs false

section
variable {P : Program} {σ : List AE} {fr : List V} {Q : APost}

theorem AOps_panic {ops : Array Oper} {o : Oper} {rest : List Oper} {x : Operand} {T : TypeId} {u : Value} (hg : o.guard = none) (ho : o.op = .panic x) (hx : gv fr x = .exact (.iface T u)) (hp : Q (.panic (.exact (.iface T u))) fr σ) : AOps P ops Q (o :: rest) fr σ := fun a w en hi hf {_} hd => by
  unfold wpList
  rw [if_pos (by unfold Region.wanted; rw [hg])]
  refine .inl ?_
  have hv := gv_ok (hf.on (match x with | .tmp t => [t] | _ => [])) x (fun t ht => by subst ht; simp)
  rw [hx] at hv
  simp only [VR] at hv
  unfold Oper.wp
  have hrun : (execOp a.eval o).run P w = .halt (.panic (.iface T u)) w := by simp [execOp, ho, hv, Instr.panic, goPanic]
  rw [hrun]
  exact ⟨.panic (.exact (.iface T u)), fr, σ, en, hp, ⟨_, rfl, by simp [VR]⟩, hi, hf, hd, Ext.refl w en⟩

/-- A deferred call, the frame below in mode u: it ends with that in mode u2. -/
def ACallsD (P : Program) (f : FuncId) (args : List V) (u u2 : FrameMode) (σ : List AE) (R : Out → List AE → Prop) : Prop := ∀ (w : World) (en : List CE) (vals : Array Value), Iv σ en w → LR w en args vals.toList →
  CallsD P f vals u w (fun e u' w' => u' = u2 ∧ ∃ r σ' en', R r σ' ∧ OR w' en' r e ∧ Iv σ' en' w' ∧ Ext w en w' en')
def recOp (r : Tmp) (T : TypeId) (pos : String) : Oper := { dst := some r, op := .call { callee := .builtin .recover, args := #[], argTypes := #[] }, type := T, pos := pos, after := #[], guard := none }
/-- What recover hands back, and the mode behind it. -/
def Recs (u u2 : FrameMode) (x : Value) : Prop := ∀ (c : Frame) (cs : List Frame), c.mode = u → (∃ v cs', recoverD (c :: cs) = some (v, cs') ∧ v = x ∧ cs' = { c with mode := u2 } :: cs) ∨ (recoverD (c :: cs) = none ∧ x = .nilIface ∧ u2 = u)
theorem recs_ret : Recs .returning .returning .nilIface := fun c cs h => .inr ⟨by simp only [recoverD, h], rfl, rfl⟩
theorem recs_pan (v : Value) : Recs (.panicking [{ v := v, recovered := false }]) (.panicking [{ v := v, recovered := true }]) v := fun c cs h => .inl ⟨v, _, by simp only [recoverD, h], rfl, rfl⟩
theorem ACallsD_rec {f : FuncId} {fn : Func} {id r x : Nat} {T T' : TypeId} {pos pos' : String} {after : Array Edge} {rest : Code} {args : List V} {u u2 : FrameMode} {xv : Value} {R : Out → List AE → Prop} (hf : P.funcs[f]? = some fn)
    (hb : fn.body = some (.seq (.region id #[recOp r T pos, { dst := some x, op := .assign (.tmp r), type := T', pos := pos', after := after, guard := none }] false) rest)) (hr : Recs u u2 xv) (hrl : r < fn.ntmps)
    (h : AWP none P rest (bodyQ P fn.results.toList R) (((args ++ List.replicate (fn.ntmps - args.length) V.junk).set r (.exact xv)).set x (.exact xv)) σ) : ACallsD P f args u u2 σ R := fun w en vals hi hl => by
  refine callsD_of_wpS hf hb fun c₀ cs hu => ?_
  have hlen : vals.size = args.length := by simpa using LR_length hl
  have hfr : FR w en (args ++ List.replicate (fn.ntmps - args.length) .junk) { tmps := vals ++ Array.replicate (fn.ntmps - vals.size) undef, defers := [] } := by
    refine ⟨by simp [hlen], fun t => ?_⟩
    rcases Nat.lt_or_ge t args.length with ht | ht
    · obtain ⟨u, h1, h2⟩ := LR_get hl t _ (List.getElem?_eq_getElem ht)
      simp only [List.getD_eq_getElem?_getD, List.getElem?_append_left ht, List.getElem?_eq_getElem ht, Option.getD_some, Array.getD_eq_getD_getElem?]
      rw [Array.getElem?_append_left (by rw [hlen]; exact ht)]
      rw [Array.getElem?_toList] at h1
      rw [h1]
      exact h2
    · have : (args ++ List.replicate (fn.ntmps - args.length) V.junk).getD t V.junk = V.junk := by
        rw [List.getD_eq_getElem?_getD, List.getElem?_append_right ht, List.getElem?_replicate]
        split <;> rfl
      rw [this]
      simp [VR]
  have hf1 := (hfr.put (x := .exact xv) (v := xv) (by simp [VR]) (some r))
  have hf2 := (hf1.put (x := .exact xv) (v := xv) (by simp [VR]) (some x))
  have hrd : (Act.put { tmps := vals ++ Array.replicate (fn.ntmps - vals.size) undef, defers := [] } (some r) xv).eval (.tmp r) = xv := by
    simp only [Act.put, Act.eval, Array.getD_eq_getD_getElem?]
    by_cases hrs : r < (vals ++ Array.replicate (fn.ntmps - vals.size) undef).size
    · rw [Array.getElem?_setIfInBounds_self_of_lt hrs]; rfl
    · simp only [Array.size_append, Array.size_replicate] at hrs
      omega
  have key : ∀ cs', cs' = { c₀ with mode := u2 } :: cs → rest.wpS P (bodyPostS P fn c₀ cs (fun e u' w' => u' = u2 ∧ ∃ r σ' en', R r σ' ∧ OR w' en' r e ∧ Iv σ' en' w' ∧ Ext w en w' en'))
      ((Act.put { tmps := vals ++ Array.replicate (fn.ntmps - vals.size) undef, defers := [] } (some r) xv).put (some x) xv) cs' w := fun cs' hcs => by
    subst hcs
    refine wpS_of_wp (wp_of_in (Code.wpIn_mono (fun e a' w' hq => ?_) (h _ w en hi hf2 rfl)))
    obtain ⟨ax, fr', σ', en', h1, h2, h3, h4, h5, h6⟩ := hq
    cases ax with
    | normal =>
      obtain rfl : e = .normal := h2
      obtain ⟨xs, h7, h8⟩ := h1
      obtain ⟨v, h9, h10⟩ := results_ok h3 h4 fn h7
      exact ⟨h5, u2, rfl, v, h9, rfl, .ret (outV xs), σ', en', h8, ⟨v, rfl, h10⟩, h3, h6⟩
    | ret =>
      obtain rfl : e = .ret := h2
      obtain ⟨xs, h7, h8⟩ := h1
      obtain ⟨v, h9, h10⟩ := results_ok h3 h4 fn h7
      exact ⟨h5, u2, rfl, v, h9, rfl, .ret (outV xs), σ', en', h8, ⟨v, rfl, h10⟩, h3, h6⟩
    | exit id => exact h1.elim
    | goto l => exact h1.elim
    | panic y =>
      obtain ⟨v, rfl, hv⟩ := h2
      exact ⟨h5, u2, rfl, rfl, .pan y, σ', en', h1, ⟨v, rfl, hv⟩, h3, h6⟩
  refine wpS_seq (wpS_region ?_)
  have hrange : List.range (#[recOp r T pos, ({ dst := some x, op := .assign (.tmp r), type := T', pos := pos', after := after, guard := none } : Oper)]).size = [0, 1] := rfl
  rw [hrange]
  have hrun : ∀ (a : Act) (w : World), (execOp a.eval (recOp r T pos)).run P w = .ok .recover w := fun a w => by
    simp [execOp, recOp, resolve, invoke, builtin]
  have hw0 : Region.wanted (recOp r T pos) (yielded #[recOp r T pos, ({ dst := some x, op := .assign (.tmp r), type := T', pos := pos', after := after, guard := none } : Oper)] (vals ++ Array.replicate (fn.ntmps - vals.size) undef)) = true := by unfold Region.wanted recOp; rfl
  unfold wpOpsS
  simp only [List.getElem?_toArray, List.getElem?_cons_zero, hw0, if_true, hrun]
  have fin : ∀ cs', cs' = { c₀ with mode := u2 } :: cs → wpOpsS P #[recOp r T pos, ({ dst := some x, op := .assign (.tmp r), type := T', pos := pos', after := after, guard := none } : Oper)] (Exit.thenS (rest.wpS P (bodyPostS P fn c₀ cs (fun e u' w' => u' = u2 ∧ ∃ r σ' en', R r σ' ∧ OR w' en' r e ∧ Iv σ' en' w' ∧ Ext w en w' en'))) (bodyPostS P fn c₀ cs (fun e u' w' => u' = u2 ∧ ∃ r σ' en', R r σ' ∧ OR w' en' r e ∧ Iv σ' en' w' ∧ Ext w en w' en'))) [1] (Act.put { tmps := vals ++ Array.replicate (fn.ntmps - vals.size) undef, defers := [] } (recOp r T pos).dst xv) cs' w := fun cs' hcs => by
    have hk := key cs' hcs
    unfold wpOpsS
    simp only [List.getElem?_toArray, List.getElem?_cons_succ, List.getElem?_cons_zero]
    rw [if_pos (by unfold Region.wanted; rfl)]
    have hr2 : (execOp (Act.put { tmps := vals ++ Array.replicate (fn.ntmps - vals.size) undef, defers := [] } (recOp r T pos).dst xv).eval ({ dst := some x, op := .assign (.tmp r), type := T', pos := pos', after := after, guard := none } : Oper)).run P w = .ok (.value xv) w := by
      simp only [execOp, Sem.run_pure]
      have : (recOp r T pos).dst = some r := rfl
      rw [this, hrd]
    rw [hr2]
    simp only [Oper.upon]
    unfold wpOpsS
    exact hk
  rcases hr c₀ cs hu with ⟨v, cs', h1, rfl, h2⟩ | ⟨h1, rfl, rfl⟩
  · rw [h1]
    exact fin cs' h2
  · rw [h1]
    exact fin (c₀ :: cs) (by subst hu; rfl)

/-- The results behind a deferred call. -/
def AfterD (P : Program) (fn : Func) (R : Out → List AE → Prop) (fr : List V) (Rd : Out → List AE → Prop) : Prop := ∀ r σ'', Rd r σ'' → ∃ y xs, r = .ret y ∧ resA P fr σ'' fn.results.toList = some xs ∧ R (.ret (outV xs)) σ''
theorem leave_rec {fn : Func} {g : FuncId} {caps : List V} {u u2 : FrameMode} {fr : List V} {a' : Act} {w0 w' : World} {en0 en' : List CE} {us : Array Value} {R Rd : Out → List AE → Prop} (he : Ent P g) (hu : u ≠ .run) (hs : settle u2 = .returning)
    (hi : Iv σ en' w') (hf : FR w' en' fr a') (hx : Ext w0 en0 w' en') (hl : LR w' en' caps us.toList) (hd : ACallsD P g caps u u2 σ Rd) (ha : AfterD P fn R fr Rd) :
    Leaves P fn a'.tmps (fun e w' => ∃ r σ' en', R r σ' ∧ OR w' en' r e ∧ Iv σ' en' w' ∧ Ext w0 en0 w' en') [{ target := .fn (.func g) us, args := #[] }] u w' := by
  refine leaves_cons (f := g) (args := us) hu (by have := run_callFunc he us w'; simp [invoke, this]) ?_
  refine (hd w' en' us hi hl).mono fun e u' w'' hk => ?_
  obtain ⟨rfl, r, σ'', en'', h1, h2, h3, h4⟩ := hk
  obtain ⟨y, xs, rfl, h5, h6⟩ := ha r σ'' h1
  obtain ⟨v, rfl, hv⟩ := h2
  simp only [hs, Leaves]
  obtain ⟨v', h7, h8⟩ := results_ok h3 (hf.ext h4) fn h5
  exact ⟨v', h7, .ret (outV xs), σ'', en'', h6, ⟨v', rfl, h8⟩, h3, hx.trans h4⟩
theorem ACalls_defer {f : FuncId} {fn : Func} {r0 rest : Code} {id t : Nat} {g : FuncId} {cops : Array Operand} {T : TypeId} {pos pos' : String} {after : Array Edge} {args F1 caps : List V} {S1 : List AE} {R : Out → List AE → Prop} {QR : APost} (hf : P.funcs[f]? = some fn) (hn : (fn.name == "runtime.NumGoroutine") = false)
    (hb : fn.body = some (.seq r0 (.seq (.region id #[{ dst := some t, op := .makeFunc (.func g) #[] cops, type := T, pos := pos, after := #[], guard := none }, { dst := none, op := .defer { callee := .value (.tmp t), args := #[], argTypes := #[] }, type := 0, pos := pos', after := after, guard := none }] false) rest)))
    (hg : Ent P g) (ht : t < F1.length) (hc : cops.toList.map (gv F1) = caps)
    (h0 : AWP none P r0 (fun ax fr σ' => ax = .normal ∧ fr = F1 ∧ σ' = S1) (args ++ List.replicate (fn.ntmps - args.length) .junk) σ)
    (hr : AWP none P rest QR (F1.set t (.fn g caps)) S1)
    (hret : ∀ fr σ', QR .ret fr σ' ∨ QR .normal fr σ' → ∃ Rd, ACallsD P g caps .returning .returning σ' Rd ∧ AfterD P fn R fr Rd)
    (hpan : ∀ x fr σ', QR (.panic x) fr σ' → ∃ v, x = .exact v ∧ ∃ Rd, ACallsD P g caps (.panicking [{ v := v, recovered := false }]) (.panicking [{ v := v, recovered := true }]) σ' Rd ∧ AfterD P fn R fr Rd)
    (hno : ∀ id fr σ', ¬ QR (.exit id) fr σ' ∧ ¬ QR (.goto id) fr σ') : ACalls P f args σ R := by
  refine ⟨⟨fn, hf, hn, by rw [hb]; rfl⟩, fun w en vals hi hl => calls_of_wp_defers hf hb ?_⟩
  have hlen : vals.size = args.length := by simpa using LR_length hl
  have hfr : FR w en (args ++ List.replicate (fn.ntmps - args.length) .junk) { tmps := vals ++ Array.replicate (fn.ntmps - vals.size) undef, defers := [] } := by
    refine ⟨by simp [hlen], fun t => ?_⟩
    rcases Nat.lt_or_ge t args.length with ht | ht
    · obtain ⟨u, h1, h2⟩ := LR_get hl t _ (List.getElem?_eq_getElem ht)
      simp only [List.getD_eq_getElem?_getD, List.getElem?_append_left ht, List.getElem?_eq_getElem ht, Option.getD_some, Array.getD_eq_getD_getElem?]
      rw [Array.getElem?_append_left (by rw [hlen]; exact ht)]
      rw [Array.getElem?_toList] at h1
      rw [h1]
      exact h2
    · have : (args ++ List.replicate (fn.ntmps - args.length) V.junk).getD t V.junk = V.junk := by
        rw [List.getD_eq_getElem?_getD, List.getElem?_append_right ht, List.getElem?_replicate]
        split <;> rfl
      rw [this]
      simp [VR]
  refine wp_seq (wp_of_in (Code.wpIn_mono (fun e a1 w1 hq => ?_) (h0 _ w en hi hfr rfl)))
  obtain ⟨ax, fr1, σ1, en1, ⟨rfl, rfl, rfl⟩, h2, h3, h4, h5, h6⟩ := hq
  obtain rfl : e = .normal := h2
  refine wp_seq (wp_region_lit (l := [_, _]) ?_)
  -- the closure is made
  have hus : LR w1 en1 caps (cops.map a1.eval).toList := by
    have : LR w1 en1 (cops.toList.map (gv fr1)) (cops.toList.map a1.eval) := by
      have hall : ∀ l : List Operand, LR w1 en1 (l.map (gv fr1)) (l.map a1.eval) := by
        intro l
        induction l with
        | nil => simp [LR]
        | cons x l ih =>
          simp only [List.map_cons, LR]
          exact ⟨_, _, rfl, gv_ok (h4.on (match x with | .tmp t => [t] | _ => [])) x (fun t ht => by subst ht; simp), ih⟩
      exact hall _
    rw [hc] at this
    simpa using this
  unfold wpList
  rw [if_pos (by unfold Region.wanted; rfl)]
  refine .inl ?_
  unfold Oper.wp
  have hrun1 : (execOp a1.eval ({ dst := some t, op := .makeFunc (.func g) #[] cops, type := T, pos := pos, after := #[], guard := none } : Oper)).run P w1 = .ok (.value (.func (.func g) #[] (cops.map a1.eval))) w1 := by simp [execOp, Instr.makeFunc]
  rw [hrun1]
  simp only [Oper.upon]
  have hf2 := h4.put (x := .fn g caps) (v := .func (.func g) #[] (cops.map a1.eval)) (by simp only [VR]; exact ⟨_, rfl, hus⟩) (some t)
  unfold wpList
  rw [if_pos (by unfold Region.wanted; rfl)]
  refine .inl ?_
  unfold Oper.wp
  have hev : (a1.put (some t) (.func (.func g) #[] (cops.map a1.eval))).eval (.tmp t) = .func (.func g) #[] (cops.map a1.eval) := by
    have hts : t < a1.tmps.size := by rw [← h4.1]; exact ht
    simp only [Act.put, Act.eval, Array.getD_eq_getD_getElem?, Array.getElem?_setIfInBounds_self_of_lt hts]
    rfl
  have hrun2 : (execOp (a1.put (some t) (.func (.func g) #[] (cops.map a1.eval))).eval ({ dst := none, op := .defer { callee := .value (.tmp t), args := #[], argTypes := #[] }, type := 0, pos := pos', after := after, guard := none } : Oper)).run P w1 = .ok (.defer { target := .fn (.func g) (cops.map a1.eval), args := #[] }) w1 := by
    simp [execOp, resolve, hev, Deferred.ofValue]
  rw [hrun2]
  simp only [Oper.upon]
  refine wpList_nil ?_
  have hd1 : (a1.put (some t) (.func (.func g) #[] (cops.map a1.eval))).defers = [] := by simpa [Act.put] using h5
  refine wp_of_in (Code.wpIn_mono (fun e a' w' hq => ?_) (hr { (a1.put (some t) (.func (.func g) #[] (cops.map a1.eval))) with defers := { target := .fn (.func g) (cops.map a1.eval), args := #[] } :: (a1.put (some t) (.func (.func g) #[] (cops.map a1.eval))).defers } w1 en1 h3 ⟨hf2.1, hf2.2⟩ rfl))
  rw [hd1] at hq
  obtain ⟨ax, fr', σ', en', k1, k2, k3, k4, k5, k6⟩ := hq
  have hus' := LR_ext k6 _ _ hus
  cases ax with
  | normal =>
    obtain rfl : e = .normal := k2
    obtain ⟨Rd, hd, ha⟩ := hret fr' σ' (.inr k1)
    simp only [bodyPostD, k5]
    exact leave_rec hg (by simp) rfl k3 k4 (h6.trans k6) hus' hd ha
  | ret =>
    obtain rfl : e = .ret := k2
    obtain ⟨Rd, hd, ha⟩ := hret fr' σ' (.inl k1)
    simp only [bodyPostD, k5]
    exact leave_rec hg (by simp) rfl k3 k4 (h6.trans k6) hus' hd ha
  | exit id => exact ((hno id fr' σ').1 k1).elim
  | goto l => exact ((hno l fr' σ').2 k1).elim
  | panic x =>
    obtain ⟨v, rfl, hv⟩ := k2
    obtain ⟨v', rfl, Rd, hd, ha⟩ := hpan x fr' σ' k1
    simp only [VR] at hv
    subst hv
    simp only [bodyPostD, k5]
    exact leave_rec hg (by simp) rfl k3 k4 (h6.trans k6) hus' hd ha
end
end Go.Proofs.YtdjjlbjagaadaaaGreatDoor.A
/- Bytes: a string behind an own row of bytes; appends and calls that turn entries in drawn regions; a box's nil slice gets a token. -/
namespace Go.Proofs.YtdjjlbjagaadaaaGreatDoor.A
open Go Go.RowKit
set_option linter.unusedVariables false
set_option linter.unusedSimpArgs false

section
variable {rn : Option Nat} {P : Program} {σ : List AE} {fr : List V} {Q : APost} {X : V → List AE → Prop} {G : List AE → Prop}

/-- A slice of bytes: its element. -/
def elemB (P : Program) (t : TypeId) : Option TypeId := match P.underlying t with
  | some (.slice e) => match P.info? e with
    | some i => match i.zero with
      | some (.int .u8 n) => if n = 0 ∧ i.size = 1 ∧ i.bytes = 1 then some e else none
      | _ => none
    | none => none
  | _ => none
theorem elemB_ok {t e : TypeId} (h : elemB P t = some e) : P.underlying t = some (.slice e) ∧ ∃ i, P.info? e = some i ∧ i.zero = some (.int .u8 0) ∧ i.size = 1 ∧ i.bytes = 1 := by
  unfold elemB at h
  split at h <;> try cases h
  rename_i e' ht
  split at h <;> try cases h
  rename_i i hi
  split at h <;> try cases h
  rename_i n hz
  split at h <;> try cases h
  rename_i hc
  obtain ⟨rfl, h2, h3⟩ := hc
  exact ⟨ht, i, hi, hz, h2, h3⟩
theorem append_casesS {w : World} {t u ty e : TypeId} (he : elemB P t = some e) (hu : P.underlying u = some .string) {v : Value} {n : Nat} {xs : List Value} (hown : w.ownsRow 0 e 1 v n xs) (s : ByteArray)
    (hb : n + s.size ≤ 140737488355328) :
    ∃ v' w', (Builtin.append_ #[t, u] ty #[v, .string s]).run P w = .ok v' w' ∧ w'.ownsRow 0 e 1 v' (n + s.size) (xs ++ Lib.strCells s) ∧ w.grownBy w' v.ownBlock ∧
      (∀ g, v'.ownBlock = some g → v.ownBlock = some g ∨ w.heap.size ≤ g) ∧ (∀ g, v.ownBlock = some g → v'.ownBlock = some g ∨ w'.heap[g]? = w.heap[g]?) := by
  obtain ⟨ht, i, hi, hz, h1, h2⟩ := elemB_ok he
  have h63 : n + s.size ≤ maxLen := by simp only [maxLen]; omega
  obtain ⟨v', w', hr, ho, hg, hn⟩ := Lib.run_append_own_string (P := P) w 0 t u ty e i ht hu hi hz h1 h2 v n xs hown s h63 hb (Nat.zero_le _)
  refine ⟨v', w', hr, ho, hg, ?_⟩
  have hsmall : n + s.size ≤ 9223372036854775807 := by omega
  rcases hown.2 with ⟨rfl, rfl⟩ | ⟨g, cap, cur, rfl, hbg, hgc, hnc, hcm, hcs, htake⟩
  · refine ⟨fun g hg' => ?_, fun g hg' => by cases hg'⟩
    by_cases hm : s.size = 0
    · obtain rfl := hn.2 ⟨rfl, hm⟩
      cases hg'
    · have hr' := run_append_nil_string (P := P) w t u ty e i (.int .u8 0) ht hu hi hz s (by omega) (by omega) (by rw [h2]; omega)
      rw [hr'] at hr
      cases hr
      cases hg'
      exact .inr (Nat.le_refl _)
  · by_cases hroom : n + s.size ≤ cap
    · have hfit : n + s.size ≤ cur.size := by rw [hcs]; omega
      have hr' := Lib.run_append_room_string (P := P) w t u ty e i ht hu hi h1 g n cap cur hgc s hroom hfit
      rw [hr'] at hr
      cases hr
      exact ⟨fun g' hg' => .inl hg', fun g' hg' => .inl hg'⟩
    · have holds : ∀ j u, xs[j]? = some u → w.cell? ((⟨g, 0, none⟩ : Addr).add j) = some u := World.ownsRow.cells (w := w) (base := 0) (e := e) (size := 1) (n := n) ⟨hown.1, .inr ⟨g, cap, cur, rfl, hbg, hgc, hnc, hcm, hcs, htake⟩⟩ (g := g) rfl
      have hr' := Lib.run_append_grow_string (P := P) w t u ty e i (.int .u8 0) ht hu hi hz ⟨g, 0, none⟩ n cap xs (by rw [h1]; exact hown.1) holds s (by omega) (by omega) (by rw [h2]; exact growslice_fits (by omega) (by omega))
      rw [hr'] at hr
      cases hr
      refine ⟨fun g' hg' => ?_, fun g' hg' => .inr ?_⟩
      · cases hg'
        exact .inr (Nat.le_refl _)
      · cases hg'
        exact Below.heap_alloc w.drew _ g (Array.getElem?_eq_some_iff.1 hgc).1
theorem encB_flat : ∀ l : List UInt8, (encB l).flatten = keyC l
  | [] => rfl
  | b :: l => by
    have := encB_flat l
    simp only [encB, keyC, List.map_cons, List.flatten_cons, List.singleton_append] at this ⊢
    rw [this]
theorem keyC_LR {w : World} {en : List CE} : ∀ l : List UInt8, LR w en (keyC l) (l.map fun b => Value.int .u8 b.toNat)
  | [] => by simp [keyC, LR]
  | b :: l => by
    have := keyC_LR (w := w) (en := en) l
    simp only [keyC, List.map_cons] at this ⊢
    simp only [LR]
    exact ⟨_, _, rfl, by simp [VR], this⟩
theorem encB_len (l : List UInt8) : (encB l).length = l.length := by simp [encB]
theorem encB_app (a b : List UInt8) : encB a ++ encB b = encB (a ++ b) := by simp [encB]
theorem encB_flatB (l : List UInt8) : flat 1 (encB l) = true := by simp [flat, encB]
theorem appendS_ok {w : World} {en : List CE} (hi : Iv σ en w) {t u ty e : TypeId} (he : elemB P t = some e) (hu : P.underlying u = some .string) {k ver : Nat} (hk : σ[k]? = some (.tok ver e 1))
    {xs : List (List V)} {l : List UInt8} {v y : Value} (hv : VR w en (.sl (.own k ver) xs) v) (hy : VR w en (.str l) y) (hfx : flat 1 xs = true) (hne : l ≠ []) (hb : xs.length + l.length ≤ 140737488355328) :
    ∃ v' w' en', (Builtin.append_ #[t, u] ty #[v, y]).run P w = .ok v' w' ∧ VR w' en' (.sl (.own k (ver + 1)) (xs ++ encB l)) v' ∧ Iv (σ.set k (.tok (ver + 1) e 1)) en' w' ∧ Ext w en w' en' := by
  simp only [VR] at hy
  subst hy
  refine append_fin (R := fun v' w' => (Builtin.append_ #[t, u] ty #[v, .string ⟨l.toArray⟩]).run P w = .ok v' w') hi Nat.one_pos hk hv hfx (by intro e; exact hne (List.eq_nil_of_length_eq_zero (by rw [← encB_len, e]; rfl))) (us := Lib.strCells ⟨l.toArray⟩) (by rw [encB_flat]; exact keyC_LR l) (Lib.strCells_oneCell _) fun xv hown => ?_
  have := append_casesS (ty := ty) he hu hown ⟨l.toArray⟩ (by simpa [ByteArray.size] using hb)
  rw [encB_len]
  simpa [ByteArray.size] using this
theorem OpOkR_appendS {rd : Operand → V} {o : Oper} {s y : Operand} {t u e : TypeId} {k ver : Nat} {xs : List (List V)} {l : List UInt8} (ho : o.op = .call { callee := .builtin .append, args := #[s, y], argTypes := #[t, u] })
    (hs : rd s = .sl (.own k ver) xs) (hy : rd y = .str l) (hk : σ[k]? = some (.tok ver e 1)) (he : elemB P t = some e) (hu : P.underlying u = some .string) (hfx : flat 1 xs = true) (hne : l ≠ []) (hb : xs.length + l.length ≤ 140737488355328) :
    OpOkR P σ rd o (.sl (.own k (ver + 1)) (xs ++ encB l)) (σ.set k (.tok (ver + 1) e 1)) := fun a w en hi hf => by
  have h1 := hf s (by simp [ho, Op.operands, Call.operands])
  have h2 := hf y (by simp [ho, Op.operands, Call.operands])
  rw [hs] at h1
  rw [hy] at h2
  obtain ⟨v', w', en', h3, h4, h5, h6⟩ := appendS_ok (ty := o.type) hi he hu hk h1 h2 hfx hne hb
  unfold Oper.wp
  have : (execOp a.eval o).run P w = .ok (.value v') w' := by simp [execOp, ho, resolve, invoke, builtin, h3]
  rw [this]
  exact ⟨v', en', rfl, h4, h5, h6⟩
theorem AOps_appendS {ops : Array Oper} {o : Oper} {rest : List Oper} {s y : Operand} {t u e : TypeId} {k ver : Nat} {xs : List (List V)} {l : List UInt8} (hg : o.guard = none) (ho : o.op = .call { callee := .builtin .append, args := #[s, y], argTypes := #[t, u] })
    (hs : gv fr s = .sl (.own k ver) xs) (hy : gv fr y = .str l) (hk : σ[k]? = some (.tok ver e 1)) (he : elemB P t = some e) (hu : P.underlying u = some .string) (hfx : flat 1 xs = true) (hne : l ≠ []) (hb : xs.length + l.length ≤ 140737488355328)
    (hr : AOps P ops Q rest (pt fr o.dst (.sl (.own k (ver + 1)) (xs ++ encB l))) (σ.set k (.tok (ver + 1) e 1))) : AOps P ops Q (o :: rest) fr σ :=
  AOps_op hg (OpOk_of (OpOkR_appendS ho hs hy hk he hu hfx hne hb)) hr
theorem Stp_chg {ops : Array Oper} {o : Oper} {x : V} {σ' : List AE} (hp : isP o.op = false) (hq : isQ o.op = false) (hl : isL o.op = false) (h : OpA P X σ ops o fr x σ') : Stp P X G σ ops o fr x σ' := by
  unfold Stp
  rw [if_neg (by rw [hp]; simp), if_neg (by rw [hq]; simp)]
  exact ⟨fun e => (by rw [hl] at e; cases e), h⟩
/-- An append onto a token, in a drawn region. -/
theorem LexA_append {ops : Array Oper} {F : List V → List AE → Prop} {o : Oper} {rest : List Oper} {s y : Operand} {t e : TypeId} {sz bytes k ver : Nat} {xs ys : List (List V)} {tg : Tag} (hg : o.guard = none) (ho : o.op = .call { callee := .builtin .append, args := #[s, y], argTypes := #[t, t] })
    (hs : gv fr s = .sl (.own k ver) xs) (hy : gv fr y = .sl tg ys) (hk : σ[k]? = some (.tok ver e sz)) (he : elemI P t = some (e, sz, bytes)) (hsz : 0 < sz) (hfx : flat sz xs = true) (hfy : flat sz ys = true) (hne : ys ≠ []) (h63 : xs.length + ys.length ≤ maxLen) (hb : (xs.length + ys.length) * bytes ≤ 140737488355328)
    (hr : LexA P X G ops F rest (pt fr o.dst (.sl (.own k (ver + 1)) (xs ++ ys))) (σ.set k (.tok (ver + 1) e sz))) : LexA P X G ops F (o :: rest) fr σ :=
  ⟨_, _, Stp_chg (by rw [ho]; rfl) (by rw [ho]; rfl) (by rw [ho]; rfl) (OpA_of hg fun a w en hi hf => by
    have h1 := hf s (by simp [ho, Op.operands, Call.operands])
    have h2 := hf y (by simp [ho, Op.operands, Call.operands])
    rw [hs] at h1
    rw [hy] at h2
    obtain ⟨v', w', en', h3, h4, h5, h6⟩ := append_ok (ty := o.type) hi he hsz hk h1 h2 hfx hfy hne h63 hb
    unfold Oper.wp
    have : (execOp a.eval o).run P w = .ok (.value v') w' := by simp [execOp, ho, resolve, invoke, builtin, h3]
    rw [this]
    exact ⟨v', en', rfl, h4, h5, h6⟩), hr⟩
/-- A call that turns entries, in a drawn region. -/
theorem LexA_callS {ops : Array Oper} {F : List V → List AE → Prop} {o : Oper} {rest : List Oper} {c : Call} {f : FuncId} {args : List V} {x : V} {S : List AE} (h : GivesS P f args σ x S) (hg : o.guard = none) (ho : o.op = .call c) (hc : c.callee = .value (.func f)) (ht : turns (.func f) = true)
    (ha : c.args.toList.map (gv fr) = args) (hr : LexA P X G ops F rest (pt fr o.dst x) S) : LexA P X G ops F (o :: rest) fr σ :=
  ⟨x, S, Stp_chg (isP_call ho hc) (by rw [ho]; simp only [isQ, hc, ht]; rfl) (isL_call ho) (fun a w en hi hfr => by
    subst ha
    have hw : Region.wanted o (yielded ops a.tmps) = true := by unfold Region.wanted; rw [hg]
    rw [if_pos hw]
    have h' : ACalls P f (c.args.toList.map (gv fr) ++ []) σ (fun r σ' => r = .ret x ∧ σ' = S) := by rw [List.append_nil]; exact h
    refine Oper_wpQ (fun a' w' hk => ?_) (fun e a' w' hk => ?_) (call_wpR ho hc (caps := []) (by simp [gv]) h' a w en hi (on_rd hfr))
    · obtain ⟨v, x', σ', en', rfl, h1, h2, h3, h4⟩ := hk
      obtain ⟨h5, rfl⟩ := h1
      cases h5
      exact ⟨v, en', rfl, h2, h3, h4⟩
    · obtain ⟨v, x', σ', en', rfl, rfl, h1, h2, h3, h4⟩ := hk
      cases h1.1), hr⟩
/-- An entry's box reads otherwise. -/
theorem Iv.rebox {w : World} {en : List CE} (hi : Iv σ en w) {b : Nat} {cs cs' : List V} (hb : σ[b]? = some (.box cs)) (h : ∀ us, LR w en cs us → LR w en cs' us) : Iv (σ.set b (.box cs')) en w where
  len := by simp [hi.len]
  ok := fun i a x ha hx => by
    by_cases hib : b = i
    · subst hib
      rw [List.getElem?_set, if_pos rfl, if_pos (List.getElem?_eq_some_iff.1 hb).1] at ha
      cases ha
      have := hi.ok b _ x hb hx
      cases x <;> simp only [EOk] at this ⊢
      obtain ⟨us, T, h1, h2, h3⟩ := this
      exact ⟨us, T, h1, h _ h2, h3⟩
    · rw [List.getElem?_set, if_neg hib] at ha
      exact hi.ok i a x ha hx
  dis := hi.dis
theorem Iv.reboxt {w : World} {en : List CE} (hi : Iv σ en w) {b : Nat} {T : TypeId} {cs cs' : List V} (hb : σ[b]? = some (.boxt T cs)) (h : ∀ us, LR w en cs us → LR w en cs' us) : Iv (σ.set b (.boxt T cs')) en w where
  len := by simp [hi.len]
  ok := fun i a x ha hx => by
    by_cases hib : b = i
    · subst hib
      rw [List.getElem?_set, if_pos rfl, if_pos (List.getElem?_eq_some_iff.1 hb).1] at ha
      cases ha
      have := hi.ok b _ x hb hx
      cases x <;> simp only [EOk] at this ⊢
      obtain ⟨us, h1, h2, h3⟩ := this
      exact ⟨us, h1, h _ h2, h3⟩
    · rw [List.getElem?_set, if_neg hib] at ha
      exact hi.ok i a x ha hx
  dis := hi.dis
theorem nil_own {w : World} {en : List CE} {k : Nat} {sz : Nat} (hk : en[k]? = some (.tok 0 (.slice none 0 0) 0 sz)) {cs : List V} {i : Nat} (hc : cs[i]? = some (.sl .nil [])) {us : List Value} (h : LR w en cs us) : LR w en (cs.set i (.sl (.own k 0) [])) us := by
  obtain ⟨u, hu, hv⟩ := LR_get h i _ hc
  have hv' := hv
  simp only [VR] at hv
  obtain ⟨A, c', h1, h2, h3, h4, _⟩ := hv
  have h4' : u = .slice none 0 0 := h4
  have := LR_set h i (x := .sl (.own k 0) []) (u := u) (by
    simp only [VR]
    exact ⟨none, 0, h4', Nat.zero_le _, Nat.zero_le _, ⟨0, .slice none 0 0, 0, sz, hk, Nat.le_refl _, fun _ => ⟨h4'.symm, rfl⟩⟩, fun h => absurd rfl h⟩)
  have hset : us.set i u = us := by
    obtain ⟨hl, he⟩ := List.getElem?_eq_some_iff.1 hu
    rw [← he]
    exact List.set_getElem_self hl
  rwa [hset] at this
/-- A box's nil slice gets a token. -/
theorem AWP_tokB {c : Code} (b i : Nat) (e : TypeId) (sz : Nat) {cs : List V} (hb : σ[b]? = some (.box cs)) (hc : cs[i]? = some (.sl .nil [])) (h : AWP rn P c Q fr (σ.set b (.box (cs.set i (.sl (.own σ.length 0) []))) ++ [.tok 0 e sz])) : AWP rn P c Q fr σ := fun a w en hi hf {_} hd => by
  obtain ⟨hi', he⟩ := tok_ok hi e sz
  have hl : b < σ.length := (List.getElem?_eq_some_iff.1 hb).1
  have hi2 := hi'.rebox (b := b) (cs := cs) (cs' := cs.set i (.sl (.own σ.length 0) [])) (by rw [List.getElem?_append_left hl]; exact hb) (fun us hu => nil_own (sz := sz) (by rw [List.getElem?_append_right (by rw [hi.len]; exact Nat.le_refl _), hi.len, Nat.sub_self]; rfl) hc hu)
  rw [List.set_append_left (h := hl)] at hi2
  exact Code.wpIn_mono (fun _ _ _ hq => LQ_ext he hq) (h a w _ hi2 (hf.ext he) hd)
theorem AWP_tokT {c : Code} (b i : Nat) (e : TypeId) (sz : Nat) {T : TypeId} {cs : List V} (hb : σ[b]? = some (.boxt T cs)) (hc : cs[i]? = some (.sl .nil [])) (h : AWP rn P c Q fr (σ.set b (.boxt T (cs.set i (.sl (.own σ.length 0) []))) ++ [.tok 0 e sz])) : AWP rn P c Q fr σ := fun a w en hi hf {_} hd => by
  obtain ⟨hi', he⟩ := tok_ok hi e sz
  have hl : b < σ.length := (List.getElem?_eq_some_iff.1 hb).1
  have hi2 := hi'.reboxt (b := b) (T := T) (cs := cs) (cs' := cs.set i (.sl (.own σ.length 0) [])) (by rw [List.getElem?_append_left hl]; exact hb) (fun us hu => nil_own (sz := sz) (by rw [List.getElem?_append_right (by rw [hi.len]; exact Nat.le_refl _), hi.len, Nat.sub_self]; rfl) hc hu)
  rw [List.set_append_left (h := hl)] at hi2
  exact Code.wpIn_mono (fun _ _ _ hq => LQ_ext he hq) (h a w _ hi2 (hf.ext he) hd)
/-- A call into what the model gives itself, of one argument, that gives its argument back. -/
theorem AOps_same {ops : Array Oper} {o : Oper} {rest : List Oper} {c : Call} {f : FuncId} {fn : Func} {e : Array Value → Sem Value} {x : Operand} {z : V} (hf : P.funcs[f]? = some fn) (hname : (fn.name == "runtime.NumGoroutine") = false) (hb : fn.body.isNone = true) (hn : Extern.findNext fn = none) (hef : Extern.find fn = some e)
    (he : ∀ v, e #[v] = pure v) (hg : o.guard = none) (ho : o.op = .call c) (hc : c.callee = .value (.func f)) (hx : c.args = #[x]) (hz : gv fr x = z) (hr : AOps P ops Q rest (pt fr o.dst z) σ) : AOps P ops Q (o :: rest) fr σ :=
  AOps_op hg (OpOk_of (OpOk_val fun a w en hi hfr => by
    have h1 := hfr x (by simp [ho, Op.operands, Call.operands, hc, hx])
    rw [hz] at h1
    refine ⟨a.eval x, ?_, h1⟩
    have := run_callFunc_extern hf hname hb hn hef #[a.eval x] w
    rw [he] at this
    have hev : a.eval (.func f) = .func (.func f) #[] #[] := rfl
    simp [execOp, ho, resolve, hc, hx, hev, Deferred.ofValue, invoke, this, Result.andThen])) hr
end
end Go.Proofs.YtdjjlbjagaadaaaGreatDoor.A
