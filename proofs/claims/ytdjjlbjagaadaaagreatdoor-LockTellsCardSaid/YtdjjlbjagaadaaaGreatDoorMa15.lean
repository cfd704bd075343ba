/- Texts of the proof, one behind another: LkJ, LkK, LkL. -/
import Derived.Test.YtdjjlbjagaadaaaGreatDoorMa14
/- Lists of pins side by side: help.Pins, alike, EqualFunc, Same, the reference's SamePins. -/
namespace Go.Proofs.YtdjjlbjagaadaaaGreatDoor.A
open Go Go.RowKit
set_option maxRecDepth 100000
set_option linter.unusedSimpArgs false
set_option linter.unusedVariables false

def GLkJ82 := PLift.up <| And.intro F3 <| And.intro F5 <| And.intro F9 <| And.intro F33 <| And.intro F35 <| And.intro F37 <| F39
def GLkJ81 := PLift.up <| And.intro F3 <| And.intro F5 <| And.intro F9 <| And.intro F23 <| And.intro F33 <| And.intro F35 <| And.intro F37 <| And.intro F39 <| F129
def GLkJ27 := PLift.up <| And.intro F3 <| And.intro F5 <| And.intro F9 <| And.intro F23 <| And.intro F33 <| And.intro F35 <| And.intro F37 <| And.intro F39 <| F129
theorem pinC_v (p : Pin) : ((pinC p).drop 1).take 4 = [.int .i64 p.v.major, .int .i64 p.v.minor, .int .i64 p.v.patch, .sl .ro (strs p.v.pre)] := rfl
theorem pinC_k {p : Pin} (h : p.k.length = 32) : ((pinC p).drop 5).take 32 = keyC p.k := keyC_take p.k 32 h
theorem alike_ok (a b : Pin) (σ : List AE) (ha : a.k.length = 32) (hb : b.k.length = 32) (va : VOk a.v) (vb : VOk b.v) (hG : GV σ) : Gives Tryz.prog 82 [.agg (pinC a), .agg (pinC b)] σ (.bool (alikeP a b)) := by
  refine Gives_drop (hb := fun hb => trivial) ?_
  refine ent Tryz.func82 Tryz.ntmps82 Tryz.results82 ?_
  have hal := pinC_len ha
  have hbl := pinC_len hb
  have ha0 := pinC_0 a
  have hb0 := pinC_0 b
  have hav := pinC_v a
  have hbv := pinC_v b
  have hak := pinC_k ha
  have hbk := pinC_k hb
  refine wlk (And.intro hal (And.intro hbl (And.intro ha0 (And.intro hb0 (And.intro hav (And.intro hbv (And.intro hak (And.intro hbk GLkJ82.down)))))))) ?_
  refine cll (text9_ok a.v .ro _ va (hG.app _)) ?_
  refine wlk (And.intro hal (And.intro hbl (And.intro ha0 (And.intro hb0 (And.intro hav (And.intro hbv (And.intro hak (And.intro hbk GLkJ82.down)))))))) ?_
  refine cll (text9_ok b.v .ro _ vb (hG.app _)) ?_
  refine wlk (And.intro hal (And.intro hbl (And.intro ha0 (And.intro hb0 (And.intro hav (And.intro hbv (And.intro hak (And.intro hbk (And.intro ha (And.intro hb GLkJ82.down)))))))))) ?_
  refine rtrb GLkJ82.down ?_
  exact Vle.refl _
/-- Pins that are whole. -/
def POk (l : List Pin) : Prop := ∀ p ∈ l, p.k.length = 32 ∧ VOk p.v
theorem POk.k {l : List Pin} (h : POk l) : K32 l := fun p hp => (h p hp).1
theorem getD_mem {l : List Pin} {i : Nat} (h : i < l.length) : l.getD i p0 ∈ l := by
  rw [List.getD_eq_getElem?_getD, List.getElem?_eq_getElem h, Option.getD_some]
  exact List.getElem_mem h
theorem drop_getD {l : List Pin} {i : Nat} (h : i < l.length) : l.drop i = l.getD i p0 :: l.drop (i + 1) := by
  rw [List.drop_eq_getElem_cons h, List.getD_eq_getElem?_getD, List.getElem?_eq_getElem h, Option.getD_some]
theorem samePs_len : ∀ {l m : List Pin}, l.length ≠ m.length → samePs l m = false
  | [], [], h => absurd rfl h
  | [], _ :: _, _ => rfl
  | _ :: _, [], _ => rfl
  | a :: l, b :: m, h => by
    have : samePs l m = false := samePs_len (by simpa using h)
    simp only [samePs, this, Bool.and_false]
abbrev alikeF : FuncId := 82
theorem equalFunc_ok (l m : List Pin) (t u : Tag) (σ : List AE) (ht : ∀ n, tbel n t) (hu : ∀ n, tbel n u) (hl : POk l) (hm : POk m) (hll : l.length ≤ 9223372036854775806) (hG : GV σ) :
    Gives Tryz.prog 81 [.sl t (pinsC l), .sl u (pinsC m), .fn 82 []] σ (.bool (samePs l m)) := by
  refine Gives_drop (hb := fun hb => trivial) ?_
  refine ent Tryz.func81 Tryz.ntmps81 Tryz.results81 ?_
  refine AWP_sb fun hsb => ?_
  have hnl := pinsC_len l
  have hnm := pinsC_len m
  have hfl := pinsC_flat hl.k
  have hfm := pinsC_flat hm.k
  refine wlk (And.intro hnl (And.intro hnm GLkJ81.down)) ?_
  refine AWP_cond rfl (fun h => ?_) (fun h => ?_)
  · have hne : samePs l m = false := samePs_len (by simp at h; omega)
    refine wlk GLkJ81.down ?_
    refine rtrb GLkJ81.down ?_
    rw [hne]
    exact Vle.refl _
  · have hlm : l.length = m.length := by simp at h; omega
    refine wlk (And.intro hnl (And.intro hnm GLkJ81.down)) ?_
    refine AWP_loop (α := { k : Nat // k ≤ l.length ∧ samePs l m = samePs (l.drop k) (m.drop k) }) (fun k => [.sl t (pinsC l), .sl u (pinsC m), .fn alikeF [], .junk, .junk, .junk, .bool false, .junk, .junk, .junk, .junk, .junk, .junk, .junk, .junk, .sl t (pinsC l), .int .i64 l.length, .int .i64 (k.1 : Int), .junk, .junk, .junk, .junk, .junk, .junk, .junk, .junk, .junk, .junk, .junk, .junk, .junk, .junk]) (fun _ => σ) (fun k => l.length - k.1) ⟨0, by omega, by simp⟩ (.same ?_) (fun _ => Nat.le_refl _) ?_
    · exact lle
    · rintro ⟨k, hk, hd⟩
      refine wlk GLkJ81.down ?_
      refine AWP_cond rfl (fun h => ?_) (fun h => ?_)
      · have hlt : k < l.length := by simp at h; omega
        have hlt2 : k < m.length := by omega
        have hgl := pinsC_get l k hlt
        have hgm := pinsC_get m k hlt2
        have pa := hl _ (getD_mem hlt)
        have pb := hm _ (getD_mem hlt2)
        have hal := pinC_len pa.1
        have hbl := pinC_len pb.1
        have hat := pinC_take pa.1
        have hbt := pinC_take pb.1
        have had := pinC_drop pa.1
        have hbd := pinC_drop pb.1
        refine wlk (And.intro hnl (And.intro hnm (And.intro hfl (And.intro hfm (And.intro hlt (And.intro hlt2 (And.intro hgl (And.intro hgm (And.intro hal (And.intro hbl (And.intro hat (And.intro hbt (And.intro had (And.intro hbd GLkJ81.down)))))))))))))) ?_
        refine cll (alike_ok (l.getD k p0) (m.getD k p0) _ pa.1 pb.1 pa.2 pb.2 (hG.app _)) ?_
        refine wlk GLkJ81.down ?_
        rw [drop_getD hlt, drop_getD hlt2] at hd
        refine AWP_cond rfl (fun h => ?_) (fun h => ?_)
        · refine wlk GLkJ81.down ?_
          refine rtrb GLkJ81.down ?_
          simp only [Bool.not_eq_true'] at h
          rw [hd]
          simp only [samePs, h, Bool.false_and]
          exact Vle.refl _
        · refine wlk GLkJ81.down ?_
          simp only [Bool.not_eq_false'] at h
          refine ⟨⟨k + 1, by omega, by rw [hd]; simp only [samePs, h, Bool.true_and]⟩, by simp; omega, ?_⟩
          rw [wrap_in (by omega) (by omega)]
          refine Sub_drop rfl (by exact lle) ?_ hsb
          simp [bels, bel, ht, hu, pinsC_bel]
      · have hk' : k = l.length := by simp at h; omega
        subst hk'
        have e : samePs l m = true := by
          rw [hd, hlm, List.drop_length, ← hlm, List.drop_length]
          rfl
        refine wlk GLkJ81.down ?_
        refine rtrb GLkJ81.down ?_
        rw [e]
        exact Vle.refl _
theorem same_ok (l m : List Pin) (t u : Tag) (σ : List AE) (ht : ∀ n, tbel n t) (hu : ∀ n, tbel n u) (hl : POk l) (hm : POk m) (hll : l.length ≤ 9223372036854775806) (hG : GV σ) :
    Gives Tryz.prog 27 [.sl t (pinsC l), .sl u (pinsC m)] σ (.bool (samePs l m)) := by
  refine ent Tryz.func27 Tryz.ntmps27 Tryz.results27 ?_
  refine wlk GLkJ27.down ?_
  refine cll (equalFunc_ok l m t u σ ht hu hl hm hll hG) ?_
  refine wlk GLkJ27.down ?_
  refine rtr GLkJ27.down ?_
  exact ⟨rfl, rfl⟩
end Go.Proofs.YtdjjlbjagaadaaaGreatDoor.A
/- help.Pins at one list twice; the reference's SamePins. -/
namespace Go.Proofs.YtdjjlbjagaadaaaGreatDoor.A
open Go Go.RowKit
set_option maxRecDepth 100000
set_option linter.unusedSimpArgs false
set_option linter.unusedVariables false

def GLkK23 := PLift.up <| And.intro F3 <| And.intro F5 <| And.intro F9 <| And.intro F23 <| And.intro F33 <| And.intro F35 <| And.intro F37 <| F39
def GLkK28 := PLift.up <| And.intro F3 <| And.intro F5 <| And.intro F9 <| And.intro F23 <| And.intro F33 <| And.intro F35 <| And.intro F37 <| F39
theorem pinC_d1 {p : Pin} (h : p.k.length = 32) : ((pinC p).drop 1).length = 36 := by rw [List.length_drop, pinC_len h]
theorem pinC_d5 {p : Pin} (h : p.k.length = 32) : ((pinC p).drop 5).length = 32 := by rw [List.length_drop, pinC_len h]
theorem helpPins_ok (l : List Pin) (t u : Tag) (σ : List AE) (hl : POk l) (hll : l.length ≤ 9223372036854775806) : Gives Tryz.prog 23 [.sl t (pinsC l), .sl u (pinsC l)] σ (.bool true) := by
  refine ent Tryz.func23 Tryz.ntmps23 Tryz.results23 ?_
  have hnl := pinsC_len l
  have hfl := pinsC_flat hl.k
  have hz : (((l.length : Int)) != (l.length : Int)) = false := by simp
  refine wlk (And.intro hnl (And.intro hz GLkK23.down)) ?_
  refine AWP_loop (α := { k : Nat // k ≤ l.length }) (fun k => [.sl t (pinsC l), .sl u (pinsC l), .junk, .junk, .bool false, .int .i64 (k.1 : Int), .junk, .junk, .junk, .junk, .junk, .junk, .junk, .junk, .junk, .junk, .junk, .junk, .junk, .junk, .junk, .junk, .junk, .junk, .junk, .junk, .junk, .junk, .junk, .junk, .junk, .junk, .junk, .junk, .junk, .junk, .junk, .junk, .junk, .junk, .junk, .junk, .junk, .junk, .junk, .junk, .junk, .junk, .junk, .junk, .junk, .junk, .junk, .junk, .junk]) (fun _ => _) (fun k => l.length - k.1) ⟨0, by omega⟩ (.same ?_) (fun _ => Nat.le_refl _) ?_
  · exact lle
  · rintro ⟨k, hk⟩
    refine wlk GLkK23.down ?_
    refine AWP_cond rfl (fun h => ?_) (fun h => ?_)
    · have hlt : k < l.length := by simp [hnl] at h; omega
      have hgl := pinsC_get l k hlt
      have pa := hl _ (getD_mem hlt)
      have hal := pinC_len pa.1
      have ha0 := pinC_0 (l.getD k p0)
      have hav := pinC_v (l.getD k p0)
      have hak := pinC_k pa.1
      have ha32 := pa.1
      have ha1 := pinC_d1 pa.1
      have ha5 := pinC_d5 pa.1
      have hpre : (l.getD k p0).v.pre.length ≤ 9223372036854775806 := by
        have := lens_length (l.getD k p0).v.pre
        have := pa.2.p
        omega
      refine wlk (And.intro hnl (And.intro hfl (And.intro hlt (And.intro hgl (And.intro hal (And.intro ha0 (And.intro hav (And.intro hak (And.intro ha32 (And.intro ha1 (And.intro ha5 GLkK23.down))))))))))) ?_
      refine cll (hversion_ok (l.getD k p0).v (l.getD k p0).v .ro .ro _ hpre) ?_
      rw [eqV_refl]
      refine wlk (And.intro hnl (And.intro hfl (And.intro hlt (And.intro hgl (And.intro hal (And.intro ha0 (And.intro hav (And.intro hak (And.intro ha32 (And.intro ha1 (And.intro ha5 GLkK23.down))))))))))) ?_
      refine ⟨⟨k + 1, by omega⟩, by simp; omega, ?_⟩
      rw [wrap_in (by omega) (by omega)]
      exact .same (by exact lle)
    · refine wlk GLkK23.down ?_
      refine rtr GLkK23.down ?_
      exact ⟨rfl, rfl⟩
theorem samePins_ok (l m : List Pin) (t u : Tag) (σ : List AE) (hl : POk l) (hm : POk m) (hll : l.length ≤ 9223372036854775806) : Gives Tryz.prog 28 [.sl t (pinsC l), .sl u (pinsC m)] σ (.bool (samePs l m)) := by
  refine ent Tryz.func28 Tryz.ntmps28 Tryz.results28 ?_
  have hnl := pinsC_len l
  have hnm := pinsC_len m
  have hfl := pinsC_flat hl.k
  have hfm := pinsC_flat hm.k
  refine wlk (And.intro hnl (And.intro hnm GLkK28.down)) ?_
  refine AWP_cond rfl (fun h => ?_) (fun h => ?_)
  · have hne : samePs l m = false := samePs_len (by simp at h; omega)
    refine wlk GLkK28.down ?_
    refine rtr GLkK28.down ?_
    exact ⟨by rw [hne], rfl⟩
  · have hlm : l.length = m.length := by simp at h; omega
    refine wlk (And.intro hnl (And.intro hnm GLkK28.down)) ?_
    refine AWP_loop (α := { k : Nat // k ≤ l.length ∧ samePs l m = samePs (l.drop k) (m.drop k) }) (fun k => [.sl t (pinsC l), .sl u (pinsC m), .junk, .junk, .bool false, .int .i64 (k.1 : Int), .junk, .junk, .junk, .junk, .junk, .junk, .junk, .junk, .junk, .junk, .junk, .junk, .junk, .junk, .junk, .junk, .junk, .junk, .junk, .junk, .junk, .junk, .junk, .junk, .junk, .junk, .junk, .junk, .junk, .junk, .junk, .junk, .junk, .junk, .junk, .junk, .junk, .junk, .junk, .junk, .junk, .junk, .junk, .junk, .junk, .junk, .junk, .junk, .junk, .junk]) (fun _ => _) (fun k => l.length - k.1) ⟨0, by omega, by simp⟩ (.same ?_) (fun _ => Nat.le_refl _) ?_
    · exact lle
    · rintro ⟨k, hk, hd⟩
      refine wlk GLkK28.down ?_
      refine AWP_cond rfl (fun h => ?_) (fun h => ?_)
      · have hlt : k < l.length := by simp [hnl] at h; omega
        have hlt2 : k < m.length := by omega
        have hgl := pinsC_get l k hlt
        have hgm := pinsC_get m k hlt2
        have pa := hl _ (getD_mem hlt)
        have pb := hm _ (getD_mem hlt2)
        have hal := pinC_len pa.1
        have hbl := pinC_len pb.1
        have ha0 := pinC_0 (l.getD k p0)
        have hb0 := pinC_0 (m.getD k p0)
        have hav := pinC_v (l.getD k p0)
        have hbv := pinC_v (m.getD k p0)
        have hak := pinC_k pa.1
        have hbk := pinC_k pb.1
        have ha32 := pa.1
        have hb32 := pb.1
        have ha1 := pinC_d1 pa.1
        have ha5 := pinC_d5 pa.1
        have hb1 := pinC_d1 pb.1
        have hb5 := pinC_d5 pb.1
        refine wlk (And.intro hnl (And.intro hnm (And.intro hfl (And.intro hfm (And.intro hlt (And.intro hlt2 (And.intro hgl (And.intro hgm (And.intro hal (And.intro hbl (And.intro ha0 (And.intro hb0 (And.intro hav (And.intro hbv (And.intro hak (And.intro hbk (And.intro ha32 (And.intro hb32 (And.intro ha1 (And.intro ha5 (And.intro hb1 (And.intro hb5 GLkK28.down)))))))))))))))))))))) ?_
        refine cll (rtext9_ok (l.getD k p0).v .ro _ pa.2) ?_
        refine wlk (And.intro hnl (And.intro hnm (And.intro hfl (And.intro hfm (And.intro hlt (And.intro hlt2 (And.intro hgl (And.intro hgm (And.intro hal (And.intro hbl (And.intro ha0 (And.intro hb0 (And.intro hav (And.intro hbv (And.intro hak (And.intro hbk (And.intro ha32 (And.intro hb32 (And.intro ha1 (And.intro ha5 (And.intro hb1 (And.intro hb5 GLkK28.down)))))))))))))))))))))) ?_
        refine cll (rtext9_ok (m.getD k p0).v .ro _ pb.2) ?_
        refine wlk (And.intro hnl (And.intro hnm (And.intro hfl (And.intro hfm (And.intro hlt (And.intro hlt2 (And.intro hgl (And.intro hgm (And.intro hal (And.intro hbl (And.intro ha0 (And.intro hb0 (And.intro hav (And.intro hbv (And.intro hak (And.intro hbk (And.intro ha32 (And.intro hb32 (And.intro ha1 (And.intro ha5 (And.intro hb1 (And.intro hb5 GLkK28.down)))))))))))))))))))))) ?_
        rw [drop_getD hlt, drop_getD hlt2] at hd
        have hc : ((!((l.getD k p0).n == (m.getD k p0).n) || !(textV (l.getD k p0).v == textV (m.getD k p0).v)) || !((l.getD k p0).k == (m.getD k p0).k)) = !alikeP (l.getD k p0) (m.getD k p0) := by
          unfold alikeP
          rw [Bool.not_and, Bool.not_and]
        rw [hc]
        refine AWP_cond rfl (fun h => ?_) (fun h => ?_)
        · refine wlk GLkK28.down ?_
          refine rtr GLkK28.down ?_
          simp only [Bool.not_eq_true'] at h
          refine ⟨?_, rfl⟩
          rw [hd]
          simp only [samePs, h, Bool.false_and]
        · refine wlk GLkK28.down ?_
          simp only [Bool.not_eq_false'] at h
          refine ⟨⟨k + 1, by omega, by rw [hd]; simp only [samePs, h, Bool.true_and]⟩, by simp; omega, ?_⟩
          rw [wrap_in (by omega) (by omega)]
          exact .same (by exact lle)
      · have hk' : k = l.length := by simp [hnl] at h; omega
        subst hk'
        have e : samePs l m = true := by
          rw [hd, hlm, List.drop_length, ← hlm, List.drop_length]
          rfl
        refine wlk GLkK28.down ?_
        refine rtr GLkK28.down ?_
        exact ⟨by rw [e], rfl⟩
end Go.Proofs.YtdjjlbjagaadaaaGreatDoor.A
/- The reference's Pins: a stable insertion. -/
namespace Go.Proofs.YtdjjlbjagaadaaaGreatDoor.A
open Go Go.RowKit
set_option maxRecDepth 100000
set_option linter.unusedSimpArgs false
set_option linter.unusedVariables false

def GLkL31 := PLift.up <| And.intro F3 <| And.intro F5 <| And.intro F9 <| And.intro F23 <| And.intro F33 <| And.intro F35 <| And.intro F37 <| F39
section
variable {P : Program} {σ : List AE} {fr : List V} {X : V → List AE → Prop} {G : List AE → Prop}
/-- An append onto what has no room, in a drawn region. -/
theorem LexA_appendF {ops : Array Oper} {F : List V → List AE → Prop} {o : Oper} {rest : List Oper} {s y : Operand} {t e : TypeId} {sz bytes : Nat} {xs ys : List (List V)} {tg tg' : Tag} (hg : o.guard = none) (ho : o.op = .call { callee := .builtin .append, args := #[s, y], argTypes := #[t, t] })
    (hs : gv fr s = .sl tg xs) (hy : gv fr y = .sl tg' ys) (htg : tg = .full ∨ tg = .nil) (he : elemI P t = some (e, sz, bytes)) (hsz : 0 < sz) (hfx : flat sz xs = true) (hfy : flat sz ys = true) (h63 : xs.length + ys.length ≤ maxLen) (hb : (xs.length + ys.length) * bytes ≤ 140737488355328)
    (hr : LexA P X G ops F rest (pt fr o.dst (.sl .ro (xs ++ ys))) σ) : LexA P X G ops F (o :: rest) fr σ :=
  ⟨_, _, Stp_chg (by rw [ho]; rfl) (by rw [ho]; rfl) (by rw [ho]; rfl) (OpA_of hg fun a w en hi hf => by
    have h1 := hf s (by simp [ho, Op.operands, Call.operands])
    have h2 := hf y (by simp [ho, Op.operands, Call.operands])
    rw [hs] at h1
    rw [hy] at h2
    obtain ⟨v', w', en', h3, h4, h5, h6⟩ := appendF_ok (ty := o.type) hi he hsz h1 h2 htg hfx hfy h63 hb
    unfold Oper.wp
    have : (execOp a.eval o).run P w = .ok (.value v') w' := by simp [execOp, ho, resolve, invoke, builtin, h3]
    rw [this]
    exact ⟨v', en', rfl, h4, h5, h6⟩), hr⟩
end
theorem lt_cmp (a b : List UInt8) : ltB a b = decide (cmpB a b < 0) := by
  unfold cmpB
  cases h : ltB a b
  · simp only [Bool.false_eq_true, if_false]
    split <;> simp
  · simp
theorem gtr_eq (a b : List UInt8) : (!(Op.bytesLess a b || a == b)) = ltB b a := by
  have h1 : (!(Op.bytesLess a b || a == b)) = decide (0 < cmpB a b) := by
    unfold cmpB
    cases h : ltB a b
    · have h' : Op.bytesLess a b = false := h
      rw [h']
      cases h2 : (a == b) <;> simp
    · have h' : Op.bytesLess a b = true := h
      rw [h']
      simp
  rw [h1, lt_cmp, isC_bytes.anti a b]
  rw [Bool.eq_iff_iff, decide_eq_true_eq, decide_eq_true_eq]
  omega
theorem insAt_le (n : List UInt8) (l : List Pin) : ∀ k, insAt n l k ≤ k
  | 0 => Nat.le_refl _
  | k + 1 => by
    unfold insAt
    split
    · exact Nat.le_succ_of_le (insAt_le n l k)
    · exact Nat.le_refl _
theorem insP_len (p : Pin) (l : List Pin) : (insP p l).length = l.length + 1 := by
  have := insAt_le p.n l l.length
  simp [insP]
  omega
theorem insP_ok {p : Pin} {l : List Pin} (hp : p.k.length = 32 ∧ VOk p.v) (h : POk l) : POk (insP p l) := fun q hq => by
  unfold insP at hq
  rcases List.mem_append.1 hq with hq | hq
  · exact h q (List.mem_of_mem_take hq)
  · rcases List.mem_cons.1 hq with rfl | hq
    · exact hp
    · exact h q (List.mem_of_mem_drop hq)
theorem sortP_snoc (l : List Pin) (p : Pin) : sortP (l ++ [p]) = insP p (sortP l) := by simp [sortP]
theorem sortP_len (l : List Pin) : (sortP l).length = l.length := by
  unfold sortP
  suffices ∀ (l a : List Pin), (l.foldl (fun acc p => insP p acc) a).length = a.length + l.length by simpa using this l []
  intro l
  induction l with
  | nil => intro a; rfl
  | cons p l ih =>
    intro a
    rw [List.foldl_cons, ih, insP_len, List.length_cons]
    omega
theorem sortP_ok {l : List Pin} (h : POk l) : POk (sortP l) := by
  unfold sortP
  suffices ∀ (l a : List Pin), POk l → POk a → POk (l.foldl (fun acc p => insP p acc) a) from this l [] h (fun p hp => by cases hp)
  intro l
  induction l with
  | nil => intro a _ ha; exact ha
  | cons p l ih => intro a hl ha; exact ih _ (fun q hq => hl q (List.mem_cons_of_mem _ hq)) (insP_ok (hl p List.mem_cons_self) ha)
theorem take_snoc {l : List Pin} {i : Nat} (h : i < l.length) : l.take (i + 1) = l.take i ++ [l.getD i p0] := by
  rw [List.take_succ_eq_append_getElem h, List.getD_eq_getElem?_getD, List.getElem?_eq_getElem h, Option.getD_some]
theorem flat_take {sz : Nat} {xs : List (List V)} (h : flat sz xs = true) (n : Nat) : flat sz (xs.take n) = true := List.all_eq_true.2 fun x hx => List.all_eq_true.1 h x (List.mem_of_mem_take hx)
theorem flat_drop {sz : Nat} {xs : List (List V)} (h : flat sz xs = true) (n : Nat) : flat sz (xs.drop n) = true := List.all_eq_true.2 fun x hx => List.all_eq_true.1 h x (List.mem_of_mem_drop hx)
theorem flat_app {sz : Nat} {xs ys : List (List V)} (h : flat sz xs = true) (k : flat sz ys = true) : flat sz (xs ++ ys) = true := by
  simp only [flat, List.all_append, Bool.and_eq_true] at h k ⊢
  exact ⟨h, k⟩
theorem pinsC_ins (acc : List Pin) (p : Pin) (K : Nat) : (pinsC acc).take K ++ ([pinC p] ++ ((pinsC acc).take acc.length).drop K) = pinsC (acc.take K ++ p :: acc.drop K) := by
  rw [List.take_of_length_le (l := pinsC acc) (i := acc.length) (by rw [pinsC_len]; exact Nat.le_refl _)]
  simp [pinsC, List.map_take, List.map_drop]
theorem rpins_ok (l : List Pin) (t : Tag) (σ : List AE) (hl : POk l) (hll : l.length ≤ 1000000) : Gives Tryz.prog 31 [.sl t (pinsC l)] σ (.sl .ro (pinsC (sortP l))) := by
  refine ent Tryz.func31 Tryz.ntmps31 Tryz.results31 ?_
  have hnl := pinsC_len l
  have hfl := pinsC_flat hl.k
  refine wlk GLkL31.down ?_
  refine AWP_loop (α := { i : Nat // i ≤ l.length }) (fun i => [.sl t (pinsC l), .junk, .sl .nil [], .sl .ro (pinsC (sortP (l.take i.1))), .int .i64 (i.1 : Int), .junk, .junk, .junk, .junk, .junk, .junk, .junk, .junk, .junk, .junk, .junk, .junk, .junk, .junk, .junk, .junk, .junk, .junk, .junk, .junk, .junk, .junk, .junk, .junk, .junk, .junk, .junk, .junk, .junk, .junk, .junk, .junk, .junk, .junk, .junk, .junk, .junk, .junk, .junk, .junk, .junk, .junk]) (fun _ => _) (fun i => l.length - i.1) ⟨0, by omega⟩ (.same ?_) (fun _ => Nat.le_refl _) ?_
  · simp only [List.take_zero]
    exact lle
  · rintro ⟨i, hi⟩
    obtain ⟨acc, hacc⟩ : ∃ acc, acc = sortP (l.take i) := ⟨_, rfl⟩
    simp only [← hacc]
    have hal : acc.length = i := by rw [hacc, sortP_len, List.length_take]; omega
    have hak : POk acc := by rw [hacc]; exact sortP_ok fun p hp => hl p (List.mem_of_mem_take hp)
    have hna := pinsC_len acc
    have hfa := pinsC_flat hak.k
    refine wlk GLkL31.down ?_
    refine AWP_cond rfl (fun h => ?_) (fun h => ?_)
    · have hlt : i < l.length := by simp [hnl] at h; omega
      obtain ⟨p, hp⟩ : ∃ p, p = l.getD i p0 := ⟨_, rfl⟩
      have hgl := pinsC_get l i hlt
      rw [← hp] at hgl
      have pa : p.k.length = 32 ∧ VOk p.v := by rw [hp]; exact hl _ (getD_mem hlt)
      have hp0 := pinC_0 p
      have hpl := pinC_len pa.1
      have hpt := pinC_take pa.1
      have hpd := pinC_drop pa.1
      have hf1 : flat 37 [pinC p] = true := by simp [flat, hpl]
      refine wlk (And.intro hna GLkL31.down) ?_
      refine AWP_loop (α := { k : Nat // k ≤ acc.length ∧ insAt p.n acc acc.length = insAt p.n acc k }) (fun k => [.sl t (pinsC l), .junk, .sl .nil [], .sl .ro (pinsC acc), .int .i64 (i : Int), .int .i64 (k.1 : Int), .junk, .junk, .junk, .junk, .junk, .junk, .junk, .junk, .junk, .junk, .junk, .junk, .junk, .junk, .junk, .junk, .junk, .junk, .junk, .junk, .junk, .junk, .junk, .junk, .junk, .junk, .junk, .junk, .junk, .junk, .junk, .junk, .junk, .junk, .junk, .junk, .junk, .junk, .junk, .junk, .junk]) (fun _ => _) (fun k => k.1) ⟨acc.length, Nat.le_refl _, rfl⟩ (.same ?_) (fun _ => Nat.le_refl _) ?_
      · exact lle
      · rintro ⟨k, hk, hin⟩
        try simp only at hk hin
        match k, hk, hin with
        | 0, hk, hin =>
          have hw0 : ((0 : Int) ≤ IntKind.i64.wrap (0 - 1)) = False := by rw [wrap_in (by omega) (by omega)]; simp
          have hin2 : insAt p.n acc acc.length = 0 := hin
          have hkk : ((0 : Int) ≤ (acc.length : Int)) = True := eq_true (by omega)
          have hle : ((acc.length : Int) ≤ (acc.length : Int)) = True := eq_true (by omega)
          refine wlk (And.intro hw0 (And.intro hna (And.intro hnl (And.intro hfl (And.intro hgl (And.intro hlt (And.intro hp0 (And.intro hfa GLkL31.down)))))))) ?_
          refine wlk (And.intro hkk (And.intro hle (And.intro hna (And.intro hnl (And.intro hfl (And.intro hfa (And.intro hgl (And.intro hlt (And.intro hpt (And.intro hpl (And.intro hpd (And.intro @rng37 (And.intro @rngl37 GLkL31.down))))))))))))) ?_
          refine LexA_appendF rfl rfl rfl rfl (.inl rfl) eI23 (by decide) (by simp [flat, hpl]) (flat_take hfa _) (by simp [hna, maxLen]; omega) (by simp [hna]; omega) ?_
          simp only [pt, SL]
          refine LexA_appendF rfl rfl rfl rfl (.inl rfl) eI23 (by decide) rfl (flat_app hf1 (flat_take hfa _)) (by simp [hna, maxLen]; omega) (by simp [hna]; omega) ?_
          simp only [pt, SL]
          refine wlk GLkL31.down ?_
          refine ⟨⟨i + 1, by omega⟩, by simp; omega, ?_⟩
          have hnew : sortP (l.take (i + 1)) = acc.take (0) ++ p :: acc.drop (0) := by
            rw [take_snoc hlt, sortP_snoc, ← hacc, ← hp]
            unfold insP
            rw [hin2]
          simp only [hnew]
          rw [wrap_in (by omega) (by omega), ← pinsC_ins]
          exact .same (by exact lle)
        | k + 1, hk, hin =>
          have hkl : k < acc.length := by omega
          have hw1 : IntKind.i64.wrap (((k + 1 : Nat) : Int) - 1) = (k : Int) := by rw [wrap_in (by omega) (by omega)]; omega
          have hgk := pinsC_get acc k hkl
          have hq0 := pinC_0 (acc.getD k p0)
          have hpos : decide ((0 : Int) < ((k + 1 : Nat) : Int)) = true := decide_eq_true (by omega)
          refine wlk (And.intro hpos (And.intro hw1 (And.intro hkl (And.intro hgk (And.intro hq0 (And.intro hna (And.intro hnl (And.intro hfl (And.intro hgl (And.intro hlt (And.intro hp0 (And.intro hfa GLkL31.down)))))))))))) ?_
          rw [gtr_eq]
          cases hc : ltB p.n (acc.getD k p0).n
          · have hin2 : insAt p.n acc acc.length = k + 1 := by rw [hin]; simp only [insAt, hc]; rfl
            refine wlk GLkL31.down ?_
            have hkk : (((k + 1 : Nat) : Int) ≤ (acc.length : Int)) = True := eq_true (by omega)
            have hle : ((acc.length : Int) ≤ (acc.length : Int)) = True := eq_true (by omega)
            refine wlk (And.intro hkk (And.intro hle (And.intro hna (And.intro hnl (And.intro hfl (And.intro hfa (And.intro hgl (And.intro hlt (And.intro hpt (And.intro hpl (And.intro hpd (And.intro @rng37 (And.intro @rngl37 GLkL31.down))))))))))))) ?_
            refine LexA_appendF rfl rfl rfl rfl (.inl rfl) eI23 (by decide) (by simp [flat, hpl]) (flat_drop (flat_take hfa _) _) (by simp [hna, maxLen]; omega) (by simp [hna]; omega) ?_
            simp only [pt, SL]
            refine LexA_appendF rfl rfl rfl rfl (.inl rfl) eI23 (by decide) (flat_take hfa _) (flat_app hf1 (flat_drop (flat_take hfa _) _)) (by simp [hna, maxLen]; omega) (by simp [hna]; omega) ?_
            simp only [pt, SL]
            refine wlk GLkL31.down ?_
            refine ⟨⟨i + 1, by omega⟩, by simp; omega, ?_⟩
            have hnew : sortP (l.take (i + 1)) = acc.take (k + 1) ++ p :: acc.drop (k + 1) := by
              rw [take_snoc hlt, sortP_snoc, ← hacc, ← hp]
              unfold insP
              rw [hin2]
            simp only [hnew]
            rw [wrap_in (by omega) (by omega), ← pinsC_ins]
            exact .same (by exact lle)
          · have hin2 : insAt p.n acc acc.length = insAt p.n acc k := by rw [hin]; simp only [insAt, hc, if_true]
            refine wlk (And.intro hw1 GLkL31.down) ?_
            exact ⟨⟨k, by omega, hin2⟩, by simp, .same (by exact lle)⟩
    · have hi' : i = l.length := by simp [hnl] at h; omega
      refine wlk GLkL31.down ?_
      refine rtr GLkL31.down ?_
      refine ⟨?_, rfl⟩
      rw [hacc, hi', List.take_length]
end Go.Proofs.YtdjjlbjagaadaaaGreatDoor.A
