/- VerOrder: for all texts, together of bulk at most 1048576, the law returns true. The row's proof and its card. -/
import Derived.Test.YtfagngmikbmmhaaDoorVrW
import Derived.Test.YtfagngmikbmmhaaDoorAhArgs
import Derived.Test.YtfagngmikbmmhaaDoorVoB
namespace Go.Proofs.YtfagngmikbmmhaaDoor.verOrder
open Go Go.RowKit Go.ChangeShapes Go.WideShapes Go.ChangeAt Go.Proofs.YtfagngmikbmmhaaDoor.A
set_option maxRecDepth 100000

theorem contract (H : Type) (enc : TypeId × Value → H) (W : World) (base : Nat) (args : Array Value) (ds gs : List (DataW H)) (before : List MemPlace)
    (hval : ∀ (j : Nat) t v, Tryd.f5.params[j]? = some t → args[j]? = some v → Value.okWide Tryd.prog W .any base t v)
    (hW : DataW.Whole enc Tryd.prog Tryd.f5.params.toList Rows.verOrderSpec.vars false W args.toList ds gs before) (hL : laidMetH Tryd.prog Rows.verOrderUptoRow.laid W) (hS : W.ShapedOpen Tryd.prog) (hK : ∀ k, (Rows.OpenSpec.upto Rows.verOrderSpec).cond = some k → k H (ds ++ gs) = true) :
    Calls Tryd.prog 5 args W fun e W' => ∃ v, e = .returned v ∧ Rows.verOrderSpec.post enc Tryd.prog Tryd.f5 false true false false W args v W' := by
  have hW' := hW
  obtain ⟨p, q, hA0, hV, rfl, hfz, hnd⟩ := hW
  have hA : DataW.TrodAll enc Tryd.prog W 0 (fun _ => true) true Tryd.f5.params.toList args.toList ds p := hA0
  rw [Tryd.params5] at hA hval
  obtain ⟨v0, vs0, d0, ds0, p0, q0, hargs, rfl, rfl, h0, r0⟩ := trodAll_cons hA
  obtain ⟨v1, vs1, d1, ds1, p1, q1, rfl, rfl, rfl, h1, r1⟩ := trodAll_cons r0
  obtain ⟨v2, vs2, d2, ds2, p2, q2, rfl, rfl, rfl, h2, r2⟩ := trodAll_cons r1
  obtain ⟨rfl, rfl, rfl⟩ := trodAll_nil r2
  obtain rfl : args = #[v0, v1, v2] := by cases args; simp_all
  obtain ⟨rfl, rfl⟩ := trodVars_none hV
  obtain ⟨a, rfl, rfl, rfl, ha⟩ := Go.ChangeMaps.open_string Tryd.underlying9 (hval 0 9 v0 rfl rfl) h0
  have ar0 : ∀ en, NB en → LR W en [.str a.data.toList] [.string a] := fun en _ => by simp only [LR, VR]; exact ⟨_, _, rfl, by rw [Lib.mk_data], rfl⟩
  obtain ⟨b, rfl, rfl, rfl, hb⟩ := Go.ChangeMaps.open_string Tryd.underlying9 (hval 1 9 v1 rfl rfl) h1
  have ar1 : ∀ en, NB en → LR W en [.str b.data.toList] [.string b] := fun en _ => by simp only [LR, VR]; exact ⟨_, _, rfl, by rw [Lib.mk_data], rfl⟩
  obtain ⟨c, rfl, rfl, rfl, hc⟩ := Go.ChangeMaps.open_string Tryd.underlying9 (hval 2 9 v2 rfl rfl) h2
  have ar2 : ∀ en, NB en → LR W en [.str c.data.toList] [.string c] := fun en _ => by simp only [LR, VR]; exact ⟨_, _, rfl, by rw [Lib.mk_data], rfl⟩
  clear hA0
  have hK' := of_decide_eq_true (hK _ rfl)
  simp only [List.cons_append, List.nil_append, Rows.uptoBulkAll, Rows.uptoBulk] at hK'
  refine (calls_of (vars_ok hS hL) (fun σ hG => verOrder_ok a.data.toList b.data.toList c.data.toList σ (by omega) (by omega) (by omega) hG) (vals := [.string a, .string b, .string c]) (fun en hn => ?_)).mono fun e W' ⟨he, hbw⟩ => ?_
  · exact LR_append (ar0 en hn) (LR_append (ar1 en hn) (ar2 en hn))
  subst he
  exact ⟨_, rfl, _, _, _, [], _, [], hW', trodAll_cons_mk (shut_bool Tryd.underlying4 _) trodAll_mk0, (trodAll_cons_mk (Go.ChangeMaps.shut_string Tryd.underlying9 ha) (trodAll_cons_mk (Go.ChangeMaps.shut_string Tryd.underlying9 hb) (trodAll_cons_mk (Go.ChangeMaps.shut_string Tryd.underlying9 hc) trodAll_mk0))), rfl, hbw.frame _, fun h => by cases h⟩

abbrev wit : List Value := [(.string ⟨#[]⟩), (.string ⟨#[]⟩), (.string ⟨#[]⟩)]
theorem reads (os : Os) {H : Type} (enc : TypeId × Value → H) : ∃ places, DataW.whole enc Tryd.prog ((laidWorld os).forCall (fun _ _ => 0) ⟨#[], wit.toArray, []⟩).memory Tryd.f5.params.toList Rows.verOrderSpec.vars false wit.toArray.toList 8 = some ([.lit (.string []), .lit (.string []), .lit (.string [])], [], places) :=
  ⟨[], by kernel_rfl⟩
theorem lifted (os : Os) (started : os.Started) (H : Type) (enc : TypeId × Value → H) (F : Stop.Interp) :
    ReturnsInHanded {} Tryd.checked os 5 .any ((Rows.OpenSpec.upto Rows.verOrderSpec).preRow enc Tryd.prog Tryd.f5 Rows.verOrderUptoRow.domain false Rows.verOrderUptoRow.laid) (((Rows.OpenSpec.upto Rows.verOrderSpec).at F).post enc Tryd.prog Tryd.f5 false true false false) := by
  obtain ⟨places, hx⟩ := reads os enc
  refine returnsInHanded_of_row (C := Tryd.checked) (s := Rows.OpenSpec.upto Rows.verOrderSpec) own started (by kernel_rfl) Tryd.func5
    (witness_row_at (enc := enc) (C := Tryd.checked) false (laidWorld os) wit.toArray rfl (by kernel_rfl) (by kernel_rfl) (by kernel_rfl)
      (OpenSpec.preRow_of_cond 8 hx (by kernel_rfl) (fun k hk => by cases hk; rfl) (by kernel_rfl) (laid_met os _))) ?_
  intro W base args ds gs before hval hW _ hK _ hL hS _
  exact contract H enc W base args ds gs before hval hW hL hS hK
theorem said : Rows.VerOrderUptoSaid :=
  OpenClaim.holds_of_cond 5 Tryd.f5 rfl rfl rfl rfl rfl rfl rfl ⟨rfl, rfl, rfl, rfl, rfl⟩ rfl rfl rfl rfl rfl (by kernel_rfl) Tryd.func5 (by kernel_rfl)
    (of_decide_eq_true (by kernel_rfl)) (by unfold Func.isWrapper; first | (rw [if_pos (by decide +kernel)]; kernel_rfl) | (rw [if_neg (by decide +kernel)]; exact ⟨rfl, rfl⟩))
    (fun os started H enc _ F => by rw [OpenClaim.pre_eq_preRow]; exact lifted os started H enc F)
theorem plain (f : FuncId) (fn : Func) (hf : Tryd.pinned.checked.prog.funcNamed "haversack/haversacklaw9.VerOrder" = some f) (hfn : Tryd.pinned.checked.prog.funcs[f]? = some fn) :
    true = Tryd.pinned.checked.prog.looks [] ∧ ∀ (j : Nat) t, fn.params[j]? = some t → Tryd.pinned.checked.prog.wantsStandIn t = false := by
  obtain rfl : f = 5 := Option.some.inj ((show Tryd.prog.funcNamed "haversack/haversacklaw9.VerOrder" = some 5 by kernel_rfl).symm.trans hf) |>.symm
  obtain rfl : fn = Tryd.f5 := (Option.some.inj (Tryd.func5.symm.trans hfn)).symm
  refine ⟨by kernel_rfl, fun j t ht => ?_⟩
  rw [Tryd.params5] at ht
  have hm := Array.mem_of_getElem? ht
  have hall : ∀ t ∈ (#[9, 9, 9] : Array TypeId), Tryd.pinned.checked.prog.wantsStandIn t = false := by
    intro t ht
    simp only [List.mem_toArray, List.mem_cons, List.not_mem_nil, or_false] at ht
    rcases ht with rfl | rfl | rfl
    · exact (show Tryd.prog.wantsStandIn 9 = false by kernel_rfl)
    · exact (show Tryd.prog.wantsStandIn 9 = false by kernel_rfl)
    · exact (show Tryd.prog.wantsStandIn 9 = false by kernel_rfl)
  exact hall t hm
theorem card : Rows.VerOrderUptoCardSaid :=
  Claim7.holds_tied_plain_at .later [] _ _ _ _ said (fun _ h => by cases h) (by kernel_rfl) (fun _ h => by cases h) verOrderUpto_row_tie rfl ⟨rfl, rfl⟩ (by kernel_rfl) rfl plain (by kernel_rfl)
end Go.Proofs.YtfagngmikbmmhaaDoor.verOrder
