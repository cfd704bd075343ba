/- VerOrder: the contract. -/
import Derived.Test.YtfagngmikbmmhaaDoorVoA
namespace Go.Proofs.YtfagngmikbmmhaaDoor.A
open Go Go.RowKit
set_option maxRecDepth 100000
set_option linter.unusedSimpArgs false
set_option linter.unusedVariables false

def GVoB5 := PLift.up <| And.intro F3 <| And.intro F4 <| And.intro F9 <| And.intro F23 <| F25
theorem cmpG_in {α : Type} {c : α → α → Int} (h : ∀ x y, -1 ≤ c x y ∧ c x y ≤ 1) : ∀ a b, -1 ≤ cmpG c a b ∧ cmpG c a b ≤ 1
  | [], [] => by simp [cmpG]
  | [], _ :: _ => by simp [cmpG]
  | _ :: _, [] => by simp [cmpG]
  | x :: a, y :: b => by
    simp only [cmpG]
    split
    · exact h x y
    · exact cmpG_in h a b
theorem marksV_in (a b : List UInt8) : -1 ≤ marksV a b ∧ marksV a b ≤ 1 := by
  rw [marksV_eq]
  split
  · exact compareInt_in _ _
  · split
    · exact compareInt_in _ _
    · rw [cmpB_eq]
      exact cmpG_in (fun x y => compareInt_in _ _) a b
theorem cmpV_in (a b : Ver) : -1 ≤ cmpV a b ∧ cmpV a b ≤ 1 := by
  rw [cmpV_eq]
  split
  · exact compareInt_in _ _
  · split
    · exact compareInt_in _ _
    · split
      · exact compareInt_in _ _
      · split
        · exact compareInt_in _ _
        · exact cmpG_in marksV_in _ _
theorem text_order {a b : List UInt8} {x y : Ver} (ha : parse a = some x) (hb : parse b = some y) : (cmpV x y == 0) = (textV x == textV y) := by
  rw [parse_text ha, parse_text hb, Bool.eq_iff_iff]
  simp only [beq_iff_eq]
  constructor
  · intro h
    have e := cmpV_zero h
    have h1 := parse_text ha
    have h2 := parse_text hb
    rw [← h1, ← h2, e]
  · intro h
    subst h
    rw [ha] at hb
    cases hb
    exact isC_ver.refl x
theorem verOrder_ok (a b c : List UInt8) (σ : List AE) (ha : a.length < 4294967281) (hb : b.length < 4294967281) (hc : c.length < 4294967281) (hG : GV σ) : Gives Tryd.prog 5 [.str a, .str b, .str c] σ (.bool true) := by
  refine Gives_drop (hb := fun hb => trivial) ?_
  have va := vOf_ok a
  have vb := vOf_ok b
  have vc := vOf_ok c
  refine ent Tryd.func5 Tryd.ntmps5 Tryd.results5 ?_
  refine wlk GVoB5.down ?_
  refine cll (known_ok _ hG) ?_
  refine wlk GVoB5.down ?_
  refine cll (versionOf_ok a _ ha) ?_
  refine wlk (And.intro @encV.eq_def GVoB5.down) ?_
  refine cll (versionOf_ok b _ hb) ?_
  refine wlk (And.intro @encV.eq_def GVoB5.down) ?_
  refine cll (versionOf_ok c _ hc) ?_
  refine wlk (And.intro @encV.eq_def GVoB5.down) ?_
  refine AWP_cond rfl (fun h => ?_) (fun h => ?_)
  · refine wlk GVoB5.down ?_
    refine rtrb GVoB5.down ?_
    exact Vle.refl _
  · have he : (∃ x, parse a = some x) ∧ (∃ y, parse b = some y) ∧ (∃ z, parse c = some z) := by
      unfold vOf at h
      cases h1 : parse a <;> cases h2 : parse b <;> cases h3 : parse c <;> simp_all
    obtain ⟨⟨x, hx⟩, ⟨y, hy⟩, ⟨z, hz⟩⟩ := he
    have ex : (vOf a).1 = x := by simp [vOf, hx]
    have ey : (vOf b).1 = y := by simp [vOf, hy]
    have ez : (vOf c).1 = z := by simp [vOf, hz]
    rw [ex] at va
    rw [ey] at vb
    rw [ez] at vc
    have hxx := isC_ver.refl x
    have hyx := isC_ver.anti x y
    have hpt := text_order hx hy
    have i1 := cmpV_in x y
    have t1 := isC_ver.tr x y z
    have t2 : cmpV x y ≤ 0 → cmpV y z < 0 → cmpV x z < 0 := fun h1 h2 => by
      have h3 := isC_ver.tr x y z h1 (by omega)
      have h4 := isC_ver.anti x z
      have h5 := isC_ver.anti y z
      by_cases h6 : cmpV x z = 0
      · have := isC_ver.tr z x y (by omega) h1
        omega
      · omega
    have t3 : 0 ≤ cmpV x y → 0 ≤ cmpV y z → 0 ≤ cmpV x z := fun h1 h2 => by
      have h3 := isC_ver.anti x y
      have h4 := isC_ver.anti y z
      have h5 := isC_ver.anti x z
      have := isC_ver.tr z y x (by omega) (by omega)
      omega
    simp only [ex, ey, ez]
    refine wlk GVoB5.down ?_
    refine cll (vcmp_ok x y .ro .ro _ va vb) ?_
    refine wlk GVoB5.down ?_
    refine cll (vcmp_ok y z .ro .ro _ vb vc) ?_
    refine wlk GVoB5.down ?_
    refine cll (vcmp_ok x z .ro .ro _ va vc) ?_
    refine wlk GVoB5.down ?_
    refine cll (vcmp_ok x x .ro .ro _ va va) ?_
    refine wlk GVoB5.down ?_
    refine cll (vcmp_ok y x .ro .ro _ vb va) ?_
    refine wlk GVoB5.down ?_
    refine cll (text9_ok x .ro _ va (hG.app _)) ?_
    refine wlk GVoB5.down ?_
    refine cll (text9_ok y .ro _ vb (hG.app _)) ?_
    refine wlk GVoB5.down ?_
    have hw : IntKind.i64.wrap (0 - cmpV x y) = 0 - cmpV x y := wrap_in (by omega) (by omega)
    rw [hw]
    rw [← hpt, hxx, hyx]
    refine AWP_cond rfl (fun h => ?_) (fun h => ?_)
    · exfalso
      simp at h
    · refine wlk GVoB5.down ?_
      refine rtrb GVoB5.down ?_
      refine Vle.of_eq ?_
      congr 1
      rw [Bool.eq_iff_iff]
      simp
      omega
end Go.Proofs.YtfagngmikbmmhaaDoor.A
