/- ver.Parse. -/
import Derived.Test.YtfagngmikbmmhaaDoorVaE
namespace Go.Proofs.YtfagngmikbmmhaaDoor.A
open Go Go.RowKit
set_option maxRecDepth 100000
set_option linter.unusedSimpArgs false
set_option linter.unusedVariables false

def GVaF28 := PLift.up <| F9
def GVaF10 := PLift.up <| And.intro F3 <| And.intro F9 <| And.intro F23 <| And.intro F25 <| And.intro F33 <| F53
structure Ver where
  major : Int
  minor : Int
  patch : Int
  pre : List (List UInt8)
def encV (t : Tag) (v : Ver) : V := .agg [.int .i64 v.major, .int .i64 v.minor, .int .i64 v.patch, .sl t (strs v.pre)]
/-- The version that a text spells. -/
def parse (s : List UInt8) : Option Ver := match spl 46 (cutAt 45 s).1 with
  | [a, b, c] => if numV a && numV b && numV c then
      if (cutAt 45 s).2.2 then
        (if (spl 46 (cutAt 45 s).2.1).length ≤ 5 ∧ (spl 46 (cutAt 45 s).2.1).all mark = true then some ⟨val a, val b, val c, spl 46 (cutAt 45 s).2.1⟩ else none)
      else some ⟨val a, val b, val c, []⟩
    else none
  | _ => none
def vOf (s : List UInt8) : Ver × Int := match parse s with
  | some v => (v, 0)
  | none => (⟨0, 0, 0, []⟩, 60)
theorem parse1_ok (s : List UInt8) (σ : List AE) (hs : s.length ≤ 9223372036854775806) : Gives Tryd.prog 28 [.str s] σ (.bool (!mark s)) := by
  refine ent Tryd.func28 Tryd.ntmps28 Tryd.results28 ?_
  refine wlk GVaF28.down ?_
  refine cll (mark_ok s σ hs) ?_
  refine wlk GVaF28.down ?_
  refine rtr GVaF28.down ?_
  simp
/-- The three numbers as they are filled. -/
def arr (a b c : List UInt8) : Nat → List V
  | 0 => [.int .i64 0, .int .i64 0, .int .i64 0]
  | 1 => [.int .i64 (val a), .int .i64 0, .int .i64 0]
  | 2 => [.int .i64 (val a), .int .i64 (val b), .int .i64 0]
  | _ => [.int .i64 (val a), .int .i64 (val b), .int .i64 (val c)]
def ik : Nat → Int
  | 0 => 0
  | 1 => 1
  | 2 => 2
  | _ => 3
theorem parse_ok (s : List UInt8) (σ : List AE) (hs : s.length < 4294967281) (hG : GV σ) : Gives Tryd.prog 10 [.str s] σ (.tup [encV .ro (vOf s).1, .int .i64 (vOf s).2]) := by
  have hc1 := (cutAt_le 45 s).1
  have hc2 := (cutAt_le 45 s).2
  refine Gives_drop (hb := fun hb => by simp [bel, bels, bels2, tbel, encV, strs_bel]) ?_
  refine ent Tryd.func10 Tryd.ntmps10 Tryd.results10 ?_
  refine wlk GVaF10.down ?_
  refine cll (cut_ok 45 s _ hs (hG.app _)) ?_
  refine wlk GVaF10.down ?_
  refine cll (split_ok 46 (cutAt 45 s).1 _ (by omega) (hG.app _)) ?_
  refine wlk (And.intro @strs_len GVaF10.down) ?_
  refine AWP_cond rfl (fun h => ?_) (fun h => ?_)
  · have hne : (spl 46 (cutAt 45 s).1).length ≠ 3 := by intro e; simp [e] at h
    have hp : parse s = none := by
      unfold parse
      split
      · rename_i a b c e; rw [e] at hne; simp at hne
      · rfl
    refine wlk GVaF10.down ?_
    refine rtrb GVaF10.down ?_
    simp only [vOf, hp]
    exact Vle.tup ⟨Vle.agg ⟨Vle.refl _, Vle.refl _, Vle.refl _, Vle.ro _ _, trivial⟩, Vle.refl _, trivial⟩
  · have h3 : (spl 46 (cutAt 45 s).1).length = 3 := by have : ((spl 46 (cutAt 45 s).1).length : Int) = 3 := by simpa using h
                                                       omega
    obtain ⟨a, b, c, habc⟩ : ∃ a b c, spl 46 (cutAt 45 s).1 = [a, b, c] := by
      match hx : spl 46 (cutAt 45 s).1, h3 with
      | [a, b, c], _ => exact ⟨a, b, c, rfl⟩
    have hla : ∀ x ∈ spl 46 (cutAt 45 s).1, x.length ≤ 9223372036854775806 := fun x hx => by have := spl_le 46 _ x hx; omega
    rw [habc] at hla h3 ⊢
    refine wlk GVaF10.down ?_
    refine AWP_loop (α := { k : Nat // k ≤ 3 ∧ (0 < k → numV a = true) ∧ (1 < k → numV b = true) ∧ (2 < k → numV c = true) }) (fun k => [.str s, .junk, .ptr σ.length 0, .int .i64 0, .junk, .str (cutAt 45 s).2.1, .bool (cutAt 45 s).2.2, .sl .ro (strs [a, b, c]), .ptr (σ.length + 1) 0, .junk, .junk, .junk, .junk, .junk, .junk, .junk, .junk, .junk, .junk, .junk, .junk, .junk, .junk, .junk, .junk, .int .i64 (ik k.1), .junk, .junk, .junk, .junk, .junk, .junk, .junk, .junk, .junk, .junk, .junk, .junk, .junk, .junk, .junk, .junk, .junk, .junk, .junk, .junk, .junk, .junk, .junk, .junk, .junk, .junk, .junk, .junk, .junk, .junk, .junk, .junk, .junk, .junk, .junk, .junk, .junk, .junk, .junk, .junk, .junk]) (fun k => σ ++ [.box [.int .i64 0, .int .i64 0, .int .i64 0, .sl .nil []], .box (arr a b c k.1)]) (fun k => 3 - k.1) ⟨0, by omega, by simp, by simp, by simp⟩ (.same ?_) (fun _ => by simp) ?_
    · exact lle
    · rintro ⟨k, hk, hka, hkb, hkc⟩
      have hk4 : k = 0 ∨ k = 1 ∨ k = 2 ∨ k = 3 := by omega
      rcases hk4 with rfl | rfl | rfl | rfl
      · refine wlk (And.intro @arr.eq_def (And.intro @ik.eq_def (And.intro @strs.eq_def (And.intro @flat.eq_def (And.intro @numR.eq_def GVaF10.down))))) ?_
        refine cll (number_ok a _ (hla a (by simp))) ?_
        refine wlk (And.intro @arr.eq_def (And.intro @ik.eq_def (And.intro @strs.eq_def (And.intro @flat.eq_def (And.intro @numR.eq_def GVaF10.down))))) ?_
        refine AWP_cond rfl (fun h => ?_) (fun h => ?_)
        · have hn : numV a = false := by simpa using h
          have hp : parse s = none := by
            unfold parse
            rw [habc]
            simp [hn]
          refine wlk (And.intro @arr.eq_def (And.intro @ik.eq_def (And.intro @strs.eq_def (And.intro @flat.eq_def (And.intro @numR.eq_def GVaF10.down))))) ?_
          refine rtrb GVaF10.down ?_
          simp only [vOf, hp]
          exact Vle.tup ⟨Vle.agg ⟨Vle.refl _, Vle.refl _, Vle.refl _, Vle.ro _ _, trivial⟩, Vle.refl _, trivial⟩
        · have hn : numV a = true := by simpa using h
          refine wlk (And.intro @arr.eq_def (And.intro @ik.eq_def (And.intro @strs.eq_def (And.intro @flat.eq_def (And.intro @numR.eq_def (And.intro hn GVaF10.down)))))) ?_
          refine ⟨⟨1, by omega, fun _ => hn, by simp, by simp⟩, by simp, ?_⟩
          rw [wrap_in (by omega) (by omega)]
          exact .same (by exact lle)
      · refine wlk (And.intro @arr.eq_def (And.intro @ik.eq_def (And.intro @strs.eq_def (And.intro @flat.eq_def (And.intro @numR.eq_def GVaF10.down))))) ?_
        refine cll (number_ok b _ (hla b (by simp))) ?_
        refine wlk (And.intro @arr.eq_def (And.intro @ik.eq_def (And.intro @strs.eq_def (And.intro @flat.eq_def (And.intro @numR.eq_def GVaF10.down))))) ?_
        refine AWP_cond rfl (fun h => ?_) (fun h => ?_)
        · have hn : numV b = false := by simpa using h
          have hp : parse s = none := by
            unfold parse
            rw [habc]
            simp [hn]
          refine wlk (And.intro @arr.eq_def (And.intro @ik.eq_def (And.intro @strs.eq_def (And.intro @flat.eq_def (And.intro @numR.eq_def GVaF10.down))))) ?_
          refine rtrb GVaF10.down ?_
          simp only [vOf, hp]
          exact Vle.tup ⟨Vle.agg ⟨Vle.refl _, Vle.refl _, Vle.refl _, Vle.ro _ _, trivial⟩, Vle.refl _, trivial⟩
        · have hn : numV b = true := by simpa using h
          refine wlk (And.intro @arr.eq_def (And.intro @ik.eq_def (And.intro @strs.eq_def (And.intro @flat.eq_def (And.intro @numR.eq_def (And.intro hn GVaF10.down)))))) ?_
          refine ⟨⟨2, by omega, fun _ => hka (by omega), fun _ => hn, by simp⟩, by simp, ?_⟩
          rw [wrap_in (by omega) (by omega)]
          exact .same (by exact lle)
      · refine wlk (And.intro @arr.eq_def (And.intro @ik.eq_def (And.intro @strs.eq_def (And.intro @flat.eq_def (And.intro @numR.eq_def GVaF10.down))))) ?_
        refine cll (number_ok c _ (hla c (by simp))) ?_
        refine wlk (And.intro @arr.eq_def (And.intro @ik.eq_def (And.intro @strs.eq_def (And.intro @flat.eq_def (And.intro @numR.eq_def GVaF10.down))))) ?_
        refine AWP_cond rfl (fun h => ?_) (fun h => ?_)
        · have hn : numV c = false := by simpa using h
          have hp : parse s = none := by
            unfold parse
            rw [habc]
            simp [hn]
          refine wlk (And.intro @arr.eq_def (And.intro @ik.eq_def (And.intro @strs.eq_def (And.intro @flat.eq_def (And.intro @numR.eq_def GVaF10.down))))) ?_
          refine rtrb GVaF10.down ?_
          simp only [vOf, hp]
          exact Vle.tup ⟨Vle.agg ⟨Vle.refl _, Vle.refl _, Vle.refl _, Vle.ro _ _, trivial⟩, Vle.refl _, trivial⟩
        · have hn : numV c = true := by simpa using h
          refine wlk (And.intro @arr.eq_def (And.intro @ik.eq_def (And.intro @strs.eq_def (And.intro @flat.eq_def (And.intro @numR.eq_def (And.intro hn GVaF10.down)))))) ?_
          refine ⟨⟨3, by omega, fun _ => hka (by omega), fun _ => hkb (by omega), fun _ => hn⟩, by simp, ?_⟩
          rw [wrap_in (by omega) (by omega)]
          exact .same (by exact lle)
      · have h1 := hka (by omega)
        have h2 := hkb (by omega)
        have h3 := hkc (by omega)
        refine wlk (And.intro @arr.eq_def (And.intro @ik.eq_def GVaF10.down)) ?_
        cases hhas : (cutAt 45 s).2.2
        · have hp : parse s = some ⟨val a, val b, val c, []⟩ := by
            unfold parse
            rw [habc]
            simp [h1, h2, h3, hhas]
          refine wlk (And.intro @arr.eq_def (And.intro @ik.eq_def GVaF10.down)) ?_
          refine rtrb GVaF10.down ?_
          simp only [vOf, hp]
          exact Vle.tup ⟨Vle.agg ⟨Vle.refl _, Vle.refl _, Vle.refl _, Vle.ro _ _, trivial⟩, Vle.refl _, trivial⟩
        · refine wlk (And.intro @arr.eq_def (And.intro @ik.eq_def GVaF10.down)) ?_
          refine cll (split_ok 46 (cutAt 45 s).2.1 _ (by omega) (hG.app _)) ?_
          refine wlk (And.intro @arr.eq_def (And.intro @ik.eq_def (And.intro @strs_len GVaF10.down))) ?_
          have hpl : (spl 46 (cutAt 45 s).2.1).length ≤ 9223372036854775806 := by
            have h4 := spl_len 46 (cutAt 45 s).2.1
            rw [Lib.count_one] at h4
            have := List.count_le_length (a := (46 : UInt8)) (l := (cutAt 45 s).2.1)
            omega
          refine cll (containsFunc_ok _ (fun x => !mark x) (spl 46 (cutAt 45 s).2.1) .ro _ hpl (fun x hx => parse1_ok x _ (by have := spl_le 46 _ x hx; omega))) ?_
          refine wlk (And.intro @arr.eq_def (And.intro @ik.eq_def GVaF10.down)) ?_
          have hall : (spl 46 (cutAt 45 s).2.1).any (fun x => !mark x) = !((spl 46 (cutAt 45 s).2.1).all mark) := by
            rw [List.all_eq_not_any_not, Bool.not_not]
          rw [hall]
          refine AWP_cond rfl (fun h => ?_) (fun h => ?_)
          · have hp : parse s = none := by
              unfold parse
              rw [habc]
              simp only [h1, h2, h3, hhas, Bool.and_self, if_true]
              rw [if_neg]
              intro hc
              rw [hc.2] at h
              simp at h
              omega
            refine wlk GVaF10.down ?_
            refine rtrb GVaF10.down ?_
            simp only [vOf, hp]
            exact Vle.tup ⟨Vle.agg ⟨Vle.refl _, Vle.refl _, Vle.refl _, Vle.ro _ _, trivial⟩, Vle.refl _, trivial⟩
          · have hp : parse s = some ⟨val a, val b, val c, spl 46 (cutAt 45 s).2.1⟩ := by
              unfold parse
              rw [habc]
              simp only [h1, h2, h3, hhas, Bool.and_self, if_true]
              rw [if_pos]
              simp at h
              refine ⟨by omega, ?_⟩
              simpa using h.2
            refine wlk GVaF10.down ?_
            refine rtrb GVaF10.down ?_
            simp only [vOf, hp]
            exact Vle.tup ⟨Vle.agg ⟨Vle.refl _, Vle.refl _, Vle.refl _, Vle.ro _ _, trivial⟩, Vle.refl _, trivial⟩
end Go.Proofs.YtfagngmikbmmhaaDoor.A
