/- VerNumbers: the contract. -/
import Derived.Test.YtfagngmikbmmhaaDoorVmB
namespace Go.Proofs.YtfagngmikbmmhaaDoor.A
open Go Go.RowKit
set_option maxRecDepth 100000
set_option linter.unusedSimpArgs false
set_option linter.unusedVariables false

def GVuA8 := PLift.up <| And.intro F3 <| And.intro F9 <| And.intro F23 <| And.intro F25 <| And.intro F39 <| F47
def nS (A : Int × Int × Int) : Nat → List UInt8
  | 0 => []
  | 1 => dec A.1
  | 2 => dec A.1 ++ ([46] ++ dec A.2.1)
  | _ => dec A.1 ++ ([46] ++ (dec A.2.1 ++ ([46] ++ dec A.2.2)))
def nW (A B : Int × Int × Int) : Nat → Int
  | 0 => 0
  | 1 => sgnI (A.1 - B.1)
  | 2 => if sgnI (A.1 - B.1) = 0 then sgnI (A.2.1 - B.2.1) else sgnI (A.1 - B.1)
  | _ => if sgnI (A.1 - B.1) = 0 then (if sgnI (A.2.1 - B.2.1) = 0 then sgnI (A.2.2 - B.2.2) else sgnI (A.2.1 - B.2.1)) else sgnI (A.1 - B.1)
def v3 (A : Int × Int × Int) : Ver := ⟨A.1, A.2.1, A.2.2, []⟩
theorem nS_3 (A : Int × Int × Int) : nS A 3 = textV (v3 A) := by simp [nS, textV, v3, pfx]
theorem cmp_v3 (A B : Int × Int × Int) : cmpV (v3 A) (v3 B) = nW A B 3 := by
  simp only [nW]
  by_cases h1 : Lib.compareInt A.1 B.1 = 0
  · rw [if_pos (by rw [← cI_sgn]; exact h1)]
    by_cases h2 : Lib.compareInt A.2.1 B.2.1 = 0
    · rw [if_pos (by rw [← cI_sgn]; exact h2), ← cI_sgn]
      by_cases h3 : Lib.compareInt A.2.2 B.2.2 = 0
      · rw [h3, cmpN_0 (a := v3 A) (b := v3 B) h1 h2 h3]
        simp [v3, Lib.compareInt]
      · exact cmpN_3 (a := v3 A) (b := v3 B) h1 h2 h3
    · rw [if_neg (by rw [← cI_sgn]; exact h2), ← cI_sgn]
      exact cmpN_2 (a := v3 A) (b := v3 B) h1 h2
  · rw [if_neg (by rw [← cI_sgn]; exact h1), ← cI_sgn]
    exact cmpN_1 (a := v3 A) (b := v3 B) h1
theorem parse_zero {v : Ver} (h : VGood v) (hp : v.pre = []) : parse (48 :: textV v) = none := by
  obtain ⟨a1, a2, a3⟩ := dec_num h.a.1 h.a.2
  obtain ⟨b1, b2, b3⟩ := dec_num h.b.1 h.b.2
  obtain ⟨c1, c2, c3⟩ := dec_num h.c.1 h.c.2
  have e : 48 :: textV v = (48 :: dec v.major) ++ 46 :: (dec v.minor ++ 46 :: dec v.patch) := by simp [textV, hp, pfx]
  have h48 : dig 48 = true := by decide
  have a3' : ∀ b ∈ (48 : UInt8) :: dec v.major, dig b = true := fun b hb => by
    rcases List.mem_cons.1 hb with rfl | hb
    · exact h48
    · exact a3 b hb
  have hcut : cutAt 45 (48 :: textV v) = (48 :: textV v, [], false) := cutAt_none fun b hb => by
    rw [e] at hb
    simp only [List.mem_append, List.mem_cons] at hb
    rcases hb with (hb | hb) | hb | hb | hb | hb
    · subst hb; decide
    · exact (dig_no (a3 b hb)).1
    · subst hb; decide
    · exact (dig_no (b3 b hb)).1
    · subst hb; decide
    · exact (dig_no (c3 b hb)).1
  have hspl : spl 46 (48 :: textV v) = [48 :: dec v.major, dec v.minor, dec v.patch] := by
    rw [e, spl_at fun b hb => (dig_no (a3' b hb)).2.1, spl_at fun b hb => (dig_no (b3 b hb)).2.1, spl_none fun b hb => (dig_no (c3 b hb)).2.1]
  have hn : numV (48 :: dec v.major) = false := by
    have hne : dec v.major ≠ [] := by
      intro e
      rw [e] at a1
      exact absurd a1 (by decide)
    have : plain (48 :: dec v.major) = false := by
      unfold plain
      cases hd : dec v.major with
      | nil => exact absurd hd hne
      | cons a l => simp
    simp [numV, this]
  unfold parse
  rw [hcut]
  simp only [hspl, hn, Bool.false_and, Bool.false_eq_true, if_false]
structure N3 (a : Int × Int × Int) (A : Int × Int × Int) : Prop where
  e1 : a.1.tmod 1000000000 = A.1
  e2 : a.2.1.tmod 1000000000 = A.2.1
  e3 : a.2.2.tmod 1000000000 = A.2.2
  b1 : 0 ≤ A.1 ∧ A.1 ≤ 999999999
  b2 : 0 ≤ A.2.1 ∧ A.2.1 ≤ 999999999
  b3 : 0 ≤ A.2.2 ∧ A.2.2 ≤ 999999999
theorem N3_of {a : Int × Int × Int} (h1 : 0 ≤ a.1) (h2 : 0 ≤ a.2.1) (h3 : 0 ≤ a.2.2) : ∃ A, N3 a A := by
  refine ⟨(a.1.tmod 1000000000, a.2.1.tmod 1000000000, a.2.2.tmod 1000000000), rfl, rfl, rfl, ?_, ?_, ?_⟩ <;> simp only [] <;> rw [Int.tmod_eq_emod_of_nonneg (by omega)] <;> omega
theorem N3.good {a A : Int × Int × Int} (h : N3 a A) : VGood (v3 A) := ⟨h.b1, h.b2, h.b3, by simp [v3], by simp [v3]⟩
theorem dec9 {n : Int} (h : 0 ≤ n ∧ n ≤ 999999999) : (dec n).length ≤ 9 := dec_len 8 n (by omega)
theorem sgn_in (n : Int) : -1 ≤ sgnI n ∧ sgnI n ≤ 1 := by unfold sgnI; (repeat' split) <;> omega
theorem verNumbers_ok (a b : Int × Int × Int) (σ : List AE) (ha : 0 ≤ a.1 ∧ 0 ≤ a.2.1 ∧ 0 ≤ a.2.2) (hb : 0 ≤ b.1 ∧ 0 ≤ b.2.1 ∧ 0 ≤ b.2.2) (hG : GV σ) :
    Gives Tryd.prog 8 [.agg [.int .u32 a.1, .int .u32 a.2.1, .int .u32 a.2.2], .agg [.int .u32 b.1, .int .u32 b.2.1, .int .u32 b.2.2]] σ (.bool true) := by
  obtain ⟨A, hA⟩ := N3_of ha.1 ha.2.1 ha.2.2
  obtain ⟨B, hB⟩ := N3_of hb.1 hb.2.1 hb.2.2
  obtain ⟨a1, a2, a3⟩ := a
  obtain ⟨b1, b2, b3⟩ := b
  have gA := hA.good
  have gB := hB.good
  have hc3 := cmp_v3 A B
  have s3A := nS_3 A
  have s3B := nS_3 B
  have pz := parse_zero gA rfl
  obtain ⟨A1, A2, A3⟩ := A
  obtain ⟨B1, B2, B3⟩ := B
  obtain ⟨eA1, eA2, eA3, cA1, cA2, cA3⟩ := hA
  obtain ⟨eB1, eB2, eB3, cB1, cB2, cB3⟩ := hB
  simp only at eA1 eA2 eA3 cA1 cA2 cA3 eB1 eB2 eB3 cB1 cB2 cB3
  have h9 : (1000000000 : Int) ≠ 0 := by omega
  have lA1 := dec9 cA1
  have lA2 := dec9 cA2
  have lA3 := dec9 cA3
  have lB1 := dec9 cB1
  have lB2 := dec9 cB2
  have lB3 := dec9 cB3
  have wA1 : IntKind.i64.wrap A1 = A1 := wrap_in (by omega) (by omega)
  have wA2 : IntKind.i64.wrap A2 = A2 := wrap_in (by omega) (by omega)
  have wA3 : IntKind.i64.wrap A3 = A3 := wrap_in (by omega) (by omega)
  have wB1 : IntKind.i64.wrap B1 = B1 := wrap_in (by omega) (by omega)
  have wB2 : IntKind.i64.wrap B2 = B2 := wrap_in (by omega) (by omega)
  have wB3 : IntKind.i64.wrap B3 = B3 := wrap_in (by omega) (by omega)
  have w1 : IntKind.i64.wrap (A1 - B1) = A1 - B1 := wrap_in (by omega) (by omega)
  have w2 : IntKind.i64.wrap (A2 - B2) = A2 - B2 := wrap_in (by omega) (by omega)
  have w3 : IntKind.i64.wrap (A3 - B3) = A3 - B3 := wrap_in (by omega) (by omega)
  refine Gives_drop (hb := fun hb => trivial) ?_
  refine ent Tryd.func8 Tryd.ntmps8 Tryd.results8 ?_
  refine wlk GVuA8.down ?_
  refine cll (known_ok _ (hG.app _)) ?_
  refine wlk GVuA8.down ?_
  refine AWP_loop (α := { k : Nat // k ≤ 3 }) (fun k => [.junk, .junk, .ptr σ.length 0, .ptr (σ.length + 1) 0, .bool false, .str (nS (A1, A2, A3) k.1), .str (nS (B1, B2, B3) k.1), .int .i64 (nW (A1, A2, A3) (B1, B2, B3) k.1), .int .i64 (k.1 : Int), .junk, .junk, .junk, .junk, .junk, .junk, .junk, .junk, .junk, .junk, .junk, .junk, .junk, .junk, .junk, .junk, .junk, .junk, .junk, .junk, .junk, .junk, .junk, .junk, .junk, .junk, .junk, .junk, .junk, .junk, .junk, .junk, .junk, .junk, .junk, .junk, .junk, .junk, .junk, .junk, .junk, .junk, .junk, .junk, .junk, .junk, .junk, .junk, .junk, .junk, .junk, .junk, .junk, .junk, .junk, .junk, .junk, .junk, .junk, .junk, .junk, .junk, .junk, .junk, .junk, .junk, .junk, .junk, .junk, .junk, .junk, .junk, .junk, .junk, .junk, .junk, .junk, .junk, .junk, .junk, .junk]) (fun _ => _) (fun k => 3 - k.1) ⟨0, by omega⟩ (.same ?_) (fun _ => by simp) ?_
  · exact lle
  · rintro ⟨k, hk⟩
    have hk4 : k = 0 ∨ k = 1 ∨ k = 2 ∨ k = 3 := by omega
    rcases hk4 with rfl | rfl | rfl | rfl
    · refine wlk (And.intro @nS.eq_def (And.intro @nW.eq_def (And.intro @cvt.eq_def (And.intro eA1 (And.intro eA2 (And.intro eA3 (And.intro eB1 (And.intro eB2 (And.intro eB3 (And.intro wA1 (And.intro wA2 (And.intro wA3 (And.intro wB1 (And.intro wB2 (And.intro wB3 (And.intro h9 GVuA8.down)))))))))))))))) ?_
      refine cll (rdec_ok _ 8 A1 (by omega) (by omega) (by omega) (by omega)) ?_
      refine wlk (And.intro @nS.eq_def (And.intro @nW.eq_def (And.intro @cvt.eq_def GVuA8.down))) ?_
      refine cll (rdec_ok _ 8 B1 (by omega) (by omega) (by omega) (by omega)) ?_
      refine wlk (And.intro @nS.eq_def (And.intro @nW.eq_def (And.intro w1 GVuA8.down))) ?_
      refine cll (sign_law _ _) ?_
      refine wlk GVuA8.down ?_
      refine ⟨⟨1, by omega⟩, by simp, ?_⟩
      rw [wrap_in (by omega) (by omega)]
      exact .same (by exact lle)
    · refine wlk (And.intro @nS.eq_def (And.intro @nW.eq_def (And.intro @cvt.eq_def (And.intro eA1 (And.intro eA2 (And.intro eA3 (And.intro eB1 (And.intro eB2 (And.intro eB3 (And.intro wA1 (And.intro wA2 (And.intro wA3 (And.intro wB1 (And.intro wB2 (And.intro wB3 (And.intro h9 GVuA8.down)))))))))))))))) ?_
      refine cll (rdec_ok _ 8 A2 (by omega) (by omega) (by omega) (by omega)) ?_
      refine wlk (And.intro @nS.eq_def (And.intro @nW.eq_def (And.intro @cvt.eq_def GVuA8.down))) ?_
      refine cll (rdec_ok _ 8 B2 (by omega) (by omega) (by omega) (by omega)) ?_
      refine wlk (And.intro @nS.eq_def (And.intro @nW.eq_def (And.intro w2 GVuA8.down))) ?_
      refine AWP_cond rfl (fun h => ?_) (fun h => ?_)
      · have hz : sgnI (A1 - B1) = 0 := by simpa using h
        refine wlk (And.intro w2 GVuA8.down) ?_
        refine cll (sign_law _ _) ?_
        refine wlk GVuA8.down ?_
        refine ⟨⟨2, by omega⟩, by simp, ?_⟩
        rw [wrap_in (by omega) (by omega)]
        simp only [nW, nS, hz, if_true]
        exact .same (by exact lle)
      · have hz : ¬ sgnI (A1 - B1) = 0 := by simpa using h
        refine wlk (And.intro w2 GVuA8.down) ?_
        refine ⟨⟨2, by omega⟩, by simp, ?_⟩
        rw [wrap_in (by omega) (by omega)]
        simp only [nW, nS, if_neg hz]
        exact .same (by exact lle)
    · refine wlk (And.intro @nS.eq_def (And.intro @nW.eq_def (And.intro @cvt.eq_def (And.intro eA1 (And.intro eA2 (And.intro eA3 (And.intro eB1 (And.intro eB2 (And.intro eB3 (And.intro wA1 (And.intro wA2 (And.intro wA3 (And.intro wB1 (And.intro wB2 (And.intro wB3 (And.intro h9 GVuA8.down)))))))))))))))) ?_
      refine cll (rdec_ok _ 8 A3 (by omega) (by omega) (by omega) (by omega)) ?_
      refine wlk (And.intro @nS.eq_def (And.intro @nW.eq_def (And.intro @cvt.eq_def GVuA8.down))) ?_
      refine cll (rdec_ok _ 8 B3 (by omega) (by omega) (by omega) (by omega)) ?_
      refine wlk (And.intro @nS.eq_def (And.intro @nW.eq_def (And.intro w3 GVuA8.down))) ?_
      refine AWP_cond rfl (fun h => ?_) (fun h => ?_)
      · have hz : sgnI (A1 - B1) = 0 ∧ sgnI (A2 - B2) = 0 := by
          have : (if sgnI (A1 - B1) = 0 then sgnI (A2 - B2) else sgnI (A1 - B1)) = 0 := by simpa using h
          split at this
          · exact ⟨by assumption, this⟩
          · exact absurd this (by assumption)
        refine wlk (And.intro w3 GVuA8.down) ?_
        refine cll (sign_law _ _) ?_
        refine wlk GVuA8.down ?_
        refine ⟨⟨3, by omega⟩, by simp, ?_⟩
        rw [wrap_in (by omega) (by omega)]
        simp only [nW, nS, hz.1, hz.2, if_true]
        exact .same (by exact lle)
      · have hz : ¬ (if sgnI (A1 - B1) = 0 then sgnI (A2 - B2) else sgnI (A1 - B1)) = 0 := by simpa using h
        refine wlk (And.intro w3 GVuA8.down) ?_
        refine ⟨⟨3, by omega⟩, by simp, ?_⟩
        rw [wrap_in (by omega) (by omega)]
        have e : nW (A1, A2, A3) (B1, B2, B3) 3 = (if sgnI (A1 - B1) = 0 then sgnI (A2 - B2) else sgnI (A1 - B1)) := by
          simp only [nW]
          by_cases h1 : sgnI (A1 - B1) = 0
          · rw [if_pos h1] at hz ⊢
            rw [if_pos h1, if_neg hz]
          · rw [if_neg h1, if_neg h1]
        simp only [e]
        exact .same (by exact lle)
    · rw [s3A, s3B, ← hc3]
      have tA : (textV (v3 (A1, A2, A3))).length ≤ 31 := by
        rw [← s3A]
        simp only [nS, List.length_append, List.length_cons, List.length_nil]
        omega
      have tB : (textV (v3 (B1, B2, B3))).length ≤ 31 := by
        rw [← s3B]
        simp only [nS, List.length_append, List.length_cons, List.length_nil]
        omega
      have i1 := cmpV_in (v3 (A1, A2, A3)) (v3 (B1, B2, B3))
      refine wlk GVuA8.down ?_
      refine cll (parse_ok (textV (v3 (A1, A2, A3))) _ (by omega) (hG.app _)) ?_
      rw [vOf_textV gA]
      refine wlk (And.intro @encV.eq_def GVuA8.down) ?_
      refine cll (parse_ok (textV (v3 (B1, B2, B3))) _ (by omega) (hG.app _)) ?_
      rw [vOf_textV gB]
      refine wlk (And.intro @encV.eq_def GVuA8.down) ?_
      refine cll (parse_ok (48 :: textV (v3 (A1, A2, A3))) _ (by simp; omega) (hG.app _)) ?_
      have ev : vOf (48 :: textV (v3 (A1, A2, A3))) = (⟨0, 0, 0, []⟩, 60) := by simp only [vOf, pz]
      rw [ev]
      have hw : IntKind.i64.wrap (0 + 0) = 0 := wrap_in (by omega) (by omega)
      refine wlk (And.intro @encV.eq_def (And.intro hw GVuA8.down)) ?_
      refine cll (text9_ok (v3 (A1, A2, A3)) .ro _ gA.ok (hG.app _)) ?_
      refine wlk GVuA8.down ?_
      refine cll (vcmp_ok (v3 (A1, A2, A3)) (v3 (B1, B2, B3)) .ro .ro _ gA.ok gB.ok) ?_
      refine wlk GVuA8.down ?_
      refine rtrb GVuA8.down ?_
      refine Vle.of_eq ?_
      simp
end Go.Proofs.YtfagngmikbmmhaaDoor.A
