/- The text that a version is told by is the text that spells it; the chapter's example; VerReads, VerTells. -/
import Derived.Test.YtfagngmikbmmhaaDoorVaJ
namespace Go.Proofs.YtfagngmikbmmhaaDoor.A
open Go Go.RowKit
set_option maxRecDepth 100000
set_option linter.unusedSimpArgs false
set_option linter.unusedVariables false

def GVaK9 := PLift.up <| And.intro F3 <| And.intro F9 <| And.intro F23 <| F25
def GVaK3 := PLift.up <| And.intro F3 <| And.intro F9 <| And.intro F23 <| F25
def GVaK4 := PLift.up <| And.intro F3 <| And.intro F9 <| And.intro F23 <| F25
theorem spl_join (c : UInt8) : ∀ s : List UInt8, Lib.join (spl c s) [c] = s
  | [] => by simp [spl, Lib.join_one]
  | b :: s => by
    have ih := spl_join c s
    have hne := spl_ne c s
    unfold spl
    by_cases h : b = c
    · rw [if_pos h]
      cases hs : spl c s with
      | nil => exact absurd hs hne
      | cons x xs =>
        rw [hs] at ih
        rw [Lib.join_cons] at ih ⊢
        rw [← ih, h]
        simp [Lib.joinTail]
    · rw [if_neg h]
      cases hs : spl c s with
      | nil => exact absurd hs hne
      | cons x xs =>
        rw [hs] at ih
        simp only
        rw [Lib.join_cons] at ih ⊢
        rw [← ih]
        simp
theorem cutAt_spec (c : UInt8) : ∀ s : List UInt8, s = (cutAt c s).1 ++ (if (cutAt c s).2.2 then c :: (cutAt c s).2.1 else [])
  | [] => rfl
  | b :: s => by
    have ih := cutAt_spec c s
    unfold cutAt
    by_cases h : b = c
    · subst h; simp
    · rw [if_neg h]
      simp only [List.cons_append]
      rw [← ih]
theorem val_snoc (l : List UInt8) (c : UInt8) : val (l ++ [c]) = 10 * val l + (c.toNat - 48) := by simp [valF, List.foldl_append]
theorem dec_val : ∀ (k : Nat) (s : List UInt8), s.length = k → digits s = true → plain s = true → dec (val s) = s
  | 0, s, hk, hd, _ => by
    have := digits_pos hd
    omega
  | k + 1, s, hk, hd, hp => by
    have hne : s ≠ [] := by intro e; subst e; simp at hk
    obtain ⟨l, c, rfl⟩ : ∃ l c, s = l ++ [c] := ⟨s.dropLast, s.getLast hne, (List.dropLast_concat_getLast hne).symm⟩
    have hall := digits_all hd
    have hc := dig_nat (hall c (by simp))
    have hcc : UInt8.ofNat (48 + (c.toNat - 48)) = c := by
      rw [show 48 + (c.toNat - 48) = c.toNat from by omega]
      simp
    rw [val_snoc]
    cases l with
    | nil =>
      have e : val ([] : List UInt8) = 0 := rfl
      rw [e, dec_small (by omega)]
      simp only [List.nil_append]
      congr 1
      rw [show (max ((10 * 0 + (c.toNat - 48) : Nat) : Int) 0).toNat = c.toNat - 48 from by omega]
      exact hcc
    | cons d l =>
      have hdd := dig_nat (hall d (by simp))
      have hd0 : d.toNat ≠ 48 := by
        have : ¬ (d == 48) = true := by
          unfold plain at hp
          intro e
          simp at e
          simp [e] at hp
        intro e
        exact this (by simp [← UInt8.toNat_inj, e])
      have hdl : digits (d :: l) = true := by
        simp only [digits, List.isEmpty_cons, Bool.not_false, Bool.true_and]
        exact List.all_eq_true.2 fun x hx => hall x (by simp only [List.cons_append]; rcases List.mem_cons.1 hx with rfl | hx; exact List.mem_cons_self; exact List.mem_cons_of_mem _ (List.mem_append_left _ hx))
      have hpl : plain (d :: l) = true := by
        unfold plain
        have : ((d :: l).getD 0 0 != 48) = true := by simp [← UInt8.toNat_inj, hd0]
        rw [this]; simp
      have ih := dec_val k (d :: l) (by simpa using hk) hdl hpl
      have hge : 1 ≤ val (d :: l) := by
        have hg : ∀ (l : List UInt8) (n : Nat), n ≤ valF n l := by
          intro l
          induction l with
          | nil => intro n; simp [valF]
          | cons e l ih => intro n; have := ih (10 * n + (e.toNat - 48)); simp only [valF, List.foldl_cons] at this ⊢; omega
        have := hg l (d.toNat - 48)
        have e : val (d :: l) = valF (d.toNat - 48) l := by simp [valF]
        rw [e]
        omega
      rw [dec_big (by omega)]
      rw [show (((10 * val (d :: l) + (c.toNat - 48) : Nat) : Int)) / 10 = (val (d :: l) : Int) from by omega, ih]
      rw [show ((((10 * val (d :: l) + (c.toNat - 48) : Nat) : Int)) % 10).toNat = c.toNat - 48 from by omega, hcc]
theorem parse_text {s : List UInt8} {v : Ver} (h : parse s = some v) : textV v = s := by
  unfold parse at h
  split at h
  · rename_i a b c habc
    split at h
    · rename_i hn
      simp only [Bool.and_eq_true] at hn
      have key : ∀ x, numV x = true → dec (val x) = x := fun x hx => by
        simp only [numV, Bool.and_eq_true] at hx
        exact dec_val _ x rfl hx.1.1 hx.2
      have hj := spl_join 46 (cutAt 45 s).1
      rw [habc, Lib.join_cons] at hj
      have hsp := cutAt_spec 45 s
      split at h
      · rename_i hhas
        split at h
        · cases h
          rw [hhas, if_pos rfl] at hsp
          have hpj : pfx (spl 46 (cutAt 45 s).2.1) = 45 :: (cutAt 45 s).2.1 := by rw [pfx_join (spl_ne _ _), spl_join]
          conv => rhs; rw [hsp]
          rw [← hj]
          simp [textV, key a hn.1.1, key b hn.1.2, key c hn.2, hpj, Lib.joinTail]
        · cases h
      · rename_i hhas
        cases h
        have hhas' : (cutAt 45 s).2.2 = false := by simpa using hhas
        rw [hhas'] at hsp
        simp only [Bool.false_eq_true, if_false, List.append_nil] at hsp
        conv => rhs; rw [hsp]
        rw [← hj]
        simp [textV, key a hn.1.1, key b hn.1.2, key c hn.2, pfx, Lib.joinTail]
    · cases h
  · cases h
theorem parse_ok9 {s : List UInt8} {v : Ver} (h : parse s = some v) : (0 ≤ v.major ∧ v.major ≤ 999999999) ∧ (0 ≤ v.minor ∧ v.minor ≤ 999999999) ∧ (0 ≤ v.patch ∧ v.patch ≤ 999999999) ∧ v.pre.length ≤ 5 ∧ ∀ x ∈ v.pre, x.length ≤ 16 := by
  unfold parse at h
  split at h
  · rename_i a b c habc
    split at h
    · rename_i hn
      simp only [Bool.and_eq_true] at hn
      have ha := numV_lt hn.1.1
      have hb := numV_lt hn.1.2
      have hc := numV_lt hn.2
      split at h
      · split at h
        · rename_i hm
          cases h
          refine ⟨⟨by simp only []; omega, by simp only []; omega⟩, ⟨by simp only []; omega, by simp only []; omega⟩, ⟨by simp only []; omega, by simp only []; omega⟩, hm.1, fun x hx => ?_⟩
          have := List.all_eq_true.1 hm.2 x hx
          simp only [mark, Bool.and_eq_true, decide_eq_true_eq] at this
          exact this.1.1.2
        · cases h
      · cases h
        exact ⟨⟨by simp only []; omega, by simp only []; omega⟩, ⟨by simp only []; omega, by simp only []; omega⟩, ⟨by simp only []; omega, by simp only []; omega⟩, by simp, by simp⟩
    · cases h
  · cases h
theorem lens_le (l : List (List UInt8)) (m : Nat) (h : ∀ x ∈ l, x.length ≤ m) : lens l ≤ l.length * (m + 1) := by
  induction l with
  | nil => simp [lens]
  | cons x l ih =>
    have h1 := ih fun y hy => h y (List.mem_cons_of_mem _ hy)
    have h2 := h x List.mem_cons_self
    simp only [lens, List.map_cons, List.sum_cons, List.length_cons, Nat.add_mul] at h1 ⊢
    omega
theorem vOf_ok (s : List UInt8) : VOk (vOf s).1 := by
  unfold vOf
  cases h : parse s with
  | none => exact ⟨⟨by simp, by simp⟩, ⟨by simp, by simp⟩, ⟨by simp, by simp⟩, by simp [lens]⟩
  | some v =>
    obtain ⟨h1, h2, h3, h4, h5⟩ := parse_ok9 h
    have := lens_le v.pre 16 h5
    exact ⟨⟨by simp only []; omega, by simp only []; omega⟩, ⟨by simp only []; omega, by simp only []; omega⟩, ⟨by simp only []; omega, by simp only []; omega⟩, by simp only []; omega⟩
theorem k1 : vOf [49, 46, 48, 46, 48, 45, 97, 46, 50] = (⟨1, 0, 0, [[97], [50]]⟩, 0) := by kernel_rfl
theorem k2 : vOf [49, 46, 48, 46, 48, 45, 97, 46, 49, 48] = (⟨1, 0, 0, [[97], [49, 48]]⟩, 0) := by kernel_rfl
theorem k3 : vOf [49, 46, 48] = (⟨0, 0, 0, []⟩, 60) := by kernel_rfl
theorem k4 : cmpV ⟨1, 0, 0, [[97], [50]]⟩ ⟨1, 0, 0, [[97], [49, 48]]⟩ = -1 := by kernel_rfl
theorem k5 : textV ⟨1, 0, 0, [[97], [49, 48]]⟩ = [49, 46, 48, 46, 48, 45, 97, 46, 49, 48] := by
  simp only [textV]
  rw [dec_small (by omega), dec_small (by omega)]
  rfl
theorem k6 : nextV ⟨1, 0, 0, [[97], [50]]⟩ 1 = ⟨1, 1, 0, []⟩ := by kernel_rfl
theorem k7 : textV ⟨1, 1, 0, []⟩ = [49, 46, 49, 46, 48] := by
  simp only [textV]
  rw [dec_small (by omega), dec_small (by omega)]
  rfl
theorem known_ok (σ : List AE) (hG : GV σ) : Gives Tryd.prog 9 [] σ (.bool true) := by
  have v1 := vOf_ok [49, 46, 48, 46, 48, 45, 97, 46, 50]
  have v2 := vOf_ok [49, 46, 48, 46, 48, 45, 97, 46, 49, 48]
  rw [k1] at v1
  rw [k2] at v2
  refine Gives_drop (hb := fun hb => trivial) ?_
  refine ent Tryd.func9 Tryd.ntmps9 Tryd.results9 ?_
  refine wlk GVaK9.down ?_
  refine cll (parse_ok [49, 46, 48, 46, 48, 45, 97, 46, 50] _ (by simp) hG) ?_
  rw [k1]
  refine wlk (And.intro @encV.eq_def GVaK9.down) ?_
  refine cll (parse_ok [49, 46, 48, 46, 48, 45, 97, 46, 49, 48] _ (by simp) (hG.app _)) ?_
  rw [k2]
  refine wlk (And.intro @encV.eq_def GVaK9.down) ?_
  refine cll (parse_ok [49, 46, 48] _ (by simp) (hG.app _)) ?_
  rw [k3]
  refine wlk (And.intro @encV.eq_def GVaK9.down) ?_
  have hw : IntKind.i64.wrap (0 + 0) = 0 := wrap_in (by omega) (by omega)
  simp only [hw]
  refine cll (vcmp_ok ⟨1, 0, 0, [[97], [50]]⟩ ⟨1, 0, 0, [[97], [49, 48]]⟩ .ro .ro _ v1 v2) ?_
  rw [k4]
  refine wlk GVaK9.down ?_
  refine cll (text9_ok ⟨1, 0, 0, [[97], [49, 48]]⟩ .ro _ v2 (hG.app _)) ?_
  rw [k5]
  refine wlk GVaK9.down ?_
  refine cll (vnext_ok ⟨1, 0, 0, [[97], [50]]⟩ .ro 1 _ v1) ?_
  rw [k6]
  refine wlk (And.intro @encV.eq_def GVaK9.down) ?_
  refine cll (text9_ok ⟨1, 1, 0, []⟩ .nil _ ⟨⟨by simp, by simp⟩, ⟨by simp, by simp⟩, ⟨by simp, by simp⟩, by simp [lens]⟩ (hG.app _)) ?_
  rw [k7]
  refine wlk GVaK9.down ?_
  refine rtrb GVaK9.down ?_
  exact Vle.refl _
theorem eqV_refl (v : Ver) : eqV v v = true := by simp [eqV]
theorem verReads_ok (s : List UInt8) (σ : List AE) (hs : s.length ≤ 9223372036854775807) (hG : GV σ) : Gives Tryd.prog 3 [.str s] σ (.bool true) := by
  refine Gives_drop (hb := fun hb => trivial) ?_
  refine ent Tryd.func3 Tryd.ntmps3 Tryd.results3 ?_
  refine wlk GVaK3.down ?_
  refine cll (known_ok _ hG) ?_
  refine wlk GVaK3.down ?_
  refine AWP_cond rfl (fun h => ?_) (fun h => ?_)
  · refine wlk GVaK3.down ?_
    refine rtrb GVaK3.down ?_
    exact Vle.refl _
  · have h200 : s.length ≤ 200 := by simp at h; omega
    have hv := vOf_ok s
    have hpre : (vOf s).1.pre.length ≤ 9223372036854775806 := by
      have := lens_length (vOf s).1.pre
      have := hv.p
      omega
    refine wlk GVaK3.down ?_
    refine cll (parse_ok s _ (by omega) hG) ?_
    refine wlk (And.intro @encV.eq_def GVaK3.down) ?_
    refine cll (versionOf_ok s _ (by omega)) ?_
    refine wlk (And.intro @encV.eq_def GVaK3.down) ?_
    refine cll (hversion_ok (vOf s).1 (vOf s).1 .ro .ro _ hpre) ?_
    refine wlk GVaK3.down ?_
    refine cll (text9_ok (vOf s).1 .ro _ hv (hG.app _)) ?_
    refine wlk GVaK3.down ?_
    refine rtrb GVaK3.down ?_
    refine Vle.of_eq ?_
    rw [eqV_refl]
    cases hp : parse s with
    | none => simp [vOf, hp]
    | some v => simp [vOf, hp, parse_text hp]
theorem light_ok {v : Ver} (h : lightV v = true) : lens v.pre ≤ 1099511627776 := by
  simp [lightV] at h
  have := lens_le v.pre 30 h.2
  omega
theorem verTells_ok (a b : Ver) (t u : Tag) (part : Int) (σ : List AE) (ha : in64 a.major ∧ in64 a.minor ∧ in64 a.patch) (hb : in64 b.major ∧ in64 b.minor ∧ in64 b.patch) (hG : GV σ) : Gives Tryd.prog 4 [encV t a, encV u b, .int .i64 part] σ (.bool true) := by
  refine Gives_drop (hb := fun hb => trivial) ?_
  unfold encV
  refine ent Tryd.func4 Tryd.ntmps4 Tryd.results4 ?_
  refine wlk GVaK4.down ?_
  refine cll (known_ok _ (hG.app _)) ?_
  refine wlk GVaK4.down ?_
  refine cll (lightV_ok a t _) ?_
  refine wlk GVaK4.down ?_
  refine cll (lightV_ok b u _) ?_
  refine wlk GVaK4.down ?_
  refine AWP_cond rfl (fun h => ?_) (fun h => ?_)
  · refine wlk GVaK4.down ?_
    refine rtrb GVaK4.down ?_
    exact Vle.refl _
  · have hl : lightV a = true ∧ lightV b = true := by simpa using h
    have va : VOk a := ⟨ha.1, ha.2.1, ha.2.2, light_ok hl.1⟩
    have vb : VOk b := ⟨hb.1, hb.2.1, hb.2.2, light_ok hl.2⟩
    refine wlk GVaK4.down ?_
    refine cll (text9_ok a t _ va (hG.app _)) ?_
    refine wlk GVaK4.down ?_
    refine cll (rtext9_ok a t _ va) ?_
    refine wlk GVaK4.down ?_
    refine cll (vcmp_ok a b t u _ va vb) ?_
    refine wlk GVaK4.down ?_
    refine cll (rcmp_ok a b t u _ va vb) ?_
    refine wlk GVaK4.down ?_
    refine cll (vnext_ok a t part _ va) ?_
    refine wlk GVaK4.down ?_
    refine cll (rnext_ok a t part _ va) ?_
    refine wlk GVaK4.down ?_
    refine cll (hversion_ok (nextV a part) (nextV a part) .nil .nil _ (by unfold nextV; (repeat' split) <;> simp)) ?_
    refine wlk GVaK4.down ?_
    refine rtrb GVaK4.down ?_
    refine Vle.of_eq ?_
    rw [eqV_refl]
end Go.Proofs.YtfagngmikbmmhaaDoor.A
