/- Numbers: ver.number, the reference's number. -/
import Derived.Test.YtfagngmikbmmhaaDoorVaS
namespace Go.Proofs.YtfagngmikbmmhaaDoor.A
open Go Go.RowKit
set_option maxRecDepth 100000
set_option linter.unusedSimpArgs false
set_option linter.unusedVariables false

def GVaC26 := PLift.up <| And.intro F3 <| F9
def GVaC32 := PLift.up <| And.intro F3 <| And.intro F5 <| F9
/-- A row of digits' value. -/
def valF (n : Nat) (l : List UInt8) : Nat := l.foldl (fun n c => 10 * n + (c.toNat - 48)) n
abbrev val (s : List UInt8) : Nat := valF 0 s
def numV (s : List UInt8) : Bool := digits s && decide (s.length ≤ 9) && plain s
theorem dig_nat {c : UInt8} (h : dig c = true) : 48 ≤ c.toNat ∧ c.toNat ≤ 57 := by
  simp [dig, UInt8.le_iff_toNat_le] at h
  exact h
theorem decFrom_eq : ∀ (l : List UInt8) (n : Nat), (∀ c ∈ l, dig c = true) → Lib.decFrom n l = some (valF n l)
  | [], n, _ => rfl
  | c :: l, n, h => by
    have hc := dig_nat (h c List.mem_cons_self)
    have : Lib.digitVal c = some (c.toNat - 48) := by unfold Lib.digitVal; rw [if_pos hc]
    unfold Lib.decFrom
    rw [this]
    simp only []
    rw [decFrom_eq l _ fun d hd => h d (List.mem_cons_of_mem _ hd)]
    simp [valF, Nat.mul_comm]
theorem digits_all {s : List UInt8} (h : digits s = true) : ∀ c ∈ s, dig c = true := by
  simp [digits] at h
  exact h.2
theorem atoi_eq {s : List UInt8} (h : digits s = true) : Lib.atoi s = some (val s : Int) := by
  have ha := digits_all h
  cases s with
  | nil => simp [digits] at h
  | cons b r =>
    have hb := dig_nat (ha b List.mem_cons_self)
    have h1 : (b == 45) = false := by simp [← UInt8.toNat_inj]; omega
    have h2 : (b == 43) = false := by simp [← UInt8.toNat_inj]; omega
    unfold Lib.atoi
    simp only [h1, h2, Bool.false_eq_true, if_false]
    unfold Lib.decNat
    rw [decFrom_eq _ _ ha]
    simp
theorem valF_lt : ∀ (l : List UInt8) (n : Nat), (∀ c ∈ l, dig c = true) → valF n l < (n + 1) * 10 ^ l.length
  | [], n, _ => by simp [valF]
  | c :: l, n, h => by
    have hc := dig_nat (h c List.mem_cons_self)
    have := valF_lt l (10 * n + (c.toNat - 48)) fun d hd => h d (List.mem_cons_of_mem _ hd)
    simp only [valF, List.foldl_cons, List.length_cons, Nat.pow_succ] at this ⊢
    refine Nat.lt_of_lt_of_le this ?_
    rw [show (n + 1) * (10 ^ l.length * 10) = ((n + 1) * 10) * 10 ^ l.length from by rw [Nat.mul_comm (10 ^ l.length) 10, Nat.mul_assoc]]
    exact Nat.mul_le_mul_right _ (by omega)
theorem val_lt {s : List UInt8} (h : digits s = true) : val s < 10 ^ s.length := by
  have := valF_lt s 0 (digits_all h)
  simpa using this
theorem val_take {s : List UInt8} {k : Nat} (h : k < s.length) : val (s.take (k + 1)) = 10 * val (s.take k) + ((s.getD k 0).toNat - 48) := by
  unfold val valF
  rw [List.take_succ_eq_append_getElem h, List.foldl_append, List.getD_eq_getElem?_getD, List.getElem?_eq_getElem h]
  rfl
theorem pow10_le {a b : Nat} (h : a ≤ b) : 10 ^ a ≤ 10 ^ b := Nat.pow_le_pow_right (by omega) h
theorem numV_lt {s : List UInt8} (h : numV s = true) : val s ≤ 999999999 := by
  simp [numV] at h
  have := val_lt h.1.1
  have h2 := pow10_le h.1.2
  omega
def numR (s : List UInt8) : V := .tup [.int .i64 (if numV s then (val s : Int) else 0), .bool (numV s)]
theorem number_ok (s : List UInt8) (σ : List AE) (hs : s.length ≤ 9223372036854775806) : Gives Tryd.prog 26 [.str s] σ (numR s) := by
  refine ent Tryd.func26 Tryd.ntmps26 Tryd.results26 ?_
  refine wlk GVaC26.down ?_
  refine cll (digits_ok s σ hs) ?_
  refine wlk GVaC26.down ?_
  first
    | refine AOps_callU (plain_ok s σ (digits_pos (by simp_all))) rfl rfl rfl rfl (by first | rfl | (simp only [gv, ung, cv, SL]; done) | (simp only [gv, ung, cv, SL]; exact rfl)) ?_
    | refine AOps_callG rfl (fun hg => plain_ok s σ (digits_pos (by simp_all))) rfl rfl rfl (by first | rfl | (simp only [gv, ung, cv, SL]; done) | (simp only [gv, ung, cv, SL]; exact rfl)) ?_
    | refine LexA_callU (plain_ok s σ (digits_pos (by simp_all))) rfl rfl rfl rfl (by first | rfl | (simp only [gv, ung, cv, SL]; done) | (simp only [gv, ung, cv, SL]; exact rfl)) ?_
    | refine LexA_callG rfl (fun hg => plain_ok s σ (digits_pos (by simp_all))) rfl rfl rfl (by first | rfl | (simp only [gv, ung, cv, SL]; done) | (simp only [gv, ung, cv, SL]; exact rfl)) ?_
  simp only [pt, SL]
  refine wlk GVaC26.down ?_
  refine AWP_cond rfl (fun h => ?_) (fun h => ?_)
  · refine wlk GVaC26.down ?_
    refine rtr GVaC26.down ?_
    refine ⟨?_, rfl⟩
    have : numV s = false := by
      unfold numV
      cases h1 : digits s <;> cases h2 : plain s <;> simp_all
      omega
    simp [numR, this]
  · have hn : numV s = true := by
      unfold numV
      cases h1 : digits s <;> cases h2 : plain s <;> simp_all
      omega
    have hd : digits s = true ∧ s.length ≤ 9 := by simp [numV] at hn; exact hn.1
    refine wlk GVaC26.down ?_
    refine cll (atoi_ok s _ σ (by omega) (atoi_eq hd.1)) ?_
    refine wlk GVaC26.down ?_
    refine rtr GVaC26.down ?_
    refine ⟨?_, rfl⟩
    simp [numR, hn]
def rbad (s : List UInt8) : Bool := !digits s || (decide (1 < s.length) && s.getD 0 0 == 48) || decide (10 < s.length)
theorem rbad_of {s : List UInt8} (h : numV s = true) : rbad s = false := by
  simp [numV] at h
  obtain ⟨⟨h1, h2⟩, h3⟩ := h
  unfold plain at h3
  unfold rbad
  have h4 : decide (10 < s.length) = false := by simp; omega
  rw [h1, h4]
  cases h5 : s.getD 0 0 == 48
  · simp
  · have : s.length = 1 := by simp_all
    simp [this]
theorem rbad_eq (s : List UInt8) : rbad s = (!digits s || decide (1 < (s.length : Int)) && ((s.getD 0 0).toNat : Int) == 48 || decide (10 < (s.length : Int))) := by
  unfold rbad
  have h1 : (((s.getD 0 0).toNat : Int) == 48) = (s.getD 0 0 == 48) := by rw [Bool.eq_iff_iff]; simp [← UInt8.toNat_inj]; omega
  have h2 : decide (1 < (s.length : Int)) = decide (1 < s.length) := by rw [Bool.eq_iff_iff]; simp; omega
  have h3 : decide (10 < (s.length : Int)) = decide (10 < s.length) := by rw [Bool.eq_iff_iff]; simp; omega
  rw [h1, h2, h3]
/-- Not bad: the value tells whether it may stand. -/
theorem numV_of {s : List UInt8} (h : rbad s = false) : numV s = decide ((val s : Int) ≤ 999999999) := by
  simp only [rbad, Bool.or_eq_false_iff, Bool.not_eq_false', decide_eq_false_iff_not] at h
  obtain ⟨⟨h1, h2⟩, h3⟩ := h
  have hpl : plain s = true := by
    unfold plain
    have := digits_pos h1
    cases h5 : s.getD 0 0 == 48
    · simp_all
    · simp_all; omega
  unfold numV
  rw [h1, hpl]
  by_cases h9 : s.length ≤ 9
  · have := val_lt h1
    have h6 := pow10_le h9
    simp [h9]
    omega
  · -- ten digits, the first no nought
    have h10 : s.length = 10 := by omega
    cases s with
    | nil => simp at h10
    | cons c l =>
      have hc := dig_nat (digits_all h1 c List.mem_cons_self)
      have h0 : c ≠ 48 := by
        have h8 : l.length = 9 := by simpa using h10
        simpa [h8] using h2
      have h0' : c.toNat ≠ 48 := fun e => h0 (UInt8.toNat_inj.1 (by simpa using e))
      have hge : ∀ (l : List UInt8) (n : Nat), n * 10 ^ l.length ≤ valF n l := by
        intro l
        induction l with
        | nil => intro n; simp [valF]
        | cons d l ih =>
          intro n
          have := ih (10 * n + (d.toNat - 48))
          simp only [valF, List.foldl_cons, List.length_cons, Nat.pow_succ] at this ⊢
          refine Nat.le_trans ?_ this
          rw [show n * (10 ^ l.length * 10) = (n * 10) * 10 ^ l.length from by rw [Nat.mul_comm (10 ^ l.length) 10, Nat.mul_assoc]]
          exact Nat.mul_le_mul_right _ (by omega)
      have h7 := hge l (c.toNat - 48)
      have h8 : l.length = 9 := by simpa using h10
      rw [h8] at h7
      have h9' : val (c :: l) = valF (c.toNat - 48) l := by simp [valF]
      simp only [h8, List.length_cons]
      rw [h9']
      have : 1000000000 ≤ valF (c.toNat - 48) l := by omega
      simp
      omega
theorem rnumber_ok (s : List UInt8) (σ : List AE) (hs : s.length ≤ 9223372036854775806) : Gives Tryd.prog 32 [.str s, .int .i64 999999999] σ (.tup [.int .i64 (if rbad s then 0 else (val s : Int)), .bool (numV s)]) := by
  refine ent Tryd.func32 Tryd.ntmps32 Tryd.results32 ?_
  refine wlk GVaC32.down ?_
  refine cll (rdigits_ok s σ hs) ?_
  by_cases hpos : 0 < s.length
  · refine wlk (And.intro hpos GVaC32.down) ?_
    refine AWP_cond rfl (fun h => ?_) (fun h => ?_)
    · refine wlk GVaC32.down ?_
      refine rtr GVaC32.down ?_
      refine ⟨?_, rfl⟩
      rw [← rbad_eq] at h
      have : numV s = false := by
        cases hn : numV s
        · rfl
        · rw [rbad_of hn] at h; cases h
      rw [h, this]
      rfl
    · rw [← rbad_eq] at h
      have hd : digits s = true ∧ s.length ≤ 10 := by
        simp only [rbad, Bool.or_eq_false_iff, Bool.not_eq_false', decide_eq_false_iff_not] at h
        exact ⟨h.1.1, by omega⟩
      have hall := digits_all hd.1
      have hlt10 : ∀ k, val (s.take k) < 10000000000 := fun k => by
        have := valF_lt (s.take k) 0 fun c hc => hall c (List.mem_of_mem_take hc)
        have h6 := pow10_le (show (s.take k).length ≤ 10 by rw [List.length_take]; omega)
        simp only [Nat.zero_add, Nat.one_mul] at this
        exact Nat.lt_of_lt_of_le this h6
      refine wlk GVaC32.down ?_
      refine AWP_loop (α := { k : Nat // k ≤ s.length }) (fun k => [.str s, .int .i64 999999999, .junk, .junk, .junk, .junk, .int .i64 (val (s.take k.1)), .int .i64 (k.1 : Int), .junk, .junk, .junk, .junk, .junk, .junk, .junk, .junk, .junk, .junk, .junk, .junk, .junk, .junk, .junk, .junk, .junk, .junk, .junk, .junk, .junk, .junk, .junk, .junk, .junk, .junk, .junk, .junk, .junk, .junk, .junk, .junk, .junk, .junk, .junk, .junk]) (fun _ => σ) (fun k => s.length - k.1) ⟨0, by omega⟩ (.same ?_) (fun _ => Nat.le_refl _) ?_
      · exact lle
      · rintro ⟨k, hk⟩
        refine wlk GVaC32.down ?_
        refine AWP_cond rfl (fun h => ?_) (fun h => ?_)
        · have hlt : k < s.length := by simpa using h
          have hdg : dig (s.getD k 0) = true := hall _ (by rw [List.getD_eq_getElem?_getD, List.getElem?_eq_getElem hlt]; exact List.getElem_mem _)
          have hdn := dig_nat hdg
          have hv := val_take hlt
          have h10 := hlt10 k
          have h11 := hlt10 (k + 1)
          refine wlk (And.intro hlt (And.intro @cvt.eq_def GVaC32.down)) ?_
          refine ⟨⟨k + 1, by omega⟩, by simp; omega, .same ?_⟩
          rw [wrap_in (n := (k : Int) + 1) (by omega) (by omega), IntWalk.u8_in _ (by omega), wrap_in (n := ((s.getD k 0).toNat : Int) - 48) (by omega) (by omega), wrap_in (n := 10 * _) (by omega) (by omega), wrap_in (by omega) (by omega)]
          have e : (10 * (val (s.take k) : Int) + (((s.getD k 0).toNat : Int) - 48)) = (val (s.take (k + 1)) : Int) := by omega
          rw [e]
          exact lle
        · have hk' : k = s.length := by have : ¬ k < s.length := by simpa using h
                                        omega
          subst hk'
          refine wlk GVaC32.down ?_
          refine rtr GVaC32.down ?_
          refine ⟨?_, rfl⟩
          rw [List.take_length, numV_of (by assumption)]
          simp_all
  · have : s = [] := by cases s with
      | nil => rfl
      | cons _ _ => simp at hpos
    subst this
    have hd0 : digits [] = false := rfl
    simp only [hd0]
    refine wlv (And.intro @Bool.false_and (And.intro @Nat.lt_irrefl GVaC32.down)) ?_
    refine rtr GVaC32.down ?_
    exact ⟨rfl, rfl⟩
end Go.Proofs.YtfagngmikbmmhaaDoor.A
