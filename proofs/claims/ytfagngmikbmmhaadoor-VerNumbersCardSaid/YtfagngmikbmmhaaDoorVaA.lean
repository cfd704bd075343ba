/- ver: digits, plain, sign, mark. -/
import Derived.Test.YtfagngmikbmmhaaDoorAhFacts
namespace Go.Proofs.YtfagngmikbmmhaaDoor.A
open Go Go.RowKit
set_option maxRecDepth 100000
set_option linter.unusedSimpArgs false
set_option linter.unusedVariables false

def GVaA47 := PLift.up <| And.intro F3 <| And.intro F5 <| F9
def GVaA48 := PLift.up <| And.intro F3 <| And.intro F5 <| F9
def GVaA51 := PLift.up <| F5
def GVaA29 := PLift.up <| And.intro F3 <| And.intro F5 <| F9
def dig (c : UInt8) : Bool := 48 ≤ c && c ≤ 57
def digits (s : List UInt8) : Bool := !s.isEmpty && s.all dig

theorem dig_ff (c : UInt8) : (decide ((c.toNat : Int) < 48) || decide (57 < (c.toNat : Int))) = !dig c := by
  unfold dig
  rw [Bool.eq_iff_iff]
  simp [UInt8.le_iff_toNat_le, UInt8.lt_iff_toNat_lt]
  omega
theorem take_all {p : UInt8 → Bool} {s : List UInt8} {k : Nat} (h : k < s.length) (hd : ∀ c ∈ s.take k, p c = true) (hk : p (s.getD k 0) = true) : ∀ c ∈ s.take (k + 1), p c = true := by
  intro c hc
  rw [List.take_succ_eq_append_getElem h] at hc
  rcases List.mem_append.1 hc with hc | hc
  · exact hd c hc
  · rw [List.mem_singleton.1 hc]
    simpa [List.getD_eq_getElem?_getD, List.getElem?_eq_getElem h] using hk
theorem digits_ok (s : List UInt8) (σ : List AE) (hs : s.length ≤ 9223372036854775806) : Gives Tryd.prog 47 [.str s] σ (.bool (digits s)) := by
  refine ent Tryd.func47 Tryd.ntmps47 Tryd.results47 ?_
  refine wlk GVaA47.down ?_
  refine AWP_loop (α := { k : Nat // k ≤ s.length ∧ ∀ c ∈ s.take k, dig c = true }) (fun k => [.str s, .junk, .bool false, .junk, .junk, .int .i64 s.length, .int .i64 (k.1 : Int), .junk, .junk, .junk, .junk, .junk, .junk, .junk, .junk, .junk, .junk, .junk, .junk, .junk, .junk, .junk]) (fun _ => σ) (fun k => s.length - k.1) ⟨0, by omega, by simp⟩ (.same ?_) (fun _ => Nat.le_refl _) ?_
  · exact lle
  · rintro ⟨k, hk, hd⟩
    refine wlk GVaA47.down ?_
    refine AWP_cond rfl (fun h => ?_) (fun h => ?_)
    · have hlt : k < s.length := by simpa using h
      refine wlk (And.intro hlt GVaA47.down) ?_
      refine AWP_cond rfl (fun h => ?_) (fun h => ?_)
      · rw [dig_ff] at h
        refine wlk GVaA47.down ?_
        refine rtr GVaA47.down ?_
        refine ⟨?_, rfl⟩
        have : digits s = false := by
          unfold digits
          have hm : s.all dig = false := by
            rw [List.all_eq_false]
            refine ⟨s.getD k 0, ?_, by simpa using h⟩
            rw [List.getD_eq_getElem?_getD, List.getElem?_eq_getElem hlt]
            exact List.getElem_mem _
          simp [hm]
        rw [this]
      · rw [dig_ff] at h
        refine wlk GVaA47.down ?_
        refine ⟨⟨k + 1, by omega, take_all hlt hd (by simpa using h)⟩, by simp; omega, .same ?_⟩
        rw [wrap_in (by omega) (by omega)]
        exact lle
    · refine wlk GVaA47.down ?_
      refine rtr GVaA47.down ?_
      refine ⟨?_, rfl⟩
      have hk' : k = s.length := by have : ¬ k < s.length := by simpa using h
                                    omega
      subst hk'
      have : digits s = !(s == []) := by
        unfold digits
        rw [List.take_length] at hd
        have hm : s.all dig = true := List.all_eq_true.2 hd
        rw [hm]
        cases s <;> rfl
      rw [this]

/-! ### plain, sign, mark -/
def plain (s : List UInt8) : Bool := s.length == 1 || s.getD 0 0 != 48
theorem beqN (a b : Nat) : ((a : Int) == (b : Int)) = (a == b) := by rw [Bool.eq_iff_iff]; simp; omega
theorem bneN (a b : Nat) : ((a : Int) != (b : Int)) = (a != b) := by rw [Bool.eq_iff_iff]; simp; omega
theorem u8beq (c d : UInt8) : (c.toNat == d.toNat) = (c == d) := by rw [Bool.eq_iff_iff]; simp [UInt8.toNat_inj]
theorem u8ble (c d : UInt8) : decide ((c.toNat : Int) ≤ (d.toNat : Int)) = decide (c ≤ d) := by simp [UInt8.le_iff_toNat_le]
theorem plain_ok (s : List UInt8) (σ : List AE) (hs : 0 < s.length) : Gives Tryd.prog 48 [.str s] σ (.bool (plain s)) := by
  refine ent Tryd.func48 Tryd.ntmps48 Tryd.results48 ?_
  refine wlk (And.intro hs (And.intro @indexV.eq_def GVaA48.down)) ?_
  refine rtr GVaA48.down ?_
  refine ⟨?_, rfl⟩
  congr 2
  unfold plain
  rw [Bool.eq_iff_iff]
  simp [← UInt8.toNat_inj]
  omega
def sgn (c : UInt8) : Bool := dig c || (97 ≤ c && c ≤ 122) || (65 ≤ c && c ≤ 90) || c == 45
theorem sgn_eq (c : UInt8) : sgn c = (((decide (48 ≤ (c.toNat : Int)) && decide ((c.toNat : Int) ≤ 57)) || (decide (97 ≤ (c.toNat : Int)) && decide ((c.toNat : Int) ≤ 122))) || (decide (65 ≤ (c.toNat : Int)) && decide ((c.toNat : Int) ≤ 90)) || ((c.toNat : Int) == 45)) := by
  unfold sgn dig
  rw [Bool.eq_iff_iff]
  simp [UInt8.le_iff_toNat_le, ← UInt8.toNat_inj]
  omega
theorem sign_ok (c : UInt8) (σ : List AE) : Gives Tryd.prog 51 [.int .u8 (c.toNat : Int)] σ (.bool (sgn c)) := by
  refine ent Tryd.func51 Tryd.ntmps51 Tryd.results51 ?_
  refine wlk GVaA51.down ?_
  refine AWP_cond rfl (fun h => ?_) (fun h => ?_)
  · refine wlk GVaA51.down ?_
    refine rtr GVaA51.down ?_
    refine ⟨?_, rfl⟩
    rw [sgn_eq, h]
    rfl
  · have h1 := h
    refine wlk GVaA51.down ?_
    refine AWP_cond rfl (fun h => ?_) (fun h => ?_)
    · refine wlk GVaA51.down ?_
      refine rtr GVaA51.down ?_
      refine ⟨?_, rfl⟩
      rw [sgn_eq, h1, h]
      rfl
    · have h2 := h
      refine wlk GVaA51.down ?_
      refine AWP_cond rfl (fun h => ?_) (fun h => ?_)
      · refine wlk GVaA51.down ?_
        refine rtr GVaA51.down ?_
        refine ⟨?_, rfl⟩
        rw [sgn_eq, h1, h2, h]
        rfl
      · refine wlk GVaA51.down ?_
        refine rtr GVaA51.down ?_
        refine ⟨?_, rfl⟩
        rw [sgn_eq, h1, h2, h]
        rfl
def mark (s : List UInt8) : Bool := !s.isEmpty && decide (s.length ≤ 16) && (!digits s || plain s) && s.all sgn
theorem digits_pos {s : List UInt8} (h : digits s = true) : 0 < s.length := by
  cases s with
  | nil => simp [digits] at h
  | cons _ _ => simp
theorem all_of_take {p : UInt8 → Bool} {s : List UInt8} {k : Nat} (hk : s.length ≤ k) (h : ∀ c ∈ s.take k, p c = true) : s.all p = true := by
  rw [List.take_of_length_le hk] at h
  exact List.all_eq_true.2 h
theorem not_all {p : UInt8 → Bool} {s : List UInt8} {k : Nat} (hk : k < s.length) (h : p (s.getD k 0) = false) : s.all p = false := by
  rw [List.all_eq_false]
  refine ⟨s.getD k 0, ?_, by rw [h]; simp⟩
  rw [List.getD_eq_getElem?_getD, List.getElem?_eq_getElem hk]
  exact List.getElem_mem _
theorem mark_ok (s : List UInt8) (σ : List AE) (hs : s.length ≤ 9223372036854775806) : Gives Tryd.prog 29 [.str s] σ (.bool (mark s)) := by
  refine ent Tryd.func29 Tryd.ntmps29 Tryd.results29 ?_
  refine wlk GVaA29.down ?_
  refine cll (digits_ok s σ hs) ?_
  refine wlk GVaA29.down ?_
  first
    | refine AOps_callU (plain_ok s σ (digits_pos (by simp_all))) rfl rfl rfl rfl (by first | rfl | (simp only [gv, ung, cv, SL]; done) | (simp only [gv, ung, cv, SL]; exact rfl)) ?_
    | refine AOps_callG rfl (fun hg => plain_ok s σ (digits_pos (by simp_all))) rfl rfl rfl (by first | rfl | (simp only [gv, ung, cv, SL]; done) | (simp only [gv, ung, cv, SL]; exact rfl)) ?_
    | refine LexA_callU (plain_ok s σ (digits_pos (by simp_all))) rfl rfl rfl rfl (by first | rfl | (simp only [gv, ung, cv, SL]; done) | (simp only [gv, ung, cv, SL]; exact rfl)) ?_
    | refine LexA_callG rfl (fun hg => plain_ok s σ (digits_pos (by simp_all))) rfl rfl rfl (by first | rfl | (simp only [gv, ung, cv, SL]; done) | (simp only [gv, ung, cv, SL]; exact rfl)) ?_
  simp only [pt, SL]
  refine wlk GVaA29.down ?_
  refine AWP_cond rfl (fun h => ?_) (fun h => ?_)
  · refine wlk GVaA29.down ?_
    refine rtr GVaA29.down ?_
    refine ⟨?_, rfl⟩
    congr 2
    have : (s == []) = s.isEmpty := by cases s <;> rfl
    rw [this] at h
    unfold mark
    cases h1 : s.isEmpty <;> cases h2 : digits s <;> cases h3 : plain s <;> simp_all <;> omega
  · refine wlk GVaA29.down ?_
    have h0 : s.isEmpty = false ∧ s.length ≤ 16 ∧ (!digits s || plain s) = true := by
      have : (s == []) = s.isEmpty := by cases s <;> rfl
      rw [this] at h
      cases h1 : s.isEmpty <;> cases h2 : digits s <;> cases h3 : plain s <;> simp_all <;> omega
    refine AWP_loop (α := { k : Nat // k ≤ s.length ∧ ∀ c ∈ s.take k, sgn c = true }) (fun k => [.str s, .junk, .bool false, .junk, .junk, .junk, .junk, .junk, .junk, .junk, .junk, .junk, .junk, .junk, .junk, .junk, .junk, .junk, .junk, .junk, .junk, .int .i64 s.length, .int .i64 (k.1 : Int), .junk, .junk, .junk, .junk, .junk, .junk, .junk, .junk]) (fun _ => σ) (fun k => s.length - k.1) ⟨0, by omega, by simp⟩ (.same ?_) (fun _ => Nat.le_refl _) ?_
    · exact lle
    · rintro ⟨k, hk, hd⟩
      refine wlk GVaA29.down ?_
      refine AWP_cond rfl (fun h => ?_) (fun h => ?_)
      · have hlt : k < s.length := by simpa using h
        refine wlk (And.intro hlt GVaA29.down) ?_
        refine cll (sign_ok _ σ) ?_
        refine wlk GVaA29.down ?_
        refine AWP_cond rfl (fun h => ?_) (fun h => ?_)
        · refine wlk GVaA29.down ?_
          refine rtr GVaA29.down ?_
          refine ⟨?_, rfl⟩
          have : s.all sgn = false := not_all hlt (by simpa using h)
          simp [mark, this]
        · refine wlk GVaA29.down ?_
          refine ⟨⟨k + 1, by omega, take_all hlt hd (by simpa using h)⟩, by simp; omega, .same ?_⟩
          rw [wrap_in (by omega) (by omega)]
          exact lle
      · refine wlk GVaA29.down ?_
        refine rtr GVaA29.down ?_
        refine ⟨?_, rfl⟩
        have : s.all sgn = true := all_of_take (by have : ¬ k < s.length := by simpa using h
                                                   omega) hd
        simp [mark, this, h0]
end Go.Proofs.YtfagngmikbmmhaaDoor.A
