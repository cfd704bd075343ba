/- The reference's leaves: digits, mark, number, cmp, text, oneIf, more. -/
import Derived.Test.YtfagngmikbmmhaaDoorVaA
namespace Go.Proofs.YtfagngmikbmmhaaDoor.A
open Go Go.RowKit
set_option maxRecDepth 100000
set_option linter.unusedSimpArgs false
set_option linter.unusedVariables false

def GVaB42 := PLift.up <| And.intro F3 <| And.intro F5 <| F9
def GVaB31 := PLift.up <| And.intro F3 <| And.intro F5 <| F9
def GVaB40 := PLift.up <| F3
def GVaB43 := PLift.up <| F9
def GVaB41 := PLift.up <| F4
def GVaB44 := PLift.up <| F3
theorem rdigits_ok (s : List UInt8) (σ : List AE) (hs : s.length ≤ 9223372036854775806) : Gives Tryd.prog 42 [.str s] σ (.bool (digits s)) := by
  refine ent Tryd.func42 Tryd.ntmps42 Tryd.results42 ?_
  refine wlk GVaB42.down ?_
  refine AWP_loop (α := { k : Nat // k ≤ s.length ∧ ∀ c ∈ s.take k, dig c = true }) (fun k => [.str s, .junk, .bool false, .int .i64 (k.1 : Int), .junk, .junk, .junk, .junk, .junk, .junk, .junk, .junk, .junk, .junk, .junk, .junk, .junk, .junk, .junk, .junk, .junk, .junk]) (fun _ => σ) (fun k => s.length - k.1) ⟨0, by omega, by simp⟩ (.same ?_) (fun _ => Nat.le_refl _) ?_
  · exact lle
  · rintro ⟨k, hk, hd⟩
    refine wlk GVaB42.down ?_
    refine AWP_cond rfl (fun h => ?_) (fun h => ?_)
    · have hlt : k < s.length := by simpa using h
      refine wlk (And.intro hlt GVaB42.down) ?_
      refine AWP_cond rfl (fun h => ?_) (fun h => ?_)
      · rw [dig_ff] at h
        refine wlk GVaB42.down ?_
        refine rtr GVaB42.down ?_
        refine ⟨?_, rfl⟩
        have : s.all dig = false := not_all hlt (by simpa using h)
        simp [digits, this]
      · rw [dig_ff] at h
        refine wlk GVaB42.down ?_
        refine ⟨⟨k + 1, by omega, take_all hlt hd (by simpa using h)⟩, by simp; omega, .same ?_⟩
        rw [wrap_in (by omega) (by omega)]
        exact lle
    · refine wlk GVaB42.down ?_
      refine rtr GVaB42.down ?_
      refine ⟨?_, rfl⟩
      have : s.all dig = true := all_of_take (by have : ¬ k < s.length := by simpa using h
                                                 omega) hd
      have e : (s == []) = s.isEmpty := by cases s <;> rfl
      simp [digits, this, e]
theorem rmark_ok (s : List UInt8) (σ : List AE) (hs : s.length ≤ 9223372036854775806) : Gives Tryd.prog 31 [.str s] σ (.bool (mark s)) := by
  refine ent Tryd.func31 Tryd.ntmps31 Tryd.results31 ?_
  refine wlk GVaB31.down ?_
  refine AWP_cond rfl (fun h => ?_) (fun h => ?_)
  · refine wlk GVaB31.down ?_
    refine rtr GVaB31.down ?_
    refine ⟨?_, rfl⟩
    have : (!s.isEmpty && decide (s.length ≤ 16)) = false := by
      cases s with
      | nil => rfl
      | cons a l => simp at h ⊢; omega
    simp [mark, this]
  · have h0 : s.isEmpty = false ∧ s.length ≤ 16 ∧ 0 < s.length := by
      cases s with
      | nil => simp at h
      | cons a l => simp at h ⊢; omega
    obtain ⟨h0, h1, h2⟩ := h0
    refine wlk GVaB31.down ?_
    refine AWP_loop (α := { k : Nat // k ≤ s.length ∧ ∀ c ∈ s.take k, sgn c = true }) (fun k => [.str s, .junk, .bool false, .int .i64 (k.1 : Int), .junk, .junk, .junk, .junk, .junk, .junk, .junk, .junk, .junk, .junk, .junk, .junk, .junk, .junk, .junk, .junk, .junk, .junk, .junk, .junk, .junk, .junk, .junk, .junk, .junk, .junk, .junk, .junk, .junk, .junk, .junk, .junk, .junk, .junk, .junk, .junk, .junk, .junk, .junk, .junk, .junk, .junk, .junk, .junk, .junk, .junk, .junk, .junk, .junk, .junk, .junk, .junk, .junk, .junk, .junk, .junk, .junk]) (fun _ => σ) (fun k => s.length - k.1) ⟨0, by omega, by simp⟩ (.same ?_) (fun _ => Nat.le_refl _) ?_
    · exact lle
    · rintro ⟨k, hk, hd⟩
      refine wlk GVaB31.down ?_
      refine AWP_cond rfl (fun h => ?_) (fun h => ?_)
      · have hlt : k < s.length := by simpa using h
        refine wlk (And.intro hlt GVaB31.down) ?_
        refine AWP_cond rfl (fun h => ?_) (fun h => ?_)
        · refine wlk GVaB31.down ?_
          refine rtr GVaB31.down ?_
          refine ⟨?_, rfl⟩
          have : s.all sgn = false := not_all hlt (by rw [sgn_eq]; simp at h ⊢; omega)
          simp [mark, this]
        · refine wlk GVaB31.down ?_
          refine ⟨⟨k + 1, by omega, take_all hlt hd (by rw [sgn_eq]; simp at h ⊢; omega)⟩, by simp; omega, .same ?_⟩
          rw [wrap_in (by omega) (by omega)]
          exact lle
      · have : s.all sgn = true := all_of_take (by have : ¬ k < s.length := by simpa using h
                                                   omega) hd
        refine wlk GVaB31.down ?_
        refine cll (rdigits_ok s σ hs) ?_
        refine wlk (And.intro h2 GVaB31.down) ?_
        refine rtr GVaB31.down ?_
        refine ⟨?_, rfl⟩
        congr 2
        rw [mark, this, h0]
        have e : (s == [48]) = (s.length == 1 && s.getD 0 0 == 48) := by
          match s with
          | [] => rfl
          | [a] => simp
          | a :: b :: l => simp
        rw [e]
        cases hd1 : digits s
        · simp [h1]
        · unfold plain
          have : (((s.getD 0 0).toNat : Int) != 48) = (s.getD 0 0 != 48) := by rw [Bool.eq_iff_iff]; simp [← UInt8.toNat_inj]; omega
          rw [this]
          cases s.length == 1 <;> cases hq : s.getD 0 0 == 48 <;> simp_all
theorem cmp_ok (a b : Int) (σ : List AE) : Gives Tryd.prog 40 [.int .i64 a, .int .i64 b] σ (.int .i64 (if a < b then -1 else if b < a then 1 else 0)) := by
  refine ent Tryd.func40 Tryd.ntmps40 Tryd.results40 ?_
  refine wlk GVaB40.down ?_
  refine AWP_cond rfl (fun h => ?_) (fun h => ?_)
  · refine wlk GVaB40.down ?_
    refine rtr GVaB40.down ?_
    refine ⟨?_, rfl⟩
    simp_all
  · have h1 := h
    refine wlk GVaB40.down ?_
    refine AWP_cond rfl (fun h => ?_) (fun h => ?_)
    · refine wlk GVaB40.down ?_
      refine rtr GVaB40.down ?_
      refine ⟨?_, rfl⟩
      simp_all
    · refine wlk GVaB40.down ?_
      refine rtr GVaB40.down ?_
      refine ⟨?_, rfl⟩
      simp at h h1
      rw [if_neg (by omega), if_neg (by omega)]
def ltB (a b : List UInt8) : Bool := Op.bytesLess a b
def cmpB (a b : List UInt8) : Int := if ltB a b then -1 else if !(ltB a b || a == b) then 1 else 0
theorem text_ok (a b : List UInt8) (σ : List AE) : Gives Tryd.prog 43 [.str a, .str b] σ (.int .i64 (cmpB a b)) := by
  refine ent Tryd.func43 Tryd.ntmps43 Tryd.results43 ?_
  refine wlk GVaB43.down ?_
  refine AWP_cond rfl (fun h => ?_) (fun h => ?_)
  · refine wlk GVaB43.down ?_
    refine rtr GVaB43.down ?_
    refine ⟨?_, rfl⟩
    simp [cmpB, ltB, h]
  · have h1 := h
    refine wlk GVaB43.down ?_
    refine AWP_cond rfl (fun h => ?_) (fun h => ?_)
    · refine wlk GVaB43.down ?_
      refine rtr GVaB43.down ?_
      refine ⟨?_, rfl⟩
      simp_all [cmpB, ltB]
    · refine wlk GVaB43.down ?_
      refine rtr GVaB43.down ?_
      refine ⟨?_, rfl⟩
      simp_all [cmpB, ltB]
theorem roneIf_ok (b : Bool) (σ : List AE) : Gives Tryd.prog 41 [.bool b] σ (.int .i64 (if b then 1 else 0)) := by
  refine ent Tryd.func41 Tryd.ntmps41 Tryd.results41 ?_
  refine wlk GVaB41.down ?_
  refine AWP_cond rfl (fun h => ?_) (fun h => ?_)
  · refine wlk GVaB41.down ?_
    refine rtr GVaB41.down ?_
    simp_all
  · refine wlk GVaB41.down ?_
    refine rtr GVaB41.down ?_
    simp_all
theorem more_ok (n : Int) (σ : List AE) (h0 : -9223372036854775808 ≤ n) : Gives Tryd.prog 44 [.int .i64 n] σ (.int .i64 (if 999999999 ≤ n then n else n + 1)) := by
  refine ent Tryd.func44 Tryd.ntmps44 Tryd.results44 ?_
  refine wlk GVaB44.down ?_
  refine AWP_cond rfl (fun h => ?_) (fun h => ?_)
  · refine wlk GVaB44.down ?_
    refine rtr GVaB44.down ?_
    simp_all
  · refine wlk GVaB44.down ?_
    refine rtr GVaB44.down ?_
    have : ¬ 999999999 ≤ n := by simpa using h
    rw [wrap_in (by omega) (by omega), if_neg this]
    simp
end Go.Proofs.YtfagngmikbmmhaaDoor.A
