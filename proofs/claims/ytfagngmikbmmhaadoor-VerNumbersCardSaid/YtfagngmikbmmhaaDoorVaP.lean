/- Plain lists: cutting at a byte, splitting at a byte. -/
import Derived.Lib.SplitLaws
import Derived.Lib.CutLaws
import Derived.Lib.Join
namespace Go.Proofs.YtfagngmikbmmhaaDoor.A
open Go

/-- Cut at the first byte c. -/
def cutAt (c : UInt8) : List UInt8 → List UInt8 × List UInt8 × Bool
  | [] => ([], [], false)
  | b :: s => if b = c then ([], s, true) else (b :: (cutAt c s).1, (cutAt c s).2.1, (cutAt c s).2.2)
/-- Split at each byte c. -/
def spl (c : UInt8) : List UInt8 → List (List UInt8)
  | [] => [[]]
  | b :: s => if b = c then [] :: spl c s else match spl c s with
    | x :: xs => (b :: x) :: xs
    | [] => [[b]]
theorem idx_cons (c b : UInt8) (s : List UInt8) : Lib.index (b :: s) [c] = if b = c then 0 else if Lib.index s [c] == -1 then -1 else Lib.index s [c] + 1 := by
  rw [Lib.index]
  by_cases h : b = c
  · subst h; simp [List.isPrefixOf]
  · rw [if_neg h]
    have hp : ([c] : List UInt8).isPrefixOf (b :: s) = false := by simp [List.isPrefixOf, Ne.symm h]
    rw [hp]
    simp
theorem cut_eq (c : UInt8) : ∀ s : List UInt8, Lib.cut s [c] = cutAt c s
  | [] => by simp [Lib.cut, Lib.index, cutAt]
  | b :: s => by
    have ih := cut_eq c s
    have hge := Lib.index_ge s [c]
    unfold Lib.cut at ih ⊢
    rw [idx_cons]
    unfold cutAt
    by_cases h : b = c
    · simp [h]
    · simp only [if_neg h]
      by_cases hm : Lib.index s [c] = -1
      · have h1 : (Lib.index s [c] == -1) = true := by simp [hm]
        have h2 : ¬ (0 ≤ Lib.index s [c]) := by omega
        rw [if_neg h2] at ih
        rw [h1]
        simp [← ih]
      · have h1 : (Lib.index s [c] == -1) = false := by simp [hm]
        obtain ⟨i, hi⟩ : ∃ i : Nat, Lib.index s [c] = i := ⟨(Lib.index s [c]).toNat, by omega⟩
        rw [h1]
        rw [hi] at ih ⊢
        have h2 : (0 : Int) ≤ (i : Int) := by omega
        have h3 : (0 : Int) ≤ (i : Int) + 1 := by omega
        have h4 : ((i : Int) + 1).toNat = i + 1 := by omega
        rw [if_pos h2] at ih
        simp only [Bool.false_eq_true, if_false, if_pos h3, h4, ← ih, Int.toNat_natCast, List.length_singleton, List.take_succ_cons]
        rw [show i + 1 + 1 = (i + 1) + 1 from rfl, List.drop_succ_cons]
theorem spl_ne (c : UInt8) : ∀ s : List UInt8, spl c s ≠ []
  | [] => by simp [spl]
  | b :: s => by
    unfold spl
    split
    · simp
    · split <;> simp
theorem splitK_cons {b c : UInt8} (h : b ≠ c) : ∀ (k : Nat) (s : List UInt8), Lib.splitK [c] 0 k (b :: s) = match Lib.splitK [c] 0 k s with
    | x :: xs => (b :: x) :: xs
    | [] => [[b]]
  | 0, s => rfl
  | k + 1, s => by
    have hge := Lib.index_ge s [c]
    unfold Lib.splitK
    rw [idx_cons, if_neg h]
    by_cases hm : Lib.index s [c] = -1
    · have h1 : (Lib.index s [c] == -1) = true := by simp [hm]
      simp [h1]
    · have h1 : (Lib.index s [c] == -1) = false := by simp [hm]
      obtain ⟨i, hi⟩ : ∃ i : Nat, Lib.index s [c] = i := ⟨(Lib.index s [c]).toNat, by omega⟩
      rw [h1]
      rw [hi] at h1 ⊢
      have h2 : ((i : Int) + 1 == -1) = false := by simp; omega
      have h4 : ((i : Int) + 1).toNat = i + 1 := by omega
      simp only [Bool.false_eq_true, if_false, h2, h4, Int.toNat_natCast, Nat.add_zero, List.length_singleton, List.take_succ_cons]
      rw [show i + 1 + 1 = (i + 1) + 1 from rfl, List.drop_succ_cons]
theorem split_eq (c : UInt8) : ∀ s : List UInt8, Lib.split s [c] = spl c s
  | [] => by simp [Lib.split, Lib.count_one, Lib.splitK, spl]
  | b :: s => by
    have ih := split_eq c s
    unfold Lib.split at ih ⊢
    unfold spl
    by_cases h : b = c
    · subst h
      rw [if_pos rfl, Lib.count_cons_eq, Nat.add_comm, Lib.splitK, idx_cons, if_pos rfl]
      simp [ih]
    · rw [if_neg h, Lib.count_cons_ne b c s h, splitK_cons h, ih]
theorem spl_len (c : UInt8) (s : List UInt8) : (spl c s).length = Lib.count s [c] + 1 := by
  rw [Lib.count_one]
  induction s with
  | nil => rfl
  | cons b s ih =>
    unfold spl
    by_cases h : b = c
    · subst h; simp [ih]
    · rw [if_neg h, List.count_cons_of_ne (by simpa using h), ← ih]
      have := spl_ne c s
      cases hs : spl c s with
      | nil => exact absurd hs this
      | cons x xs => simp
/-- A piece is no longer than the whole. -/
theorem spl_le (c : UInt8) : ∀ (s : List UInt8) (x : List UInt8), x ∈ spl c s → x.length ≤ s.length
  | [], x, h => by simp [spl] at h; simp [h]
  | b :: s, x, h => by
    have ih := spl_le c s
    unfold spl at h
    split at h
    · rcases List.mem_cons.1 h with rfl | h
      · simp
      · have := ih x h; simp; omega
    · split at h
      · rename_i y ys hy
        rcases List.mem_cons.1 h with rfl | h
        · have := ih y (by rw [hy]; exact List.mem_cons_self); simp; omega
        · have := ih x (by rw [hy]; exact List.mem_cons_of_mem _ h); simp; omega
      · simp at h; simp [h]
theorem cutAt_le (c : UInt8) : ∀ s : List UInt8, (cutAt c s).1.length ≤ s.length ∧ (cutAt c s).2.1.length ≤ s.length
  | [] => by simp [cutAt]
  | b :: s => by
    have ih := cutAt_le c s
    unfold cutAt
    split <;> simp <;> omega
end Go.Proofs.YtfagngmikbmmhaaDoor.A
