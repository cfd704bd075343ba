/- Texts of the proof, one behind another: VaB, VaP, Shelf. -/
import Derived.Test.YtdjjlbjagaadaaaGreatDoorMa4
import Derived.Lib.Join
import Derived.Lib.SplitLaws
import Derived.Lib.CutLaws
import Derived.Shelf.Strings.Count
import Derived.Shelf.Strings.Builder1
import Derived.Shelf.Strconv.Atoi
import Derived.Shelf.Strings.Search1
import Derived.Shelf.LaysM
import Derived.Shelf.Small.Wraps
import Derived.Shelf.Small.Utf8
import Derived.Shelf.Strings.OnBuilder
import Derived.Shelf.Strconv.Itoa3
import Derived.Shelf.Small.Strs
import Derived.Shelf.Strconv.Itoa1
import Derived.Shelf.Strings.Cut
import Derived.Test.YtdjjlbjagaadaaaGreatDoorProg
import Derived.Shelf.Strconv.Itoa0
import Derived.Shelf.Strings.Search3
import Derived.Shelf.Strings.Search2
import Derived.Shelf.Strings.Runes
import Derived.Shelf.Strings.Builder2
import Derived.Shelf.Strings.AsciiSet
import Derived.Shelf.Strconv.Itoa2
import Derived.Shelf.Strings.Prefix
import Derived.Shelf.Strings.Split
/- The reference's leaves: digits, mark, number, cmp, text, oneIf, more. -/
namespace Go.Proofs.YtdjjlbjagaadaaaGreatDoor.A
open Go Go.RowKit
set_option maxRecDepth 100000
set_option linter.unusedSimpArgs false
set_option linter.unusedVariables false

def GVaB104 := PLift.up <| And.intro F3 <| And.intro F5 <| F9
def GVaB83 := PLift.up <| And.intro F3 <| And.intro F5 <| F9
def GVaB102 := PLift.up <| F3
def GVaB105 := PLift.up <| F9
def GVaB103 := PLift.up <| F4
def GVaB176 := PLift.up <| F3
theorem rdigits_ok (s : List UInt8) (σ : List AE) (hs : s.length ≤ 9223372036854775806) : Gives Tryz.prog 104 [.str s] σ (.bool (digits s)) := by
  refine ent Tryz.func104 Tryz.ntmps104 Tryz.results104 ?_
  refine wlk GVaB104.down ?_
  refine AWP_loop (α := { k : Nat // k ≤ s.length ∧ ∀ c ∈ s.take k, dig c = true }) (fun k => [.str s, .junk, .bool false, .int .i64 (k.1 : Int), .junk, .junk, .junk, .junk, .junk, .junk, .junk, .junk, .junk, .junk, .junk, .junk, .junk, .junk, .junk, .junk, .junk, .junk]) (fun _ => σ) (fun k => s.length - k.1) ⟨0, by omega, by simp⟩ (.same ?_) (fun _ => Nat.le_refl _) ?_
  · exact lle
  · rintro ⟨k, hk, hd⟩
    refine wlk GVaB104.down ?_
    refine AWP_cond rfl (fun h => ?_) (fun h => ?_)
    · have hlt : k < s.length := by simpa using h
      refine wlk (And.intro hlt GVaB104.down) ?_
      refine AWP_cond rfl (fun h => ?_) (fun h => ?_)
      · rw [dig_ff] at h
        refine wlk GVaB104.down ?_
        refine rtr GVaB104.down ?_
        refine ⟨?_, rfl⟩
        have : s.all dig = false := not_all hlt (by simpa using h)
        simp [digits, this]
      · rw [dig_ff] at h
        refine wlk GVaB104.down ?_
        refine ⟨⟨k + 1, by omega, take_all hlt hd (by simpa using h)⟩, by simp; omega, .same ?_⟩
        rw [wrap_in (by omega) (by omega)]
        exact lle
    · refine wlk GVaB104.down ?_
      refine rtr GVaB104.down ?_
      refine ⟨?_, rfl⟩
      have : s.all dig = true := all_of_take (by have : ¬ k < s.length := by simpa using h
                                                 omega) hd
      have e : (s == []) = s.isEmpty := by cases s <;> rfl
      simp [digits, this, e]
theorem rmark_ok (s : List UInt8) (σ : List AE) (hs : s.length ≤ 9223372036854775806) : Gives Tryz.prog 83 [.str s] σ (.bool (mark s)) := by
  refine ent Tryz.func83 Tryz.ntmps83 Tryz.results83 ?_
  refine wlk GVaB83.down ?_
  refine AWP_cond rfl (fun h => ?_) (fun h => ?_)
  · refine wlk GVaB83.down ?_
    refine rtr GVaB83.down ?_
    refine ⟨?_, rfl⟩
    have : (!s.isEmpty && decide (s.length ≤ 16)) = false := by
      cases s with
      | nil => rfl
      | cons a l => simp at h ⊢; omega
    simp [mark, this]
  · have h0 : s.isEmpty = false ∧ s.length ≤ 16 ∧ 0 < s.length := by
      cases s with
      | nil => simp at h
      | cons a l => simp at h ⊢; omega
    obtain ⟨h0, h1, h2⟩ := h0
    refine wlk GVaB83.down ?_
    refine AWP_loop (α := { k : Nat // k ≤ s.length ∧ ∀ c ∈ s.take k, sgn c = true }) (fun k => [.str s, .junk, .bool false, .int .i64 (k.1 : Int), .junk, .junk, .junk, .junk, .junk, .junk, .junk, .junk, .junk, .junk, .junk, .junk, .junk, .junk, .junk, .junk, .junk, .junk, .junk, .junk, .junk, .junk, .junk, .junk, .junk, .junk, .junk, .junk, .junk, .junk, .junk, .junk, .junk, .junk, .junk, .junk, .junk, .junk, .junk, .junk, .junk, .junk, .junk, .junk, .junk, .junk, .junk, .junk, .junk, .junk, .junk, .junk, .junk, .junk, .junk, .junk, .junk]) (fun _ => σ) (fun k => s.length - k.1) ⟨0, by omega, by simp⟩ (.same ?_) (fun _ => Nat.le_refl _) ?_
    · exact lle
    · rintro ⟨k, hk, hd⟩
      refine wlk GVaB83.down ?_
      refine AWP_cond rfl (fun h => ?_) (fun h => ?_)
      · have hlt : k < s.length := by simpa using h
        refine wlk (And.intro hlt GVaB83.down) ?_
        refine AWP_cond rfl (fun h => ?_) (fun h => ?_)
        · refine wlk GVaB83.down ?_
          refine rtr GVaB83.down ?_
          refine ⟨?_, rfl⟩
          have : s.all sgn = false := not_all hlt (by rw [sgn_eq]; simp at h ⊢; omega)
          simp [mark, this]
        · refine wlk GVaB83.down ?_
          refine ⟨⟨k + 1, by omega, take_all hlt hd (by rw [sgn_eq]; simp at h ⊢; omega)⟩, by simp; omega, .same ?_⟩
          rw [wrap_in (by omega) (by omega)]
          exact lle
      · have : s.all sgn = true := all_of_take (by have : ¬ k < s.length := by simpa using h
                                                   omega) hd
        refine wlk GVaB83.down ?_
        refine cll (rdigits_ok s σ hs) ?_
        refine wlk (And.intro h2 GVaB83.down) ?_
        refine rtr GVaB83.down ?_
        refine ⟨?_, rfl⟩
        congr 2
        rw [mark, this, h0]
        have e : (s == [48]) = (s.length == 1 && s.getD 0 0 == 48) := by
          match s with
          | [] => rfl
          | [a] => simp
          | a :: b :: l => simp
        rw [e]
        cases hd1 : digits s
        · simp [h1]
        · unfold plain
          have : (((s.getD 0 0).toNat : Int) != 48) = (s.getD 0 0 != 48) := by rw [Bool.eq_iff_iff]; simp [← UInt8.toNat_inj]; omega
          rw [this]
          cases s.length == 1 <;> cases hq : s.getD 0 0 == 48 <;> simp_all
theorem cmp_ok (a b : Int) (σ : List AE) : Gives Tryz.prog 102 [.int .i64 a, .int .i64 b] σ (.int .i64 (if a < b then -1 else if b < a then 1 else 0)) := by
  refine ent Tryz.func102 Tryz.ntmps102 Tryz.results102 ?_
  refine wlk GVaB102.down ?_
  refine AWP_cond rfl (fun h => ?_) (fun h => ?_)
  · refine wlk GVaB102.down ?_
    refine rtr GVaB102.down ?_
    refine ⟨?_, rfl⟩
    simp_all
  · have h1 := h
    refine wlk GVaB102.down ?_
    refine AWP_cond rfl (fun h => ?_) (fun h => ?_)
    · refine wlk GVaB102.down ?_
      refine rtr GVaB102.down ?_
      refine ⟨?_, rfl⟩
      simp_all
    · refine wlk GVaB102.down ?_
      refine rtr GVaB102.down ?_
      refine ⟨?_, rfl⟩
      simp at h h1
      rw [if_neg (by omega), if_neg (by omega)]
def ltB (a b : List UInt8) : Bool := Op.bytesLess a b
def cmpB (a b : List UInt8) : Int := if ltB a b then -1 else if !(ltB a b || a == b) then 1 else 0
theorem text_ok (a b : List UInt8) (σ : List AE) : Gives Tryz.prog 105 [.str a, .str b] σ (.int .i64 (cmpB a b)) := by
  refine ent Tryz.func105 Tryz.ntmps105 Tryz.results105 ?_
  refine wlk GVaB105.down ?_
  refine AWP_cond rfl (fun h => ?_) (fun h => ?_)
  · refine wlk GVaB105.down ?_
    refine rtr GVaB105.down ?_
    refine ⟨?_, rfl⟩
    simp [cmpB, ltB, h]
  · have h1 := h
    refine wlk GVaB105.down ?_
    refine AWP_cond rfl (fun h => ?_) (fun h => ?_)
    · refine wlk GVaB105.down ?_
      refine rtr GVaB105.down ?_
      refine ⟨?_, rfl⟩
      simp_all [cmpB, ltB]
    · refine wlk GVaB105.down ?_
      refine rtr GVaB105.down ?_
      refine ⟨?_, rfl⟩
      simp_all [cmpB, ltB]
theorem roneIf_ok (b : Bool) (σ : List AE) : Gives Tryz.prog 103 [.bool b] σ (.int .i64 (if b then 1 else 0)) := by
  refine ent Tryz.func103 Tryz.ntmps103 Tryz.results103 ?_
  refine wlk GVaB103.down ?_
  refine AWP_cond rfl (fun h => ?_) (fun h => ?_)
  · refine wlk GVaB103.down ?_
    refine rtr GVaB103.down ?_
    simp_all
  · refine wlk GVaB103.down ?_
    refine rtr GVaB103.down ?_
    simp_all
theorem more_ok (n : Int) (σ : List AE) (h0 : -9223372036854775808 ≤ n) : Gives Tryz.prog 176 [.int .i64 n] σ (.int .i64 (if 999999999 ≤ n then n else n + 1)) := by
  refine ent Tryz.func176 Tryz.ntmps176 Tryz.results176 ?_
  refine wlk GVaB176.down ?_
  refine AWP_cond rfl (fun h => ?_) (fun h => ?_)
  · refine wlk GVaB176.down ?_
    refine rtr GVaB176.down ?_
    simp_all
  · refine wlk GVaB176.down ?_
    refine rtr GVaB176.down ?_
    have : ¬ 999999999 ≤ n := by simpa using h
    rw [wrap_in (by omega) (by omega), if_neg this]
    simp
end Go.Proofs.YtdjjlbjagaadaaaGreatDoor.A
/- Plain lists: cutting at a byte, splitting at a byte. -/
namespace Go.Proofs.YtdjjlbjagaadaaaGreatDoor.A
open Go

/-- Cut at the first byte c. -/
def cutAt (c : UInt8) : List UInt8 → List UInt8 × List UInt8 × Bool
  | [] => ([], [], false)
  | b :: s => if b = c then ([], s, true) else (b :: (cutAt c s).1, (cutAt c s).2.1, (cutAt c s).2.2)
/-- Split at each byte c. -/
def spl (c : UInt8) : List UInt8 → List (List UInt8)
  | [] => [[]]
  | b :: s => if b = c then [] :: spl c s else match spl c s with
    | x :: xs => (b :: x) :: xs
    | [] => [[b]]
theorem idx_cons (c b : UInt8) (s : List UInt8) : Lib.index (b :: s) [c] = if b = c then 0 else if Lib.index s [c] == -1 then -1 else Lib.index s [c] + 1 := by
  rw [Lib.index]
  by_cases h : b = c
  · subst h; simp [List.isPrefixOf]
  · rw [if_neg h]
    have hp : ([c] : List UInt8).isPrefixOf (b :: s) = false := by simp [List.isPrefixOf, Ne.symm h]
    rw [hp]
    simp
theorem cut_eq (c : UInt8) : ∀ s : List UInt8, Lib.cut s [c] = cutAt c s
  | [] => by simp [Lib.cut, Lib.index, cutAt]
  | b :: s => by
    have ih := cut_eq c s
    have hge := Lib.index_ge s [c]
    unfold Lib.cut at ih ⊢
    rw [idx_cons]
    unfold cutAt
    by_cases h : b = c
    · simp [h]
    · simp only [if_neg h]
      by_cases hm : Lib.index s [c] = -1
      · have h1 : (Lib.index s [c] == -1) = true := by simp [hm]
        have h2 : ¬ (0 ≤ Lib.index s [c]) := by omega
        rw [if_neg h2] at ih
        rw [h1]
        simp [← ih]
      · have h1 : (Lib.index s [c] == -1) = false := by simp [hm]
        obtain ⟨i, hi⟩ : ∃ i : Nat, Lib.index s [c] = i := ⟨(Lib.index s [c]).toNat, by omega⟩
        rw [h1]
        rw [hi] at ih ⊢
        have h2 : (0 : Int) ≤ (i : Int) := by omega
        have h3 : (0 : Int) ≤ (i : Int) + 1 := by omega
        have h4 : ((i : Int) + 1).toNat = i + 1 := by omega
        rw [if_pos h2] at ih
        simp only [Bool.false_eq_true, if_false, if_pos h3, h4, ← ih, Int.toNat_natCast, List.length_singleton, List.take_succ_cons]
        rw [show i + 1 + 1 = (i + 1) + 1 from rfl, List.drop_succ_cons]
theorem spl_ne (c : UInt8) : ∀ s : List UInt8, spl c s ≠ []
  | [] => by simp [spl]
  | b :: s => by
    unfold spl
    split
    · simp
    · split <;> simp
theorem splitK_cons {b c : UInt8} (h : b ≠ c) : ∀ (k : Nat) (s : List UInt8), Lib.splitK [c] 0 k (b :: s) = match Lib.splitK [c] 0 k s with
    | x :: xs => (b :: x) :: xs
    | [] => [[b]]
  | 0, s => rfl
  | k + 1, s => by
    have hge := Lib.index_ge s [c]
    unfold Lib.splitK
    rw [idx_cons, if_neg h]
    by_cases hm : Lib.index s [c] = -1
    · have h1 : (Lib.index s [c] == -1) = true := by simp [hm]
      simp [h1]
    · have h1 : (Lib.index s [c] == -1) = false := by simp [hm]
      obtain ⟨i, hi⟩ : ∃ i : Nat, Lib.index s [c] = i := ⟨(Lib.index s [c]).toNat, by omega⟩
      rw [h1]
      rw [hi] at h1 ⊢
      have h2 : ((i : Int) + 1 == -1) = false := by simp; omega
      have h4 : ((i : Int) + 1).toNat = i + 1 := by omega
      simp only [Bool.false_eq_true, if_false, h2, h4, Int.toNat_natCast, Nat.add_zero, List.length_singleton, List.take_succ_cons]
      rw [show i + 1 + 1 = (i + 1) + 1 from rfl, List.drop_succ_cons]
theorem split_eq (c : UInt8) : ∀ s : List UInt8, Lib.split s [c] = spl c s
  | [] => by simp [Lib.split, Lib.count_one, Lib.splitK, spl]
  | b :: s => by
    have ih := split_eq c s
    unfold Lib.split at ih ⊢
    unfold spl
    by_cases h : b = c
    · subst h
      rw [if_pos rfl, Lib.count_cons_eq, Nat.add_comm, Lib.splitK, idx_cons, if_pos rfl]
      simp [ih]
    · rw [if_neg h, Lib.count_cons_ne b c s h, splitK_cons h, ih]
theorem spl_len (c : UInt8) (s : List UInt8) : (spl c s).length = Lib.count s [c] + 1 := by
  rw [Lib.count_one]
  induction s with
  | nil => rfl
  | cons b s ih =>
    unfold spl
    by_cases h : b = c
    · subst h; simp [ih]
    · rw [if_neg h, List.count_cons_of_ne (by simpa using h), ← ih]
      have := spl_ne c s
      cases hs : spl c s with
      | nil => exact absurd hs this
      | cons x xs => simp
/-- A piece is no longer than the whole. -/
theorem spl_le (c : UInt8) : ∀ (s : List UInt8) (x : List UInt8), x ∈ spl c s → x.length ≤ s.length
  | [], x, h => by simp [spl] at h; simp [h]
  | b :: s, x, h => by
    have ih := spl_le c s
    unfold spl at h
    split at h
    · rcases List.mem_cons.1 h with rfl | h
      · simp
      · have := ih x h; simp; omega
    · split at h
      · rename_i y ys hy
        rcases List.mem_cons.1 h with rfl | h
        · have := ih y (by rw [hy]; exact List.mem_cons_self); simp; omega
        · have := ih x (by rw [hy]; exact List.mem_cons_of_mem _ h); simp; omega
      · simp at h; simp [h]
theorem cutAt_le (c : UInt8) : ∀ s : List UInt8, (cutAt c s).1.length ≤ s.length ∧ (cutAt c s).2.1.length ≤ s.length
  | [] => by simp [cutAt]
  | b :: s => by
    have ih := cutAt_le c s
    unfold cutAt
    split <;> simp <;> omega
end Go.Proofs.YtdjjlbjagaadaaaGreatDoor.A
/-
  DERIVED: THE SHELF's CONTRACTS AT THIS DUMP, IN PLAIN WORDS (tools/lay-plain.mjs out of 'TryzShelf.lean', which tools/lay-shelf.mjs wrote): THE SAME DECLARATIONS UNDER THE SAME NAMES: 'import', 'namespace', 'open', 'def', 'theorem' AND NOTHING ELSE: no command of the shelf's: FOR A HAND-IN. Each laying: the table of numbers ('.._ren') and one theorem, a field a fact of the dump's own or the kernel's comparison; each contract: ONE APPLICATION.
-/
namespace Go.Proofs
open Go.Shelf
def Tryz.lays156_ren : Go.Shelf.Ren := ⟨fun | 156 => 92 | 165 => 144 | 166 => 76 | 169 => 79 | 240 => 131 | 241 => 177 | 276 => 168 | 277 => 198 | n => n, fun | 31 => 33 | 9 => 9 | 3 => 3 | 4 => 4 | 0 => 0 | 20 => 20 | 72 => 121 | 76 => 124 | 70 => 119 | 37 => 41 | 75 => 123 | 127 => 168 | 164 => 202 | 5 => 5 | 80 => 127 | n => n, fun | n => n⟩
theorem Tryz.lays156 : Go.Proofs.Lays.n156 Tryz.prog Tryz.lays156_ren := {
  mixed := by kernel_rfl
  f156 := Tryz.func92.trans (congrArg some (by kernel_rfl))
  f165 := Tryz.func144.trans (congrArg some (by kernel_rfl))
  f166 := Tryz.func76.trans (congrArg some (by kernel_rfl))
  f169 := Tryz.func79.trans (congrArg some (by kernel_rfl))
  f240 := Tryz.func131.trans (congrArg some (by kernel_rfl))
  f241 := Tryz.func177.trans (congrArg some (by kernel_rfl))
  f276 := Tryz.func168.trans (congrArg some (by kernel_rfl))
  f277 := Tryz.func198.trans (congrArg some (by kernel_rfl))
  t0 := Tryz.underlying0
  a0 := Tryz.isAgg0
  z0 := Tryz.sizeOf0
  v0 := Tryz.zeroValue0
  t3 := Tryz.underlying3
  a3 := Tryz.isAgg3
  z3 := Tryz.sizeOf3
  v3 := Tryz.zeroValue3
  t4 := Tryz.underlying4
  a4 := Tryz.isAgg4
  z4 := Tryz.sizeOf4
  v4 := Tryz.zeroValue4
  t9 := Tryz.underlying9
  a9 := Tryz.isAgg9
  z9 := Tryz.sizeOf9
  v9 := Tryz.zeroValue9
  t20 := Tryz.underlying20
  a20 := Tryz.isAgg20
  z20 := Tryz.sizeOf20
  v20 := Tryz.zeroValue20
  t31 := Tryz.underlying33
  a31 := Tryz.isAgg33
  z31 := Tryz.sizeOf33
  v31 := Tryz.zeroValue33
  t37 := Tryz.underlying41
  a37 := Tryz.isAgg41
  z37 := Tryz.sizeOf41
  v37 := Tryz.zeroValue41
  t70 := Tryz.underlying119
  a70 := Tryz.isAgg119
  z70 := Tryz.sizeOf119
  v70 := Tryz.zeroValue119
  t72 := Tryz.underlying121
  a72 := Tryz.isAgg121
  z72 := Tryz.sizeOf121
  v72 := Tryz.zeroValue121
  t75 := Tryz.underlying123
  a75 := Tryz.isAgg123
  z75 := Tryz.sizeOf123
  v75 := Tryz.zeroValue123
  t76 := Tryz.underlying124
  a76 := Tryz.isAgg124
  z76 := Tryz.sizeOf124
  v76 := Tryz.zeroValue124
  t127 := Tryz.underlying168
  a127 := Tryz.isAgg168
  z127 := Tryz.sizeOf168
  v127 := Tryz.zeroValue168
  t164 := Tryz.underlying202
  a164 := Tryz.isAgg202
  z164 := Tryz.sizeOf202
  v164 := Tryz.zeroValue202 }
theorem Tryz.Builder_Extra_156 : Builder.Extra Tryz.prog Tryz.lays156_ren := {
  sizeBuilder := by kernel_rfl
  liesBuilder := by kernel_rfl
  t5 := Tryz.underlying5
  a5 := Tryz.isAgg5
  z5 := Tryz.sizeOf5
  v5 := Tryz.zeroValue5
  infoByte := by kernel_rfl
  cellsByte := by kernel_rfl
  sizeByte := by kernel_rfl
  neB5 := by decide }
open Go.RowKit in
/-- No element: the empty string; the world is as it was. (Whatever the slice's address and capacity: a nil slice too.) (LAID: no walk: one application.) -/
theorem Tryz.strings_Join_none (a : Option Addr) (c : Nat) (sep : ByteArray) (w : World) :
    Calls Tryz.prog 92 #[.slice a 0 c, .string sep] w fun e w' => e = .returned (.string ⟨#[]⟩) ∧ w' = w := Any.strings_Join_none Tryz.lays156 Tryz.Builder_Extra_156 a c sep w
open Go.RowKit in
/-- strings.Join: "Join concatenates the elements of its first argument to create a single string. The separator string sep is placed between elements in the resulting string.": HOWEVER MANY ELEMENTS. Below the heap's end the world is as it was. (LAID: no walk: one application.) -/
theorem Tryz.strings_Join (bk o c : Nat) (xs : List ByteArray) (sep : ByteArray) (w : World) (hcells : ∀ (j : Nat) x, xs[j]? = some x → w.cell? ⟨bk, o + j, none⟩ = some (.string x)) (hbk : bk < w.heap.size) (hN : xs.length ≤ 140737488355328) (hcap : xs.length ≤ c) (hlen : (Lib.join (xs.map (·.data.toList)) sep.data.toList).length ≤ 140737488355328) :
    Calls Tryz.prog 92 #[.slice (some ⟨bk, o, none⟩) xs.length c, .string sep] w fun e w' => e = .returned (.string ⟨(Lib.join (xs.map (·.data.toList)) sep.data.toList).toArray⟩) ∧ Below w.heap.size w w' := Any.strings_Join Tryz.lays156 Tryz.Builder_Extra_156 bk o c xs sep w hcells hbk hN hcap hlen
def Tryz.lays137_ren : Go.Shelf.Ren := ⟨fun | 137 => 165 | 217 => 191 | 266 => 205 | n => n, fun | 9 => 9 | 5 => 5 | 3 => 3 | n => n, fun | n => n⟩
theorem Tryz.lays137 : Go.Proofs.Lays.n137 Tryz.prog Tryz.lays137_ren := {
  mixed := by kernel_rfl
  f137 := Tryz.func165.trans (congrArg some (by kernel_rfl))
  f217 := Tryz.func191.trans (congrArg some (by kernel_rfl))
  f266 := Tryz.func205.trans (congrArg some (by kernel_rfl))
  t3 := Tryz.underlying3
  a3 := Tryz.isAgg3
  z3 := Tryz.sizeOf3
  v3 := Tryz.zeroValue3
  t5 := Tryz.underlying5
  a5 := Tryz.isAgg5
  z5 := Tryz.sizeOf5
  v5 := Tryz.zeroValue5
  t9 := Tryz.underlying9
  a9 := Tryz.isAgg9
  z9 := Tryz.sizeOf9
  v9 := Tryz.zeroValue9 }
open Go.RowKit in
/-- strings.IndexByte: "IndexByte returns the index of the first instance of c in s, or -1 if c is not present in s.": IT RETURNS 'Lib.indexByte s c'; the world is as it was. (LAID: no walk: one application.) -/
theorem Tryz.strings_IndexByte (s : ByteArray) (c : Int) (w : World) :
    Calls Tryz.prog 165 #[.string s, .int .u8 c] w fun e w' => e = .returned (.int .i64 (Lib.indexByte s.data.toList c.toNat.toUInt8)) ∧ w' = w := Any.strings_IndexByte Tryz.lays137 s c w
def Tryz.lays122_ren : Go.Shelf.Ren := ⟨fun | 122 => 148 | 215 => 178 | n => n, fun | 3 => 3 | 4 => 4 | n => n, fun | n => n⟩
theorem Tryz.lays122 : Go.Proofs.Lays.n122 Tryz.prog Tryz.lays122_ren := {
  mixed := by kernel_rfl
  f122 := Tryz.func148.trans (congrArg some (by kernel_rfl))
  f215 := Tryz.func178.trans (congrArg some (by kernel_rfl))
  t3 := Tryz.underlying3
  a3 := Tryz.isAgg3
  z3 := Tryz.sizeOf3
  v3 := Tryz.zeroValue3
  t4 := Tryz.underlying4
  a4 := Tryz.isAgg4
  z4 := Tryz.sizeOf4
  v4 := Tryz.zeroValue4 }
open Go.RowKit in
/-- cmp.Compare at int: "Compare returns -1 if x is less than y, 0 if x equals y, +1 if x is greater than y.": IT RETURNS 'Lib.compareInt x y'; the world is as it was. (LAID: no walk: one application.) -/
theorem Tryz.cmp_Compare_int (x y : Int) (w : World) :
    Calls Tryz.prog 148 #[.int .i64 x, .int .i64 y] w fun e w' => e = .returned (.int .i64 (Lib.compareInt x y)) ∧ w' = w := Any.cmp_Compare_int Tryz.lays122 x y w
def Tryz.lays172_ren : Go.Shelf.Ren := ⟨fun | 172 => 188 | 244 => 203 | 245 => 204 | 247 => 214 | 279 => 215 | 280 => 216 | 281 => 217 | 282 => 218 | 287 => 224 | 316 => 225 | 171 => 132 | 205 => 226 | 321 => 229 | 322 => 230 | 243 => 169 | 246 => 193 | 283 => 207 | 284 => 208 | 285 => 209 | 286 => 210 | 129 => 220 | 317 => 219 | 318 => 221 | 319 => 222 | 320 => 223 | 337 => 227 | 338 => 228 | n => n, fun | 9 => 9 | 3 => 3 | 75 => 123 | 76 => 124 | 4 => 4 | 5 => 5 | 167 => 233 | 37 => 41 | 0 => 0 | 85 => 234 | 2 => 2 | 168 => 236 | 53 => 221 | 175 => 242 | 46 => 165 | 210 => 246 | 127 => 168 | 145 => 252 | 143 => 250 | 21 => 21 | 171 => 220 | 173 => 224 | 212 => 239 | 51 => 230 | 20 => 20 | 213 => 240 | 232 => 36 | 233 => 253 | 80 => 127 | n => n, fun | 15 => 4 | 16 => 5 | 17 => 3 | 18 => 6 | 19 => 7 | n => n⟩
theorem Tryz.lays172 : Go.Proofs.Lays.n172 Tryz.prog Tryz.lays172_ren := {
  mixed := by kernel_rfl
  f129 := Tryz.func220.trans (congrArg some (by kernel_rfl))
  f171 := Tryz.func132.trans (congrArg some (by kernel_rfl))
  f172 := Tryz.func188.trans (congrArg some (by kernel_rfl))
  f205 := Tryz.func226.trans (congrArg some (by kernel_rfl))
  f243 := Tryz.func169.trans (congrArg some (by kernel_rfl))
  f244 := Tryz.func203.trans (congrArg some (by kernel_rfl))
  f245 := Tryz.func204.trans (congrArg some (by kernel_rfl))
  f246 := Tryz.func193.trans (congrArg some (by kernel_rfl))
  f247 := Tryz.func214.trans (congrArg some (by kernel_rfl))
  f279 := Tryz.func215.trans (congrArg some (by kernel_rfl))
  f280 := Tryz.func216.trans (congrArg some (by kernel_rfl))
  f281 := Tryz.func217.trans (congrArg some (by kernel_rfl))
  f282 := Tryz.func218.trans (congrArg some (by kernel_rfl))
  f283 := Tryz.func207.trans (congrArg some (by kernel_rfl))
  f284 := Tryz.func208.trans (congrArg some (by kernel_rfl))
  f285 := Tryz.func209.trans (congrArg some (by kernel_rfl))
  f286 := Tryz.func210.trans (congrArg some (by kernel_rfl))
  f287 := Tryz.func224.trans (congrArg some (by kernel_rfl))
  f316 := Tryz.func225.trans (congrArg some (by kernel_rfl))
  f317 := Tryz.func219.trans (congrArg some (by kernel_rfl))
  f318 := Tryz.func221.trans (congrArg some (by kernel_rfl))
  f319 := Tryz.func222.trans (congrArg some (by kernel_rfl))
  f320 := Tryz.func223.trans (congrArg some (by kernel_rfl))
  f321 := Tryz.func229.trans (congrArg some (by kernel_rfl))
  f322 := Tryz.func230.trans (congrArg some (by kernel_rfl))
  f337 := Tryz.func227.trans (congrArg some (by kernel_rfl))
  f338 := Tryz.func228.trans (congrArg some (by kernel_rfl))
  t0 := Tryz.underlying0
  a0 := Tryz.isAgg0
  z0 := Tryz.sizeOf0
  v0 := Tryz.zeroValue0
  t2 := Tryz.underlying2
  a2 := Tryz.isAgg2
  z2 := Tryz.sizeOf2
  v2 := Tryz.zeroValue2
  t3 := Tryz.underlying3
  a3 := Tryz.isAgg3
  z3 := Tryz.sizeOf3
  v3 := Tryz.zeroValue3
  t4 := Tryz.underlying4
  a4 := Tryz.isAgg4
  z4 := Tryz.sizeOf4
  v4 := Tryz.zeroValue4
  t5 := Tryz.underlying5
  a5 := Tryz.isAgg5
  z5 := Tryz.sizeOf5
  v5 := Tryz.zeroValue5
  t9 := Tryz.underlying9
  a9 := Tryz.isAgg9
  z9 := Tryz.sizeOf9
  v9 := Tryz.zeroValue9
  t20 := Tryz.underlying20
  a20 := Tryz.isAgg20
  z20 := Tryz.sizeOf20
  v20 := Tryz.zeroValue20
  t21 := Tryz.underlying21
  a21 := Tryz.isAgg21
  z21 := Tryz.sizeOf21
  v21 := Tryz.zeroValue21
  t37 := Tryz.underlying41
  a37 := Tryz.isAgg41
  z37 := Tryz.sizeOf41
  v37 := Tryz.zeroValue41
  t46 := Tryz.underlying165
  a46 := Tryz.isAgg165
  z46 := Tryz.sizeOf165
  v46 := Tryz.zeroValue165
  t51 := Tryz.underlying230
  a51 := Tryz.isAgg230
  z51 := Tryz.sizeOf230
  v51 := Tryz.zeroValue230
  t53 := Tryz.underlying221
  a53 := Tryz.isAgg221
  z53 := Tryz.sizeOf221
  v53 := Tryz.zeroValue221
  t75 := Tryz.underlying123
  a75 := Tryz.isAgg123
  z75 := Tryz.sizeOf123
  v75 := Tryz.zeroValue123
  t76 := Tryz.underlying124
  a76 := Tryz.isAgg124
  z76 := Tryz.sizeOf124
  v76 := Tryz.zeroValue124
  t85 := Tryz.underlying234
  a85 := Tryz.isAgg234
  z85 := Tryz.sizeOf234
  v85 := Tryz.zeroValue234
  t127 := Tryz.underlying168
  a127 := Tryz.isAgg168
  z127 := Tryz.sizeOf168
  v127 := Tryz.zeroValue168
  t143 := Tryz.underlying250
  a143 := Tryz.isAgg250
  z143 := Tryz.sizeOf250
  v143 := Tryz.zeroValue250
  t145 := Tryz.underlying252
  a145 := Tryz.isAgg252
  z145 := Tryz.sizeOf252
  v145 := Tryz.zeroValue252
  t167 := Tryz.underlying233
  a167 := Tryz.isAgg233
  z167 := Tryz.sizeOf233
  v167 := Tryz.zeroValue233
  t168 := Tryz.underlying236
  a168 := Tryz.isAgg236
  z168 := Tryz.sizeOf236
  v168 := Tryz.zeroValue236
  t171 := Tryz.underlying220
  a171 := Tryz.isAgg220
  z171 := Tryz.sizeOf220
  v171 := Tryz.zeroValue220
  t173 := Tryz.underlying224
  a173 := Tryz.isAgg224
  z173 := Tryz.sizeOf224
  v173 := Tryz.zeroValue224
  t175 := Tryz.underlying242
  a175 := Tryz.isAgg242
  z175 := Tryz.sizeOf242
  v175 := Tryz.zeroValue242
  t210 := Tryz.underlying246
  a210 := Tryz.isAgg246
  z210 := Tryz.sizeOf246
  v210 := Tryz.zeroValue246
  t212 := Tryz.underlying239
  a212 := Tryz.isAgg239
  z212 := Tryz.sizeOf239
  v212 := Tryz.zeroValue239
  t213 := Tryz.underlying240
  a213 := Tryz.isAgg240
  z213 := Tryz.sizeOf240
  t232 := Tryz.underlying36
  a232 := Tryz.isAgg36
  z232 := Tryz.sizeOf36
  v232 := Tryz.zeroValue36
  t233 := Tryz.underlying253
  a233 := Tryz.isAgg253
  z233 := Tryz.sizeOf253
  v233 := Tryz.zeroValue253
  g15 := by kernel_rfl
  g16 := by kernel_rfl
  g17 := by kernel_rfl
  g18 := by kernel_rfl
  g19 := by kernel_rfl }
open Go.RowKit in
/-- strconv.Atoi: "Atoi is equivalent to ParseInt(s, 10, 0), converted to type int.": AT A DECIMAL NUMERAL OF AT MOST 18 BYTES: its value, and a nil error. The world behind the call: the one new row that the library's '[]byte(s)' lays. (LAID: no walk: one application.) -/
theorem Tryz.strconv_Atoi (s : ByteArray) (n : Int) (hl : s.size ≤ 18) (h : Lib.atoi s.data.toList = some n) (w : World) :
    Calls Tryz.prog 188 #[.string s] w fun e w' => e = .returned (.tuple #[.int .i64 n, .nilIface]) ∧ ∃ t, w' = Lib.bytesWorld w 5 t := Any.strconv_Atoi Tryz.lays172 s n hl h w
def Tryz.laysM171_ren : Go.Shelf.Ren := ⟨fun | 171 => 132 | 243 => 169 | 246 => 193 | 283 => 207 | 284 => 208 | 285 => 209 | 286 => 210 | 129 => 220 | 317 => 219 | 318 => 221 | 319 => 222 | 320 => 223 | 337 => 227 | 338 => 228 | n => n, fun | 3 => 3 | 9 => 9 | 2 => 2 | 4 => 4 | 171 => 220 | 0 => 0 | 53 => 221 | 37 => 41 | 5 => 5 | 173 => 224 | 212 => 239 | 51 => 230 | 20 => 20 | 213 => 240 | 46 => 165 | 232 => 36 | 233 => 253 | n => n, fun | 17 => 3 | 18 => 6 | 19 => 7 | n => n⟩
theorem Tryz.laysM171 : Go.Proofs.LaysM.n171 Tryz.prog Tryz.laysM171_ren := {
  mixed := by kernel_rfl
  f129 := Tryz.func220.trans (congrArg some (by kernel_rfl))
  f171 := Tryz.func132.trans (congrArg some (by kernel_rfl))
  f243 := Tryz.func169.trans (congrArg some (by kernel_rfl))
  f246 := Tryz.func193.trans (congrArg some (by kernel_rfl))
  f283 := Tryz.func207.trans (congrArg some (by kernel_rfl))
  f284 := Tryz.func208.trans (congrArg some (by kernel_rfl))
  f285 := Tryz.func209.trans (congrArg some (by kernel_rfl))
  f286 := Tryz.func210.trans (congrArg some (by kernel_rfl))
  f317 := Tryz.func219.trans (congrArg some (by kernel_rfl))
  f318 := Tryz.func221.trans (congrArg some (by kernel_rfl))
  f319 := Tryz.func222.trans (congrArg some (by kernel_rfl))
  f320 := Tryz.func223.trans (congrArg some (by kernel_rfl))
  f337 := Tryz.func227.trans (congrArg some (by kernel_rfl))
  f338 := Tryz.func228.trans (congrArg some (by kernel_rfl))
  t0 := Tryz.underlying0
  a0 := Tryz.isAgg0
  z0 := Tryz.sizeOf0
  v0 := Tryz.zeroValue0
  t2 := Tryz.underlying2
  a2 := Tryz.isAgg2
  z2 := Tryz.sizeOf2
  v2 := Tryz.zeroValue2
  t3 := Tryz.underlying3
  a3 := Tryz.isAgg3
  z3 := Tryz.sizeOf3
  v3 := Tryz.zeroValue3
  t4 := Tryz.underlying4
  a4 := Tryz.isAgg4
  z4 := Tryz.sizeOf4
  v4 := Tryz.zeroValue4
  t5 := Tryz.underlying5
  a5 := Tryz.isAgg5
  z5 := Tryz.sizeOf5
  v5 := Tryz.zeroValue5
  t9 := Tryz.underlying9
  a9 := Tryz.isAgg9
  z9 := Tryz.sizeOf9
  v9 := Tryz.zeroValue9
  t20 := Tryz.underlying20
  a20 := Tryz.isAgg20
  z20 := Tryz.sizeOf20
  v20 := Tryz.zeroValue20
  t37 := Tryz.underlying41
  a37 := Tryz.isAgg41
  z37 := Tryz.sizeOf41
  v37 := Tryz.zeroValue41
  t46 := Tryz.underlying165
  a46 := Tryz.isAgg165
  z46 := Tryz.sizeOf165
  v46 := Tryz.zeroValue165
  t51 := Tryz.underlying230
  a51 := Tryz.isAgg230
  z51 := Tryz.sizeOf230
  v51 := Tryz.zeroValue230
  t53 := Tryz.underlying221
  a53 := Tryz.isAgg221
  z53 := Tryz.sizeOf221
  v53 := Tryz.zeroValue221
  t171 := Tryz.underlying220
  a171 := Tryz.isAgg220
  z171 := Tryz.sizeOf220
  v171 := Tryz.zeroValue220
  t173 := Tryz.underlying224
  a173 := Tryz.isAgg224
  z173 := Tryz.sizeOf224
  v173 := Tryz.zeroValue224
  t212 := Tryz.underlying239
  a212 := Tryz.isAgg239
  z212 := Tryz.sizeOf239
  v212 := Tryz.zeroValue239
  t213 := Tryz.underlying240
  a213 := Tryz.isAgg240
  z213 := Tryz.sizeOf240
  t232 := Tryz.underlying36
  a232 := Tryz.isAgg36
  z232 := Tryz.sizeOf36
  v232 := Tryz.zeroValue36
  t233 := Tryz.underlying253
  a233 := Tryz.isAgg253
  z233 := Tryz.sizeOf253
  v233 := Tryz.zeroValue253
  g17 := by kernel_rfl
  g18 := by kernel_rfl
  g19 := by kernel_rfl
  i0 := by kernel_rfl
  i2 := by kernel_rfl
  i3 := by kernel_rfl
  i4 := by kernel_rfl
  i5 := by kernel_rfl
  i9 := by kernel_rfl
  i20 := by kernel_rfl
  i37 := by kernel_rfl
  i46 := by kernel_rfl
  i51 := by kernel_rfl
  i53 := by kernel_rfl
  i171 := by kernel_rfl
  i173 := by kernel_rfl
  i212 := by kernel_rfl
  i232 := by kernel_rfl
  i233 := by kernel_rfl
  m17 := by kernel_rfl
  m18 := by kernel_rfl
  m19 := by kernel_rfl }
open Go.RowKit Go.Sort Go.Lib in
/-- strconv.Itoa: "Itoa is equivalent to FormatInt(int64(i), 10).": i's DECIMAL NUMERAL ('Lib.itoa': a '-' where i is negative, then the digits), FOR EVERY int. The world behind the call: the world before it, new blocks behind the heap (the library's 'var a [24]byte'), draws. (LAID: no walk: one application.) -/
theorem Tryz.strconv_Itoa (n : Int) (h0 : -9223372036854775808 ≤ n) (h1 : n ≤ 9223372036854775807) (w : World) (htab : Lib.TabIs Tryz.prog w "internal/strconv.uint64pow10" .u64 Lib.pow10Tab) :
    Calls Tryz.prog 132 #[.int .i64 n] w fun e w' => e = .returned (.string ⟨(Lib.itoa n).toArray⟩) ∧ ∃ k os, w' = grow (w.drewN k) os := Any.strconv_Itoa Tryz.laysM171 n h0 h1 w htab
def Tryz.lays145_ren : Go.Shelf.Ren := ⟨fun | 145 => 160 | 220 => 186 | 219 => 185 | 217 => 191 | 225 => 200 | 224 => 201 | 267 => 202 | 266 => 205 | 314 => 213 | n => n, fun | 9 => 9 | 4 => 4 | 59 => 194 | 3 => 3 | 5 => 5 | 46 => 165 | 146 => 231 | 51 => 230 | n => n, fun | 1 => 0 | n => n⟩
theorem Tryz.lays145 : Go.Proofs.Lays.n145 Tryz.prog Tryz.lays145_ren := {
  mixed := by kernel_rfl
  f145 := Tryz.func160.trans (congrArg some (by kernel_rfl))
  f217 := Tryz.func191.trans (congrArg some (by kernel_rfl))
  f219 := Tryz.func185.trans (congrArg some (by kernel_rfl))
  f220 := Tryz.func186.trans (congrArg some (by kernel_rfl))
  f224 := Tryz.func201.trans (congrArg some (by kernel_rfl))
  f225 := Tryz.func200.trans (congrArg some (by kernel_rfl))
  f266 := Tryz.func205.trans (congrArg some (by kernel_rfl))
  f267 := Tryz.func202.trans (congrArg some (by kernel_rfl))
  f314 := Tryz.func213.trans (congrArg some (by kernel_rfl))
  t3 := Tryz.underlying3
  a3 := Tryz.isAgg3
  z3 := Tryz.sizeOf3
  v3 := Tryz.zeroValue3
  t4 := Tryz.underlying4
  a4 := Tryz.isAgg4
  z4 := Tryz.sizeOf4
  v4 := Tryz.zeroValue4
  t5 := Tryz.underlying5
  a5 := Tryz.isAgg5
  z5 := Tryz.sizeOf5
  v5 := Tryz.zeroValue5
  t9 := Tryz.underlying9
  a9 := Tryz.isAgg9
  z9 := Tryz.sizeOf9
  v9 := Tryz.zeroValue9
  t46 := Tryz.underlying165
  a46 := Tryz.isAgg165
  z46 := Tryz.sizeOf165
  v46 := Tryz.zeroValue165
  t51 := Tryz.underlying230
  a51 := Tryz.isAgg230
  z51 := Tryz.sizeOf230
  v51 := Tryz.zeroValue230
  t59 := Tryz.underlying194
  a59 := Tryz.isAgg194
  z59 := Tryz.sizeOf194
  v59 := Tryz.zeroValue194
  t146 := Tryz.underlying231
  a146 := Tryz.isAgg231
  z146 := Tryz.sizeOf231
  v146 := Tryz.zeroValue231
  g1 := by kernel_rfl }
open Go.RowKit Go.Lib in
/-- strings.Cut: "Cut slices s around the first instance of sep, returning the text before and after sep. The found result reports whether sep appears in s. If sep does not appear in s, cut returns s, "", false.": IT RETURNS 'Lib.cut s sep'; the world is as it was but for the count of draws. (LAID: no walk: one application.) -/
theorem Tryz.strings_Cut (s sep : ByteArray) (m : Int) (w : World) (hs : s.size < 4294967281) (hm : w.cell? ⟨0, 0, none⟩ = some (.int .i64 m)) :
    Calls Tryz.prog 160 #[.string s, .string sep] w fun e w' => e = .returned (.tuple #[.string ⟨(Lib.cut s.data.toList sep.data.toList).1.toArray⟩, .string ⟨(Lib.cut s.data.toList sep.data.toList).2.1.toArray⟩, .bool (Lib.cut s.data.toList sep.data.toList).2.2]) ∧ ∃ n, w' = w.drewN n := Any.strings_Cut Tryz.lays145 s sep m w hs hm
def Tryz.lays100_ren : Go.Shelf.Ren := ⟨fun | 100 => 63 | 207 => 123 | n => n, fun | 9 => 9 | 4 => 4 | 3 => 3 | n => n, fun | n => n⟩
theorem Tryz.lays100 : Go.Proofs.Lays.n100 Tryz.prog Tryz.lays100_ren := {
  mixed := by kernel_rfl
  f100 := Tryz.func63.trans (congrArg some (by kernel_rfl))
  f207 := Tryz.func123.trans (congrArg some (by kernel_rfl))
  t3 := Tryz.underlying3
  a3 := Tryz.isAgg3
  z3 := Tryz.sizeOf3
  v3 := Tryz.zeroValue3
  t4 := Tryz.underlying4
  a4 := Tryz.isAgg4
  z4 := Tryz.sizeOf4
  v4 := Tryz.zeroValue4
  t9 := Tryz.underlying9
  a9 := Tryz.isAgg9
  z9 := Tryz.sizeOf9
  v9 := Tryz.zeroValue9 }
open Go.RowKit Go.Lib in
/-- strings.HasSuffix: "HasSuffix reports whether the string s ends with suffix.": IT RETURNS 'Lib.hasSuffix s suffix'; the world is as it was. ('hs': no Go string is longer: a caller has it of every string that it was handed.) (LAID: no walk: one application.) -/
theorem Tryz.strings_HasSuffix (s p : ByteArray) (w : World) (hs : s.size ≤ 9223372036854775807) :
    Calls Tryz.prog 63 #[.string s, .string p] w fun e w' => e = .returned (.bool (Lib.hasSuffix s.data.toList p.data.toList)) ∧ w' = w := Any.strings_HasSuffix Tryz.lays100 s p w hs
def Tryz.lays102_ren : Go.Shelf.Ren := ⟨fun | 102 => 65 | 209 => 125 | 207 => 123 | n => n, fun | 9 => 9 | 4 => 4 | 3 => 3 | n => n, fun | n => n⟩
theorem Tryz.lays102 : Go.Proofs.Lays.n102 Tryz.prog Tryz.lays102_ren := {
  mixed := by kernel_rfl
  f102 := Tryz.func65.trans (congrArg some (by kernel_rfl))
  f207 := Tryz.func123.trans (congrArg some (by kernel_rfl))
  f209 := Tryz.func125.trans (congrArg some (by kernel_rfl))
  t3 := Tryz.underlying3
  a3 := Tryz.isAgg3
  z3 := Tryz.sizeOf3
  v3 := Tryz.zeroValue3
  t4 := Tryz.underlying4
  a4 := Tryz.isAgg4
  z4 := Tryz.sizeOf4
  v4 := Tryz.zeroValue4
  t9 := Tryz.underlying9
  a9 := Tryz.isAgg9
  z9 := Tryz.sizeOf9
  v9 := Tryz.zeroValue9 }
open Go.RowKit Go.Lib in
/-- strings.TrimSuffix: "TrimSuffix returns s without the provided trailing suffix string. If s doesn't end with suffix, s is returned unchanged.": IT RETURNS 'Lib.trimSuffix s suffix'; the world is as it was. (LAID: no walk: one application.) -/
theorem Tryz.strings_TrimSuffix (s p : ByteArray) (w : World) (hs : s.size ≤ 9223372036854775807) :
    Calls Tryz.prog 65 #[.string s, .string p] w fun e w' => e = .returned (.string ⟨(Lib.trimSuffix s.data.toList p.data.toList).toArray⟩) ∧ w' = w := Any.strings_TrimSuffix Tryz.lays102 s p w hs
open Go.RowKit Go.Lib in
/-- strings.Count at whatever sep that is not empty: the two roads under one statement. (LAID: no walk: one application.) -/
def Tryz.lays146_ren : Go.Shelf.Ren := ⟨fun | 146 => 64 | 221 => 124 | 268 => 157 | 138 => 158 | 143 => 159 | 195 => 183 | 197 => 171 | 218 => 184 | 219 => 185 | 260 => 194 | 217 => 191 | 225 => 200 | 224 => 201 | 267 => 202 | 266 => 205 | 314 => 213 | n => n, fun | 9 => 9 | 31 => 33 | 3 => 3 | 4 => 4 | 0 => 0 | 105 => 204 | 21 => 21 | 5 => 5 | 46 => 165 | 119 => 226 | 139 => 229 | 138 => 228 | 146 => 231 | 51 => 230 | n => n, fun | 1 => 0 | 3 => 1 | 4 => 2 | n => n⟩
theorem Tryz.lays146 : Go.Proofs.Lays.n146 Tryz.prog Tryz.lays146_ren := {
  mixed := by kernel_rfl
  f138 := Tryz.func158.trans (congrArg some (by kernel_rfl))
  f143 := Tryz.func159.trans (congrArg some (by kernel_rfl))
  f146 := Tryz.func64.trans (congrArg some (by kernel_rfl))
  f195 := Tryz.func183.trans (congrArg some (by kernel_rfl))
  f197 := Tryz.func171.trans (congrArg some (by kernel_rfl))
  f217 := Tryz.func191.trans (congrArg some (by kernel_rfl))
  f218 := Tryz.func184.trans (congrArg some (by kernel_rfl))
  f219 := Tryz.func185.trans (congrArg some (by kernel_rfl))
  f221 := Tryz.func124.trans (congrArg some (by kernel_rfl))
  f224 := Tryz.func201.trans (congrArg some (by kernel_rfl))
  f225 := Tryz.func200.trans (congrArg some (by kernel_rfl))
  f260 := Tryz.func194.trans (congrArg some (by kernel_rfl))
  f266 := Tryz.func205.trans (congrArg some (by kernel_rfl))
  f267 := Tryz.func202.trans (congrArg some (by kernel_rfl))
  f268 := Tryz.func157.trans (congrArg some (by kernel_rfl))
  f314 := Tryz.func213.trans (congrArg some (by kernel_rfl))
  t0 := Tryz.underlying0
  a0 := Tryz.isAgg0
  z0 := Tryz.sizeOf0
  v0 := Tryz.zeroValue0
  t3 := Tryz.underlying3
  a3 := Tryz.isAgg3
  z3 := Tryz.sizeOf3
  v3 := Tryz.zeroValue3
  t4 := Tryz.underlying4
  a4 := Tryz.isAgg4
  z4 := Tryz.sizeOf4
  v4 := Tryz.zeroValue4
  t5 := Tryz.underlying5
  a5 := Tryz.isAgg5
  z5 := Tryz.sizeOf5
  v5 := Tryz.zeroValue5
  t9 := Tryz.underlying9
  a9 := Tryz.isAgg9
  z9 := Tryz.sizeOf9
  v9 := Tryz.zeroValue9
  t21 := Tryz.underlying21
  a21 := Tryz.isAgg21
  z21 := Tryz.sizeOf21
  v21 := Tryz.zeroValue21
  t31 := Tryz.underlying33
  a31 := Tryz.isAgg33
  z31 := Tryz.sizeOf33
  v31 := Tryz.zeroValue33
  t46 := Tryz.underlying165
  a46 := Tryz.isAgg165
  z46 := Tryz.sizeOf165
  v46 := Tryz.zeroValue165
  t51 := Tryz.underlying230
  a51 := Tryz.isAgg230
  z51 := Tryz.sizeOf230
  v51 := Tryz.zeroValue230
  t105 := Tryz.underlying204
  a105 := Tryz.isAgg204
  z105 := Tryz.sizeOf204
  v105 := Tryz.zeroValue204
  t119 := Tryz.underlying226
  a119 := Tryz.isAgg226
  z119 := Tryz.sizeOf226
  t138 := Tryz.underlying228
  a138 := Tryz.isAgg228
  z138 := Tryz.sizeOf228
  v138 := Tryz.zeroValue228
  t139 := Tryz.underlying229
  a139 := Tryz.isAgg229
  z139 := Tryz.sizeOf229
  v139 := Tryz.zeroValue229
  t146 := Tryz.underlying231
  a146 := Tryz.isAgg231
  z146 := Tryz.sizeOf231
  v146 := Tryz.zeroValue231
  g1 := by kernel_rfl
  g3 := by kernel_rfl
  g4 := by kernel_rfl }
open Go.RowKit Go.Lib in
/-- strings.Split. (LAID: no walk: one application.) -/
theorem Tryz.strings_Split (s sep : ByteArray) (m : Int) (w : World) (hs : s.size < 4294967281) (hm : w.cell? ⟨0, 0, none⟩ = some (.int .i64 m)) (h1 : 1 ≤ sep.size) :
    Calls Tryz.prog 64 #[.string s, .string sep] w fun e w' =>
      e = .returned (.slice (some ⟨w.heap.size, 0, none⟩) (Lib.countB s sep + 1) (Lib.countB s sep + 1)) ∧ w' = w.alloc (.cells ((Lib.splitB sep 0 (Lib.countB s sep) s).map Value.string).toArray 9) := Any.strings_Split Tryz.lays146 (by kernel_rfl) s sep m w hs hm h1
end Go.Proofs
