/- Texts of the proof, one behind another: VaH, VaI, VaJ. -/
import Derived.Test.YtdjjlbjagaadaaaGreatDoorMa8
/- Telling and ordering: Text, VersionText, Dec, Cmp of both. -/
namespace Go.Proofs.YtdjjlbjagaadaaaGreatDoor.A
open Go Go.RowKit
set_option maxRecDepth 100000
set_option linter.unusedSimpArgs false
set_option linter.unusedVariables false

def GVaH30 := PLift.up <| And.intro F3 <| F9
def GVaH77 := PLift.up <| And.intro F3 <| And.intro F9 <| And.intro F33 <| F35
def GVaH44 := PLift.up <| And.intro F3 <| And.intro F9 <| And.intro F33 <| F35
def dec (n : Int) : List UInt8 := Lib.itoa (max n 0)
theorem dec_small {n : Int} (h : n < 10) : dec n = [UInt8.ofNat (48 + (max n 0).toNat)] := by
  have h1 : ¬ max n 0 < 0 := by omega
  have h2 : (max n 0).toNat < 10 := by omega
  rw [dec, Lib.itoa, if_neg h1, Lib.decDigits, dif_pos h2]
theorem dec_big {n : Int} (h : ¬ n < 10) : dec n = dec (n / 10) ++ [UInt8.ofNat (48 + (n % 10).toNat)] := by
  have h1 : ¬ max n 0 < 0 := by omega
  have h2 : ¬ max (n / 10) 0 < 0 := by omega
  have h3 : ¬ (max n 0).toNat < 10 := by omega
  rw [dec, Lib.itoa, if_neg h1, Lib.decDigits, dif_neg h3, dec, Lib.itoa, if_neg h2]
  have e1 : (max n 0).toNat / 10 = (max (n / 10) 0).toNat := by omega
  have e2 : (max n 0).toNat % 10 = (n % 10).toNat := by omega
  rw [e1, e2]
theorem dec_len : ∀ (k : Nat) (n : Int), n < 10 ^ (k + 1) → (dec n).length ≤ k + 1
  | 0, n, h => by rw [dec_small (by simpa using h)]; simp
  | k + 1, n, h => by
    by_cases h1 : n < 10
    · rw [dec_small h1]; simp
    · rw [dec_big h1]
      have := dec_len k (n / 10) (by
        rw [Int.pow_succ] at h
        omega)
      simp; omega
theorem tenth : ∀ m : Nat, m < 10 → (48 :: ([49, 50, 51, 52, 53, 54, 55, 56, 57] : List UInt8).take m).drop m = [UInt8.ofNat (48 + m)] := by decide
theorem rdec_small (n : Int) (σ : List AE) (hn : n < 10) : Gives Tryz.prog 30 [.int .i64 n] σ (.str (dec n)) := by
  refine ent Tryz.func30 Tryz.ntmps30 Tryz.results30 ?_
  obtain ⟨m, hm, hm10⟩ : ∃ m : Nat, max n 0 = m ∧ m < 10 := ⟨(max n 0).toNat, by omega, by omega⟩
  have e0 : (if (0 : Int) > n then 0 else n) = (m : Int) := by split <;> omega
  have hw := wrap_in (n := (m : Int) + 1) (by omega) (by omega)
  have h1 : (m : Int) ≤ (m : Int) + 1 := by omega
  have h2 : (m : Int) + 1 ≤ 10 := by omega
  have h3 : ((m : Int) + 1).toNat = m + 1 := by omega
  have h4 : (0 : Int) ≤ (m : Int) + 1 := by omega
  have hn' : decide (n < 10) = true := by simpa using hn
  refine wlk (And.intro hn' GVaH30.down) ?_
  · refine wlk (And.intro e0 (And.intro hw (And.intro h1 (And.intro h2 (And.intro h3 (And.intro h4 GVaH30.down)))))) ?_
    refine rtr GVaH30.down ?_
    refine ⟨?_, rfl⟩
    rw [tenth m hm10, dec_small hn]
    congr 4
    omega
theorem rdec_ok (σ : List AE) : ∀ (k : Nat) (n : Int), n < 10 ^ (k + 1) → -9223372036854775808 ≤ n → n ≤ 9223372036854775807 → k ≤ 30 → Gives Tryz.prog 30 [.int .i64 n] σ (.str (dec n)) := by
  intro k
  induction k with
  | zero => intro n hn _ _ _; exact rdec_small n σ (by simpa using hn)
  | succ k ih =>
    intro n hn h0 h1 hk
    by_cases hs : n < 10
    · exact rdec_small n σ hs
    refine ent Tryz.func30 Tryz.ntmps30 Tryz.results30 ?_
    have hs' : decide (n < 10) = false := by simpa using hs
    have q1 : n.tdiv 10 = n / 10 := by rw [Int.tdiv_eq_ediv_of_nonneg (by omega)]
    have q2 : n.tmod 10 = n % 10 := by rw [Int.tmod_eq_emod_of_nonneg (by omega)]
    have q3 : IntKind.i64.wrap (n / 10) = n / 10 := wrap_in (by omega) (by omega)
    have q4 : IntKind.i64.wrap (n % 10 + 1) = n % 10 + 1 := wrap_in (by omega) (by omega)
    have h10 : (10 : Int) ≠ 0 := by omega
    obtain ⟨m, hm, hm10⟩ : ∃ m : Nat, n % 10 = m ∧ m < 10 := ⟨(n % 10).toNat, by omega, by omega⟩
    have a1 : (m : Int) ≤ (m : Int) + 1 := by omega
    have a2 : (m : Int) + 1 ≤ 10 := by omega
    have a3 : ((m : Int) + 1).toNat = m + 1 := by omega
    have a4 : (0 : Int) ≤ (m : Int) + 1 := by omega
    have hlt : n / 10 < 10 ^ (k + 1) := by
      rw [Int.pow_succ] at hn
      omega
    have hlen := dec_len k (n / 10) hlt
    have a5 : (dec (n / 10)).length + 1 ≤ 9223372036854775807 := by omega
    rw [hm] at q4
    refine wlk (And.intro hs' (And.intro q1 (And.intro q2 (And.intro q3 (And.intro hm (And.intro q4 (And.intro a1 (And.intro a2 (And.intro a3 (And.intro a4 (And.intro h10 GVaH30.down))))))))))) ?_
    refine cll (ih (n / 10) hlt (by omega) (by omega) (by omega)) ?_
    refine wlk (And.intro hs' (And.intro q1 (And.intro q2 (And.intro q3 (And.intro hm (And.intro q4 (And.intro a1 (And.intro a2 (And.intro a3 (And.intro a4 (And.intro h10 (And.intro (tenth m hm10) (And.intro a5 GVaH30.down))))))))))))) ?_
    refine rtr GVaH30.down ?_
    refine ⟨?_, rfl⟩
    rw [dec_big hs, hm, Int.toNat_natCast]
/-- A row's weight: the bytes of its texts, and one more for each. -/
def lens (l : List (List UInt8)) : Nat := (l.map fun x => x.length + 1).sum
/-- The marks as they are told. -/
def pfx : List (List UInt8) → List UInt8
  | [] => []
  | x :: r => 45 :: (x ++ Lib.joinTail [46] r)
theorem joinTail_len (r : List (List UInt8)) : (Lib.joinTail [46] r).length = lens r := by
  induction r with
  | nil => rfl
  | cons x r ih =>
    have e : Lib.joinTail [46] (x :: r) = ([46] ++ x) ++ Lib.joinTail [46] r := by simp [Lib.joinTail]
    rw [e, List.length_append, ih]
    simp [lens]
theorem pfx_len (l : List (List UInt8)) : (pfx l).length = lens l := by
  cases l with
  | nil => rfl
  | cons x r => simp [pfx, joinTail_len, lens]; omega
theorem pfx_join {l : List (List UInt8)} (h : l ≠ []) : pfx l = 45 :: Lib.join l [46] := by
  cases l with
  | nil => exact absurd rfl h
  | cons x r => rw [Lib.join_cons]; rfl
theorem pfx_snoc (l : List (List UInt8)) (x : List UInt8) : pfx (l ++ [x]) = pfx l ++ [if l = [] then 45 else 46] ++ x := by
  cases l with
  | nil => simp [pfx, Lib.joinTail]
  | cons y r => simp [pfx, Lib.joinTail, List.map_append]
theorem lens_take (l : List (List UInt8)) (k : Nat) : lens (l.take k) ≤ lens l := by
  have : lens l = lens (l.take k) + lens (l.drop k) := by
    conv => lhs; rw [← List.take_append_drop k l]
    simp only [lens, List.map_append, List.sum_append]
  omega
theorem lens_length (l : List (List UInt8)) : l.length ≤ lens l := by
  induction l with
  | nil => simp
  | cons x r ih => simp [lens] at ih ⊢; omega
theorem lens_mem {l : List (List UInt8)} {x : List UInt8} (h : x ∈ l) : x.length < lens l := by
  induction l with
  | nil => cases h
  | cons y r ih =>
    rcases List.mem_cons.1 h with rfl | h
    · simp [lens]; omega
    · have := ih h; simp [lens] at this ⊢; omega
/-- A version's text. -/
def textV (v : Ver) : List UInt8 := dec v.major ++ [46] ++ dec v.minor ++ [46] ++ dec v.patch ++ pfx v.pre
def in64 (n : Int) : Prop := -9223372036854775808 ≤ n ∧ n ≤ 9223372036854775807
/-- Its numbers are ints, its marks not too great. -/
structure VOk (v : Ver) : Prop where
  a : in64 v.major
  b : in64 v.minor
  c : in64 v.patch
  p : lens v.pre ≤ 1099511627776
theorem dec_le {n : Int} (h : in64 n) : (dec n).length ≤ 19 := dec_len 18 n (by have := h.2; omega)
theorem max_eq (n : Int) : (if (0 : Int) > n then 0 else n) = max n 0 := by split <;> omega
theorem itoaD_ok (n : Int) (σ : List AE) (h0 : -9223372036854775808 ≤ n) (h1 : n ≤ 9223372036854775807) (hG : GV σ) : Gives Tryz.prog 132 [.int .i64 (max n 0)] σ (.str (dec n)) := itoa_ok (max n 0) σ (by omega) (by omega) hG
theorem text9_ok (v : Ver) (t : Tag) (σ : List AE) (hv : VOk v) (hG : GV σ) : Gives Tryz.prog 77 [encV t v] σ (.str (textV v)) := by
  refine Gives_drop (hb := fun hb => trivial) ?_
  unfold encV
  obtain ⟨⟨a0, a1⟩, ⟨b0, b1⟩, ⟨c0, c1⟩, hp⟩ := hv
  have la := dec_le ⟨a0, a1⟩
  have lb := dec_le ⟨b0, b1⟩
  have lc := dec_le ⟨c0, c1⟩
  have k1 : (dec v.major).length + 1 ≤ 9223372036854775807 := by omega
  have k2 : (dec v.major).length + (1 + (dec v.minor).length) ≤ 9223372036854775807 := by omega
  have k3 : (dec v.major).length + (1 + ((dec v.minor).length + 1)) ≤ 9223372036854775807 := by omega
  have k4 : (dec v.major).length + (1 + ((dec v.minor).length + (1 + (dec v.patch).length))) ≤ 9223372036854775807 := by omega
  refine ent Tryz.func77 Tryz.ntmps77 Tryz.results77 ?_
  refine wlk (And.intro @max_eq GVaH77.down) ?_
  refine cll (itoaD_ok v.major _ (by omega) (by omega) (hG.app _)) ?_
  refine wlk (And.intro @max_eq (And.intro @k1 GVaH77.down)) ?_
  refine cll (itoaD_ok v.minor _ (by omega) (by omega) (hG.app _)) ?_
  refine wlk (And.intro @max_eq (And.intro @k2 (And.intro @k3 GVaH77.down))) ?_
  refine cll (itoaD_ok v.patch _ (by omega) (by omega) (hG.app _)) ?_
  refine wlk (And.intro @k4 (And.intro @strs_len GVaH77.down)) ?_
  have hjl : v.pre ≠ [] → (Lib.join v.pre [46]).length + 1 = lens v.pre := fun h => by
    have := congrArg List.length (pfx_join h)
    rw [pfx_len] at this
    simpa using this.symm
  refine AWP_cond rfl (fun h => ?_) (fun h => ?_)
  · have hne : v.pre ≠ [] := by intro e; simp [e] at h
    have hj := hjl hne
    have hll := lens_length v.pre
    have k5 : 1 + (Lib.join v.pre [46]).length ≤ 9223372036854775807 := by omega
    have k6 : (dec v.major).length + (1 + ((dec v.minor).length + (1 + ((dec v.patch).length + (1 + (Lib.join v.pre [46]).length))))) ≤ 9223372036854775807 := by omega
    have k7 : (dec v.major).length + (1 + ((dec v.minor).length + (1 + ((dec v.patch).length + ((Lib.join v.pre [46]).length + 1))))) ≤ 9223372036854775807 := by omega
    refine wlk GVaH77.down ?_
    refine cll (join_ok 46 v.pre t _ (by omega) (by omega)) ?_
    refine wlk (And.intro @k5 (And.intro @k6 (And.intro @k7 GVaH77.down))) ?_
    refine rtrb GVaH77.down ?_
    refine Vle.of_eq ?_
    simp [textV, pfx_join hne]
  · have he : v.pre = [] := by cases hp2 : v.pre with
      | nil => rfl
      | cons x r => rw [hp2] at h; simp at h
    refine wlk GVaH77.down ?_
    refine rtrb GVaH77.down ?_
    refine Vle.of_eq ?_
    simp [textV, he, pfx]
theorem rtext9_ok (v : Ver) (t : Tag) (σ : List AE) (hv : VOk v) : Gives Tryz.prog 44 [encV t v] σ (.str (textV v)) := by
  refine Gives_drop (hb := fun hb => trivial) ?_
  unfold encV
  obtain ⟨⟨a0, a1⟩, ⟨b0, b1⟩, ⟨c0, c1⟩, hp⟩ := hv
  have la := dec_le ⟨a0, a1⟩
  have lb := dec_le ⟨b0, b1⟩
  have lc := dec_le ⟨c0, c1⟩
  have k1 : (dec v.major).length + 1 ≤ 9223372036854775807 := by omega
  have k2 : (dec v.major).length + (1 + (dec v.minor).length) ≤ 9223372036854775807 := by omega
  have k3 : (dec v.major).length + (1 + ((dec v.minor).length + 1)) ≤ 9223372036854775807 := by omega
  have k4 : (dec v.major).length + (1 + ((dec v.minor).length + (1 + (dec v.patch).length))) ≤ 9223372036854775807 := by omega
  have hbase : textV v = (dec v.major ++ (46 :: (dec v.minor ++ (46 :: dec v.patch)))) ++ pfx v.pre := by simp [textV]
  have hbl : (dec v.major ++ (46 :: (dec v.minor ++ (46 :: dec v.patch)))).length ≤ 60 := by simp; omega
  refine ent Tryz.func44 Tryz.ntmps44 Tryz.results44 ?_
  refine wlk GVaH44.down ?_
  refine cll (rdec_ok _ 18 v.major (by omega) (by omega) (by omega) (by omega)) ?_
  refine wlk (And.intro @k1 GVaH44.down) ?_
  refine cll (rdec_ok _ 18 v.minor (by omega) (by omega) (by omega) (by omega)) ?_
  refine wlk (And.intro @k2 (And.intro @k3 GVaH44.down)) ?_
  refine cll (rdec_ok _ 18 v.patch (by omega) (by omega) (by omega) (by omega)) ?_
  refine wlk (And.intro @k4 GVaH44.down) ?_
  generalize dec v.major ++ (46 :: (dec v.minor ++ (46 :: dec v.patch))) = base at hbase hbl ⊢
  have hll := lens_length v.pre
  refine AWP_loop (α := { k : Nat // k ≤ v.pre.length }) (fun k => [.junk, .ptr σ.length 0, .junk, .str (base ++ pfx (v.pre.take k.1)), .int .i64 (k.1 : Int), .junk, .junk, .junk, .junk, .junk, .junk, .junk, .junk, .junk, .junk, .junk, .junk, .junk, .junk, .junk, .junk, .junk, .junk, .junk, .junk, .junk, .junk, .junk, .junk, .junk, .junk, .junk, .junk, .junk, .junk, .junk, .junk, .junk, .junk]) (fun k => σ ++ [.box [.int .i64 v.major, .int .i64 v.minor, .int .i64 v.patch, .sl t (strs v.pre)]]) (fun k => v.pre.length - k.1) ⟨0, by omega⟩ (.same ?_) (fun _ => by simp) ?_
  · simp only [List.take_zero, pfx, List.append_nil]
    exact lle
  · rintro ⟨k, hk⟩
    have h7 := lens_take v.pre k
    have h8 := lens_take v.pre (k + 1)
    have h9 := pfx_len (v.pre.take k)
    have e1 : base.length + (pfx (v.pre.take k)).length + 1 ≤ 9223372036854775807 := by omega
    have e2 : base.length + ((pfx (v.pre.take k)).length + 1) ≤ 9223372036854775807 := by omega
    refine wlk (And.intro @strs_len GVaH44.down) ?_
    refine AWP_cond rfl (fun h => ?_) (fun h => ?_)
    · have hlt : k < v.pre.length := by simpa using h
      have hmem : v.pre.getD k [] ∈ v.pre := by rw [List.getD_eq_getElem?_getD, List.getElem?_eq_getElem hlt]; exact List.getElem_mem _
      have hlx := lens_mem hmem
      have e3 : base.length + ((pfx (v.pre.take k)).length + (1 + (v.pre.getD k []).length)) ≤ 9223372036854775807 := by omega
      have hs : pfx (v.pre.take (k + 1)) = pfx (v.pre.take k) ++ [if k = 0 then 45 else 46] ++ v.pre.getD k [] := by
        rw [List.take_succ_eq_append_getElem hlt, pfx_snoc, List.getD_eq_getElem?_getD, List.getElem?_eq_getElem hlt, Option.getD_some]
        have : (v.pre.take k = []) = (k = 0) := by
          rw [eq_iff_iff, List.take_eq_nil_iff]
          constructor
          · rintro (h | h)
            · exact h
            · rw [h] at hlt; simp at hlt
          · exact .inl
        simp only [this]
      refine wlk GVaH44.down ?_
      refine AWP_cond rfl (fun h => ?_) (fun h => ?_)
      · have hk0 : k = 0 := by simpa using h
        refine wlk (And.intro e1 (And.intro e2 (And.intro e3 (And.intro hlt (And.intro @strs_len (And.intro @strs_flat (And.intro (strs_getD hlt) GVaH44.down))))))) ?_
        refine ⟨⟨k + 1, by omega⟩, by simp; omega, ?_⟩
        rw [wrap_in (by omega) (by omega)]
        simp only [hs, if_pos hk0, List.append_assoc, List.cons_append, List.nil_append]
        exact .same (by exact lle)
      · have hk0 : ¬ k = 0 := by simpa using h
        refine wlk (And.intro e1 (And.intro e2 (And.intro e3 (And.intro hlt (And.intro @strs_len (And.intro @strs_flat (And.intro (strs_getD hlt) GVaH44.down))))))) ?_
        refine ⟨⟨k + 1, by omega⟩, by simp; omega, ?_⟩
        rw [wrap_in (by omega) (by omega)]
        simp only [hs, if_neg hk0, List.append_assoc, List.cons_append, List.nil_append]
        exact .same (by exact lle)
    · have hk' : k = v.pre.length := by have : ¬ k < v.pre.length := by simpa using h
                                        omega
      subst hk'
      refine wlk GVaH44.down ?_
      refine rtrb GVaH44.down ?_
      refine Vle.of_eq ?_
      rw [hbase, List.take_length]
end Go.Proofs.YtdjjlbjagaadaaaGreatDoor.A
/- The order of versions: ver.Cmp and the reference's Cmp. -/
namespace Go.Proofs.YtdjjlbjagaadaaaGreatDoor.A
open Go Go.RowKit
set_option maxRecDepth 100000
set_option linter.unusedSimpArgs false
set_option linter.unusedVariables false

def GVaI101 := PLift.up <| And.intro F3 <| And.intro F9 <| And.intro F33 <| And.intro F35 <| And.intro F117 <| F210
def GVaI45 := PLift.up <| And.intro F3 <| And.intro F4 <| And.intro F9 <| And.intro F33 <| F35
def cmpN (a b : Ver) : Int := orI [Lib.compareInt a.major b.major, Lib.compareInt a.minor b.minor, Lib.compareInt a.patch b.patch]
/-- The order of two versions. -/
def cmpV (a b : Ver) : Int := if cmpN a b ≠ 0 then cmpN a b else
  if a.pre.length = 0 ∨ b.pre.length = 0 then Lib.compareInt b.pre.length 0 - Lib.compareInt a.pre.length 0 else cmpL marksV a.pre b.pre
theorem compareInt_in (x y : Int) : -1 ≤ Lib.compareInt x y ∧ Lib.compareInt x y ≤ 1 := by
  unfold Lib.compareInt
  split
  · omega
  · split <;> omega
theorem vcmp_ok (a b : Ver) (t u : Tag) (σ : List AE) (ha : VOk a) (hb : VOk b) : Gives Tryz.prog 101 [encV t a, encV u b] σ (.int .i64 (cmpV a b)) := by
  refine Gives_drop (hb := fun hb => trivial) ?_
  unfold encV
  have h1 := lens_length a.pre
  have h2 := lens_length b.pre
  have h3 := ha.p
  have h4 := hb.p
  refine ent Tryz.func101 Tryz.ntmps101 Tryz.results101 ?_
  refine wlk GVaI101.down ?_
  refine cll (compare_ok a.major b.major _) ?_
  refine wlk GVaI101.down ?_
  refine cll (compare_ok a.minor b.minor _) ?_
  refine wlk GVaI101.down ?_
  refine cll (compare_ok a.patch b.patch _) ?_
  refine wlk GVaI101.down ?_
  refine cll (or_ok [Lib.compareInt a.major b.major, Lib.compareInt a.minor b.minor, Lib.compareInt a.patch b.patch] .full _ (by simp)) ?_
  refine wlk GVaI101.down ?_
  refine AWP_cond rfl (fun h => ?_) (fun h => ?_)
  · have hn : cmpN a b ≠ 0 := by simpa [cmpN] using h
    refine wlk GVaI101.down ?_
    refine rtrb GVaI101.down ?_
    refine Vle.of_eq ?_
    rw [cmpV, if_pos hn]
    rfl
  · have hn : ¬ cmpN a b ≠ 0 := by simpa [cmpN] using h
    refine wlk (And.intro @strs_len GVaI101.down) ?_
    refine AWP_cond rfl (fun h => ?_) (fun h => ?_)
    · have hz : a.pre.length = 0 ∨ b.pre.length = 0 := by
        simp at h
        simpa using h
      refine wlk (And.intro @strs_len GVaI101.down) ?_
      refine cll (compare_ok b.pre.length 0 _) ?_
      refine wlk (And.intro @strs_len GVaI101.down) ?_
      refine cll (compare_ok a.pre.length 0 _) ?_
      have i1 := compareInt_in b.pre.length 0
      have i2 := compareInt_in a.pre.length 0
      refine wlk GVaI101.down ?_
      refine rtrb GVaI101.down ?_
      refine Vle.of_eq ?_
      rw [wrap_in (by omega) (by omega), cmpV, if_neg hn, if_pos hz]
    · have hz : ¬ (a.pre.length = 0 ∨ b.pre.length = 0) := by
        simp at h
        simpa using h
      refine wlk GVaI101.down ?_
      refine cll (compareFunc_ok _ marksV a.pre b.pre t u _ (by omega) (fun x hx y hy => marks_ok x y _ (by have := lens_mem hx; omega) (by have := lens_mem hy; omega))) ?_
      refine wlk GVaI101.down ?_
      refine rtrb GVaI101.down ?_
      refine Vle.of_eq ?_
      rw [cmpV, if_neg hn, if_neg hz]
theorem cmpI_ok (a b : Int) (σ : List AE) : Gives Tryz.prog 102 [.int .i64 a, .int .i64 b] σ (.int .i64 (Lib.compareInt a b)) := cmp_ok a b σ
theorem cmpN_1 {a b : Ver} (h : Lib.compareInt a.major b.major ≠ 0) : cmpV a b = Lib.compareInt a.major b.major := by
  have : cmpN a b = Lib.compareInt a.major b.major := by simp [cmpN, orI, h]
  rw [cmpV, this, if_pos h]
theorem cmpN_2 {a b : Ver} (h1 : Lib.compareInt a.major b.major = 0) (h : Lib.compareInt a.minor b.minor ≠ 0) : cmpV a b = Lib.compareInt a.minor b.minor := by
  have : cmpN a b = Lib.compareInt a.minor b.minor := by simp [cmpN, orI, h1, h]
  rw [cmpV, this, if_pos h]
theorem cmpN_3 {a b : Ver} (h1 : Lib.compareInt a.major b.major = 0) (h2 : Lib.compareInt a.minor b.minor = 0) (h : Lib.compareInt a.patch b.patch ≠ 0) : cmpV a b = Lib.compareInt a.patch b.patch := by
  have : cmpN a b = Lib.compareInt a.patch b.patch := by simp [cmpN, orI, h1, h2, h]
  rw [cmpV, this, if_pos h]
theorem cmpN_0 {a b : Ver} (h1 : Lib.compareInt a.major b.major = 0) (h2 : Lib.compareInt a.minor b.minor = 0) (h3 : Lib.compareInt a.patch b.patch = 0) : cmpV a b = if a.pre.length = 0 ∨ b.pre.length = 0 then Lib.compareInt b.pre.length 0 - Lib.compareInt a.pre.length 0 else cmpL marksV a.pre b.pre := by
  have : cmpN a b = 0 := by simp [cmpN, orI, h1, h2, h3]
  rw [cmpV, this, if_neg (by simp)]
theorem cmp_zero (p q : Nat) (hz : p = 0 ∨ q = 0) : Lib.compareInt q p * (if ((p : Int) != (q : Int)) = true then 1 else 0) = Lib.compareInt q 0 - Lib.compareInt p 0 := by
  rcases hz with rfl | rfl
  · by_cases hq : q = 0
    · subst hq; simp [Lib.compareInt]
    · have h1 : ¬ ((q : Int) < 0) := by omega
      have h2 : (q : Int) > 0 := by omega
      have h3 : ((0 : Nat) : Int) != (q : Int) := by simp; omega
      rw [if_pos h3]
      simp only [Lib.compareInt, nc0, h1, h2, if_true, if_false]
      simp
  · by_cases hq : p = 0
    · subst hq; simp [Lib.compareInt]
    · have h1 : ((0 : Nat) : Int) < (p : Int) := by omega
      have h2 : ¬ ((p : Int) < 0) := by omega
      have h4 : (p : Int) > 0 := by omega
      have h3 : (p : Int) != ((0 : Nat) : Int) := by simp; omega
      rw [if_pos h3]
      simp only [Lib.compareInt, nc0] at h1 ⊢
      simp only [h1, h2, h4, if_true, if_false]
      simp
theorem cmpL_end (c : List UInt8 → List UInt8 → Int) (a b : List (List UInt8)) (h : a = [] ∨ b = []) : cmpL c a b = Lib.compareInt a.length b.length := by
  cases a with
  | nil => cases b with
    | nil => rfl
    | cons y b => simp [cmpL, Lib.compareInt]
  | cons x a => cases b with
    | nil => simp [cmpL, Lib.compareInt]; omega
    | cons y b => simp at h
theorem rcmp_ok (a b : Ver) (t u : Tag) (σ : List AE) (ha : VOk a) (hb : VOk b) : Gives Tryz.prog 45 [encV t a, encV u b] σ (.int .i64 (cmpV a b)) := by
  refine Gives_drop (hb := fun hb => trivial) ?_
  unfold encV
  have h1 := lens_length a.pre
  have h2 := lens_length b.pre
  have h3 := ha.p
  have h4 := hb.p
  refine ent Tryz.func45 Tryz.ntmps45 Tryz.results45 ?_
  refine wlk GVaI45.down ?_
  refine cll (cmpI_ok a.major b.major _) ?_
  refine wlk GVaI45.down ?_
  refine AWP_cond rfl (fun h => ?_) (fun h => ?_)
  · refine wlk GVaI45.down ?_
    refine rtrb GVaI45.down ?_
    exact Vle.of_eq (by rw [cmpN_1 (by simpa using h)])
  · have hn1 : Lib.compareInt a.major b.major = 0 := by simpa using h
    refine wlk GVaI45.down ?_
    refine cll (cmpI_ok a.minor b.minor _) ?_
    refine wlk GVaI45.down ?_
    refine AWP_cond rfl (fun h => ?_) (fun h => ?_)
    · refine wlk GVaI45.down ?_
      refine rtrb GVaI45.down ?_
      exact Vle.of_eq (by rw [cmpN_2 hn1 (by simpa using h)])
    · have hn2 : Lib.compareInt a.minor b.minor = 0 := by simpa using h
      refine wlk GVaI45.down ?_
      refine cll (cmpI_ok a.patch b.patch _) ?_
      refine wlk GVaI45.down ?_
      refine AWP_cond rfl (fun h => ?_) (fun h => ?_)
      · refine wlk GVaI45.down ?_
        refine rtrb GVaI45.down ?_
        exact Vle.of_eq (by rw [cmpN_3 hn1 hn2 (by simpa using h)])
      · have hn3 : Lib.compareInt a.patch b.patch = 0 := by simpa using h
        refine wlk (And.intro @strs_len GVaI45.down) ?_
        refine AWP_cond rfl (fun h => ?_) (fun h => ?_)
        · have hz : a.pre.length = 0 ∨ b.pre.length = 0 := by
            simp at h
            simpa using h
          refine wlk (And.intro @strs_len GVaI45.down) ?_
          refine cll (cmpI_ok b.pre.length a.pre.length _) ?_
          refine wlk (And.intro @strs_len GVaI45.down) ?_
          refine cll (roneIf_ok _ _) ?_
          have i1 := compareInt_in b.pre.length a.pre.length
          refine wlk GVaI45.down ?_
          refine rtrb GVaI45.down ?_
          refine Vle.of_eq ?_
          rw [cmpN_0 hn1 hn2 hn3, if_pos hz]
          congr 1
          have e := cmp_zero a.pre.length b.pre.length hz
          rw [e]
          have i2 := compareInt_in b.pre.length 0
          have i3 := compareInt_in a.pre.length 0
          exact wrap_in (by omega) (by omega)
        · have hz : ¬ (a.pre.length = 0 ∨ b.pre.length = 0) := by
            simp at h
            simpa using h
          refine wlk GVaI45.down ?_
          refine AWP_loop (α := { k : Nat // k ≤ a.pre.length ∧ k ≤ b.pre.length ∧ cmpL marksV a.pre b.pre = cmpL marksV (a.pre.drop k) (b.pre.drop k) }) (fun k => [.junk, .junk, .ptr σ.length 0, .ptr (σ.length + 1) 0, .int .i64 0, .junk, .junk, .junk, .int .i64 (k.1 : Int), .junk, .junk, .junk, .junk, .junk, .junk, .junk, .junk, .junk, .junk, .junk, .junk, .junk, .junk, .junk, .junk, .junk, .junk, .junk, .junk, .junk, .junk, .junk, .junk, .junk, .junk, .junk, .junk, .junk, .junk, .junk, .junk, .junk, .junk, .junk, .junk, .junk, .junk, .junk, .junk, .junk, .junk, .junk, .junk, .junk, .junk, .junk, .junk, .junk, .junk, .junk, .junk, .junk, .junk, .junk, .junk, .junk, .junk, .junk, .junk, .junk, .junk, .junk, .junk, .junk, .junk, .junk, .junk, .junk, .junk, .junk, .junk, .junk, .junk, .junk, .junk, .junk, .junk, .junk, .junk, .junk, .junk, .junk, .junk, .junk, .junk, .junk, .junk, .junk, .junk, .junk, .junk, .junk, .junk, .junk, .junk, .junk, .junk, .junk, .junk, .junk, .junk, .junk, .junk, .junk, .junk, .junk, .junk, .junk, .junk, .junk, .junk, .junk]) (fun k => σ ++ [.box [.int .i64 a.major, .int .i64 a.minor, .int .i64 a.patch, .sl t (strs a.pre)], .box [.int .i64 b.major, .int .i64 b.minor, .int .i64 b.patch, .sl u (strs b.pre)]]) (fun k => a.pre.length - k.1) ⟨0, by omega, by omega, by simp⟩ (.same ?_) (fun _ => by simp) ?_
          · exact lle
          · rintro ⟨k, hka, hkb, hd⟩
            refine wlk (And.intro @strs_len GVaI45.down) ?_
            refine AWP_cond rfl (fun h => ?_) (fun h => ?_)
            · have hlt : k < a.pre.length ∧ k < b.pre.length := by simpa using h
              obtain ⟨hla, hlb⟩ := hlt
              have hma : a.pre.getD k [] ∈ a.pre := by rw [List.getD_eq_getElem?_getD, List.getElem?_eq_getElem hla]; exact List.getElem_mem _
              have hmb : b.pre.getD k [] ∈ b.pre := by rw [List.getD_eq_getElem?_getD, List.getElem?_eq_getElem hlb]; exact List.getElem_mem _
              have lma := lens_mem hma
              have lmb := lens_mem hmb
              rw [cmpL_drop marksV hla hlb] at hd
              refine wlk (And.intro hla (And.intro hlb (And.intro @strs_len (And.intro @strs_flat (And.intro (strs_getD hla) (And.intro (strs_getD hlb) GVaI45.down)))))) ?_
              generalize a.pre.getD k [] = x at *
              generalize b.pre.getD k [] = y at *
              refine cll (rdigits_ok x _ (by omega)) ?_
              refine wlk GVaI45.down ?_
              refine cll (rdigits_ok y _ (by omega)) ?_
              refine wlk GVaI45.down ?_
              refine AWP_cond rfl (fun h => ?_) (fun h => ?_)
              · have hm : marksV x y = orI [Lib.compareInt x.length y.length, cmpB x y] := by rw [marksV, if_pos h]
                refine wlk GVaI45.down ?_
                refine cll (cmpI_ok x.length y.length _) ?_
                refine wlk GVaI45.down ?_
                refine AWP_cond rfl (fun h => ?_) (fun h => ?_)
                · have hm2 : marksV x y = cmpB x y := by
                    have : Lib.compareInt x.length y.length = 0 := by simpa using h
                    rw [hm]
                    simp [orI, this]
                    exact fun h => h.symm
                  refine wlk GVaI45.down ?_
                  refine cll (text_ok x y _) ?_
                  refine wlk GVaI45.down ?_
                  rw [← hm2]
                  refine AWP_cond rfl (fun h => ?_) (fun h => ?_)
                  · refine wlk GVaI45.down ?_
                    refine rtrb GVaI45.down ?_
                    exact Vle.of_eq (by rw [cmpN_0 hn1 hn2 hn3, if_neg hz, hd, if_pos (by simpa using h)])
                  · rw [if_neg (by simpa using h)] at hd
                    refine wlk GVaI45.down ?_
                    refine ⟨⟨k + 1, by omega, by omega, hd⟩, by simp; omega, ?_⟩
                    rw [wrap_in (by omega) (by omega)]
                    exact .same (by exact lle)
                · have hm2 : marksV x y = Lib.compareInt x.length y.length := by
                    have : Lib.compareInt x.length y.length ≠ 0 := by simpa using h
                    rw [hm]
                    simp [orI, this]
                  refine wlk GVaI45.down ?_
                  rw [← hm2]
                  refine AWP_cond rfl (fun h => ?_) (fun h => ?_)
                  · refine wlk GVaI45.down ?_
                    refine rtrb GVaI45.down ?_
                    exact Vle.of_eq (by rw [cmpN_0 hn1 hn2 hn3, if_neg hz, hd, if_pos (by simpa using h)])
                  · rw [if_neg (by simpa using h)] at hd
                    refine wlk GVaI45.down ?_
                    refine ⟨⟨k + 1, by omega, by omega, hd⟩, by simp; omega, ?_⟩
                    rw [wrap_in (by omega) (by omega)]
                    exact .same (by exact lle)
              · have hxy := h
                refine wlk GVaI45.down ?_
                refine cll (rdigits_ok x _ (by omega)) ?_
                refine wlk GVaI45.down ?_
                refine AWP_cond rfl (fun h => ?_) (fun h => ?_)
                · have hm : marksV x y = -1 := by rw [marksV, hxy, if_neg (by simp), if_pos h]
                  rw [hm, if_pos (by simp)] at hd
                  refine wlk GVaI45.down ?_
                  refine rtrb GVaI45.down ?_
                  exact Vle.of_eq (by rw [cmpN_0 hn1 hn2 hn3, if_neg hz, hd])
                · have hx := h
                  refine wlk GVaI45.down ?_
                  refine cll (rdigits_ok y _ (by omega)) ?_
                  refine wlk GVaI45.down ?_
                  refine AWP_cond rfl (fun h => ?_) (fun h => ?_)
                  · have hm : marksV x y = 1 := by rw [marksV, hxy, hx, if_neg (by simp), if_neg (by simp), if_pos h]
                    rw [hm, if_pos (by simp)] at hd
                    refine wlk GVaI45.down ?_
                    refine rtrb GVaI45.down ?_
                    exact Vle.of_eq (by rw [cmpN_0 hn1 hn2 hn3, if_neg hz, hd])
                  · have hm2 : marksV x y = cmpB x y := by rw [marksV, hxy, hx, h, if_neg (by simp), if_neg (by simp), if_neg (by simp)]
                    refine wlk GVaI45.down ?_
                    refine cll (text_ok x y _) ?_
                    refine wlk GVaI45.down ?_
                    rw [← hm2]
                    refine AWP_cond rfl (fun h => ?_) (fun h => ?_)
                    · refine wlk GVaI45.down ?_
                      refine rtrb GVaI45.down ?_
                      exact Vle.of_eq (by rw [cmpN_0 hn1 hn2 hn3, if_neg hz, hd, if_pos (by simpa using h)])
                    · rw [if_neg (by simpa using h)] at hd
                      refine wlk GVaI45.down ?_
                      refine ⟨⟨k + 1, by omega, by omega, hd⟩, by simp; omega, ?_⟩
                      rw [wrap_in (by omega) (by omega)]
                      exact .same (by exact lle)
            · refine wlk (And.intro @strs_len GVaI45.down) ?_
              refine cll (cmpI_ok a.pre.length b.pre.length _) ?_
              refine wlk GVaI45.down ?_
              refine rtrb GVaI45.down ?_
              refine Vle.of_eq ?_
              rw [cmpN_0 hn1 hn2 hn3, if_neg hz, hd]
              have hor : a.pre.drop k = [] ∨ b.pre.drop k = [] := by
                simp only [List.drop_eq_nil_iff]
                have : ¬ (k < a.pre.length ∧ k < b.pre.length) := by simpa using h
                omega
              rw [cmpL_end marksV _ _ hor]
              simp only [List.length_drop, Lib.compareInt]
              congr 1
              (repeat' split) <;> omega
end Go.Proofs.YtdjjlbjagaadaaaGreatDoor.A
/- The next version: ver.Next and the reference's Next; help.Strings, Version, LightV. -/
namespace Go.Proofs.YtdjjlbjagaadaaaGreatDoor.A
open Go Go.RowKit
set_option maxRecDepth 100000
set_option linter.unusedSimpArgs false
set_option linter.unusedVariables false

def GVaJ143 := PLift.up <| And.intro F3 <| And.intro F9 <| And.intro F33 <| F35
def GVaJ142 := PLift.up <| And.intro F3 <| And.intro F9 <| And.intro F33 <| And.intro F35 <| And.intro F207 <| F208
def GVaJ128 := PLift.up <| And.intro F3 <| And.intro F9 <| F33
def GVaJ71 := PLift.up <| And.intro F3 <| And.intro F9 <| And.intro F33 <| F35
def GVaJ25 := PLift.up <| And.intro F3 <| And.intro F9 <| And.intro F33 <| F35
/-- The version behind a version. -/
def nextV (v : Ver) (part : Int) : Ver :=
  if part = 0 then (if v.major < 999999999 then ⟨v.major + 1, 0, 0, []⟩ else ⟨v.major, v.minor, v.patch, []⟩)
  else if part = 1 then (if v.minor < 999999999 then ⟨v.major, v.minor + 1, 0, []⟩ else ⟨v.major, v.minor, v.patch, []⟩)
  else ⟨v.major, v.minor, if 999999999 ≤ v.patch then v.patch else v.patch + 1, []⟩
theorem rnext_ok (v : Ver) (t : Tag) (part : Int) (σ : List AE) (hv : VOk v) : Gives Tryz.prog 143 [encV t v, .int .i64 part] σ (encV .nil (nextV v part)) := by
  refine Gives_drop (hb := fun hb => by simp [bel, bels, bels2, tbel, encV, strs_bel]) ?_
  unfold encV
  obtain ⟨⟨a0, a1⟩, ⟨b0, b1⟩, ⟨c0, c1⟩, hp⟩ := hv
  refine ent Tryz.func143 Tryz.ntmps143 Tryz.results143 ?_
  refine wlk GVaJ143.down ?_
  refine AWP_cond rfl (fun h => ?_) (fun h => ?_)
  · have h0 : part = 0 ∧ v.major < 999999999 := by simpa using h
    refine wlk GVaJ143.down ?_
    refine rtrb GVaJ143.down ?_
    refine Vle.of_eq ?_
    rw [wrap_in (by omega) (by omega)]
    simp [nextV, h0.1, h0.2, strs]
  · have h0 : ¬ (part = 0 ∧ v.major < 999999999) := by simpa using h
    refine wlk GVaJ143.down ?_
    refine AWP_cond rfl (fun h => ?_) (fun h => ?_)
    · have h1 : part = 0 := by simpa using h
      have h2 : ¬ v.major < 999999999 := by omega
      refine wlk GVaJ143.down ?_
      refine rtrb GVaJ143.down ?_
      refine Vle.of_eq ?_
      simp only [nextV, h1, if_true, if_neg h2]
      rfl
    · have h1 : ¬ part = 0 := by simpa using h
      refine wlk GVaJ143.down ?_
      refine AWP_cond rfl (fun h => ?_) (fun h => ?_)
      · have h2 : part = 1 ∧ v.minor < 999999999 := by simpa using h
        refine wlk GVaJ143.down ?_
        refine rtrb GVaJ143.down ?_
        refine Vle.of_eq ?_
        rw [wrap_in (by omega) (by omega)]
        simp [nextV, h1, h2.1, h2.2, strs]
      · have h2 : ¬ (part = 1 ∧ v.minor < 999999999) := by simpa using h
        refine wlk GVaJ143.down ?_
        refine AWP_cond rfl (fun h => ?_) (fun h => ?_)
        · have h3 : part = 1 := by simpa using h
          have h4 : ¬ v.minor < 999999999 := by omega
          refine wlk GVaJ143.down ?_
          refine rtrb GVaJ143.down ?_
          refine Vle.of_eq ?_
          simp only [nextV, if_neg h1, h3, if_true, if_neg h4]
          rfl
        · have h3 : ¬ part = 1 := by simpa using h
          refine wlk GVaJ143.down ?_
          refine cll (more_ok v.patch _ c0) ?_
          refine wlk GVaJ143.down ?_
          refine rtrb GVaJ143.down ?_
          refine Vle.of_eq ?_
          simp only [nextV, if_neg h1, if_neg h3]
          rfl
def nx0 (v : Ver) : Nat → List V
  | 0 => [.int .i64 (v.major + 1), .int .i64 v.minor, .int .i64 v.patch, .sl .nil []]
  | 1 => [.int .i64 (v.major + 1), .int .i64 0, .int .i64 v.patch, .sl .nil []]
  | _ => [.int .i64 (v.major + 1), .int .i64 0, .int .i64 0, .sl .nil []]
def nx1 (v : Ver) : Nat → List V
  | 0 => [.int .i64 v.major, .int .i64 (v.minor + 1), .int .i64 v.patch, .sl .nil []]
  | _ => [.int .i64 v.major, .int .i64 (v.minor + 1), .int .i64 0, .sl .nil []]
theorem vnext_ok (v : Ver) (t : Tag) (part : Int) (σ : List AE) (hv : VOk v) : Gives Tryz.prog 142 [encV t v, .int .i64 part] σ (encV .nil (nextV v part)) := by
  refine Gives_drop (hb := fun hb => by simp [bel, bels, bels2, tbel, encV, strs_bel]) ?_
  unfold encV
  obtain ⟨⟨a0, a1⟩, ⟨b0, b1⟩, ⟨c0, c1⟩, hp⟩ := hv
  refine ent Tryz.func142 Tryz.ntmps142 Tryz.results142 ?_
  refine wlk GVaJ142.down ?_
  refine AWP_cond rfl (fun h => ?_) (fun h => ?_)
  · have h0 : ¬ part = 0 ∧ ¬ part = 1 := by simpa using h
    refine wlk GVaJ142.down ?_
    refine AWP_cond rfl (fun h => ?_) (fun h => ?_)
    · have h1 : 999999999 ≤ v.patch := by simpa using h
      refine wlk GVaJ142.down ?_
      refine rtrb GVaJ142.down ?_
      refine Vle.of_eq ?_
      simp only [nextV, if_neg h0.1, if_neg h0.2, if_pos h1]
      rfl
    · have h1 : ¬ 999999999 ≤ v.patch := by simpa using h
      have hw := wrap_in (n := v.patch + 1) (by omega) (by omega)
      have hw3 : IntKind.i64.wrap (2 + 1) = 3 := by rw [wrap_in (by omega) (by omega)]; rfl
      refine wlk (And.intro hw (And.intro hw3 GVaJ142.down)) ?_
      refine AWP_loop (α := Unit) (fun _ => [.junk, .junk, .ptr σ.length 0, .junk, .ptr (σ.length + 1) 0, .junk, .junk, .junk, .junk, .junk, .junk, .junk, .junk, .junk, .junk, .junk, .junk, .junk, .junk, .junk, .junk, .junk, .junk, .junk, .junk, .junk, .junk, .junk, .junk, .junk, .junk, .junk, .junk, .junk, .junk, .junk, .junk, .junk, .sl .ro [], .int .i64 0, .int .i64 0, .junk, .junk, .junk, .junk, .junk, .junk, .junk]) (fun _ => σ ++ [.box [.int .i64 v.major, .int .i64 v.minor, .int .i64 (v.patch + 1), .sl .nil []], .box [.int .i64 0, .int .i64 0, .int .i64 0, .sl .nil []]]) (fun _ => 0) () (.same ?_) (fun _ => by simp) ?_
      · exact lle
      · intro _
        refine wlk GVaJ142.down ?_
        refine rtrb GVaJ142.down ?_
        refine Vle.of_eq ?_
        simp only [nextV, if_neg h0.1, if_neg h0.2, if_neg h1]
        rfl
  · have h0 : part = 0 ∨ part = 1 := by
      have : ¬ (¬ part = 0 ∧ ¬ part = 1) := by simpa using h
      omega
    rcases h0 with rfl | rfl
    · refine wlk GVaJ142.down ?_
      refine AWP_cond rfl (fun h => ?_) (fun h => ?_)
      · have h1 : ¬ v.major < 999999999 := by simp at h; omega
        refine wlk GVaJ142.down ?_
        refine rtrb GVaJ142.down ?_
        refine Vle.of_eq ?_
        simp only [nextV, if_true, if_neg h1]
        rfl
      · have h1 : v.major < 999999999 := by simpa using h
        have hw := wrap_in (n := v.major + 1) (by omega) (by omega)
        have hw3 : IntKind.i64.wrap (0 + 1) = 1 := by rw [wrap_in (by omega) (by omega)]; rfl
        refine wlk (And.intro hw (And.intro hw3 GVaJ142.down)) ?_
        refine AWP_loop (α := { k : Nat // k ≤ 2 }) (fun k => [.junk, .junk, .ptr σ.length 0, .junk, .ptr (σ.length + 1) 0, .junk, .junk, .junk, .junk, .junk, .junk, .junk, .junk, .junk, .junk, .junk, .junk, .junk, .junk, .junk, .junk, .junk, .junk, .junk, .junk, .junk, .junk, .junk, .junk, .junk, .junk, .junk, .junk, .junk, .junk, .junk, .junk, .junk, .sl .ro [[.ptr σ.length 1], [.ptr σ.length 2]], .int .i64 2, .int .i64 (ik k.1), .junk, .junk, .junk, .junk, .junk, .junk, .junk]) (fun k => σ ++ [.box (nx0 v k.1), .box [.int .i64 0, .int .i64 0, .int .i64 0, .sl .nil []]]) (fun k => 2 - k.1) ⟨0, by omega⟩ (.same ?_) (fun _ => by simp) ?_
        · exact lle
        · rintro ⟨k, hk⟩
          have hk3 : k = 0 ∨ k = 1 ∨ k = 2 := by omega
          rcases hk3 with rfl | rfl | rfl
          · refine wlk (And.intro @ik.eq_def (And.intro @nx0.eq_def GVaJ142.down)) ?_
            refine ⟨⟨1, by omega⟩, by simp, ?_⟩
            rw [wrap_in (by omega) (by omega)]
            exact .same (by exact lle)
          · refine wlk (And.intro @ik.eq_def (And.intro @nx0.eq_def GVaJ142.down)) ?_
            refine ⟨⟨2, by omega⟩, by simp, ?_⟩
            rw [wrap_in (by omega) (by omega)]
            exact .same (by exact lle)
          · refine wlk (And.intro @ik.eq_def (And.intro @nx0.eq_def GVaJ142.down)) ?_
            refine rtrb GVaJ142.down ?_
            refine Vle.of_eq ?_
            simp only [nextV, if_true, if_pos h1]
            rfl
    · refine wlk GVaJ142.down ?_
      refine AWP_cond rfl (fun h => ?_) (fun h => ?_)
      · have h1 : ¬ v.minor < 999999999 := by simp at h; omega
        refine wlk GVaJ142.down ?_
        refine rtrb GVaJ142.down ?_
        refine Vle.of_eq ?_
        simp only [nextV, if_true, if_neg h1]
        rfl
      · have h1 : v.minor < 999999999 := by simpa using h
        have hw := wrap_in (n := v.minor + 1) (by omega) (by omega)
        have hw3 : IntKind.i64.wrap (1 + 1) = 2 := by rw [wrap_in (by omega) (by omega)]; rfl
        refine wlk (And.intro hw (And.intro hw3 GVaJ142.down)) ?_
        refine AWP_loop (α := { k : Nat // k ≤ 1 }) (fun k => [.junk, .junk, .ptr σ.length 0, .junk, .ptr (σ.length + 1) 0, .junk, .junk, .junk, .junk, .junk, .junk, .junk, .junk, .junk, .junk, .junk, .junk, .junk, .junk, .junk, .junk, .junk, .junk, .junk, .junk, .junk, .junk, .junk, .junk, .junk, .junk, .junk, .junk, .junk, .junk, .junk, .junk, .junk, .sl .ro [[.ptr σ.length 2]], .int .i64 1, .int .i64 (ik k.1), .junk, .junk, .junk, .junk, .junk, .junk, .junk]) (fun k => σ ++ [.box (nx1 v k.1), .box [.int .i64 0, .int .i64 0, .int .i64 0, .sl .nil []]]) (fun k => 1 - k.1) ⟨0, by omega⟩ (.same ?_) (fun _ => by simp) ?_
        · exact lle
        · rintro ⟨k, hk⟩
          have hk3 : k = 0 ∨ k = 1 := by omega
          rcases hk3 with rfl | rfl
          · refine wlk (And.intro @ik.eq_def (And.intro @nx1.eq_def GVaJ142.down)) ?_
            refine ⟨⟨1, by omega⟩, by simp, ?_⟩
            rw [wrap_in (by omega) (by omega)]
            exact .same (by exact lle)
          · refine wlk (And.intro @ik.eq_def (And.intro @nx1.eq_def GVaJ142.down)) ?_
            refine rtrb GVaJ142.down ?_
            refine Vle.of_eq ?_
            simp only [nextV, if_true, if_pos h1]
            rfl
theorem hstrings_ok (a b : List (List UInt8)) (t u : Tag) (σ : List AE) (ha : a.length ≤ 9223372036854775806) : Gives Tryz.prog 128 [.sl t (strs a), .sl u (strs b)] σ (.bool (a == b)) := by
  refine ent Tryz.func128 Tryz.ntmps128 Tryz.results128 ?_
  refine wlk (And.intro @strs_len GVaJ128.down) ?_
  refine AWP_cond rfl (fun h => ?_) (fun h => ?_)
  · refine wlk GVaJ128.down ?_
    refine rtr GVaJ128.down ?_
    refine ⟨?_, rfl⟩
    have : (a == b) = false := by
      rw [beq_eq_false_iff_ne]
      intro e
      rw [e] at h
      simp at h
    rw [this]
  · have hl : a.length = b.length := by have : ((a.length : Int)) = b.length := by simpa using h
                                        omega
    refine wlk GVaJ128.down ?_
    refine AWP_loop (α := { k : Nat // k ≤ a.length ∧ a.take k = b.take k }) (fun k => [.sl t (strs a), .sl u (strs b), .junk, .junk, .bool false, .int .i64 (k.1 : Int), .junk, .junk, .junk, .junk, .junk, .junk, .junk, .junk, .junk, .junk, .junk, .junk, .junk, .junk, .junk, .junk, .junk, .junk, .junk, .junk]) (fun _ => σ) (fun k => a.length - k.1) ⟨0, by omega, by simp⟩ (.same ?_) (fun _ => Nat.le_refl _) ?_
    · exact lle
    · rintro ⟨k, hk, hd⟩
      refine wlk (And.intro @strs_len GVaJ128.down) ?_
      refine AWP_cond rfl (fun h => ?_) (fun h => ?_)
      · have hla : k < a.length := by simpa using h
        have hlb : k < b.length := by omega
        refine wlk (And.intro hla (And.intro hlb (And.intro @strs_len (And.intro @strs_flat (And.intro (strs_getD hla) (And.intro (strs_getD hlb) GVaJ128.down)))))) ?_
        refine AWP_cond rfl (fun h => ?_) (fun h => ?_)
        · refine wlk GVaJ128.down ?_
          refine rtr GVaJ128.down ?_
          refine ⟨?_, rfl⟩
          have : (a == b) = false := by
            rw [beq_eq_false_iff_ne]
            intro e
            rw [e] at h
            simp at h
          rw [this]
        · have he : a[k] = b[k] := by simpa [List.getD_eq_getElem?_getD, List.getElem?_eq_getElem hla, List.getElem?_eq_getElem hlb] using h
          refine wlk GVaJ128.down ?_
          refine ⟨⟨k + 1, by omega, by rw [List.take_succ_eq_append_getElem hla, List.take_succ_eq_append_getElem hlb, hd, he]⟩, by simp; omega, ?_⟩
          rw [wrap_in (by omega) (by omega)]
          exact .same (by exact lle)
      · have hk' : k = a.length := by have : ¬ k < a.length := by simpa using h
                                      omega
        subst hk'
        refine wlk GVaJ128.down ?_
        refine rtr GVaJ128.down ?_
        refine ⟨?_, rfl⟩
        rw [List.take_length, hl, List.take_length] at hd
        simp [hd]
def eqV (a b : Ver) : Bool := a.major == b.major && a.minor == b.minor && a.patch == b.patch && a.pre == b.pre
theorem hversion_ok (a b : Ver) (t u : Tag) (σ : List AE) (ha : a.pre.length ≤ 9223372036854775806) : Gives Tryz.prog 71 [encV t a, encV u b] σ (.bool (eqV a b)) := by
  refine Gives_drop (hb := fun hb => trivial) ?_
  unfold encV
  refine ent Tryz.func71 Tryz.ntmps71 Tryz.results71 ?_
  refine wlk GVaJ71.down ?_
  refine cll (hstrings_ok a.pre b.pre t u _ ha) ?_
  refine wlk GVaJ71.down ?_
  refine rtrb GVaJ71.down ?_
  exact Vle.refl _
def lightV (v : Ver) : Bool := decide (v.pre.length ≤ 6) && v.pre.all fun x => decide (x.length ≤ 30)
theorem lightV_ok (v : Ver) (t : Tag) (σ : List AE) : Gives Tryz.prog 25 [encV t v] σ (.bool (lightV v)) := by
  refine Gives_drop (hb := fun hb => trivial) ?_
  unfold encV
  refine ent Tryz.func25 Tryz.ntmps25 Tryz.results25 ?_
  refine wlk (And.intro @strs_len GVaJ25.down) ?_
  refine AWP_cond rfl (fun h => ?_) (fun h => ?_)
  · have h6 : ¬ v.pre.length ≤ 6 := by simp at h; omega
    refine wlk GVaJ25.down ?_
    refine rtrb GVaJ25.down ?_
    exact Vle.of_eq (by simp [lightV, h6])
  · have h6 : v.pre.length ≤ 6 := by simp at h; omega
    refine wlk GVaJ25.down ?_
    refine AWP_loop (α := { k : Nat // k ≤ v.pre.length ∧ ∀ x ∈ v.pre.take k, x.length ≤ 30 }) (fun k => [.junk, .ptr σ.length 0, .bool false, .int .i64 (k.1 : Int), .junk, .junk, .junk, .junk, .junk, .junk, .junk, .junk, .junk, .junk, .junk, .junk, .junk, .junk, .junk, .junk, .junk, .junk]) (fun _ => σ ++ [.box [.int .i64 v.major, .int .i64 v.minor, .int .i64 v.patch, .sl t (strs v.pre)]]) (fun k => v.pre.length - k.1) ⟨0, by omega, by simp⟩ (.same ?_) (fun _ => by simp) ?_
    · exact lle
    · rintro ⟨k, hk, hd⟩
      refine wlk (And.intro @strs_len GVaJ25.down) ?_
      refine AWP_cond rfl (fun h => ?_) (fun h => ?_)
      · have hla : k < v.pre.length := by simpa using h
        refine wlk (And.intro hla (And.intro @strs_len (And.intro @strs_flat (And.intro (strs_getD hla) GVaJ25.down)))) ?_
        refine AWP_cond rfl (fun h => ?_) (fun h => ?_)
        · refine wlk GVaJ25.down ?_
          refine rtrb GVaJ25.down ?_
          refine Vle.of_eq ?_
          have : v.pre.all (fun x => decide (x.length ≤ 30)) = false := by
            rw [List.all_eq_false]
            refine ⟨v.pre[k], List.getElem_mem _, ?_⟩
            simp [List.getD_eq_getElem?_getD, List.getElem?_eq_getElem hla] at h ⊢
            omega
          simp [lightV, this]
        · have he : v.pre[k].length ≤ 30 := by
            simp [List.getD_eq_getElem?_getD, List.getElem?_eq_getElem hla] at h
            omega
          refine wlk GVaJ25.down ?_
          refine ⟨⟨k + 1, by omega, fun x hx => ?_⟩, by simp; omega, ?_⟩
          · rw [List.take_succ_eq_append_getElem hla] at hx
            rcases List.mem_append.1 hx with hx | hx
            · exact hd x hx
            · rw [List.mem_singleton.1 hx]; exact he
          · rw [wrap_in (by omega) (by omega)]
            exact .same (by exact lle)
      · have hk' : k = v.pre.length := by have : ¬ k < v.pre.length := by simpa using h
                                          omega
        subst hk'
        rw [List.take_length] at hd
        refine wlk GVaJ25.down ?_
        refine rtrb GVaJ25.down ?_
        refine Vle.of_eq ?_
        have : v.pre.all (fun x => decide (x.length ≤ 30)) = true := by simpa using hd
        simp [lightV, this, h6]
end Go.Proofs.YtdjjlbjagaadaaaGreatDoor.A
