/- Telling and ordering: Text, VersionText, Dec, Cmp of both. -/
import Derived.Test.YtfagngmikbmmhaaDoorVaG
namespace Go.Proofs.YtfagngmikbmmhaaDoor.A
open Go Go.RowKit
set_option maxRecDepth 100000
set_option linter.unusedSimpArgs false
set_option linter.unusedVariables false

def GVaH23 := PLift.up <| And.intro F3 <| F9
def GVaH13 := PLift.up <| And.intro F3 <| And.intro F9 <| And.intro F23 <| F25
def GVaH15 := PLift.up <| And.intro F3 <| And.intro F9 <| And.intro F23 <| F25
def dec (n : Int) : List UInt8 := Lib.itoa (max n 0)
theorem dec_small {n : Int} (h : n < 10) : dec n = [UInt8.ofNat (48 + (max n 0).toNat)] := by
  have h1 : ¬ max n 0 < 0 := by omega
  have h2 : (max n 0).toNat < 10 := by omega
  rw [dec, Lib.itoa, if_neg h1, Lib.decDigits, dif_pos h2]
theorem dec_big {n : Int} (h : ¬ n < 10) : dec n = dec (n / 10) ++ [UInt8.ofNat (48 + (n % 10).toNat)] := by
  have h1 : ¬ max n 0 < 0 := by omega
  have h2 : ¬ max (n / 10) 0 < 0 := by omega
  have h3 : ¬ (max n 0).toNat < 10 := by omega
  rw [dec, Lib.itoa, if_neg h1, Lib.decDigits, dif_neg h3, dec, Lib.itoa, if_neg h2]
  have e1 : (max n 0).toNat / 10 = (max (n / 10) 0).toNat := by omega
  have e2 : (max n 0).toNat % 10 = (n % 10).toNat := by omega
  rw [e1, e2]
theorem dec_len : ∀ (k : Nat) (n : Int), n < 10 ^ (k + 1) → (dec n).length ≤ k + 1
  | 0, n, h => by rw [dec_small (by simpa using h)]; simp
  | k + 1, n, h => by
    by_cases h1 : n < 10
    · rw [dec_small h1]; simp
    · rw [dec_big h1]
      have := dec_len k (n / 10) (by
        rw [Int.pow_succ] at h
        omega)
      simp; omega
theorem tenth : ∀ m : Nat, m < 10 → (48 :: ([49, 50, 51, 52, 53, 54, 55, 56, 57] : List UInt8).take m).drop m = [UInt8.ofNat (48 + m)] := by decide
theorem rdec_small (n : Int) (σ : List AE) (hn : n < 10) : Gives Tryd.prog 23 [.int .i64 n] σ (.str (dec n)) := by
  refine ent Tryd.func23 Tryd.ntmps23 Tryd.results23 ?_
  obtain ⟨m, hm, hm10⟩ : ∃ m : Nat, max n 0 = m ∧ m < 10 := ⟨(max n 0).toNat, by omega, by omega⟩
  have e0 : (if (0 : Int) > n then 0 else n) = (m : Int) := by split <;> omega
  have hw := wrap_in (n := (m : Int) + 1) (by omega) (by omega)
  have h1 : (m : Int) ≤ (m : Int) + 1 := by omega
  have h2 : (m : Int) + 1 ≤ 10 := by omega
  have h3 : ((m : Int) + 1).toNat = m + 1 := by omega
  have h4 : (0 : Int) ≤ (m : Int) + 1 := by omega
  have hn' : decide (n < 10) = true := by simpa using hn
  refine wlk (And.intro hn' GVaH23.down) ?_
  · refine wlk (And.intro e0 (And.intro hw (And.intro h1 (And.intro h2 (And.intro h3 (And.intro h4 GVaH23.down)))))) ?_
    refine rtr GVaH23.down ?_
    refine ⟨?_, rfl⟩
    rw [tenth m hm10, dec_small hn]
    congr 4
    omega
theorem rdec_ok (σ : List AE) : ∀ (k : Nat) (n : Int), n < 10 ^ (k + 1) → -9223372036854775808 ≤ n → n ≤ 9223372036854775807 → k ≤ 30 → Gives Tryd.prog 23 [.int .i64 n] σ (.str (dec n)) := by
  intro k
  induction k with
  | zero => intro n hn _ _ _; exact rdec_small n σ (by simpa using hn)
  | succ k ih =>
    intro n hn h0 h1 hk
    by_cases hs : n < 10
    · exact rdec_small n σ hs
    refine ent Tryd.func23 Tryd.ntmps23 Tryd.results23 ?_
    have hs' : decide (n < 10) = false := by simpa using hs
    have q1 : n.tdiv 10 = n / 10 := by rw [Int.tdiv_eq_ediv_of_nonneg (by omega)]
    have q2 : n.tmod 10 = n % 10 := by rw [Int.tmod_eq_emod_of_nonneg (by omega)]
    have q3 : IntKind.i64.wrap (n / 10) = n / 10 := wrap_in (by omega) (by omega)
    have q4 : IntKind.i64.wrap (n % 10 + 1) = n % 10 + 1 := wrap_in (by omega) (by omega)
    have h10 : (10 : Int) ≠ 0 := by omega
    obtain ⟨m, hm, hm10⟩ : ∃ m : Nat, n % 10 = m ∧ m < 10 := ⟨(n % 10).toNat, by omega, by omega⟩
    have a1 : (m : Int) ≤ (m : Int) + 1 := by omega
    have a2 : (m : Int) + 1 ≤ 10 := by omega
    have a3 : ((m : Int) + 1).toNat = m + 1 := by omega
    have a4 : (0 : Int) ≤ (m : Int) + 1 := by omega
    have hlt : n / 10 < 10 ^ (k + 1) := by
      rw [Int.pow_succ] at hn
      omega
    have hlen := dec_len k (n / 10) hlt
    have a5 : (dec (n / 10)).length + 1 ≤ 9223372036854775807 := by omega
    rw [hm] at q4
    refine wlk (And.intro hs' (And.intro q1 (And.intro q2 (And.intro q3 (And.intro hm (And.intro q4 (And.intro a1 (And.intro a2 (And.intro a3 (And.intro a4 (And.intro h10 GVaH23.down))))))))))) ?_
    refine cll (ih (n / 10) hlt (by omega) (by omega) (by omega)) ?_
    refine wlk (And.intro hs' (And.intro q1 (And.intro q2 (And.intro q3 (And.intro hm (And.intro q4 (And.intro a1 (And.intro a2 (And.intro a3 (And.intro a4 (And.intro h10 (And.intro (tenth m hm10) (And.intro a5 GVaH23.down))))))))))))) ?_
    refine rtr GVaH23.down ?_
    refine ⟨?_, rfl⟩
    rw [dec_big hs, hm, Int.toNat_natCast]
/-- A row's weight: the bytes of its texts, and one more for each. -/
def lens (l : List (List UInt8)) : Nat := (l.map fun x => x.length + 1).sum
/-- The marks as they are told. -/
def pfx : List (List UInt8) → List UInt8
  | [] => []
  | x :: r => 45 :: (x ++ Lib.joinTail [46] r)
theorem joinTail_len (r : List (List UInt8)) : (Lib.joinTail [46] r).length = lens r := by
  induction r with
  | nil => rfl
  | cons x r ih =>
    have e : Lib.joinTail [46] (x :: r) = ([46] ++ x) ++ Lib.joinTail [46] r := by simp [Lib.joinTail]
    rw [e, List.length_append, ih]
    simp [lens]
theorem pfx_len (l : List (List UInt8)) : (pfx l).length = lens l := by
  cases l with
  | nil => rfl
  | cons x r => simp [pfx, joinTail_len, lens]; omega
theorem pfx_join {l : List (List UInt8)} (h : l ≠ []) : pfx l = 45 :: Lib.join l [46] := by
  cases l with
  | nil => exact absurd rfl h
  | cons x r => rw [Lib.join_cons]; rfl
theorem pfx_snoc (l : List (List UInt8)) (x : List UInt8) : pfx (l ++ [x]) = pfx l ++ [if l = [] then 45 else 46] ++ x := by
  cases l with
  | nil => simp [pfx, Lib.joinTail]
  | cons y r => simp [pfx, Lib.joinTail, List.map_append]
theorem lens_take (l : List (List UInt8)) (k : Nat) : lens (l.take k) ≤ lens l := by
  have : lens l = lens (l.take k) + lens (l.drop k) := by
    conv => lhs; rw [← List.take_append_drop k l]
    simp only [lens, List.map_append, List.sum_append]
  omega
theorem lens_length (l : List (List UInt8)) : l.length ≤ lens l := by
  induction l with
  | nil => simp
  | cons x r ih => simp [lens] at ih ⊢; omega
theorem lens_mem {l : List (List UInt8)} {x : List UInt8} (h : x ∈ l) : x.length < lens l := by
  induction l with
  | nil => cases h
  | cons y r ih =>
    rcases List.mem_cons.1 h with rfl | h
    · simp [lens]; omega
    · have := ih h; simp [lens] at this ⊢; omega
/-- A version's text. -/
def textV (v : Ver) : List UInt8 := dec v.major ++ [46] ++ dec v.minor ++ [46] ++ dec v.patch ++ pfx v.pre
def in64 (n : Int) : Prop := -9223372036854775808 ≤ n ∧ n ≤ 9223372036854775807
/-- Its numbers are ints, its marks not too great. -/
structure VOk (v : Ver) : Prop where
  a : in64 v.major
  b : in64 v.minor
  c : in64 v.patch
  p : lens v.pre ≤ 1099511627776
theorem dec_le {n : Int} (h : in64 n) : (dec n).length ≤ 19 := dec_len 18 n (by have := h.2; omega)
theorem max_eq (n : Int) : (if (0 : Int) > n then 0 else n) = max n 0 := by split <;> omega
theorem itoaD_ok (n : Int) (σ : List AE) (h0 : -9223372036854775808 ≤ n) (h1 : n ≤ 9223372036854775807) (hG : GV σ) : Gives Tryd.prog 34 [.int .i64 (max n 0)] σ (.str (dec n)) := itoa_ok (max n 0) σ (by omega) (by omega) hG
theorem text9_ok (v : Ver) (t : Tag) (σ : List AE) (hv : VOk v) (hG : GV σ) : Gives Tryd.prog 13 [encV t v] σ (.str (textV v)) := by
  refine Gives_drop (hb := fun hb => trivial) ?_
  unfold encV
  obtain ⟨⟨a0, a1⟩, ⟨b0, b1⟩, ⟨c0, c1⟩, hp⟩ := hv
  have la := dec_le ⟨a0, a1⟩
  have lb := dec_le ⟨b0, b1⟩
  have lc := dec_le ⟨c0, c1⟩
  have k1 : (dec v.major).length + 1 ≤ 9223372036854775807 := by omega
  have k2 : (dec v.major).length + (1 + (dec v.minor).length) ≤ 9223372036854775807 := by omega
  have k3 : (dec v.major).length + (1 + ((dec v.minor).length + 1)) ≤ 9223372036854775807 := by omega
  have k4 : (dec v.major).length + (1 + ((dec v.minor).length + (1 + (dec v.patch).length))) ≤ 9223372036854775807 := by omega
  refine ent Tryd.func13 Tryd.ntmps13 Tryd.results13 ?_
  refine wlk (And.intro @max_eq GVaH13.down) ?_
  refine cll (itoaD_ok v.major _ (by omega) (by omega) (hG.app _)) ?_
  refine wlk (And.intro @max_eq (And.intro @k1 GVaH13.down)) ?_
  refine cll (itoaD_ok v.minor _ (by omega) (by omega) (hG.app _)) ?_
  refine wlk (And.intro @max_eq (And.intro @k2 (And.intro @k3 GVaH13.down))) ?_
  refine cll (itoaD_ok v.patch _ (by omega) (by omega) (hG.app _)) ?_
  refine wlk (And.intro @k4 (And.intro @strs_len GVaH13.down)) ?_
  have hjl : v.pre ≠ [] → (Lib.join v.pre [46]).length + 1 = lens v.pre := fun h => by
    have := congrArg List.length (pfx_join h)
    rw [pfx_len] at this
    simpa using this.symm
  refine AWP_cond rfl (fun h => ?_) (fun h => ?_)
  · have hne : v.pre ≠ [] := by intro e; simp [e] at h
    have hj := hjl hne
    have hll := lens_length v.pre
    have k5 : 1 + (Lib.join v.pre [46]).length ≤ 9223372036854775807 := by omega
    have k6 : (dec v.major).length + (1 + ((dec v.minor).length + (1 + ((dec v.patch).length + (1 + (Lib.join v.pre [46]).length))))) ≤ 9223372036854775807 := by omega
    have k7 : (dec v.major).length + (1 + ((dec v.minor).length + (1 + ((dec v.patch).length + ((Lib.join v.pre [46]).length + 1))))) ≤ 9223372036854775807 := by omega
    refine wlk GVaH13.down ?_
    refine cll (join_ok 46 v.pre t _ (by omega) (by omega)) ?_
    refine wlk (And.intro @k5 (And.intro @k6 (And.intro @k7 GVaH13.down))) ?_
    refine rtrb GVaH13.down ?_
    refine Vle.of_eq ?_
    simp [textV, pfx_join hne]
  · have he : v.pre = [] := by cases hp2 : v.pre with
      | nil => rfl
      | cons x r => rw [hp2] at h; simp at h
    refine wlk GVaH13.down ?_
    refine rtrb GVaH13.down ?_
    refine Vle.of_eq ?_
    simp [textV, he, pfx]
theorem rtext9_ok (v : Ver) (t : Tag) (σ : List AE) (hv : VOk v) : Gives Tryd.prog 15 [encV t v] σ (.str (textV v)) := by
  refine Gives_drop (hb := fun hb => trivial) ?_
  unfold encV
  obtain ⟨⟨a0, a1⟩, ⟨b0, b1⟩, ⟨c0, c1⟩, hp⟩ := hv
  have la := dec_le ⟨a0, a1⟩
  have lb := dec_le ⟨b0, b1⟩
  have lc := dec_le ⟨c0, c1⟩
  have k1 : (dec v.major).length + 1 ≤ 9223372036854775807 := by omega
  have k2 : (dec v.major).length + (1 + (dec v.minor).length) ≤ 9223372036854775807 := by omega
  have k3 : (dec v.major).length + (1 + ((dec v.minor).length + 1)) ≤ 9223372036854775807 := by omega
  have k4 : (dec v.major).length + (1 + ((dec v.minor).length + (1 + (dec v.patch).length))) ≤ 9223372036854775807 := by omega
  have hbase : textV v = (dec v.major ++ (46 :: (dec v.minor ++ (46 :: dec v.patch)))) ++ pfx v.pre := by simp [textV]
  have hbl : (dec v.major ++ (46 :: (dec v.minor ++ (46 :: dec v.patch)))).length ≤ 60 := by simp; omega
  refine ent Tryd.func15 Tryd.ntmps15 Tryd.results15 ?_
  refine wlk GVaH15.down ?_
  refine cll (rdec_ok _ 18 v.major (by omega) (by omega) (by omega) (by omega)) ?_
  refine wlk (And.intro @k1 GVaH15.down) ?_
  refine cll (rdec_ok _ 18 v.minor (by omega) (by omega) (by omega) (by omega)) ?_
  refine wlk (And.intro @k2 (And.intro @k3 GVaH15.down)) ?_
  refine cll (rdec_ok _ 18 v.patch (by omega) (by omega) (by omega) (by omega)) ?_
  refine wlk (And.intro @k4 GVaH15.down) ?_
  generalize dec v.major ++ (46 :: (dec v.minor ++ (46 :: dec v.patch))) = base at hbase hbl ⊢
  have hll := lens_length v.pre
  refine AWP_loop (α := { k : Nat // k ≤ v.pre.length }) (fun k => [.junk, .ptr σ.length 0, .junk, .str (base ++ pfx (v.pre.take k.1)), .int .i64 (k.1 : Int), .junk, .junk, .junk, .junk, .junk, .junk, .junk, .junk, .junk, .junk, .junk, .junk, .junk, .junk, .junk, .junk, .junk, .junk, .junk, .junk, .junk, .junk, .junk, .junk, .junk, .junk, .junk, .junk, .junk, .junk, .junk, .junk, .junk, .junk]) (fun k => σ ++ [.box [.int .i64 v.major, .int .i64 v.minor, .int .i64 v.patch, .sl t (strs v.pre)]]) (fun k => v.pre.length - k.1) ⟨0, by omega⟩ (.same ?_) (fun _ => by simp) ?_
  · simp only [List.take_zero, pfx, List.append_nil]
    exact lle
  · rintro ⟨k, hk⟩
    have h7 := lens_take v.pre k
    have h8 := lens_take v.pre (k + 1)
    have h9 := pfx_len (v.pre.take k)
    have e1 : base.length + (pfx (v.pre.take k)).length + 1 ≤ 9223372036854775807 := by omega
    have e2 : base.length + ((pfx (v.pre.take k)).length + 1) ≤ 9223372036854775807 := by omega
    refine wlk (And.intro @strs_len GVaH15.down) ?_
    refine AWP_cond rfl (fun h => ?_) (fun h => ?_)
    · have hlt : k < v.pre.length := by simpa using h
      have hmem : v.pre.getD k [] ∈ v.pre := by rw [List.getD_eq_getElem?_getD, List.getElem?_eq_getElem hlt]; exact List.getElem_mem _
      have hlx := lens_mem hmem
      have e3 : base.length + ((pfx (v.pre.take k)).length + (1 + (v.pre.getD k []).length)) ≤ 9223372036854775807 := by omega
      have hs : pfx (v.pre.take (k + 1)) = pfx (v.pre.take k) ++ [if k = 0 then 45 else 46] ++ v.pre.getD k [] := by
        rw [List.take_succ_eq_append_getElem hlt, pfx_snoc, List.getD_eq_getElem?_getD, List.getElem?_eq_getElem hlt, Option.getD_some]
        have : (v.pre.take k = []) = (k = 0) := by
          rw [eq_iff_iff, List.take_eq_nil_iff]
          constructor
          · rintro (h | h)
            · exact h
            · rw [h] at hlt; simp at hlt
          · exact .inl
        simp only [this]
      refine wlk GVaH15.down ?_
      refine AWP_cond rfl (fun h => ?_) (fun h => ?_)
      · have hk0 : k = 0 := by simpa using h
        refine wlk (And.intro e1 (And.intro e2 (And.intro e3 (And.intro hlt (And.intro @strs_len (And.intro @strs_flat (And.intro (strs_getD hlt) GVaH15.down))))))) ?_
        refine ⟨⟨k + 1, by omega⟩, by simp; omega, ?_⟩
        rw [wrap_in (by omega) (by omega)]
        simp only [hs, if_pos hk0, List.append_assoc, List.cons_append, List.nil_append]
        exact .same (by exact lle)
      · have hk0 : ¬ k = 0 := by simpa using h
        refine wlk (And.intro e1 (And.intro e2 (And.intro e3 (And.intro hlt (And.intro @strs_len (And.intro @strs_flat (And.intro (strs_getD hlt) GVaH15.down))))))) ?_
        refine ⟨⟨k + 1, by omega⟩, by simp; omega, ?_⟩
        rw [wrap_in (by omega) (by omega)]
        simp only [hs, if_neg hk0, List.append_assoc, List.cons_append, List.nil_append]
        exact .same (by exact lle)
    · have hk' : k = v.pre.length := by have : ¬ k < v.pre.length := by simpa using h
                                        omega
      subst hk'
      refine wlk GVaH15.down ?_
      refine rtrb GVaH15.down ?_
      refine Vle.of_eq ?_
      rw [hbase, List.take_length]
end Go.Proofs.YtfagngmikbmmhaaDoor.A
