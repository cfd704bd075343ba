/- The order of versions: ver.Cmp and the reference's Cmp. -/
import Derived.Test.YtfagngmikbmmhaaDoorVaH
namespace Go.Proofs.YtfagngmikbmmhaaDoor.A
open Go Go.RowKit
set_option maxRecDepth 100000
set_option linter.unusedSimpArgs false
set_option linter.unusedVariables false

def GVaI16 := PLift.up <| And.intro F3 <| And.intro F9 <| And.intro F23 <| And.intro F25 <| And.intro F40 <| F64
def GVaI17 := PLift.up <| And.intro F3 <| And.intro F4 <| And.intro F9 <| And.intro F23 <| F25
def cmpN (a b : Ver) : Int := orI [Lib.compareInt a.major b.major, Lib.compareInt a.minor b.minor, Lib.compareInt a.patch b.patch]
/-- The order of two versions. -/
def cmpV (a b : Ver) : Int := if cmpN a b ≠ 0 then cmpN a b else
  if a.pre.length = 0 ∨ b.pre.length = 0 then Lib.compareInt b.pre.length 0 - Lib.compareInt a.pre.length 0 else cmpL marksV a.pre b.pre
theorem compareInt_in (x y : Int) : -1 ≤ Lib.compareInt x y ∧ Lib.compareInt x y ≤ 1 := by
  unfold Lib.compareInt
  split
  · omega
  · split <;> omega
theorem vcmp_ok (a b : Ver) (t u : Tag) (σ : List AE) (ha : VOk a) (hb : VOk b) : Gives Tryd.prog 16 [encV t a, encV u b] σ (.int .i64 (cmpV a b)) := by
  refine Gives_drop (hb := fun hb => trivial) ?_
  unfold encV
  have h1 := lens_length a.pre
  have h2 := lens_length b.pre
  have h3 := ha.p
  have h4 := hb.p
  refine ent Tryd.func16 Tryd.ntmps16 Tryd.results16 ?_
  refine wlk GVaI16.down ?_
  refine cll (compare_ok a.major b.major _) ?_
  refine wlk GVaI16.down ?_
  refine cll (compare_ok a.minor b.minor _) ?_
  refine wlk GVaI16.down ?_
  refine cll (compare_ok a.patch b.patch _) ?_
  refine wlk GVaI16.down ?_
  refine cll (or_ok [Lib.compareInt a.major b.major, Lib.compareInt a.minor b.minor, Lib.compareInt a.patch b.patch] .full _ (by simp)) ?_
  refine wlk GVaI16.down ?_
  refine AWP_cond rfl (fun h => ?_) (fun h => ?_)
  · have hn : cmpN a b ≠ 0 := by simpa [cmpN] using h
    refine wlk GVaI16.down ?_
    refine rtrb GVaI16.down ?_
    refine Vle.of_eq ?_
    rw [cmpV, if_pos hn]
    rfl
  · have hn : ¬ cmpN a b ≠ 0 := by simpa [cmpN] using h
    refine wlk (And.intro @strs_len GVaI16.down) ?_
    refine AWP_cond rfl (fun h => ?_) (fun h => ?_)
    · have hz : a.pre.length = 0 ∨ b.pre.length = 0 := by
        simp at h
        simpa using h
      refine wlk (And.intro @strs_len GVaI16.down) ?_
      refine cll (compare_ok b.pre.length 0 _) ?_
      refine wlk (And.intro @strs_len GVaI16.down) ?_
      refine cll (compare_ok a.pre.length 0 _) ?_
      have i1 := compareInt_in b.pre.length 0
      have i2 := compareInt_in a.pre.length 0
      refine wlk GVaI16.down ?_
      refine rtrb GVaI16.down ?_
      refine Vle.of_eq ?_
      rw [wrap_in (by omega) (by omega), cmpV, if_neg hn, if_pos hz]
    · have hz : ¬ (a.pre.length = 0 ∨ b.pre.length = 0) := by
        simp at h
        simpa using h
      refine wlk GVaI16.down ?_
      refine cll (compareFunc_ok _ marksV a.pre b.pre t u _ (by omega) (fun x hx y hy => marks_ok x y _ (by have := lens_mem hx; omega) (by have := lens_mem hy; omega))) ?_
      refine wlk GVaI16.down ?_
      refine rtrb GVaI16.down ?_
      refine Vle.of_eq ?_
      rw [cmpV, if_neg hn, if_neg hz]
theorem cmpI_ok (a b : Int) (σ : List AE) : Gives Tryd.prog 40 [.int .i64 a, .int .i64 b] σ (.int .i64 (Lib.compareInt a b)) := cmp_ok a b σ
theorem cmpN_1 {a b : Ver} (h : Lib.compareInt a.major b.major ≠ 0) : cmpV a b = Lib.compareInt a.major b.major := by
  have : cmpN a b = Lib.compareInt a.major b.major := by simp [cmpN, orI, h]
  rw [cmpV, this, if_pos h]
theorem cmpN_2 {a b : Ver} (h1 : Lib.compareInt a.major b.major = 0) (h : Lib.compareInt a.minor b.minor ≠ 0) : cmpV a b = Lib.compareInt a.minor b.minor := by
  have : cmpN a b = Lib.compareInt a.minor b.minor := by simp [cmpN, orI, h1, h]
  rw [cmpV, this, if_pos h]
theorem cmpN_3 {a b : Ver} (h1 : Lib.compareInt a.major b.major = 0) (h2 : Lib.compareInt a.minor b.minor = 0) (h : Lib.compareInt a.patch b.patch ≠ 0) : cmpV a b = Lib.compareInt a.patch b.patch := by
  have : cmpN a b = Lib.compareInt a.patch b.patch := by simp [cmpN, orI, h1, h2, h]
  rw [cmpV, this, if_pos h]
theorem cmpN_0 {a b : Ver} (h1 : Lib.compareInt a.major b.major = 0) (h2 : Lib.compareInt a.minor b.minor = 0) (h3 : Lib.compareInt a.patch b.patch = 0) : cmpV a b = if a.pre.length = 0 ∨ b.pre.length = 0 then Lib.compareInt b.pre.length 0 - Lib.compareInt a.pre.length 0 else cmpL marksV a.pre b.pre := by
  have : cmpN a b = 0 := by simp [cmpN, orI, h1, h2, h3]
  rw [cmpV, this, if_neg (by simp)]
theorem cmp_zero (p q : Nat) (hz : p = 0 ∨ q = 0) : Lib.compareInt q p * (if ((p : Int) != (q : Int)) = true then 1 else 0) = Lib.compareInt q 0 - Lib.compareInt p 0 := by
  rcases hz with rfl | rfl
  · by_cases hq : q = 0
    · subst hq; simp [Lib.compareInt]
    · have h1 : ¬ ((q : Int) < 0) := by omega
      have h2 : (q : Int) > 0 := by omega
      have h3 : ((0 : Nat) : Int) != (q : Int) := by simp; omega
      rw [if_pos h3]
      simp only [Lib.compareInt, nc0, h1, h2, if_true, if_false]
      simp
  · by_cases hq : p = 0
    · subst hq; simp [Lib.compareInt]
    · have h1 : ((0 : Nat) : Int) < (p : Int) := by omega
      have h2 : ¬ ((p : Int) < 0) := by omega
      have h4 : (p : Int) > 0 := by omega
      have h3 : (p : Int) != ((0 : Nat) : Int) := by simp; omega
      rw [if_pos h3]
      simp only [Lib.compareInt, nc0] at h1 ⊢
      simp only [h1, h2, h4, if_true, if_false]
      simp
theorem cmpL_end (c : List UInt8 → List UInt8 → Int) (a b : List (List UInt8)) (h : a = [] ∨ b = []) : cmpL c a b = Lib.compareInt a.length b.length := by
  cases a with
  | nil => cases b with
    | nil => rfl
    | cons y b => simp [cmpL, Lib.compareInt]
  | cons x a => cases b with
    | nil => simp [cmpL, Lib.compareInt]; omega
    | cons y b => simp at h
theorem rcmp_ok (a b : Ver) (t u : Tag) (σ : List AE) (ha : VOk a) (hb : VOk b) : Gives Tryd.prog 17 [encV t a, encV u b] σ (.int .i64 (cmpV a b)) := by
  refine Gives_drop (hb := fun hb => trivial) ?_
  unfold encV
  have h1 := lens_length a.pre
  have h2 := lens_length b.pre
  have h3 := ha.p
  have h4 := hb.p
  refine ent Tryd.func17 Tryd.ntmps17 Tryd.results17 ?_
  refine wlk GVaI17.down ?_
  refine cll (cmpI_ok a.major b.major _) ?_
  refine wlk GVaI17.down ?_
  refine AWP_cond rfl (fun h => ?_) (fun h => ?_)
  · refine wlk GVaI17.down ?_
    refine rtrb GVaI17.down ?_
    exact Vle.of_eq (by rw [cmpN_1 (by simpa using h)])
  · have hn1 : Lib.compareInt a.major b.major = 0 := by simpa using h
    refine wlk GVaI17.down ?_
    refine cll (cmpI_ok a.minor b.minor _) ?_
    refine wlk GVaI17.down ?_
    refine AWP_cond rfl (fun h => ?_) (fun h => ?_)
    · refine wlk GVaI17.down ?_
      refine rtrb GVaI17.down ?_
      exact Vle.of_eq (by rw [cmpN_2 hn1 (by simpa using h)])
    · have hn2 : Lib.compareInt a.minor b.minor = 0 := by simpa using h
      refine wlk GVaI17.down ?_
      refine cll (cmpI_ok a.patch b.patch _) ?_
      refine wlk GVaI17.down ?_
      refine AWP_cond rfl (fun h => ?_) (fun h => ?_)
      · refine wlk GVaI17.down ?_
        refine rtrb GVaI17.down ?_
        exact Vle.of_eq (by rw [cmpN_3 hn1 hn2 (by simpa using h)])
      · have hn3 : Lib.compareInt a.patch b.patch = 0 := by simpa using h
        refine wlk (And.intro @strs_len GVaI17.down) ?_
        refine AWP_cond rfl (fun h => ?_) (fun h => ?_)
        · have hz : a.pre.length = 0 ∨ b.pre.length = 0 := by
            simp at h
            simpa using h
          refine wlk (And.intro @strs_len GVaI17.down) ?_
          refine cll (cmpI_ok b.pre.length a.pre.length _) ?_
          refine wlk (And.intro @strs_len GVaI17.down) ?_
          refine cll (roneIf_ok _ _) ?_
          have i1 := compareInt_in b.pre.length a.pre.length
          refine wlk GVaI17.down ?_
          refine rtrb GVaI17.down ?_
          refine Vle.of_eq ?_
          rw [cmpN_0 hn1 hn2 hn3, if_pos hz]
          congr 1
          have e := cmp_zero a.pre.length b.pre.length hz
          rw [e]
          have i2 := compareInt_in b.pre.length 0
          have i3 := compareInt_in a.pre.length 0
          exact wrap_in (by omega) (by omega)
        · have hz : ¬ (a.pre.length = 0 ∨ b.pre.length = 0) := by
            simp at h
            simpa using h
          refine wlk GVaI17.down ?_
          refine AWP_loop (α := { k : Nat // k ≤ a.pre.length ∧ k ≤ b.pre.length ∧ cmpL marksV a.pre b.pre = cmpL marksV (a.pre.drop k) (b.pre.drop k) }) (fun k => [.junk, .junk, .ptr σ.length 0, .ptr (σ.length + 1) 0, .int .i64 0, .junk, .junk, .junk, .int .i64 (k.1 : Int), .junk, .junk, .junk, .junk, .junk, .junk, .junk, .junk, .junk, .junk, .junk, .junk, .junk, .junk, .junk, .junk, .junk, .junk, .junk, .junk, .junk, .junk, .junk, .junk, .junk, .junk, .junk, .junk, .junk, .junk, .junk, .junk, .junk, .junk, .junk, .junk, .junk, .junk, .junk, .junk, .junk, .junk, .junk, .junk, .junk, .junk, .junk, .junk, .junk, .junk, .junk, .junk, .junk, .junk, .junk, .junk, .junk, .junk, .junk, .junk, .junk, .junk, .junk, .junk, .junk, .junk, .junk, .junk, .junk, .junk, .junk, .junk, .junk, .junk, .junk, .junk, .junk, .junk, .junk, .junk, .junk, .junk, .junk, .junk, .junk, .junk, .junk, .junk, .junk, .junk, .junk, .junk, .junk, .junk, .junk, .junk, .junk, .junk, .junk, .junk, .junk, .junk, .junk, .junk, .junk, .junk, .junk, .junk, .junk, .junk, .junk, .junk, .junk]) (fun k => σ ++ [.box [.int .i64 a.major, .int .i64 a.minor, .int .i64 a.patch, .sl t (strs a.pre)], .box [.int .i64 b.major, .int .i64 b.minor, .int .i64 b.patch, .sl u (strs b.pre)]]) (fun k => a.pre.length - k.1) ⟨0, by omega, by omega, by simp⟩ (.same ?_) (fun _ => by simp) ?_
          · exact lle
          · rintro ⟨k, hka, hkb, hd⟩
            refine wlk (And.intro @strs_len GVaI17.down) ?_
            refine AWP_cond rfl (fun h => ?_) (fun h => ?_)
            · have hlt : k < a.pre.length ∧ k < b.pre.length := by simpa using h
              obtain ⟨hla, hlb⟩ := hlt
              have hma : a.pre.getD k [] ∈ a.pre := by rw [List.getD_eq_getElem?_getD, List.getElem?_eq_getElem hla]; exact List.getElem_mem _
              have hmb : b.pre.getD k [] ∈ b.pre := by rw [List.getD_eq_getElem?_getD, List.getElem?_eq_getElem hlb]; exact List.getElem_mem _
              have lma := lens_mem hma
              have lmb := lens_mem hmb
              rw [cmpL_drop marksV hla hlb] at hd
              refine wlk (And.intro hla (And.intro hlb (And.intro @strs_len (And.intro @strs_flat (And.intro (strs_getD hla) (And.intro (strs_getD hlb) GVaI17.down)))))) ?_
              generalize a.pre.getD k [] = x at *
              generalize b.pre.getD k [] = y at *
              refine cll (rdigits_ok x _ (by omega)) ?_
              refine wlk GVaI17.down ?_
              refine cll (rdigits_ok y _ (by omega)) ?_
              refine wlk GVaI17.down ?_
              refine AWP_cond rfl (fun h => ?_) (fun h => ?_)
              · have hm : marksV x y = orI [Lib.compareInt x.length y.length, cmpB x y] := by rw [marksV, if_pos h]
                refine wlk GVaI17.down ?_
                refine cll (cmpI_ok x.length y.length _) ?_
                refine wlk GVaI17.down ?_
                refine AWP_cond rfl (fun h => ?_) (fun h => ?_)
                · have hm2 : marksV x y = cmpB x y := by
                    have : Lib.compareInt x.length y.length = 0 := by simpa using h
                    rw [hm]
                    simp [orI, this]
                    exact fun h => h.symm
                  refine wlk GVaI17.down ?_
                  refine cll (text_ok x y _) ?_
                  refine wlk GVaI17.down ?_
                  rw [← hm2]
                  refine AWP_cond rfl (fun h => ?_) (fun h => ?_)
                  · refine wlk GVaI17.down ?_
                    refine rtrb GVaI17.down ?_
                    exact Vle.of_eq (by rw [cmpN_0 hn1 hn2 hn3, if_neg hz, hd, if_pos (by simpa using h)])
                  · rw [if_neg (by simpa using h)] at hd
                    refine wlk GVaI17.down ?_
                    refine ⟨⟨k + 1, by omega, by omega, hd⟩, by simp; omega, ?_⟩
                    rw [wrap_in (by omega) (by omega)]
                    exact .same (by exact lle)
                · have hm2 : marksV x y = Lib.compareInt x.length y.length := by
                    have : Lib.compareInt x.length y.length ≠ 0 := by simpa using h
                    rw [hm]
                    simp [orI, this]
                  refine wlk GVaI17.down ?_
                  rw [← hm2]
                  refine AWP_cond rfl (fun h => ?_) (fun h => ?_)
                  · refine wlk GVaI17.down ?_
                    refine rtrb GVaI17.down ?_
                    exact Vle.of_eq (by rw [cmpN_0 hn1 hn2 hn3, if_neg hz, hd, if_pos (by simpa using h)])
                  · rw [if_neg (by simpa using h)] at hd
                    refine wlk GVaI17.down ?_
                    refine ⟨⟨k + 1, by omega, by omega, hd⟩, by simp; omega, ?_⟩
                    rw [wrap_in (by omega) (by omega)]
                    exact .same (by exact lle)
              · have hxy := h
                refine wlk GVaI17.down ?_
                refine cll (rdigits_ok x _ (by omega)) ?_
                refine wlk GVaI17.down ?_
                refine AWP_cond rfl (fun h => ?_) (fun h => ?_)
                · have hm : marksV x y = -1 := by rw [marksV, hxy, if_neg (by simp), if_pos h]
                  rw [hm, if_pos (by simp)] at hd
                  refine wlk GVaI17.down ?_
                  refine rtrb GVaI17.down ?_
                  exact Vle.of_eq (by rw [cmpN_0 hn1 hn2 hn3, if_neg hz, hd])
                · have hx := h
                  refine wlk GVaI17.down ?_
                  refine cll (rdigits_ok y _ (by omega)) ?_
                  refine wlk GVaI17.down ?_
                  refine AWP_cond rfl (fun h => ?_) (fun h => ?_)
                  · have hm : marksV x y = 1 := by rw [marksV, hxy, hx, if_neg (by simp), if_neg (by simp), if_pos h]
                    rw [hm, if_pos (by simp)] at hd
                    refine wlk GVaI17.down ?_
                    refine rtrb GVaI17.down ?_
                    exact Vle.of_eq (by rw [cmpN_0 hn1 hn2 hn3, if_neg hz, hd])
                  · have hm2 : marksV x y = cmpB x y := by rw [marksV, hxy, hx, h, if_neg (by simp), if_neg (by simp), if_neg (by simp)]
                    refine wlk GVaI17.down ?_
                    refine cll (text_ok x y _) ?_
                    refine wlk GVaI17.down ?_
                    rw [← hm2]
                    refine AWP_cond rfl (fun h => ?_) (fun h => ?_)
                    · refine wlk GVaI17.down ?_
                      refine rtrb GVaI17.down ?_
                      exact Vle.of_eq (by rw [cmpN_0 hn1 hn2 hn3, if_neg hz, hd, if_pos (by simpa using h)])
                    · rw [if_neg (by simpa using h)] at hd
                      refine wlk GVaI17.down ?_
                      refine ⟨⟨k + 1, by omega, by omega, hd⟩, by simp; omega, ?_⟩
                      rw [wrap_in (by omega) (by omega)]
                      exact .same (by exact lle)
            · refine wlk (And.intro @strs_len GVaI17.down) ?_
              refine cll (cmpI_ok a.pre.length b.pre.length _) ?_
              refine wlk GVaI17.down ?_
              refine rtrb GVaI17.down ?_
              refine Vle.of_eq ?_
              rw [cmpN_0 hn1 hn2 hn3, if_neg hz, hd]
              have hor : a.pre.drop k = [] ∨ b.pre.drop k = [] := by
                simp only [List.drop_eq_nil_iff]
                have : ¬ (k < a.pre.length ∧ k < b.pre.length) := by simpa using h
                omega
              rw [cmpL_end marksV _ _ hor]
              simp only [List.length_drop, Lib.compareInt]
              congr 1
              (repeat' split) <;> omega
end Go.Proofs.YtfagngmikbmmhaaDoor.A
