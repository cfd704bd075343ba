/- The next version: ver.Next and the reference's Next; help.Strings, Version, LightV. -/
import Derived.Test.YtfagngmikbmmhaaDoorVaI
namespace Go.Proofs.YtfagngmikbmmhaaDoor.A
open Go Go.RowKit
set_option maxRecDepth 100000
set_option linter.unusedSimpArgs false
set_option linter.unusedVariables false

def GVaJ19 := PLift.up <| And.intro F3 <| And.intro F9 <| And.intro F23 <| F25
def GVaJ18 := PLift.up <| And.intro F3 <| And.intro F9 <| And.intro F23 <| And.intro F25 <| And.intro F65 <| F66
def GVaJ33 := PLift.up <| And.intro F3 <| And.intro F9 <| F23
def GVaJ12 := PLift.up <| And.intro F3 <| And.intro F9 <| And.intro F23 <| F25
def GVaJ14 := PLift.up <| And.intro F3 <| And.intro F9 <| And.intro F23 <| F25
/-- The version behind a version. -/
def nextV (v : Ver) (part : Int) : Ver :=
  if part = 0 then (if v.major < 999999999 then ⟨v.major + 1, 0, 0, []⟩ else ⟨v.major, v.minor, v.patch, []⟩)
  else if part = 1 then (if v.minor < 999999999 then ⟨v.major, v.minor + 1, 0, []⟩ else ⟨v.major, v.minor, v.patch, []⟩)
  else ⟨v.major, v.minor, if 999999999 ≤ v.patch then v.patch else v.patch + 1, []⟩
theorem rnext_ok (v : Ver) (t : Tag) (part : Int) (σ : List AE) (hv : VOk v) : Gives Tryd.prog 19 [encV t v, .int .i64 part] σ (encV .nil (nextV v part)) := by
  refine Gives_drop (hb := fun hb => by simp [bel, bels, bels2, tbel, encV, strs_bel]) ?_
  unfold encV
  obtain ⟨⟨a0, a1⟩, ⟨b0, b1⟩, ⟨c0, c1⟩, hp⟩ := hv
  refine ent Tryd.func19 Tryd.ntmps19 Tryd.results19 ?_
  refine wlk GVaJ19.down ?_
  refine AWP_cond rfl (fun h => ?_) (fun h => ?_)
  · have h0 : part = 0 ∧ v.major < 999999999 := by simpa using h
    refine wlk GVaJ19.down ?_
    refine rtrb GVaJ19.down ?_
    refine Vle.of_eq ?_
    rw [wrap_in (by omega) (by omega)]
    simp [nextV, h0.1, h0.2, strs]
  · have h0 : ¬ (part = 0 ∧ v.major < 999999999) := by simpa using h
    refine wlk GVaJ19.down ?_
    refine AWP_cond rfl (fun h => ?_) (fun h => ?_)
    · have h1 : part = 0 := by simpa using h
      have h2 : ¬ v.major < 999999999 := by omega
      refine wlk GVaJ19.down ?_
      refine rtrb GVaJ19.down ?_
      refine Vle.of_eq ?_
      simp only [nextV, h1, if_true, if_neg h2]
      rfl
    · have h1 : ¬ part = 0 := by simpa using h
      refine wlk GVaJ19.down ?_
      refine AWP_cond rfl (fun h => ?_) (fun h => ?_)
      · have h2 : part = 1 ∧ v.minor < 999999999 := by simpa using h
        refine wlk GVaJ19.down ?_
        refine rtrb GVaJ19.down ?_
        refine Vle.of_eq ?_
        rw [wrap_in (by omega) (by omega)]
        simp [nextV, h1, h2.1, h2.2, strs]
      · have h2 : ¬ (part = 1 ∧ v.minor < 999999999) := by simpa using h
        refine wlk GVaJ19.down ?_
        refine AWP_cond rfl (fun h => ?_) (fun h => ?_)
        · have h3 : part = 1 := by simpa using h
          have h4 : ¬ v.minor < 999999999 := by omega
          refine wlk GVaJ19.down ?_
          refine rtrb GVaJ19.down ?_
          refine Vle.of_eq ?_
          simp only [nextV, if_neg h1, h3, if_true, if_neg h4]
          rfl
        · have h3 : ¬ part = 1 := by simpa using h
          refine wlk GVaJ19.down ?_
          refine cll (more_ok v.patch _ c0) ?_
          refine wlk GVaJ19.down ?_
          refine rtrb GVaJ19.down ?_
          refine Vle.of_eq ?_
          simp only [nextV, if_neg h1, if_neg h3]
          rfl
def nx0 (v : Ver) : Nat → List V
  | 0 => [.int .i64 (v.major + 1), .int .i64 v.minor, .int .i64 v.patch, .sl .nil []]
  | 1 => [.int .i64 (v.major + 1), .int .i64 0, .int .i64 v.patch, .sl .nil []]
  | _ => [.int .i64 (v.major + 1), .int .i64 0, .int .i64 0, .sl .nil []]
def nx1 (v : Ver) : Nat → List V
  | 0 => [.int .i64 v.major, .int .i64 (v.minor + 1), .int .i64 v.patch, .sl .nil []]
  | _ => [.int .i64 v.major, .int .i64 (v.minor + 1), .int .i64 0, .sl .nil []]
theorem vnext_ok (v : Ver) (t : Tag) (part : Int) (σ : List AE) (hv : VOk v) : Gives Tryd.prog 18 [encV t v, .int .i64 part] σ (encV .nil (nextV v part)) := by
  refine Gives_drop (hb := fun hb => by simp [bel, bels, bels2, tbel, encV, strs_bel]) ?_
  unfold encV
  obtain ⟨⟨a0, a1⟩, ⟨b0, b1⟩, ⟨c0, c1⟩, hp⟩ := hv
  refine ent Tryd.func18 Tryd.ntmps18 Tryd.results18 ?_
  refine wlk GVaJ18.down ?_
  refine AWP_cond rfl (fun h => ?_) (fun h => ?_)
  · have h0 : ¬ part = 0 ∧ ¬ part = 1 := by simpa using h
    refine wlk GVaJ18.down ?_
    refine AWP_cond rfl (fun h => ?_) (fun h => ?_)
    · have h1 : 999999999 ≤ v.patch := by simpa using h
      refine wlk GVaJ18.down ?_
      refine rtrb GVaJ18.down ?_
      refine Vle.of_eq ?_
      simp only [nextV, if_neg h0.1, if_neg h0.2, if_pos h1]
      rfl
    · have h1 : ¬ 999999999 ≤ v.patch := by simpa using h
      have hw := wrap_in (n := v.patch + 1) (by omega) (by omega)
      have hw3 : IntKind.i64.wrap (2 + 1) = 3 := by rw [wrap_in (by omega) (by omega)]; rfl
      refine wlk (And.intro hw (And.intro hw3 GVaJ18.down)) ?_
      refine AWP_loop (α := Unit) (fun _ => [.junk, .junk, .ptr σ.length 0, .junk, .ptr (σ.length + 1) 0, .junk, .junk, .junk, .junk, .junk, .junk, .junk, .junk, .junk, .junk, .junk, .junk, .junk, .junk, .junk, .junk, .junk, .junk, .junk, .junk, .junk, .junk, .junk, .junk, .junk, .junk, .junk, .junk, .junk, .junk, .junk, .junk, .junk, .sl .ro [], .int .i64 0, .int .i64 0, .junk, .junk, .junk, .junk, .junk, .junk, .junk]) (fun _ => σ ++ [.box [.int .i64 v.major, .int .i64 v.minor, .int .i64 (v.patch + 1), .sl .nil []], .box [.int .i64 0, .int .i64 0, .int .i64 0, .sl .nil []]]) (fun _ => 0) () (.same ?_) (fun _ => by simp) ?_
      · exact lle
      · intro _
        refine wlk GVaJ18.down ?_
        refine rtrb GVaJ18.down ?_
        refine Vle.of_eq ?_
        simp only [nextV, if_neg h0.1, if_neg h0.2, if_neg h1]
        rfl
  · have h0 : part = 0 ∨ part = 1 := by
      have : ¬ (¬ part = 0 ∧ ¬ part = 1) := by simpa using h
      omega
    rcases h0 with rfl | rfl
    · refine wlk GVaJ18.down ?_
      refine AWP_cond rfl (fun h => ?_) (fun h => ?_)
      · have h1 : ¬ v.major < 999999999 := by simp at h; omega
        refine wlk GVaJ18.down ?_
        refine rtrb GVaJ18.down ?_
        refine Vle.of_eq ?_
        simp only [nextV, if_true, if_neg h1]
        rfl
      · have h1 : v.major < 999999999 := by simpa using h
        have hw := wrap_in (n := v.major + 1) (by omega) (by omega)
        have hw3 : IntKind.i64.wrap (0 + 1) = 1 := by rw [wrap_in (by omega) (by omega)]; rfl
        refine wlk (And.intro hw (And.intro hw3 GVaJ18.down)) ?_
        refine AWP_loop (α := { k : Nat // k ≤ 2 }) (fun k => [.junk, .junk, .ptr σ.length 0, .junk, .ptr (σ.length + 1) 0, .junk, .junk, .junk, .junk, .junk, .junk, .junk, .junk, .junk, .junk, .junk, .junk, .junk, .junk, .junk, .junk, .junk, .junk, .junk, .junk, .junk, .junk, .junk, .junk, .junk, .junk, .junk, .junk, .junk, .junk, .junk, .junk, .junk, .sl .ro [[.ptr σ.length 1], [.ptr σ.length 2]], .int .i64 2, .int .i64 (ik k.1), .junk, .junk, .junk, .junk, .junk, .junk, .junk]) (fun k => σ ++ [.box (nx0 v k.1), .box [.int .i64 0, .int .i64 0, .int .i64 0, .sl .nil []]]) (fun k => 2 - k.1) ⟨0, by omega⟩ (.same ?_) (fun _ => by simp) ?_
        · exact lle
        · rintro ⟨k, hk⟩
          have hk3 : k = 0 ∨ k = 1 ∨ k = 2 := by omega
          rcases hk3 with rfl | rfl | rfl
          · refine wlk (And.intro @ik.eq_def (And.intro @nx0.eq_def GVaJ18.down)) ?_
            refine ⟨⟨1, by omega⟩, by simp, ?_⟩
            rw [wrap_in (by omega) (by omega)]
            exact .same (by exact lle)
          · refine wlk (And.intro @ik.eq_def (And.intro @nx0.eq_def GVaJ18.down)) ?_
            refine ⟨⟨2, by omega⟩, by simp, ?_⟩
            rw [wrap_in (by omega) (by omega)]
            exact .same (by exact lle)
          · refine wlk (And.intro @ik.eq_def (And.intro @nx0.eq_def GVaJ18.down)) ?_
            refine rtrb GVaJ18.down ?_
            refine Vle.of_eq ?_
            simp only [nextV, if_true, if_pos h1]
            rfl
    · refine wlk GVaJ18.down ?_
      refine AWP_cond rfl (fun h => ?_) (fun h => ?_)
      · have h1 : ¬ v.minor < 999999999 := by simp at h; omega
        refine wlk GVaJ18.down ?_
        refine rtrb GVaJ18.down ?_
        refine Vle.of_eq ?_
        simp only [nextV, if_true, if_neg h1]
        rfl
      · have h1 : v.minor < 999999999 := by simpa using h
        have hw := wrap_in (n := v.minor + 1) (by omega) (by omega)
        have hw3 : IntKind.i64.wrap (1 + 1) = 2 := by rw [wrap_in (by omega) (by omega)]; rfl
        refine wlk (And.intro hw (And.intro hw3 GVaJ18.down)) ?_
        refine AWP_loop (α := { k : Nat // k ≤ 1 }) (fun k => [.junk, .junk, .ptr σ.length 0, .junk, .ptr (σ.length + 1) 0, .junk, .junk, .junk, .junk, .junk, .junk, .junk, .junk, .junk, .junk, .junk, .junk, .junk, .junk, .junk, .junk, .junk, .junk, .junk, .junk, .junk, .junk, .junk, .junk, .junk, .junk, .junk, .junk, .junk, .junk, .junk, .junk, .junk, .sl .ro [[.ptr σ.length 2]], .int .i64 1, .int .i64 (ik k.1), .junk, .junk, .junk, .junk, .junk, .junk, .junk]) (fun k => σ ++ [.box (nx1 v k.1), .box [.int .i64 0, .int .i64 0, .int .i64 0, .sl .nil []]]) (fun k => 1 - k.1) ⟨0, by omega⟩ (.same ?_) (fun _ => by simp) ?_
        · exact lle
        · rintro ⟨k, hk⟩
          have hk3 : k = 0 ∨ k = 1 := by omega
          rcases hk3 with rfl | rfl
          · refine wlk (And.intro @ik.eq_def (And.intro @nx1.eq_def GVaJ18.down)) ?_
            refine ⟨⟨1, by omega⟩, by simp, ?_⟩
            rw [wrap_in (by omega) (by omega)]
            exact .same (by exact lle)
          · refine wlk (And.intro @ik.eq_def (And.intro @nx1.eq_def GVaJ18.down)) ?_
            refine rtrb GVaJ18.down ?_
            refine Vle.of_eq ?_
            simp only [nextV, if_true, if_pos h1]
            rfl
theorem hstrings_ok (a b : List (List UInt8)) (t u : Tag) (σ : List AE) (ha : a.length ≤ 9223372036854775806) : Gives Tryd.prog 33 [.sl t (strs a), .sl u (strs b)] σ (.bool (a == b)) := by
  refine ent Tryd.func33 Tryd.ntmps33 Tryd.results33 ?_
  refine wlk (And.intro @strs_len GVaJ33.down) ?_
  refine AWP_cond rfl (fun h => ?_) (fun h => ?_)
  · refine wlk GVaJ33.down ?_
    refine rtr GVaJ33.down ?_
    refine ⟨?_, rfl⟩
    have : (a == b) = false := by
      rw [beq_eq_false_iff_ne]
      intro e
      rw [e] at h
      simp at h
    rw [this]
  · have hl : a.length = b.length := by have : ((a.length : Int)) = b.length := by simpa using h
                                        omega
    refine wlk GVaJ33.down ?_
    refine AWP_loop (α := { k : Nat // k ≤ a.length ∧ a.take k = b.take k }) (fun k => [.sl t (strs a), .sl u (strs b), .junk, .junk, .bool false, .int .i64 (k.1 : Int), .junk, .junk, .junk, .junk, .junk, .junk, .junk, .junk, .junk, .junk, .junk, .junk, .junk, .junk, .junk, .junk, .junk, .junk, .junk, .junk]) (fun _ => σ) (fun k => a.length - k.1) ⟨0, by omega, by simp⟩ (.same ?_) (fun _ => Nat.le_refl _) ?_
    · exact lle
    · rintro ⟨k, hk, hd⟩
      refine wlk (And.intro @strs_len GVaJ33.down) ?_
      refine AWP_cond rfl (fun h => ?_) (fun h => ?_)
      · have hla : k < a.length := by simpa using h
        have hlb : k < b.length := by omega
        refine wlk (And.intro hla (And.intro hlb (And.intro @strs_len (And.intro @strs_flat (And.intro (strs_getD hla) (And.intro (strs_getD hlb) GVaJ33.down)))))) ?_
        refine AWP_cond rfl (fun h => ?_) (fun h => ?_)
        · refine wlk GVaJ33.down ?_
          refine rtr GVaJ33.down ?_
          refine ⟨?_, rfl⟩
          have : (a == b) = false := by
            rw [beq_eq_false_iff_ne]
            intro e
            rw [e] at h
            simp at h
          rw [this]
        · have he : a[k] = b[k] := by simpa [List.getD_eq_getElem?_getD, List.getElem?_eq_getElem hla, List.getElem?_eq_getElem hlb] using h
          refine wlk GVaJ33.down ?_
          refine ⟨⟨k + 1, by omega, by rw [List.take_succ_eq_append_getElem hla, List.take_succ_eq_append_getElem hlb, hd, he]⟩, by simp; omega, ?_⟩
          rw [wrap_in (by omega) (by omega)]
          exact .same (by exact lle)
      · have hk' : k = a.length := by have : ¬ k < a.length := by simpa using h
                                      omega
        subst hk'
        refine wlk GVaJ33.down ?_
        refine rtr GVaJ33.down ?_
        refine ⟨?_, rfl⟩
        rw [List.take_length, hl, List.take_length] at hd
        simp [hd]
def eqV (a b : Ver) : Bool := a.major == b.major && a.minor == b.minor && a.patch == b.patch && a.pre == b.pre
theorem hversion_ok (a b : Ver) (t u : Tag) (σ : List AE) (ha : a.pre.length ≤ 9223372036854775806) : Gives Tryd.prog 12 [encV t a, encV u b] σ (.bool (eqV a b)) := by
  refine Gives_drop (hb := fun hb => trivial) ?_
  unfold encV
  refine ent Tryd.func12 Tryd.ntmps12 Tryd.results12 ?_
  refine wlk GVaJ12.down ?_
  refine cll (hstrings_ok a.pre b.pre t u _ ha) ?_
  refine wlk GVaJ12.down ?_
  refine rtrb GVaJ12.down ?_
  exact Vle.refl _
def lightV (v : Ver) : Bool := decide (v.pre.length ≤ 6) && v.pre.all fun x => decide (x.length ≤ 30)
theorem lightV_ok (v : Ver) (t : Tag) (σ : List AE) : Gives Tryd.prog 14 [encV t v] σ (.bool (lightV v)) := by
  refine Gives_drop (hb := fun hb => trivial) ?_
  unfold encV
  refine ent Tryd.func14 Tryd.ntmps14 Tryd.results14 ?_
  refine wlk (And.intro @strs_len GVaJ14.down) ?_
  refine AWP_cond rfl (fun h => ?_) (fun h => ?_)
  · have h6 : ¬ v.pre.length ≤ 6 := by simp at h; omega
    refine wlk GVaJ14.down ?_
    refine rtrb GVaJ14.down ?_
    exact Vle.of_eq (by simp [lightV, h6])
  · have h6 : v.pre.length ≤ 6 := by simp at h; omega
    refine wlk GVaJ14.down ?_
    refine AWP_loop (α := { k : Nat // k ≤ v.pre.length ∧ ∀ x ∈ v.pre.take k, x.length ≤ 30 }) (fun k => [.junk, .ptr σ.length 0, .bool false, .int .i64 (k.1 : Int), .junk, .junk, .junk, .junk, .junk, .junk, .junk, .junk, .junk, .junk, .junk, .junk, .junk, .junk, .junk, .junk, .junk, .junk]) (fun _ => σ ++ [.box [.int .i64 v.major, .int .i64 v.minor, .int .i64 v.patch, .sl t (strs v.pre)]]) (fun k => v.pre.length - k.1) ⟨0, by omega, by simp⟩ (.same ?_) (fun _ => by simp) ?_
    · exact lle
    · rintro ⟨k, hk, hd⟩
      refine wlk (And.intro @strs_len GVaJ14.down) ?_
      refine AWP_cond rfl (fun h => ?_) (fun h => ?_)
      · have hla : k < v.pre.length := by simpa using h
        refine wlk (And.intro hla (And.intro @strs_len (And.intro @strs_flat (And.intro (strs_getD hla) GVaJ14.down)))) ?_
        refine AWP_cond rfl (fun h => ?_) (fun h => ?_)
        · refine wlk GVaJ14.down ?_
          refine rtrb GVaJ14.down ?_
          refine Vle.of_eq ?_
          have : v.pre.all (fun x => decide (x.length ≤ 30)) = false := by
            rw [List.all_eq_false]
            refine ⟨v.pre[k], List.getElem_mem _, ?_⟩
            simp [List.getD_eq_getElem?_getD, List.getElem?_eq_getElem hla] at h ⊢
            omega
          simp [lightV, this]
        · have he : v.pre[k].length ≤ 30 := by
            simp [List.getD_eq_getElem?_getD, List.getElem?_eq_getElem hla] at h
            omega
          refine wlk GVaJ14.down ?_
          refine ⟨⟨k + 1, by omega, fun x hx => ?_⟩, by simp; omega, ?_⟩
          · rw [List.take_succ_eq_append_getElem hla] at hx
            rcases List.mem_append.1 hx with hx | hx
            · exact hd x hx
            · rw [List.mem_singleton.1 hx]; exact he
          · rw [wrap_in (by omega) (by omega)]
            exact .same (by exact lle)
      · have hk' : k = v.pre.length := by have : ¬ k < v.pre.length := by simpa using h
                                          omega
        subst hk'
        rw [List.take_length] at hd
        refine wlk GVaJ14.down ?_
        refine rtrb GVaJ14.down ?_
        refine Vle.of_eq ?_
        have : v.pre.all (fun x => decide (x.length ≤ 30)) = true := by simpa using hd
        simp [lightV, this, h6]
end Go.Proofs.YtfagngmikbmmhaaDoor.A
