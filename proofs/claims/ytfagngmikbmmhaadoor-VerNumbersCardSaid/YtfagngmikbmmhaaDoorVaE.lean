/- IndexFunc, ContainsFunc, Or, Compare at strings, marks, CompareFunc. -/
import Derived.Test.YtfagngmikbmmhaaDoorVaD
namespace Go.Proofs.YtfagngmikbmmhaaDoor.A
open Go Go.RowKit
set_option maxRecDepth 100000
set_option linter.unusedSimpArgs false
set_option linter.unusedVariables false

def GVaE50 := PLift.up <| And.intro F3 <| And.intro F9 <| And.intro F23 <| F33
def GVaE27 := PLift.up <| And.intro F3 <| And.intro F9 <| And.intro F23 <| F33
def GVaE36 := PLift.up <| And.intro F3 <| F40
def GVaE67 := PLift.up <| F9
def GVaE57 := PLift.up <| F9
def GVaE39 := PLift.up <| And.intro F3 <| And.intro F9 <| F40
def GVaE38 := PLift.up <| And.intro F3 <| And.intro F9 <| And.intro F23 <| F64
theorem strs_getD {l : List (List UInt8)} {k : Nat} (h : k < l.length) : (strs l).getD k [] = [.str (l.getD k [])] := by
  simp [strs, List.getD_eq_getElem?_getD, List.getElem?_map, List.getElem?_eq_getElem h]
theorem indexFunc_ok (f : FuncId) (p : List UInt8 → Bool) (l : List (List UInt8)) (t : Tag) (σ : List AE) (hl : l.length ≤ 9223372036854775806) (hf : ∀ x ∈ l, Gives Tryd.prog f [.str x] σ (.bool (p x))) :
    Gives Tryd.prog 50 [.sl t (strs l), .fn f []] σ (.int .i64 (match l.findIdx? p with | some i => (i : Int) | none => -1)) := by
  refine ent Tryd.func50 Tryd.ntmps50 Tryd.results50 ?_
  refine wlk (And.intro @strs_len GVaE50.down) ?_
  refine AWP_loop (α := { k : Nat // k ≤ l.length ∧ ∀ x ∈ l.take k, p x = false }) (fun k => [.sl t (strs l), .fn f [], .junk, .junk, .int .i64 0, .junk, .junk, .int .i64 l.length, .int .i64 (k.1 : Int), .junk, .junk, .junk, .junk, .junk, .junk, .junk, .junk, .junk, .junk]) (fun _ => σ) (fun k => l.length - k.1) ⟨0, by omega, by simp⟩ (.same ?_) (fun _ => Nat.le_refl _) ?_
  · exact lle
  · rintro ⟨k, hk, hd⟩
    refine wlk GVaE50.down ?_
    refine AWP_cond rfl (fun h => ?_) (fun h => ?_)
    · have hlt : k < l.length := by simpa using h
      have hmem : l.getD k [] ∈ l := by rw [List.getD_eq_getElem?_getD, List.getElem?_eq_getElem hlt]; exact List.getElem_mem _
      refine wlk (And.intro hlt (And.intro @strs_len (And.intro @strs_flat (And.intro (strs_getD hlt) GVaE50.down)))) ?_
      refine cll (hf _ hmem) ?_
      refine wlk GVaE50.down ?_
      refine AWP_cond rfl (fun h => ?_) (fun h => ?_)
      · refine wlk GVaE50.down ?_
        refine rtr GVaE50.down ?_
        refine ⟨?_, rfl⟩
        have : l.findIdx? p = some k := by
          rw [List.findIdx?_eq_some_iff_getElem]
          refine ⟨hlt, by simpa [List.getD_eq_getElem?_getD, List.getElem?_eq_getElem hlt] using h, fun j hj => ?_⟩
          have := hd (l[j]'(by omega)) (List.mem_take_iff_getElem.2 ⟨j, by omega, rfl⟩)
          simp [this]
        rw [this]
      · refine wlk GVaE50.down ?_
        refine ⟨⟨k + 1, by omega, fun x hx => ?_⟩, by simp; omega, ?_⟩
        · rw [List.take_succ_eq_append_getElem hlt] at hx
          rcases List.mem_append.1 hx with hx | hx
          · exact hd x hx
          · rw [List.mem_singleton.1 hx]
            simpa [List.getD_eq_getElem?_getD, List.getElem?_eq_getElem hlt] using h
        · rw [wrap_in (by omega) (by omega)]
          exact .same (by exact lle)
    · have hk' : k = l.length := by have : ¬ k < l.length := by simpa using h
                                    omega
      subst hk'
      refine wlk GVaE50.down ?_
      refine rtr GVaE50.down ?_
      refine ⟨?_, rfl⟩
      have : l.findIdx? p = none := by
        rw [List.findIdx?_eq_none_iff]
        rw [List.take_length] at hd
        simpa using hd
      rw [this]
theorem containsFunc_ok (f : FuncId) (p : List UInt8 → Bool) (l : List (List UInt8)) (t : Tag) (σ : List AE) (hl : l.length ≤ 9223372036854775806) (hf : ∀ x ∈ l, Gives Tryd.prog f [.str x] σ (.bool (p x))) :
    Gives Tryd.prog 27 [.sl t (strs l), .fn f []] σ (.bool (l.any p)) := by
  refine ent Tryd.func27 Tryd.ntmps27 Tryd.results27 ?_
  refine wlk GVaE27.down ?_
  refine cll (indexFunc_ok f p l t σ hl hf) ?_
  refine wlk GVaE27.down ?_
  refine rtr GVaE27.down ?_
  refine ⟨?_, rfl⟩
  congr 2
  cases h : l.findIdx? p with
  | none =>
    rw [List.findIdx?_eq_none_iff] at h
    have : l.any p = false := by simpa using h
    simp [this]
  | some i =>
    rw [List.findIdx?_eq_some_iff_getElem] at h
    obtain ⟨hi, h1, _⟩ := h
    have : l.any p = true := List.any_eq_true.2 ⟨_, List.getElem_mem hi, h1⟩
    simp [this]
def ints (l : List Int) : List (List V) := l.map fun n => [.int .i64 n]
theorem ints_len (l : List Int) : (ints l).length = l.length := by simp [ints]
theorem ints_flat (l : List Int) : flat 1 (ints l) = true := by simp [ints, flat]
theorem ints_getD {l : List Int} {k : Nat} (h : k < l.length) : (ints l).getD k [] = [.int .i64 (l.getD k 0)] := by
  simp [ints, List.getD_eq_getElem?_getD, List.getElem?_map, List.getElem?_eq_getElem h]
/-- The first that is not 0. -/
def orI : List Int → Int
  | [] => 0
  | n :: l => if n ≠ 0 then n else orI l
theorem orI_drop {l : List Int} {k : Nat} (h : k < l.length) : orI (l.drop k) = if l.getD k 0 ≠ 0 then l.getD k 0 else orI (l.drop (k + 1)) := by
  rw [List.drop_eq_getElem_cons h]
  simp [orI, List.getD_eq_getElem?_getD, List.getElem?_eq_getElem h]
theorem or_ok (l : List Int) (t : Tag) (σ : List AE) (hl : l.length ≤ 9223372036854775806) : Gives Tryd.prog 36 [.sl t (ints l)] σ (.int .i64 (orI l)) := by
  refine ent Tryd.func36 Tryd.ntmps36 Tryd.results36 ?_
  refine wlk (And.intro @ints_len GVaE36.down) ?_
  refine AWP_loop (α := { k : Nat // k ≤ l.length ∧ orI l = orI (l.drop k) }) (fun k => [.junk, .junk, .junk, .int .i64 0, .junk, .junk, .sl t (ints l), .int .i64 l.length, .int .i64 (k.1 : Int), .junk, .junk, .junk, .junk, .junk, .junk, .junk, .junk, .junk]) (fun _ => σ) (fun k => l.length - k.1) ⟨0, by omega, by simp⟩ (.same ?_) (fun _ => Nat.le_refl _) ?_
  · exact lle
  · rintro ⟨k, hk, hd⟩
    refine wlk GVaE36.down ?_
    refine AWP_cond rfl (fun h => ?_) (fun h => ?_)
    · have hlt : k < l.length := by simpa using h
      rw [orI_drop hlt] at hd
      refine wlk (And.intro hlt (And.intro @ints_len (And.intro @ints_flat (And.intro (ints_getD hlt) GVaE36.down)))) ?_
      refine AWP_cond rfl (fun h => ?_) (fun h => ?_)
      · refine wlk GVaE36.down ?_
        refine rtr GVaE36.down ?_
        refine ⟨?_, rfl⟩
        rw [hd, if_pos (by simpa using h)]
      · refine wlk GVaE36.down ?_
        rw [if_neg (by simpa using h)] at hd
        refine ⟨⟨k + 1, by omega, hd⟩, by simp; omega, ?_⟩
        rw [wrap_in (by omega) (by omega)]
        exact .same (by exact lle)
    · have hk' : k = l.length := by have : ¬ k < l.length := by simpa using h
                                    omega
      subst hk'
      refine wlk GVaE36.down ?_
      refine rtr GVaE36.down ?_
      refine ⟨?_, rfl⟩
      rw [hd]
      simp [orI]
theorem nanS_ok (a : List UInt8) (σ : List AE) : Gives Tryd.prog 67 [.str a] σ (.bool false) := by
  refine ent Tryd.func67 Tryd.ntmps67 Tryd.results67 ?_
  refine wlk GVaE67.down ?_
  refine rtr GVaE67.down ?_
  simp
theorem compareS_ok (a b : List UInt8) (σ : List AE) : Gives Tryd.prog 57 [.str a, .str b] σ (.int .i64 (cmpB a b)) := by
  refine ent Tryd.func57 Tryd.ntmps57 Tryd.results57 ?_
  refine wlk GVaE57.down ?_
  refine cll (nanS_ok a σ) ?_
  refine wlk GVaE57.down ?_
  refine cll (nanS_ok b σ) ?_
  refine wlk GVaE57.down ?_
  refine AWP_cond rfl (fun h => ?_) (fun h => ?_)
  · refine wlk GVaE57.down ?_
    refine rtr GVaE57.down ?_
    refine ⟨?_, rfl⟩
    simp [cmpB, ltB, h]
  · have h1 := h
    refine wlk GVaE57.down ?_
    refine AWP_cond rfl (fun h => ?_) (fun h => ?_)
    · refine wlk GVaE57.down ?_
      refine rtr GVaE57.down ?_
      refine ⟨?_, rfl⟩
      simp_all [cmpB, ltB]
    · refine wlk GVaE57.down ?_
      refine rtr GVaE57.down ?_
      refine ⟨?_, rfl⟩
      simp_all [cmpB, ltB]
def marksV (a b : List UInt8) : Int := if digits a && digits b then orI [Lib.compareInt a.length b.length, cmpB a b] else if digits a then -1 else if digits b then 1 else cmpB a b
theorem marks_ok (a b : List UInt8) (σ : List AE) (ha : a.length ≤ 9223372036854775806) (hb : b.length ≤ 9223372036854775806) : Gives Tryd.prog 39 [.str a, .str b] σ (.int .i64 (marksV a b)) := by
  refine ent Tryd.func39 Tryd.ntmps39 Tryd.results39 ?_
  refine wlk GVaE39.down ?_
  refine cll (digits_ok a σ ha) ?_
  refine wlk GVaE39.down ?_
  refine cll (digits_ok b σ hb) ?_
  refine wlk GVaE39.down ?_
  refine AWP_cond rfl (fun h => ?_) (fun h => ?_)
  · refine wlk GVaE39.down ?_
    refine cll (compare_ok _ _ σ) ?_
    refine wlk GVaE39.down ?_
    refine cll (compareS_ok _ _ σ) ?_
    refine wlk GVaE39.down ?_
    refine cll (or_ok [Lib.compareInt a.length b.length, cmpB a b] .full σ (by simp)) ?_
    refine wlk GVaE39.down ?_
    refine rtr GVaE39.down ?_
    refine ⟨?_, rfl⟩
    rw [marksV, if_pos h]
  · have h1 := h
    refine wlk GVaE39.down ?_
    refine AWP_cond rfl (fun h => ?_) (fun h => ?_)
    · refine wlk GVaE39.down ?_
      refine rtr GVaE39.down ?_
      refine ⟨?_, rfl⟩
      simp_all [marksV]
    · refine wlk GVaE39.down ?_
      refine AWP_cond rfl (fun h => ?_) (fun h => ?_)
      · refine wlk GVaE39.down ?_
        refine rtr GVaE39.down ?_
        refine ⟨?_, rfl⟩
        simp_all [marksV]
      · refine wlk GVaE39.down ?_
        refine cll (compareS_ok _ _ σ) ?_
        refine wlk GVaE39.down ?_
        refine rtr GVaE39.down ?_
        refine ⟨?_, rfl⟩
        simp_all [marksV]
/-- Two rows in order. -/
def cmpL (c : List UInt8 → List UInt8 → Int) : List (List UInt8) → List (List UInt8) → Int
  | [], [] => 0
  | [], _ :: _ => -1
  | _ :: _, [] => 1
  | x :: a, y :: b => if c x y ≠ 0 then c x y else cmpL c a b
theorem cmpL_drop (c : List UInt8 → List UInt8 → Int) {a b : List (List UInt8)} {k : Nat} (ha : k < a.length) (hb : k < b.length) : cmpL c (a.drop k) (b.drop k) = if c (a.getD k []) (b.getD k []) ≠ 0 then c (a.getD k []) (b.getD k []) else cmpL c (a.drop (k + 1)) (b.drop (k + 1)) := by
  rw [List.drop_eq_getElem_cons ha, List.drop_eq_getElem_cons hb]
  simp [cmpL, List.getD_eq_getElem?_getD, List.getElem?_eq_getElem ha, List.getElem?_eq_getElem hb]
theorem compareFunc_ok (f : FuncId) (c : List UInt8 → List UInt8 → Int) (a b : List (List UInt8)) (t u : Tag) (σ : List AE) (ha : a.length ≤ 9223372036854775806) (hf : ∀ x ∈ a, ∀ y ∈ b, Gives Tryd.prog f [.str x, .str y] σ (.int .i64 (c x y))) :
    Gives Tryd.prog 38 [.sl t (strs a), .sl u (strs b), .fn f []] σ (.int .i64 (cmpL c a b)) := by
  refine ent Tryd.func38 Tryd.ntmps38 Tryd.results38 ?_
  refine wlk (And.intro @strs_len GVaE38.down) ?_
  refine AWP_loop (α := { k : Nat // k ≤ a.length ∧ k ≤ b.length ∧ cmpL c a b = cmpL c (a.drop k) (b.drop k) }) (fun k => [.sl t (strs a), .sl u (strs b), .fn f [], .junk, .junk, .junk, .int .i64 0, .junk, .junk, .junk, .junk, .sl t (strs a), .int .i64 a.length, .int .i64 (k.1 : Int), .junk, .junk, .junk, .junk, .junk, .junk, .junk, .junk, .junk, .junk, .junk, .junk, .junk, .junk, .junk, .junk, .junk, .junk, .junk, .junk, .junk, .junk, .junk, .junk, .junk]) (fun _ => σ) (fun k => a.length - k.1) ⟨0, by omega, by omega, by simp⟩ (.same ?_) (fun _ => Nat.le_refl _) ?_
  · exact lle
  · rintro ⟨k, hk, hkb, hd⟩
    refine wlk GVaE38.down ?_
    refine AWP_cond rfl (fun h => ?_) (fun h => ?_)
    · have hlt : k < a.length := by simpa using h
      have hma : a.getD k [] ∈ a := by rw [List.getD_eq_getElem?_getD, List.getElem?_eq_getElem hlt]; exact List.getElem_mem _
      refine wlk (And.intro hlt (And.intro @strs_len (And.intro @strs_flat (And.intro (strs_getD hlt) GVaE38.down)))) ?_
      refine AWP_cond rfl (fun h => ?_) (fun h => ?_)
      · have hge : k = b.length := by have : b.length ≤ k := by simpa using h
                                      omega
        refine wlk GVaE38.down ?_
        refine rtr GVaE38.down ?_
        refine ⟨?_, rfl⟩
        rw [hd, hge, List.drop_length, ← hge, List.drop_eq_getElem_cons hlt]
        rfl
      · have hltb : k < b.length := by simpa using h
        have hmb : b.getD k [] ∈ b := by rw [List.getD_eq_getElem?_getD, List.getElem?_eq_getElem hltb]; exact List.getElem_mem _
        rw [cmpL_drop c hlt hltb] at hd
        refine wlk (And.intro hltb (And.intro @strs_len (And.intro @strs_flat (And.intro (strs_getD hltb) GVaE38.down)))) ?_
        refine cll (hf _ hma _ hmb) ?_
        refine wlk GVaE38.down ?_
        refine AWP_cond rfl (fun h => ?_) (fun h => ?_)
        · refine wlk GVaE38.down ?_
          refine rtr GVaE38.down ?_
          refine ⟨?_, rfl⟩
          rw [hd, if_pos (by simpa using h)]
        · refine wlk GVaE38.down ?_
          rw [if_neg (by simpa using h)] at hd
          refine ⟨⟨k + 1, by omega, by omega, hd⟩, by simp; omega, ?_⟩
          rw [wrap_in (by omega) (by omega)]
          exact .same (by exact lle)
    · have hk' : k = a.length := by have : ¬ k < a.length := by simpa using h
                                    omega
      refine wlk (And.intro @strs_len GVaE38.down) ?_
      refine AWP_cond rfl (fun h => ?_) (fun h => ?_)
      · have hltb : k < b.length := by have : a.length < b.length := by simpa using h
                                       omega
        refine wlk GVaE38.down ?_
        refine rtr GVaE38.down ?_
        refine ⟨?_, rfl⟩
        rw [hd, hk', List.drop_length, ← hk', List.drop_eq_getElem_cons hltb]
        rfl
      · have hge : k = b.length := by have : b.length ≤ a.length := by simpa using h
                                      omega
        refine wlk GVaE38.down ?_
        refine rtr GVaE38.down ?_
        refine ⟨?_, rfl⟩
        rw [hd, List.drop_of_length_le (by omega), List.drop_of_length_le (by omega)]
        rfl
end Go.Proofs.YtfagngmikbmmhaaDoor.A
