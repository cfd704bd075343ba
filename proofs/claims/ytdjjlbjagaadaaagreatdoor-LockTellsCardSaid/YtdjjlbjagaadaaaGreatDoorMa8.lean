/- Texts of the proof, one behind another: VaE, VaF, VaG. -/
import Derived.Test.YtdjjlbjagaadaaaGreatDoorMa7
/- IndexFunc, ContainsFunc, Or, Compare at strings, marks, CompareFunc. -/
namespace Go.Proofs.YtdjjlbjagaadaaaGreatDoor.A
open Go Go.RowKit
set_option maxRecDepth 100000
set_option linter.unusedSimpArgs false
set_option linter.unusedVariables false

def GVaE189 := PLift.up <| And.intro F3 <| And.intro F9 <| And.intro F31 <| F33
def GVaE162 := PLift.up <| And.intro F3 <| And.intro F9 <| And.intro F31 <| F33
def GVaE147 := PLift.up <| And.intro F3 <| F210
def GVaE130 := PLift.up <| F9
def GVaE75 := PLift.up <| F9
def GVaE150 := PLift.up <| And.intro F3 <| And.intro F9 <| F210
def GVaE149 := PLift.up <| And.intro F3 <| And.intro F9 <| And.intro F33 <| F117
theorem strs_getD {l : List (List UInt8)} {k : Nat} (h : k < l.length) : (strs l).getD k [] = [.str (l.getD k [])] := by
  simp [strs, List.getD_eq_getElem?_getD, List.getElem?_map, List.getElem?_eq_getElem h]
theorem indexFunc_ok (f : FuncId) (p : List UInt8 → Bool) (l : List (List UInt8)) (t : Tag) (σ : List AE) (hl : l.length ≤ 9223372036854775806) (hf : ∀ x ∈ l, Gives Tryz.prog f [.str x] σ (.bool (p x))) :
    Gives Tryz.prog 189 [.sl t (strs l), .fn f []] σ (.int .i64 (match l.findIdx? p with | some i => (i : Int) | none => -1)) := by
  refine ent Tryz.func189 Tryz.ntmps189 Tryz.results189 ?_
  refine wlk (And.intro @strs_len GVaE189.down) ?_
  refine AWP_loop (α := { k : Nat // k ≤ l.length ∧ ∀ x ∈ l.take k, p x = false }) (fun k => [.sl t (strs l), .fn f [], .junk, .junk, .int .i64 0, .junk, .junk, .int .i64 l.length, .int .i64 (k.1 : Int), .junk, .junk, .junk, .junk, .junk, .junk, .junk, .junk, .junk, .junk]) (fun _ => σ) (fun k => l.length - k.1) ⟨0, by omega, by simp⟩ (.same ?_) (fun _ => Nat.le_refl _) ?_
  · exact lle
  · rintro ⟨k, hk, hd⟩
    refine wlk GVaE189.down ?_
    refine AWP_cond rfl (fun h => ?_) (fun h => ?_)
    · have hlt : k < l.length := by simpa using h
      have hmem : l.getD k [] ∈ l := by rw [List.getD_eq_getElem?_getD, List.getElem?_eq_getElem hlt]; exact List.getElem_mem _
      refine wlk (And.intro hlt (And.intro @strs_len (And.intro @strs_flat (And.intro (strs_getD hlt) GVaE189.down)))) ?_
      refine cll (hf _ hmem) ?_
      refine wlk GVaE189.down ?_
      refine AWP_cond rfl (fun h => ?_) (fun h => ?_)
      · refine wlk GVaE189.down ?_
        refine rtr GVaE189.down ?_
        refine ⟨?_, rfl⟩
        have : l.findIdx? p = some k := by
          rw [List.findIdx?_eq_some_iff_getElem]
          refine ⟨hlt, by simpa [List.getD_eq_getElem?_getD, List.getElem?_eq_getElem hlt] using h, fun j hj => ?_⟩
          have := hd (l[j]'(by omega)) (List.mem_take_iff_getElem.2 ⟨j, by omega, rfl⟩)
          simp [this]
        rw [this]
      · refine wlk GVaE189.down ?_
        refine ⟨⟨k + 1, by omega, fun x hx => ?_⟩, by simp; omega, ?_⟩
        · rw [List.take_succ_eq_append_getElem hlt] at hx
          rcases List.mem_append.1 hx with hx | hx
          · exact hd x hx
          · rw [List.mem_singleton.1 hx]
            simpa [List.getD_eq_getElem?_getD, List.getElem?_eq_getElem hlt] using h
        · rw [wrap_in (by omega) (by omega)]
          exact .same (by exact lle)
    · have hk' : k = l.length := by have : ¬ k < l.length := by simpa using h
                                    omega
      subst hk'
      refine wlk GVaE189.down ?_
      refine rtr GVaE189.down ?_
      refine ⟨?_, rfl⟩
      have : l.findIdx? p = none := by
        rw [List.findIdx?_eq_none_iff]
        rw [List.take_length] at hd
        simpa using hd
      rw [this]
theorem containsFunc_ok (f : FuncId) (p : List UInt8 → Bool) (l : List (List UInt8)) (t : Tag) (σ : List AE) (hl : l.length ≤ 9223372036854775806) (hf : ∀ x ∈ l, Gives Tryz.prog f [.str x] σ (.bool (p x))) :
    Gives Tryz.prog 162 [.sl t (strs l), .fn f []] σ (.bool (l.any p)) := by
  refine ent Tryz.func162 Tryz.ntmps162 Tryz.results162 ?_
  refine wlk GVaE162.down ?_
  refine cll (indexFunc_ok f p l t σ hl hf) ?_
  refine wlk GVaE162.down ?_
  refine rtr GVaE162.down ?_
  refine ⟨?_, rfl⟩
  congr 2
  cases h : l.findIdx? p with
  | none =>
    rw [List.findIdx?_eq_none_iff] at h
    have : l.any p = false := by simpa using h
    simp [this]
  | some i =>
    rw [List.findIdx?_eq_some_iff_getElem] at h
    obtain ⟨hi, h1, _⟩ := h
    have : l.any p = true := List.any_eq_true.2 ⟨_, List.getElem_mem hi, h1⟩
    simp [this]
def ints (l : List Int) : List (List V) := l.map fun n => [.int .i64 n]
theorem ints_len (l : List Int) : (ints l).length = l.length := by simp [ints]
theorem ints_flat (l : List Int) : flat 1 (ints l) = true := by simp [ints, flat]
theorem ints_getD {l : List Int} {k : Nat} (h : k < l.length) : (ints l).getD k [] = [.int .i64 (l.getD k 0)] := by
  simp [ints, List.getD_eq_getElem?_getD, List.getElem?_map, List.getElem?_eq_getElem h]
/-- The first that is not 0. -/
def orI : List Int → Int
  | [] => 0
  | n :: l => if n ≠ 0 then n else orI l
theorem orI_drop {l : List Int} {k : Nat} (h : k < l.length) : orI (l.drop k) = if l.getD k 0 ≠ 0 then l.getD k 0 else orI (l.drop (k + 1)) := by
  rw [List.drop_eq_getElem_cons h]
  simp [orI, List.getD_eq_getElem?_getD, List.getElem?_eq_getElem h]
theorem or_ok (l : List Int) (t : Tag) (σ : List AE) (hl : l.length ≤ 9223372036854775806) : Gives Tryz.prog 147 [.sl t (ints l)] σ (.int .i64 (orI l)) := by
  refine ent Tryz.func147 Tryz.ntmps147 Tryz.results147 ?_
  refine wlk (And.intro @ints_len GVaE147.down) ?_
  refine AWP_loop (α := { k : Nat // k ≤ l.length ∧ orI l = orI (l.drop k) }) (fun k => [.junk, .junk, .junk, .int .i64 0, .junk, .junk, .sl t (ints l), .int .i64 l.length, .int .i64 (k.1 : Int), .junk, .junk, .junk, .junk, .junk, .junk, .junk, .junk, .junk]) (fun _ => σ) (fun k => l.length - k.1) ⟨0, by omega, by simp⟩ (.same ?_) (fun _ => Nat.le_refl _) ?_
  · exact lle
  · rintro ⟨k, hk, hd⟩
    refine wlk GVaE147.down ?_
    refine AWP_cond rfl (fun h => ?_) (fun h => ?_)
    · have hlt : k < l.length := by simpa using h
      rw [orI_drop hlt] at hd
      refine wlk (And.intro hlt (And.intro @ints_len (And.intro @ints_flat (And.intro (ints_getD hlt) GVaE147.down)))) ?_
      refine AWP_cond rfl (fun h => ?_) (fun h => ?_)
      · refine wlk GVaE147.down ?_
        refine rtr GVaE147.down ?_
        refine ⟨?_, rfl⟩
        rw [hd, if_pos (by simpa using h)]
      · refine wlk GVaE147.down ?_
        rw [if_neg (by simpa using h)] at hd
        refine ⟨⟨k + 1, by omega, hd⟩, by simp; omega, ?_⟩
        rw [wrap_in (by omega) (by omega)]
        exact .same (by exact lle)
    · have hk' : k = l.length := by have : ¬ k < l.length := by simpa using h
                                    omega
      subst hk'
      refine wlk GVaE147.down ?_
      refine rtr GVaE147.down ?_
      refine ⟨?_, rfl⟩
      rw [hd]
      simp [orI]
theorem nanS_ok (a : List UInt8) (σ : List AE) : Gives Tryz.prog 130 [.str a] σ (.bool false) := by
  refine ent Tryz.func130 Tryz.ntmps130 Tryz.results130 ?_
  refine wlk GVaE130.down ?_
  refine rtr GVaE130.down ?_
  simp
theorem compareS_ok (a b : List UInt8) (σ : List AE) : Gives Tryz.prog 75 [.str a, .str b] σ (.int .i64 (cmpB a b)) := by
  refine ent Tryz.func75 Tryz.ntmps75 Tryz.results75 ?_
  refine wlk GVaE75.down ?_
  refine cll (nanS_ok a σ) ?_
  refine wlk GVaE75.down ?_
  refine cll (nanS_ok b σ) ?_
  refine wlk GVaE75.down ?_
  refine AWP_cond rfl (fun h => ?_) (fun h => ?_)
  · refine wlk GVaE75.down ?_
    refine rtr GVaE75.down ?_
    refine ⟨?_, rfl⟩
    simp [cmpB, ltB, h]
  · have h1 := h
    refine wlk GVaE75.down ?_
    refine AWP_cond rfl (fun h => ?_) (fun h => ?_)
    · refine wlk GVaE75.down ?_
      refine rtr GVaE75.down ?_
      refine ⟨?_, rfl⟩
      simp_all [cmpB, ltB]
    · refine wlk GVaE75.down ?_
      refine rtr GVaE75.down ?_
      refine ⟨?_, rfl⟩
      simp_all [cmpB, ltB]
def marksV (a b : List UInt8) : Int := if digits a && digits b then orI [Lib.compareInt a.length b.length, cmpB a b] else if digits a then -1 else if digits b then 1 else cmpB a b
theorem marks_ok (a b : List UInt8) (σ : List AE) (ha : a.length ≤ 9223372036854775806) (hb : b.length ≤ 9223372036854775806) : Gives Tryz.prog 150 [.str a, .str b] σ (.int .i64 (marksV a b)) := by
  refine ent Tryz.func150 Tryz.ntmps150 Tryz.results150 ?_
  refine wlk GVaE150.down ?_
  refine cll (digits_ok a σ ha) ?_
  refine wlk GVaE150.down ?_
  refine cll (digits_ok b σ hb) ?_
  refine wlk GVaE150.down ?_
  refine AWP_cond rfl (fun h => ?_) (fun h => ?_)
  · refine wlk GVaE150.down ?_
    refine cll (compare_ok _ _ σ) ?_
    refine wlk GVaE150.down ?_
    refine cll (compareS_ok _ _ σ) ?_
    refine wlk GVaE150.down ?_
    refine cll (or_ok [Lib.compareInt a.length b.length, cmpB a b] .full σ (by simp)) ?_
    refine wlk GVaE150.down ?_
    refine rtr GVaE150.down ?_
    refine ⟨?_, rfl⟩
    rw [marksV, if_pos h]
  · have h1 := h
    refine wlk GVaE150.down ?_
    refine AWP_cond rfl (fun h => ?_) (fun h => ?_)
    · refine wlk GVaE150.down ?_
      refine rtr GVaE150.down ?_
      refine ⟨?_, rfl⟩
      simp_all [marksV]
    · refine wlk GVaE150.down ?_
      refine AWP_cond rfl (fun h => ?_) (fun h => ?_)
      · refine wlk GVaE150.down ?_
        refine rtr GVaE150.down ?_
        refine ⟨?_, rfl⟩
        simp_all [marksV]
      · refine wlk GVaE150.down ?_
        refine cll (compareS_ok _ _ σ) ?_
        refine wlk GVaE150.down ?_
        refine rtr GVaE150.down ?_
        refine ⟨?_, rfl⟩
        simp_all [marksV]
/-- Two rows in order. -/
def cmpL (c : List UInt8 → List UInt8 → Int) : List (List UInt8) → List (List UInt8) → Int
  | [], [] => 0
  | [], _ :: _ => -1
  | _ :: _, [] => 1
  | x :: a, y :: b => if c x y ≠ 0 then c x y else cmpL c a b
theorem cmpL_drop (c : List UInt8 → List UInt8 → Int) {a b : List (List UInt8)} {k : Nat} (ha : k < a.length) (hb : k < b.length) : cmpL c (a.drop k) (b.drop k) = if c (a.getD k []) (b.getD k []) ≠ 0 then c (a.getD k []) (b.getD k []) else cmpL c (a.drop (k + 1)) (b.drop (k + 1)) := by
  rw [List.drop_eq_getElem_cons ha, List.drop_eq_getElem_cons hb]
  simp [cmpL, List.getD_eq_getElem?_getD, List.getElem?_eq_getElem ha, List.getElem?_eq_getElem hb]
theorem compareFunc_ok (f : FuncId) (c : List UInt8 → List UInt8 → Int) (a b : List (List UInt8)) (t u : Tag) (σ : List AE) (ha : a.length ≤ 9223372036854775806) (hf : ∀ x ∈ a, ∀ y ∈ b, Gives Tryz.prog f [.str x, .str y] σ (.int .i64 (c x y))) :
    Gives Tryz.prog 149 [.sl t (strs a), .sl u (strs b), .fn f []] σ (.int .i64 (cmpL c a b)) := by
  refine ent Tryz.func149 Tryz.ntmps149 Tryz.results149 ?_
  refine wlk (And.intro @strs_len GVaE149.down) ?_
  refine AWP_loop (α := { k : Nat // k ≤ a.length ∧ k ≤ b.length ∧ cmpL c a b = cmpL c (a.drop k) (b.drop k) }) (fun k => [.sl t (strs a), .sl u (strs b), .fn f [], .junk, .junk, .junk, .int .i64 0, .junk, .junk, .junk, .junk, .sl t (strs a), .int .i64 a.length, .int .i64 (k.1 : Int), .junk, .junk, .junk, .junk, .junk, .junk, .junk, .junk, .junk, .junk, .junk, .junk, .junk, .junk, .junk, .junk, .junk, .junk, .junk, .junk, .junk, .junk, .junk, .junk, .junk]) (fun _ => σ) (fun k => a.length - k.1) ⟨0, by omega, by omega, by simp⟩ (.same ?_) (fun _ => Nat.le_refl _) ?_
  · exact lle
  · rintro ⟨k, hk, hkb, hd⟩
    refine wlk GVaE149.down ?_
    refine AWP_cond rfl (fun h => ?_) (fun h => ?_)
    · have hlt : k < a.length := by simpa using h
      have hma : a.getD k [] ∈ a := by rw [List.getD_eq_getElem?_getD, List.getElem?_eq_getElem hlt]; exact List.getElem_mem _
      refine wlk (And.intro hlt (And.intro @strs_len (And.intro @strs_flat (And.intro (strs_getD hlt) GVaE149.down)))) ?_
      refine AWP_cond rfl (fun h => ?_) (fun h => ?_)
      · have hge : k = b.length := by have : b.length ≤ k := by simpa using h
                                      omega
        refine wlk GVaE149.down ?_
        refine rtr GVaE149.down ?_
        refine ⟨?_, rfl⟩
        rw [hd, hge, List.drop_length, ← hge, List.drop_eq_getElem_cons hlt]
        rfl
      · have hltb : k < b.length := by simpa using h
        have hmb : b.getD k [] ∈ b := by rw [List.getD_eq_getElem?_getD, List.getElem?_eq_getElem hltb]; exact List.getElem_mem _
        rw [cmpL_drop c hlt hltb] at hd
        refine wlk (And.intro hltb (And.intro @strs_len (And.intro @strs_flat (And.intro (strs_getD hltb) GVaE149.down)))) ?_
        refine cll (hf _ hma _ hmb) ?_
        refine wlk GVaE149.down ?_
        refine AWP_cond rfl (fun h => ?_) (fun h => ?_)
        · refine wlk GVaE149.down ?_
          refine rtr GVaE149.down ?_
          refine ⟨?_, rfl⟩
          rw [hd, if_pos (by simpa using h)]
        · refine wlk GVaE149.down ?_
          rw [if_neg (by simpa using h)] at hd
          refine ⟨⟨k + 1, by omega, by omega, hd⟩, by simp; omega, ?_⟩
          rw [wrap_in (by omega) (by omega)]
          exact .same (by exact lle)
    · have hk' : k = a.length := by have : ¬ k < a.length := by simpa using h
                                    omega
      refine wlk (And.intro @strs_len GVaE149.down) ?_
      refine AWP_cond rfl (fun h => ?_) (fun h => ?_)
      · have hltb : k < b.length := by have : a.length < b.length := by simpa using h
                                       omega
        refine wlk GVaE149.down ?_
        refine rtr GVaE149.down ?_
        refine ⟨?_, rfl⟩
        rw [hd, hk', List.drop_length, ← hk', List.drop_eq_getElem_cons hltb]
        rfl
      · have hge : k = b.length := by have : b.length ≤ a.length := by simpa using h
                                      omega
        refine wlk GVaE149.down ?_
        refine rtr GVaE149.down ?_
        refine ⟨?_, rfl⟩
        rw [hd, List.drop_of_length_le (by omega), List.drop_of_length_le (by omega)]
        rfl
end Go.Proofs.YtdjjlbjagaadaaaGreatDoor.A
/- ver.Parse. -/
namespace Go.Proofs.YtdjjlbjagaadaaaGreatDoor.A
open Go Go.RowKit
set_option maxRecDepth 100000
set_option linter.unusedSimpArgs false
set_option linter.unusedVariables false

def GVaF163 := PLift.up <| F9
def GVaF126 := PLift.up <| And.intro F3 <| And.intro F9 <| And.intro F31 <| And.intro F33 <| And.intro F35 <| F196
structure Ver where
  major : Int
  minor : Int
  patch : Int
  pre : List (List UInt8)
def encV (t : Tag) (v : Ver) : V := .agg [.int .i64 v.major, .int .i64 v.minor, .int .i64 v.patch, .sl t (strs v.pre)]
/-- The version that a text spells. -/
def parse (s : List UInt8) : Option Ver := match spl 46 (cutAt 45 s).1 with
  | [a, b, c] => if numV a && numV b && numV c then
      if (cutAt 45 s).2.2 then
        (if (spl 46 (cutAt 45 s).2.1).length ≤ 5 ∧ (spl 46 (cutAt 45 s).2.1).all mark = true then some ⟨val a, val b, val c, spl 46 (cutAt 45 s).2.1⟩ else none)
      else some ⟨val a, val b, val c, []⟩
    else none
  | _ => none
def vOf (s : List UInt8) : Ver × Int := match parse s with
  | some v => (v, 0)
  | none => (⟨0, 0, 0, []⟩, 60)
theorem parse1_ok (s : List UInt8) (σ : List AE) (hs : s.length ≤ 9223372036854775806) : Gives Tryz.prog 163 [.str s] σ (.bool (!mark s)) := by
  refine ent Tryz.func163 Tryz.ntmps163 Tryz.results163 ?_
  refine wlk GVaF163.down ?_
  refine cll (mark_ok s σ hs) ?_
  refine wlk GVaF163.down ?_
  refine rtr GVaF163.down ?_
  simp
/-- The three numbers as they are filled. -/
def arr (a b c : List UInt8) : Nat → List V
  | 0 => [.int .i64 0, .int .i64 0, .int .i64 0]
  | 1 => [.int .i64 (val a), .int .i64 0, .int .i64 0]
  | 2 => [.int .i64 (val a), .int .i64 (val b), .int .i64 0]
  | _ => [.int .i64 (val a), .int .i64 (val b), .int .i64 (val c)]
def ik : Nat → Int
  | 0 => 0
  | 1 => 1
  | 2 => 2
  | _ => 3
theorem parse_ok (s : List UInt8) (σ : List AE) (hs : s.length < 4294967281) (hG : GV σ) : Gives Tryz.prog 126 [.str s] σ (.tup [encV .ro (vOf s).1, .int .i64 (vOf s).2]) := by
  have hc1 := (cutAt_le 45 s).1
  have hc2 := (cutAt_le 45 s).2
  refine Gives_drop (hb := fun hb => by simp [bel, bels, bels2, tbel, encV, strs_bel]) ?_
  refine ent Tryz.func126 Tryz.ntmps126 Tryz.results126 ?_
  refine wlk GVaF126.down ?_
  refine cll (cut_ok 45 s _ hs (hG.app _)) ?_
  refine wlk GVaF126.down ?_
  refine cll (split_ok 46 (cutAt 45 s).1 _ (by omega) (hG.app _)) ?_
  refine wlk (And.intro @strs_len GVaF126.down) ?_
  refine AWP_cond rfl (fun h => ?_) (fun h => ?_)
  · have hne : (spl 46 (cutAt 45 s).1).length ≠ 3 := by intro e; simp [e] at h
    have hp : parse s = none := by
      unfold parse
      split
      · rename_i a b c e; rw [e] at hne; simp at hne
      · rfl
    refine wlk GVaF126.down ?_
    refine rtrb GVaF126.down ?_
    simp only [vOf, hp]
    exact Vle.tup ⟨Vle.agg ⟨Vle.refl _, Vle.refl _, Vle.refl _, Vle.ro _ _, trivial⟩, Vle.refl _, trivial⟩
  · have h3 : (spl 46 (cutAt 45 s).1).length = 3 := by have : ((spl 46 (cutAt 45 s).1).length : Int) = 3 := by simpa using h
                                                       omega
    obtain ⟨a, b, c, habc⟩ : ∃ a b c, spl 46 (cutAt 45 s).1 = [a, b, c] := by
      match hx : spl 46 (cutAt 45 s).1, h3 with
      | [a, b, c], _ => exact ⟨a, b, c, rfl⟩
    have hla : ∀ x ∈ spl 46 (cutAt 45 s).1, x.length ≤ 9223372036854775806 := fun x hx => by have := spl_le 46 _ x hx; omega
    rw [habc] at hla h3 ⊢
    refine wlk GVaF126.down ?_
    refine AWP_loop (α := { k : Nat // k ≤ 3 ∧ (0 < k → numV a = true) ∧ (1 < k → numV b = true) ∧ (2 < k → numV c = true) }) (fun k => [.str s, .junk, .ptr σ.length 0, .int .i64 0, .junk, .str (cutAt 45 s).2.1, .bool (cutAt 45 s).2.2, .sl .ro (strs [a, b, c]), .ptr (σ.length + 1) 0, .junk, .junk, .junk, .junk, .junk, .junk, .junk, .junk, .junk, .junk, .junk, .junk, .junk, .junk, .junk, .junk, .int .i64 (ik k.1), .junk, .junk, .junk, .junk, .junk, .junk, .junk, .junk, .junk, .junk, .junk, .junk, .junk, .junk, .junk, .junk, .junk, .junk, .junk, .junk, .junk, .junk, .junk, .junk, .junk, .junk, .junk, .junk, .junk, .junk, .junk, .junk, .junk, .junk, .junk, .junk, .junk, .junk, .junk, .junk, .junk]) (fun k => σ ++ [.box [.int .i64 0, .int .i64 0, .int .i64 0, .sl .nil []], .box (arr a b c k.1)]) (fun k => 3 - k.1) ⟨0, by omega, by simp, by simp, by simp⟩ (.same ?_) (fun _ => by simp) ?_
    · exact lle
    · rintro ⟨k, hk, hka, hkb, hkc⟩
      have hk4 : k = 0 ∨ k = 1 ∨ k = 2 ∨ k = 3 := by omega
      rcases hk4 with rfl | rfl | rfl | rfl
      · refine wlk (And.intro @arr.eq_def (And.intro @ik.eq_def (And.intro @strs.eq_def (And.intro @flat.eq_def (And.intro @numR.eq_def GVaF126.down))))) ?_
        refine cll (number_ok a _ (hla a (by simp))) ?_
        refine wlk (And.intro @arr.eq_def (And.intro @ik.eq_def (And.intro @strs.eq_def (And.intro @flat.eq_def (And.intro @numR.eq_def GVaF126.down))))) ?_
        refine AWP_cond rfl (fun h => ?_) (fun h => ?_)
        · have hn : numV a = false := by simpa using h
          have hp : parse s = none := by
            unfold parse
            rw [habc]
            simp [hn]
          refine wlk (And.intro @arr.eq_def (And.intro @ik.eq_def (And.intro @strs.eq_def (And.intro @flat.eq_def (And.intro @numR.eq_def GVaF126.down))))) ?_
          refine rtrb GVaF126.down ?_
          simp only [vOf, hp]
          exact Vle.tup ⟨Vle.agg ⟨Vle.refl _, Vle.refl _, Vle.refl _, Vle.ro _ _, trivial⟩, Vle.refl _, trivial⟩
        · have hn : numV a = true := by simpa using h
          refine wlk (And.intro @arr.eq_def (And.intro @ik.eq_def (And.intro @strs.eq_def (And.intro @flat.eq_def (And.intro @numR.eq_def (And.intro hn GVaF126.down)))))) ?_
          refine ⟨⟨1, by omega, fun _ => hn, by simp, by simp⟩, by simp, ?_⟩
          rw [wrap_in (by omega) (by omega)]
          exact .same (by exact lle)
      · refine wlk (And.intro @arr.eq_def (And.intro @ik.eq_def (And.intro @strs.eq_def (And.intro @flat.eq_def (And.intro @numR.eq_def GVaF126.down))))) ?_
        refine cll (number_ok b _ (hla b (by simp))) ?_
        refine wlk (And.intro @arr.eq_def (And.intro @ik.eq_def (And.intro @strs.eq_def (And.intro @flat.eq_def (And.intro @numR.eq_def GVaF126.down))))) ?_
        refine AWP_cond rfl (fun h => ?_) (fun h => ?_)
        · have hn : numV b = false := by simpa using h
          have hp : parse s = none := by
            unfold parse
            rw [habc]
            simp [hn]
          refine wlk (And.intro @arr.eq_def (And.intro @ik.eq_def (And.intro @strs.eq_def (And.intro @flat.eq_def (And.intro @numR.eq_def GVaF126.down))))) ?_
          refine rtrb GVaF126.down ?_
          simp only [vOf, hp]
          exact Vle.tup ⟨Vle.agg ⟨Vle.refl _, Vle.refl _, Vle.refl _, Vle.ro _ _, trivial⟩, Vle.refl _, trivial⟩
        · have hn : numV b = true := by simpa using h
          refine wlk (And.intro @arr.eq_def (And.intro @ik.eq_def (And.intro @strs.eq_def (And.intro @flat.eq_def (And.intro @numR.eq_def (And.intro hn GVaF126.down)))))) ?_
          refine ⟨⟨2, by omega, fun _ => hka (by omega), fun _ => hn, by simp⟩, by simp, ?_⟩
          rw [wrap_in (by omega) (by omega)]
          exact .same (by exact lle)
      · refine wlk (And.intro @arr.eq_def (And.intro @ik.eq_def (And.intro @strs.eq_def (And.intro @flat.eq_def (And.intro @numR.eq_def GVaF126.down))))) ?_
        refine cll (number_ok c _ (hla c (by simp))) ?_
        refine wlk (And.intro @arr.eq_def (And.intro @ik.eq_def (And.intro @strs.eq_def (And.intro @flat.eq_def (And.intro @numR.eq_def GVaF126.down))))) ?_
        refine AWP_cond rfl (fun h => ?_) (fun h => ?_)
        · have hn : numV c = false := by simpa using h
          have hp : parse s = none := by
            unfold parse
            rw [habc]
            simp [hn]
          refine wlk (And.intro @arr.eq_def (And.intro @ik.eq_def (And.intro @strs.eq_def (And.intro @flat.eq_def (And.intro @numR.eq_def GVaF126.down))))) ?_
          refine rtrb GVaF126.down ?_
          simp only [vOf, hp]
          exact Vle.tup ⟨Vle.agg ⟨Vle.refl _, Vle.refl _, Vle.refl _, Vle.ro _ _, trivial⟩, Vle.refl _, trivial⟩
        · have hn : numV c = true := by simpa using h
          refine wlk (And.intro @arr.eq_def (And.intro @ik.eq_def (And.intro @strs.eq_def (And.intro @flat.eq_def (And.intro @numR.eq_def (And.intro hn GVaF126.down)))))) ?_
          refine ⟨⟨3, by omega, fun _ => hka (by omega), fun _ => hkb (by omega), fun _ => hn⟩, by simp, ?_⟩
          rw [wrap_in (by omega) (by omega)]
          exact .same (by exact lle)
      · have h1 := hka (by omega)
        have h2 := hkb (by omega)
        have h3 := hkc (by omega)
        refine wlk (And.intro @arr.eq_def (And.intro @ik.eq_def GVaF126.down)) ?_
        cases hhas : (cutAt 45 s).2.2
        · have hp : parse s = some ⟨val a, val b, val c, []⟩ := by
            unfold parse
            rw [habc]
            simp [h1, h2, h3, hhas]
          refine wlk (And.intro @arr.eq_def (And.intro @ik.eq_def GVaF126.down)) ?_
          refine rtrb GVaF126.down ?_
          simp only [vOf, hp]
          exact Vle.tup ⟨Vle.agg ⟨Vle.refl _, Vle.refl _, Vle.refl _, Vle.ro _ _, trivial⟩, Vle.refl _, trivial⟩
        · refine wlk (And.intro @arr.eq_def (And.intro @ik.eq_def GVaF126.down)) ?_
          refine cll (split_ok 46 (cutAt 45 s).2.1 _ (by omega) (hG.app _)) ?_
          refine wlk (And.intro @arr.eq_def (And.intro @ik.eq_def (And.intro @strs_len GVaF126.down))) ?_
          have hpl : (spl 46 (cutAt 45 s).2.1).length ≤ 9223372036854775806 := by
            have h4 := spl_len 46 (cutAt 45 s).2.1
            rw [Lib.count_one] at h4
            have := List.count_le_length (a := (46 : UInt8)) (l := (cutAt 45 s).2.1)
            omega
          refine cll (containsFunc_ok _ (fun x => !mark x) (spl 46 (cutAt 45 s).2.1) .ro _ hpl (fun x hx => parse1_ok x _ (by have := spl_le 46 _ x hx; omega))) ?_
          refine wlk (And.intro @arr.eq_def (And.intro @ik.eq_def GVaF126.down)) ?_
          have hall : (spl 46 (cutAt 45 s).2.1).any (fun x => !mark x) = !((spl 46 (cutAt 45 s).2.1).all mark) := by
            rw [List.all_eq_not_any_not, Bool.not_not]
          rw [hall]
          refine AWP_cond rfl (fun h => ?_) (fun h => ?_)
          · have hp : parse s = none := by
              unfold parse
              rw [habc]
              simp only [h1, h2, h3, hhas, Bool.and_self, if_true]
              rw [if_neg]
              intro hc
              rw [hc.2] at h
              simp at h
              omega
            refine wlk GVaF126.down ?_
            refine rtrb GVaF126.down ?_
            simp only [vOf, hp]
            exact Vle.tup ⟨Vle.agg ⟨Vle.refl _, Vle.refl _, Vle.refl _, Vle.ro _ _, trivial⟩, Vle.refl _, trivial⟩
          · have hp : parse s = some ⟨val a, val b, val c, spl 46 (cutAt 45 s).2.1⟩ := by
              unfold parse
              rw [habc]
              simp only [h1, h2, h3, hhas, Bool.and_self, if_true]
              rw [if_pos]
              simp at h
              refine ⟨by omega, ?_⟩
              simpa using h.2
            refine wlk GVaF126.down ?_
            refine rtrb GVaF126.down ?_
            simp only [vOf, hp]
            exact Vle.tup ⟨Vle.agg ⟨Vle.refl _, Vle.refl _, Vle.refl _, Vle.ro _ _, trivial⟩, Vle.refl _, trivial⟩
end Go.Proofs.YtdjjlbjagaadaaaGreatDoor.A
/- The reference's VersionOf. -/
namespace Go.Proofs.YtdjjlbjagaadaaaGreatDoor.A
open Go Go.RowKit
set_option maxRecDepth 100000
set_option linter.unusedSimpArgs false
set_option linter.unusedVariables false

def GVaG29 := PLift.up <| And.intro F3 <| And.intro F5 <| And.intro F9 <| And.intro F33 <| F35
theorem cutAt_none {c : UInt8} : ∀ {l : List UInt8}, (∀ b ∈ l, b ≠ c) → cutAt c l = (l, [], false)
  | [], _ => rfl
  | a :: l, h => by
    rw [cutAt, if_neg (h a List.mem_cons_self), cutAt_none fun b hb => h b (List.mem_cons_of_mem _ hb)]
theorem cutAt_at {c : UInt8} {r : List UInt8} : ∀ {l : List UInt8}, (∀ b ∈ l, b ≠ c) → cutAt c (l ++ c :: r) = (l, r, true)
  | [], _ => by simp [cutAt]
  | a :: l, h => by
    rw [List.cons_append, cutAt, if_neg (h a List.mem_cons_self), cutAt_at fun b hb => h b (List.mem_cons_of_mem _ hb)]
theorem cutAt_hit {c : UInt8} {s : List UInt8} {k : Nat} (hk : k < s.length) (hc : s.getD k 0 = c) (h : ∀ b ∈ s.take k, b ≠ c) : cutAt c s = (s.take k, s.drop (k + 1), true) := by
  rw [List.getD_eq_getElem?_getD, List.getElem?_eq_getElem hk, Option.getD_some] at hc
  have e : s = s.take k ++ c :: s.drop (k + 1) := by
    conv => lhs; rw [← List.take_append_drop k s, List.drop_eq_getElem_cons hk, hc]
  conv => lhs; rw [e]
  exact cutAt_at h
/-- What has been found when the marks are read. -/
def VI (s : List UInt8) (p : List (List UInt8) × Tag) : Prop :=
  ((cutAt 45 s).2.2 = false ∧ p.1 = []) ∨ ((cutAt 45 s).2.2 = true ∧ p.1 = spl 46 (cutAt 45 s).2.1 ∧ p.1.length ≤ 5 ∧ p.1.all mark = true)
theorem spl_count (c : UInt8) (s : List UInt8) : (spl c s).length ≤ s.length + 1 := by
  rw [spl_len, Lib.count_one]
  have := List.count_le_length (a := c) (l := s)
  omega
theorem parse_bad {s : List UInt8} (h : (cutAt 45 s).2.2 = true) (hn : ¬((spl 46 (cutAt 45 s).2.1).length ≤ 5 ∧ (spl 46 (cutAt 45 s).2.1).all mark = true)) : parse s = none := by
  unfold parse
  simp only [h, if_true, if_neg hn]
  split
  · split <;> rfl
  · rfl
theorem enc_le (t : Tag) (v : Ver) (n : Int) : Vle (.tup [.agg [.int .i64 v.major, .int .i64 v.minor, .int .i64 v.patch, .sl t (strs v.pre)], .int .i64 n]) (.tup [encV .ro v, .int .i64 n]) :=
  Vle.tup ⟨Vle.agg ⟨Vle.refl _, Vle.refl _, Vle.refl _, Vle.ro _ _, trivial⟩, Vle.refl _, trivial⟩
theorem enc_none {s : List UInt8} (h : parse s = none) : Vle (.tup [.agg [.int .i64 0, .int .i64 0, .int .i64 0, .sl .nil []], .int .i64 60]) (.tup [encV .ro (vOf s).1, .int .i64 (vOf s).2]) := by
  simp only [vOf, h]
  exact enc_le .nil ⟨0, 0, 0, []⟩ 60
theorem enc_some {s : List UInt8} {v : Ver} (t : Tag) (h : parse s = some v) : Vle (.tup [.agg [.int .i64 v.major, .int .i64 v.minor, .int .i64 v.patch, .sl t (strs v.pre)], .int .i64 0]) (.tup [encV .ro (vOf s).1, .int .i64 (vOf s).2]) := by
  simp only [vOf, h]
  exact enc_le t v 0
theorem versionOf_ok (s : List UInt8) (σ : List AE) (hs : s.length < 4294967281) : Gives Tryz.prog 29 [.str s] σ (.tup [encV .ro (vOf s).1, .int .i64 (vOf s).2]) := by
  have hc1 := (cutAt_le 45 s).1
  have hc2 := (cutAt_le 45 s).2
  refine Gives_drop (hb := fun hb => by simp [bel, bels, bels2, tbel, encV, strs_bel]) ?_
  refine ent Tryz.func29 Tryz.ntmps29 Tryz.results29 ?_
  refine rgn GVaG29.down ?_
  refine rgn GVaG29.down ?_
  refine rgn GVaG29.down ?_
  refine AWP_seqJ (α := { p : List (List UInt8) × Tag // VI s p }) (fun p => [.str s, .junk, .ptr σ.length 0, .int .i64 0, .ptr (σ.length + 1) 0, .str (cutAt 45 s).1, .junk, .junk, .junk, .junk, .junk, .junk, .junk, .junk, .junk, .junk, .junk, .junk, .junk, .junk, .junk, .junk, .junk, .junk, .junk, .junk, .junk, .junk, .junk, .junk, .junk, .junk, .junk, .junk, .junk, .junk, .junk, .junk, .junk, .junk, .junk, .junk, .junk, .junk, .junk, .junk, .junk, .junk, .junk, .junk, .junk, .junk, .junk, .junk, .junk, .junk, .junk, .junk, .junk, .junk, .junk, .junk, .junk, .junk, .junk, .junk, .junk, .junk, .junk, .junk, .junk, .junk, .junk, .junk, .junk, .junk, .junk, .junk, .junk, .junk, .junk, .junk, .junk, .junk, .junk, .junk, .junk, .junk, .junk, .junk, .junk, .junk, .junk, .junk, .junk, .junk, .junk, .junk, .junk, .junk]) (fun p => σ ++ [.box [.int .i64 0, .int .i64 0, .int .i64 0, .sl .nil []], .box [.int .i64 0, .int .i64 0, .int .i64 0, .sl p.1.2 (strs p.1.1)]]) ?_ ?_
  · refine wlk GVaG29.down ?_
    refine AWP_loop (α := { k : Nat // k ≤ s.length ∧ ∀ b ∈ s.take k, b ≠ 45 }) (fun k => [.str s, .junk, .ptr σ.length 0, .int .i64 0, .ptr (σ.length + 1) 0, .str s, .int .i64 (k.1 : Int), .junk, .junk, .junk, .junk, .junk, .junk, .junk, .junk, .junk, .junk, .junk, .junk, .junk, .junk, .junk, .junk, .junk, .junk, .junk, .junk, .junk, .junk, .junk, .junk, .junk, .junk, .junk, .junk, .junk, .junk, .junk, .junk, .junk, .junk, .junk, .junk, .junk, .junk, .junk, .junk, .junk, .junk, .junk, .junk, .junk, .junk, .junk, .junk, .junk, .junk, .junk, .junk, .junk, .junk, .junk, .junk, .junk, .junk, .junk, .junk, .junk, .junk, .junk, .junk, .junk, .junk, .junk, .junk, .junk, .junk, .junk, .junk, .junk, .junk, .junk, .junk, .junk, .junk, .junk, .junk, .junk, .junk, .junk, .junk, .junk, .junk, .junk, .junk, .junk, .junk, .junk, .junk, .junk]) (fun k => σ ++ [.box [.int .i64 0, .int .i64 0, .int .i64 0, .sl .nil []], .box [.int .i64 0, .int .i64 0, .int .i64 0, .sl .nil []]]) (fun k => s.length - k.1) ⟨0, by omega, by simp⟩ (.same ?_) (fun _ => by simp) ?_
    · exact lle
    · rintro ⟨k, hk, hd⟩
      refine wlk GVaG29.down ?_
      refine AWP_cond rfl (fun h => ?_) (fun h => ?_)
      · have hlt : k < s.length := by simpa using h
        refine wlk (And.intro hlt GVaG29.down) ?_
        refine AWP_cond rfl (fun h => ?_) (fun h => ?_)
        · have hc : s.getD k 0 = 45 := by
            refine UInt8.toNat_inj.1 ?_
            simp at h ⊢
            omega
          have hcut := cutAt_hit hlt hc hd
          have hk1 : (0 : Int) ≤ (k : Int) ∧ (k : Int) ≤ (s.length : Int) := by omega
          have hk2 : (k : Int) + 1 ≤ (s.length : Int) := by omega
          have hk3 : (0 : Int) ≤ (k : Int) + 1 := by omega
          have hk4 : ((k : Int) + 1).toNat = k + 1 := by omega
          have hwr := wrap_in (n := (k : Int) + 1) (by omega) (by omega)
          have hpc := spl_count 46 (s.drop (k + 1))
          refine wlk (And.intro hk1 (And.intro hk1.2 (And.intro hwr (And.intro hk2 (And.intro hk3 (And.intro hk4 (And.intro @Int.le_refl (And.intro @List.take_length.{0} GVaG29.down)))))))) ?_
          refine cll (rsplit_ok 46 (s.drop (k + 1)) _ (by simp; omega)) ?_
          refine wlk (And.intro @strs_len GVaG29.down) ?_
          have hpre : spl 46 (cutAt 45 s).2.1 = spl 46 (s.drop (k + 1)) := by rw [hcut]
          have hhas : (cutAt 45 s).2.2 = true := by rw [hcut]
          refine AWP_cond rfl (fun h => ?_) (fun h => ?_)
          · have hp : parse s = none := parse_bad hhas (by rw [hpre]; simp at h; omega)
            refine wlk GVaG29.down ?_
            refine rtrb GVaG29.down ?_
            exact enc_none hp
          · have h5 : (spl 46 (s.drop (k + 1))).length ≤ 5 := by simp at h; omega
            refine wlk GVaG29.down ?_
            refine AWP_loop (α := { j : Nat // j ≤ (spl 46 (s.drop (k + 1))).length ∧ ∀ x ∈ (spl 46 (s.drop (k + 1))).take j, mark x = true }) (fun j => [.str s, .junk, .ptr σ.length 0, .int .i64 0, .ptr (σ.length + 1) 0, .str (s.take k), .junk, .int .i64 (j.1 : Int), .junk, .junk, .junk, .junk, .junk, .junk, .junk, .junk, .junk, .junk, .junk, .junk, .junk, .junk, .junk, .junk, .junk, .junk, .junk, .junk, .junk, .junk, .junk, .junk, .junk, .junk, .junk, .junk, .junk, .junk, .junk, .junk, .junk, .junk, .junk, .junk, .junk, .junk, .junk, .junk, .junk, .junk, .junk, .junk, .junk, .junk, .junk, .junk, .junk, .junk, .junk, .junk, .junk, .junk, .junk, .junk, .junk, .junk, .junk, .junk, .junk, .junk, .junk, .junk, .junk, .junk, .junk, .junk, .junk, .junk, .junk, .junk, .junk, .junk, .junk, .junk, .junk, .junk, .junk, .junk, .junk, .junk, .junk, .junk, .junk, .junk, .junk, .junk, .junk, .junk, .junk, .junk]) (fun _ => σ ++ [.box [.int .i64 0, .int .i64 0, .int .i64 0, .sl .nil []], .box [.int .i64 0, .int .i64 0, .int .i64 0, .sl .ro (strs (spl 46 (s.drop (k + 1))))]]) (fun j => (spl 46 (s.drop (k + 1))).length - j.1) ⟨0, by omega, by simp⟩ (.same ?_) (fun _ => by simp) ?_
            · exact lle
            · rintro ⟨j, hj, hm⟩
              refine wlk (And.intro @strs_len GVaG29.down) ?_
              refine AWP_cond rfl (fun h => ?_) (fun h => ?_)
              · have hjl : j < (spl 46 (s.drop (k + 1))).length := by simpa using h
                have hmem : (spl 46 (s.drop (k + 1))).getD j [] ∈ spl 46 (s.drop (k + 1)) := by rw [List.getD_eq_getElem?_getD, List.getElem?_eq_getElem hjl]; exact List.getElem_mem _
                have hle := spl_le 46 _ _ hmem
                have hdl : (s.drop (k + 1)).length ≤ s.length := by simp
                refine wlk (And.intro hjl (And.intro @strs_len (And.intro @strs_flat (And.intro (strs_getD hjl) GVaG29.down)))) ?_
                refine cll (rmark_ok ((spl 46 (s.drop (k + 1))).getD j []) _ (by omega)) ?_
                refine wlk GVaG29.down ?_
                refine AWP_cond rfl (fun h => ?_) (fun h => ?_)
                · have hp : parse s = none := parse_bad hhas (by
                    rw [hpre]
                    intro hc
                    have := List.all_eq_true.1 hc.2 _ hmem
                    rw [this] at h
                    cases h)
                  refine wlk GVaG29.down ?_
                  refine rtrb GVaG29.down ?_
                  exact enc_none hp
                · refine wlk GVaG29.down ?_
                  refine ⟨⟨j + 1, by omega, fun x hx => ?_⟩, by simp; omega, ?_⟩
                  · rw [List.take_succ_eq_append_getElem hjl] at hx
                    rcases List.mem_append.1 hx with hx | hx
                    · exact hm x hx
                    · rw [List.mem_singleton.1 hx]
                      simpa [List.getD_eq_getElem?_getD, List.getElem?_eq_getElem hjl] using h
                  · rw [wrap_in (by omega) (by omega)]
                    exact .same (by exact lle)
              · have hj' : j = (spl 46 (s.drop (k + 1))).length := by have : ¬ j < (spl 46 (s.drop (k + 1))).length := by simpa using h
                                                                      omega
                subst hj'
                rw [List.take_length] at hm
                refine wlk GVaG29.down ?_
                refine ⟨⟨(spl 46 (s.drop (k + 1)), .ro), .inr ⟨hhas, hpre.symm, h5, List.all_eq_true.2 hm⟩⟩, by simp, ?_⟩
                have e1 : (cutAt 45 s).1 = s.take k := by rw [hcut]
                simp only [e1]
                exact .same (by exact lle)
        · have hne : s.getD k 0 ≠ 45 := by
            intro e
            rw [e] at h
            simp at h
          refine wlk GVaG29.down ?_
          refine ⟨⟨k + 1, by omega, fun b hb => ?_⟩, by simp; omega, ?_⟩
          · rw [List.take_succ_eq_append_getElem hlt] at hb
            rcases List.mem_append.1 hb with hb | hb
            · exact hd b hb
            · rw [List.mem_singleton.1 hb]
              simpa [List.getD_eq_getElem?_getD, List.getElem?_eq_getElem hlt] using hne
          · rw [wrap_in (by omega) (by omega)]
            exact .same (by exact lle)
      · have hk' : k = s.length := by have : ¬ k < s.length := by simpa using h
                                      omega
        subst hk'
        rw [List.take_length] at hd
        have hcut := cutAt_none hd
        refine wlk GVaG29.down ?_
        refine ⟨⟨([], .nil), .inl ⟨by rw [hcut], rfl⟩⟩, by simp, ?_⟩
        have e1 : (cutAt 45 s).1 = s := by rw [hcut]
        simp only [e1]
        exact .same (by exact lle)
  · rintro ⟨⟨pre, t⟩, hp⟩
    refine wlk GVaG29.down ?_
    refine cll (rsplit_ok 46 (cutAt 45 s).1 _ (by omega)) ?_
    refine wlk (And.intro @strs_len GVaG29.down) ?_
    refine AWP_cond rfl (fun h => ?_) (fun h => ?_)
    · have hne : (spl 46 (cutAt 45 s).1).length ≠ 3 := by intro e; simp [e] at h
      have hp : parse s = none := by
        unfold parse
        split
        · rename_i a b c e; rw [e] at hne; simp at hne
        · rfl
      refine wlk GVaG29.down ?_
      refine rtrb GVaG29.down ?_
      exact enc_none hp
    · have h3 : (spl 46 (cutAt 45 s).1).length = 3 := by have : ((spl 46 (cutAt 45 s).1).length : Int) = 3 := by simpa using h
                                                         omega
      obtain ⟨a, b, c, habc⟩ : ∃ a b c, spl 46 (cutAt 45 s).1 = [a, b, c] := by
        match hx : spl 46 (cutAt 45 s).1, h3 with
        | [a, b, c], _ => exact ⟨a, b, c, rfl⟩
      have hla : ∀ x ∈ spl 46 (cutAt 45 s).1, x.length ≤ 9223372036854775806 := fun x hx => by have := spl_le 46 _ x hx; omega
      rw [habc] at hla h3 ⊢
      refine wlk (And.intro @strs.eq_def (And.intro @flat.eq_def GVaG29.down)) ?_
      refine cll (rnumber_ok a _ (hla a (by simp))) ?_
      refine wlk (And.intro @strs.eq_def (And.intro @flat.eq_def GVaG29.down)) ?_
      refine cll (rnumber_ok b _ (hla b (by simp))) ?_
      refine wlk (And.intro @strs.eq_def (And.intro @flat.eq_def GVaG29.down)) ?_
      refine cll (rnumber_ok c _ (hla c (by simp))) ?_
      refine wlk GVaG29.down ?_
      refine AWP_cond rfl (fun h => ?_) (fun h => ?_)
      · have hn : (numV a && numV b && numV c) = false := by
          cases h1 : numV a <;> cases h2 : numV b <;> cases h3 : numV c <;> simp_all
        have hp : parse s = none := by
          unfold parse
          rw [habc]
          simp [hn]
        refine wlk GVaG29.down ?_
        refine rtrb GVaG29.down ?_
        exact enc_none hp
      · have hn : numV a = true ∧ numV b = true ∧ numV c = true := by
          cases h1 : numV a <;> cases h2 : numV b <;> cases h3 : numV c <;> simp_all
        have hps : parse s = some ⟨val a, val b, val c, pre⟩ := by
          unfold parse
          rw [habc]
          simp only [hn, Bool.and_self, if_true]
          rcases hp with ⟨h1, h2⟩ | ⟨h1, h2, h3, h4⟩
          · simp only at h2
            rw [h1, h2]; rfl
          · simp only at h2 h3 h4
            subst h2
            rw [if_pos h1, if_pos ⟨h3, h4⟩]
        refine wlk (And.intro (rbad_of hn.1) (And.intro (rbad_of hn.2.1) (And.intro (rbad_of hn.2.2) GVaG29.down))) ?_
        refine rtrb GVaG29.down ?_
        exact enc_some t hps
end Go.Proofs.YtdjjlbjagaadaaaGreatDoor.A
