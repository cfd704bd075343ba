/- VerMarks: the contract. -/
import Derived.Test.YtfagngmikbmmhaaDoorVmA
import Derived.Test.YtfagngmikbmmhaaDoorVoB
namespace Go.Proofs.YtfagngmikbmmhaaDoor.A
open Go Go.RowKit
set_option maxRecDepth 100000
set_option linter.unusedSimpArgs false
set_option linter.unusedVariables false

def GVmB22 := PLift.up <| F3
def GVmB21 := PLift.up <| And.intro F3 <| And.intro F5 <| And.intro F9 <| And.intro F23 <| F43
def GVmB7 := PLift.up <| And.intro F3 <| And.intro F5 <| And.intro F9 <| And.intro F23 <| And.intro F25 <| F43
theorem encB_len (l : List UInt8) : (encB l).length = l.length := by simp [encB]
theorem encB_flat (l : List UInt8) : flat 1 (encB l) = true := by simp [encB, flat]
theorem encB_getD {l : List UInt8} {k : Nat} (h : k < l.length) : (encB l).getD k [] = [.int .u8 ((l.getD k 0).toNat : Int)] := by
  simp [encB, List.getD_eq_getElem?_getD, List.getElem?_map, List.getElem?_eq_getElem h]
theorem sign_law (n : Int) (σ : List AE) : Gives Tryd.prog 22 [.int .i64 n] σ (.int .i64 (sgnI n)) := by
  refine ent Tryd.func22 Tryd.ntmps22 Tryd.results22 ?_
  refine wlk GVmB22.down ?_
  refine AWP_cond rfl (fun h => ?_) (fun h => ?_)
  · refine wlk GVmB22.down ?_
    refine rtr GVmB22.down ?_
    refine ⟨?_, rfl⟩
    rw [sgnI, if_pos (by simpa using h)]
  · have h1 := h
    refine wlk GVmB22.down ?_
    refine AWP_cond rfl (fun h => ?_) (fun h => ?_)
    · refine wlk GVmB22.down ?_
      refine rtr GVmB22.down ?_
      refine ⟨?_, rfl⟩
      rw [sgnI, if_neg (by simpa using h1), if_pos (by simpa using h)]
    · refine wlk GVmB22.down ?_
      refine rtr GVmB22.down ?_
      refine ⟨?_, rfl⟩
      rw [sgnI, if_neg (by simpa using h1), if_neg (by simpa using h)]
theorem tab8 : ∀ m, m < 8 → [[V.str [48]], [V.str [57]], [V.str [49, 48]], [V.str [49, 48, 48, 48, 48, 48, 48, 48, 48, 48, 48, 48, 48, 48, 48, 48]], [V.str [45]], [V.str [65]], [V.str [97]], [V.str [97, 49]]].getD m [] = [V.str (tabL.getD m [])] := by
  intro m hm
  have : m = 0 ∨ m = 1 ∨ m = 2 ∨ m = 3 ∨ m = 4 ∨ m = 5 ∨ m = 6 ∨ m = 7 := by omega
  rcases this with rfl | rfl | rfl | rfl | rfl | rfl | rfl | rfl <;> rfl
theorem marked_ok (l : List UInt8) (t : Tag) (σ : List AE) (hl : l.length ≤ 5) : Gives Tryd.prog 21 [.sl t (encB l)] σ (.str (textV (mkV l))) := by
  refine ent Tryd.func21 Tryd.ntmps21 Tryd.results21 ?_
  refine wlk GVmB21.down ?_
  refine AWP_loop (α := { k : Nat // k ≤ l.length }) (fun k => [.sl t (encB l), .junk, .str [], .str (textV (mkV (l.take k.1))), .int .i64 (k.1 : Int), .junk, .junk, .junk, .junk, .junk, .junk, .junk, .junk, .junk, .junk, .junk, .junk, .junk, .junk, .junk, .junk, .junk, .junk, .junk, .junk, .junk, .junk, .junk]) (fun _ => σ) (fun k => l.length - k.1) ⟨0, by omega⟩ (.same ?_) (fun _ => Nat.le_refl _) ?_
  · rw [List.take_zero, textV_mk0]
    exact lle
  · rintro ⟨k, hk⟩
    refine wlk (And.intro @encB_len GVmB21.down) ?_
    refine AWP_cond rfl (fun h => ?_) (fun h => ?_)
    · have hlt : k < l.length := by simpa using h
      have hm8 : (l.getD k 0).toNat % 8 < 8 := Nat.mod_lt _ (by omega)
      have hmod : ((l.getD k 0).toNat : Int).tmod 8 = (((l.getD k 0).toNat % 8 : Nat) : Int) := by rw [Int.tmod_eq_emod_of_nonneg (by omega)]; omega
      have htab := tab8 _ hm8
      have hlen : (textV (mkV (l.take k))).length ≤ 90 := textV_mk_len (by rw [List.length_take]; omega)
      have htl : (tabL.getD ((l.getD k 0).toNat % 8) []).length ≤ 16 := tab_len (l.getD k 0)
      have hsn : textV (mkV (l.take (k + 1))) = textV (mkV (l.take k)) ++ ([if l.take k = [] then 45 else 46] ++ tabL.getD ((l.getD k 0).toNat % 8) []) := by
        rw [List.take_succ_eq_append_getElem hlt, textV_snoc]
        simp [tab, List.getD_eq_getElem?_getD, List.getElem?_eq_getElem hlt]
      have h88 : (8 : Int) ≠ 0 := by omega
      rcases Nat.eq_zero_or_pos k with rfl | hkp
      · have hmin : (if (1 : Int) < 0 then 1 else 0) = (0 : Int) := by simp
        simp only [List.take_zero] at hlen
        refine wlk (And.intro hlt (And.intro @encB_len (And.intro @encB_flat (And.intro (encB_getD hlt) (And.intro hmod (And.intro hmin (And.intro htab (And.intro hm8 (And.intro h88 GVmB21.down))))))))) ?_
        refine ⟨⟨0 + 1, by omega⟩, by simp; omega, ?_⟩
        rw [wrap_in (by omega) (by omega)]
        simp only [hsn, List.take_zero, if_true]
        exact .same (by exact lle)
      · have hmin : (if (1 : Int) < (k : Int) then 1 else (k : Int)) = 1 := by split <;> omega
        refine wlk (And.intro hlt (And.intro @encB_len (And.intro @encB_flat (And.intro (encB_getD hlt) (And.intro hmod (And.intro hmin (And.intro htab (And.intro hm8 (And.intro h88 GVmB21.down))))))))) ?_
        refine ⟨⟨k + 1, by omega⟩, by simp; omega, ?_⟩
        rw [wrap_in (by omega) (by omega)]
        have hne : ¬ l.take k = [] := by
          intro e
          have := congrArg List.length e
          rw [List.length_take, List.length_nil] at this
          omega
        simp only [hsn, if_neg hne]
        exact .same (by exact lle)
    · have hk' : k = l.length := by have : ¬ k < l.length := by simpa using h
                                    omega
      subst hk'
      refine wlk GVmB21.down ?_
      refine rtr GVmB21.down ?_
      refine ⟨?_, rfl⟩
      rw [List.take_length]
theorem verMarks_ok (a b : List UInt8) (t u : Tag) (σ : List AE) (ha : a.length ≤ maxLen) (hb : b.length ≤ maxLen) (hG : GV σ) : Gives Tryd.prog 7 [.sl t (encB a), .sl u (encB b)] σ (.bool true) := by
  simp only [maxLen] at ha hb
  refine Gives_drop (hb := fun hb => trivial) ?_
  refine ent Tryd.func7 Tryd.ntmps7 Tryd.results7 ?_
  refine wlk GVmB7.down ?_
  refine cll (known_ok _ hG) ?_
  refine wlk (And.intro @encB_len GVmB7.down) ?_
  refine AWP_cond rfl (fun h => ?_) (fun h => ?_)
  · refine wlk GVmB7.down ?_
    refine rtrb GVmB7.down ?_
    exact Vle.refl _
  · have h5 : a.length ≤ 5 ∧ b.length ≤ 5 := by simp at h; omega
    obtain ⟨a5, b5⟩ := h5
    have ga := mkV_good a5
    have gb := mkV_good b5
    have la := textV_mk_len a5
    have lb := textV_mk_len b5
    have hcc := isC_ver.anti (mkV a) (mkV b)
    have hin := cmpV_in (mkV a) (mkV b)
    have hmk := cmpV_mk a b
    refine wlk GVmB7.down ?_
    refine cll (marked_ok a t _ a5) ?_
    refine wlk GVmB7.down ?_
    refine cll (marked_ok b u _ b5) ?_
    refine wlk GVmB7.down ?_
    refine cll (parse_ok (textV (mkV a)) _ (by omega) hG) ?_
    rw [vOf_textV ga]
    refine wlk (And.intro @encV.eq_def GVmB7.down) ?_
    refine cll (parse_ok (textV (mkV b)) _ (by omega) (hG.app _)) ?_
    rw [vOf_textV gb]
    refine wlk (And.intro @encV.eq_def GVmB7.down) ?_
    refine cll (versionOf_ok (textV (mkV a)) _ (by omega)) ?_
    rw [vOf_textV ga]
    refine wlk (And.intro @encV.eq_def GVmB7.down) ?_
    refine cll (versionOf_ok (textV (mkV b)) _ (by omega)) ?_
    rw [vOf_textV gb]
    refine wlk (And.intro @encV.eq_def GVmB7.down) ?_
    refine cll (vcmp_ok (mkV a) (mkV b) .ro .ro _ ga.ok gb.ok) ?_
    refine wlk GVmB7.down ?_
    refine cll (rcmp_ok (mkV a) (mkV b) .ro .ro _ ga.ok gb.ok) ?_
    refine wlk GVmB7.down ?_
    refine cll (vcmp_ok (mkV b) (mkV a) .ro .ro _ gb.ok ga.ok) ?_
    refine wlk GVmB7.down ?_
    rw [hcc]
    generalize hc : cmpV (mkV a) (mkV b) = c at *
    have hw : IntKind.i64.wrap (0 - c) = - c := by rw [wrap_in (by omega) (by omega)]; omega
    rw [hw]
    refine AWP_cond rfl (fun h => ?_) (fun h => ?_)
    · exfalso
      simp at h
    · refine wlk (And.intro @encB_len GVmB7.down) ?_
      refine AWP_cond rfl (fun h => ?_) (fun h => ?_)
      · have hz : a.length = 0 ∨ b.length = 0 := by simp at h; simpa using h
        have hw2 : IntKind.i64.wrap ((b.length : Int) - (a.length : Int)) = (b.length : Int) - (a.length : Int) := wrap_in (by omega) (by omega)
        rw [if_pos hz] at hmk
        refine wlk (And.intro @encB_len (And.intro hw2 GVmB7.down)) ?_
        refine cll (sign_law _ _) ?_
        refine wlk GVmB7.down ?_
        refine rtrb GVmB7.down ?_
        refine Vle.of_eq ?_
        rw [hmk]
        simp
      · have hz : ¬ (a.length = 0 ∨ b.length = 0) := by simp at h; simpa using h
        rw [if_neg hz] at hmk
        refine wlk GVmB7.down ?_
        refine AWP_loop (α := { k : Nat // k ≤ a.length ∧ k ≤ b.length ∧ c = cmpT (a.drop k) (b.drop k) }) (fun k => [.sl t (encB a), .sl u (encB b), .junk, .junk, .junk, .junk, .junk, .junk, .junk, .junk, .junk, .junk, .junk, .junk, .junk, .int .i64 c, .int .i64 (k.1 : Int), .junk, .junk, .junk, .junk, .junk, .junk, .junk, .junk, .junk, .junk, .junk, .junk, .junk, .junk, .junk, .junk, .junk, .junk, .junk, .junk, .junk, .junk, .junk, .junk, .junk, .junk, .junk, .junk, .junk, .junk, .junk, .junk, .junk, .junk, .junk, .junk, .junk, .junk, .junk, .junk, .junk, .junk, .junk, .junk, .junk, .junk, .junk, .junk, .junk, .junk, .junk, .junk, .junk, .junk, .junk, .junk, .junk, .junk, .junk, .junk, .junk, .junk, .junk, .junk, .junk, .junk, .junk, .junk, .junk, .junk, .junk, .junk, .junk, .junk, .junk, .junk, .junk, .junk, .junk, .junk, .junk, .junk, .junk, .junk, .junk, .junk, .junk, .junk, .junk, .junk, .junk, .junk, .junk, .junk, .junk, .junk, .junk, .junk, .junk, .junk, .junk, .junk, .junk, .junk, .junk, .junk, .junk, .junk, .junk, .junk, .junk, .junk, .junk, .junk, .junk, .junk, .junk, .junk, .junk]) (fun _ => _) (fun k => a.length - k.1) ⟨0, by omega, by omega, by simpa using hmk⟩ (.same ?_) (fun _ => Nat.le_refl _) ?_
        · exact lle
        · rintro ⟨k, hka, hkb, hd⟩
          refine wlk (And.intro @encB_len GVmB7.down) ?_
          refine AWP_cond rfl (fun h => ?_) (fun h => ?_)
          · have hlt : k < a.length ∧ k < b.length := by simpa using h
            obtain ⟨hla, hlb⟩ := hlt
            have m1 : ((a.getD k 0).toNat : Int).tmod 8 = (((a.getD k 0).toNat % 8 : Nat) : Int) := by rw [Int.tmod_eq_emod_of_nonneg (by omega)]; omega
            have m2 : ((b.getD k 0).toNat : Int).tmod 8 = (((b.getD k 0).toNat % 8 : Nat) : Int) := by rw [Int.tmod_eq_emod_of_nonneg (by omega)]; omega
            have h88 : (8 : Int) ≠ 0 := by omega
            rw [cmpT_drop hla hlb] at hd
            have q1 : (a.getD k 0).toNat % 8 < 8 := Nat.mod_lt _ (by omega)
            have q2 : (b.getD k 0).toNat % 8 < 8 := Nat.mod_lt _ (by omega)
            refine wlk (And.intro hla (And.intro hlb (And.intro @encB_len (And.intro @encB_flat (And.intro (encB_getD hla) (And.intro (encB_getD hlb) (And.intro m1 (And.intro m2 (And.intro h88 GVmB7.down))))))))) ?_
            generalize hx : (a.getD k 0).toNat % 8 = x at *
            generalize hy : (b.getD k 0).toNat % 8 = y at *
            have w1 : IntKind.i64.wrap (x : Int) = x := wrap_in (by omega) (by omega)
            have w2 : IntKind.i64.wrap (y : Int) = y := wrap_in (by omega) (by omega)
            have w3 : IntKind.i64.wrap ((x : Int) - (y : Int)) = (x : Int) - (y : Int) := wrap_in (by omega) (by omega)
            refine AWP_cond rfl (fun h => ?_) (fun h => ?_)
            · have hne : x ≠ y := by simp at h; omega
              rw [if_pos hne] at hd
              refine wlk (And.intro hla (And.intro hlb (And.intro @encB_len (And.intro @encB_flat (And.intro (encB_getD hla) (And.intro (encB_getD hlb) (And.intro m1 (And.intro m2 (And.intro h88 (And.intro @cvt.eq_def (And.intro w1 (And.intro w2 (And.intro w3 GVmB7.down))))))))))))) ?_
              refine cll (sign_law _ _) ?_
              refine wlk GVmB7.down ?_
              refine rtrb GVmB7.down ?_
              refine Vle.of_eq ?_
              rw [hd]
              simp
            · have hne : ¬ x ≠ y := by simp at h; omega
              rw [if_neg hne] at hd
              refine wlk GVmB7.down ?_
              refine ⟨⟨k + 1, by omega, by omega, hd⟩, by simp; omega, ?_⟩
              rw [wrap_in (by omega) (by omega)]
              exact .same (by exact lle)
          · have hend : a.drop k = [] ∨ b.drop k = [] := by
              have : ¬ (k < a.length ∧ k < b.length) := by simpa using h
              rw [List.drop_eq_nil_iff, List.drop_eq_nil_iff]
              omega
            rw [cmpT_end hend] at hd
            have hw2 : IntKind.i64.wrap ((a.length : Int) - (b.length : Int)) = (a.length : Int) - (b.length : Int) := wrap_in (by omega) (by omega)
            refine wlk (And.intro @encB_len (And.intro hw2 GVmB7.down)) ?_
            refine cll (sign_law _ _) ?_
            refine wlk GVmB7.down ?_
            refine rtrb GVmB7.down ?_
            refine Vle.of_eq ?_
            have : c = sgnI ((a.length : Int) - (b.length : Int)) := by
              rw [hd]
              simp only [List.length_drop]
              unfold sgnI
              (repeat' split) <;> omega
            rw [this]
            simp
end Go.Proofs.YtfagngmikbmmhaaDoor.A
