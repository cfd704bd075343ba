/- The reference's VersionOf. -/
import Derived.Test.YtfagngmikbmmhaaDoorVaF
namespace Go.Proofs.YtfagngmikbmmhaaDoor.A
open Go Go.RowKit
set_option maxRecDepth 100000
set_option linter.unusedSimpArgs false
set_option linter.unusedVariables false

def GVaG11 := PLift.up <| And.intro F3 <| And.intro F5 <| And.intro F9 <| And.intro F23 <| F25
theorem cutAt_none {c : UInt8} : ∀ {l : List UInt8}, (∀ b ∈ l, b ≠ c) → cutAt c l = (l, [], false)
  | [], _ => rfl
  | a :: l, h => by
    rw [cutAt, if_neg (h a List.mem_cons_self), cutAt_none fun b hb => h b (List.mem_cons_of_mem _ hb)]
theorem cutAt_at {c : UInt8} {r : List UInt8} : ∀ {l : List UInt8}, (∀ b ∈ l, b ≠ c) → cutAt c (l ++ c :: r) = (l, r, true)
  | [], _ => by simp [cutAt]
  | a :: l, h => by
    rw [List.cons_append, cutAt, if_neg (h a List.mem_cons_self), cutAt_at fun b hb => h b (List.mem_cons_of_mem _ hb)]
theorem cutAt_hit {c : UInt8} {s : List UInt8} {k : Nat} (hk : k < s.length) (hc : s.getD k 0 = c) (h : ∀ b ∈ s.take k, b ≠ c) : cutAt c s = (s.take k, s.drop (k + 1), true) := by
  rw [List.getD_eq_getElem?_getD, List.getElem?_eq_getElem hk, Option.getD_some] at hc
  have e : s = s.take k ++ c :: s.drop (k + 1) := by
    conv => lhs; rw [← List.take_append_drop k s, List.drop_eq_getElem_cons hk, hc]
  conv => lhs; rw [e]
  exact cutAt_at h
/-- What has been found when the marks are read. -/
def VI (s : List UInt8) (p : List (List UInt8) × Tag) : Prop :=
  ((cutAt 45 s).2.2 = false ∧ p.1 = []) ∨ ((cutAt 45 s).2.2 = true ∧ p.1 = spl 46 (cutAt 45 s).2.1 ∧ p.1.length ≤ 5 ∧ p.1.all mark = true)
theorem spl_count (c : UInt8) (s : List UInt8) : (spl c s).length ≤ s.length + 1 := by
  rw [spl_len, Lib.count_one]
  have := List.count_le_length (a := c) (l := s)
  omega
theorem parse_bad {s : List UInt8} (h : (cutAt 45 s).2.2 = true) (hn : ¬((spl 46 (cutAt 45 s).2.1).length ≤ 5 ∧ (spl 46 (cutAt 45 s).2.1).all mark = true)) : parse s = none := by
  unfold parse
  simp only [h, if_true, if_neg hn]
  split
  · split <;> rfl
  · rfl
theorem enc_le (t : Tag) (v : Ver) (n : Int) : Vle (.tup [.agg [.int .i64 v.major, .int .i64 v.minor, .int .i64 v.patch, .sl t (strs v.pre)], .int .i64 n]) (.tup [encV .ro v, .int .i64 n]) :=
  Vle.tup ⟨Vle.agg ⟨Vle.refl _, Vle.refl _, Vle.refl _, Vle.ro _ _, trivial⟩, Vle.refl _, trivial⟩
theorem enc_none {s : List UInt8} (h : parse s = none) : Vle (.tup [.agg [.int .i64 0, .int .i64 0, .int .i64 0, .sl .nil []], .int .i64 60]) (.tup [encV .ro (vOf s).1, .int .i64 (vOf s).2]) := by
  simp only [vOf, h]
  exact enc_le .nil ⟨0, 0, 0, []⟩ 60
theorem enc_some {s : List UInt8} {v : Ver} (t : Tag) (h : parse s = some v) : Vle (.tup [.agg [.int .i64 v.major, .int .i64 v.minor, .int .i64 v.patch, .sl t (strs v.pre)], .int .i64 0]) (.tup [encV .ro (vOf s).1, .int .i64 (vOf s).2]) := by
  simp only [vOf, h]
  exact enc_le t v 0
theorem versionOf_ok (s : List UInt8) (σ : List AE) (hs : s.length < 4294967281) : Gives Tryd.prog 11 [.str s] σ (.tup [encV .ro (vOf s).1, .int .i64 (vOf s).2]) := by
  have hc1 := (cutAt_le 45 s).1
  have hc2 := (cutAt_le 45 s).2
  refine Gives_drop (hb := fun hb => by simp [bel, bels, bels2, tbel, encV, strs_bel]) ?_
  refine ent Tryd.func11 Tryd.ntmps11 Tryd.results11 ?_
  refine rgn GVaG11.down ?_
  refine rgn GVaG11.down ?_
  refine rgn GVaG11.down ?_
  refine AWP_seqJ (α := { p : List (List UInt8) × Tag // VI s p }) (fun p => [.str s, .junk, .ptr σ.length 0, .int .i64 0, .ptr (σ.length + 1) 0, .str (cutAt 45 s).1, .junk, .junk, .junk, .junk, .junk, .junk, .junk, .junk, .junk, .junk, .junk, .junk, .junk, .junk, .junk, .junk, .junk, .junk, .junk, .junk, .junk, .junk, .junk, .junk, .junk, .junk, .junk, .junk, .junk, .junk, .junk, .junk, .junk, .junk, .junk, .junk, .junk, .junk, .junk, .junk, .junk, .junk, .junk, .junk, .junk, .junk, .junk, .junk, .junk, .junk, .junk, .junk, .junk, .junk, .junk, .junk, .junk, .junk, .junk, .junk, .junk, .junk, .junk, .junk, .junk, .junk, .junk, .junk, .junk, .junk, .junk, .junk, .junk, .junk, .junk, .junk, .junk, .junk, .junk, .junk, .junk, .junk, .junk, .junk, .junk, .junk, .junk, .junk, .junk, .junk, .junk, .junk, .junk, .junk]) (fun p => σ ++ [.box [.int .i64 0, .int .i64 0, .int .i64 0, .sl .nil []], .box [.int .i64 0, .int .i64 0, .int .i64 0, .sl p.1.2 (strs p.1.1)]]) ?_ ?_
  · refine wlk GVaG11.down ?_
    refine AWP_loop (α := { k : Nat // k ≤ s.length ∧ ∀ b ∈ s.take k, b ≠ 45 }) (fun k => [.str s, .junk, .ptr σ.length 0, .int .i64 0, .ptr (σ.length + 1) 0, .str s, .int .i64 (k.1 : Int), .junk, .junk, .junk, .junk, .junk, .junk, .junk, .junk, .junk, .junk, .junk, .junk, .junk, .junk, .junk, .junk, .junk, .junk, .junk, .junk, .junk, .junk, .junk, .junk, .junk, .junk, .junk, .junk, .junk, .junk, .junk, .junk, .junk, .junk, .junk, .junk, .junk, .junk, .junk, .junk, .junk, .junk, .junk, .junk, .junk, .junk, .junk, .junk, .junk, .junk, .junk, .junk, .junk, .junk, .junk, .junk, .junk, .junk, .junk, .junk, .junk, .junk, .junk, .junk, .junk, .junk, .junk, .junk, .junk, .junk, .junk, .junk, .junk, .junk, .junk, .junk, .junk, .junk, .junk, .junk, .junk, .junk, .junk, .junk, .junk, .junk, .junk, .junk, .junk, .junk, .junk, .junk, .junk]) (fun k => σ ++ [.box [.int .i64 0, .int .i64 0, .int .i64 0, .sl .nil []], .box [.int .i64 0, .int .i64 0, .int .i64 0, .sl .nil []]]) (fun k => s.length - k.1) ⟨0, by omega, by simp⟩ (.same ?_) (fun _ => by simp) ?_
    · exact lle
    · rintro ⟨k, hk, hd⟩
      refine wlk GVaG11.down ?_
      refine AWP_cond rfl (fun h => ?_) (fun h => ?_)
      · have hlt : k < s.length := by simpa using h
        refine wlk (And.intro hlt GVaG11.down) ?_
        refine AWP_cond rfl (fun h => ?_) (fun h => ?_)
        · have hc : s.getD k 0 = 45 := by
            refine UInt8.toNat_inj.1 ?_
            simp at h ⊢
            omega
          have hcut := cutAt_hit hlt hc hd
          have hk1 : (0 : Int) ≤ (k : Int) ∧ (k : Int) ≤ (s.length : Int) := by omega
          have hk2 : (k : Int) + 1 ≤ (s.length : Int) := by omega
          have hk3 : (0 : Int) ≤ (k : Int) + 1 := by omega
          have hk4 : ((k : Int) + 1).toNat = k + 1 := by omega
          have hwr := wrap_in (n := (k : Int) + 1) (by omega) (by omega)
          have hpc := spl_count 46 (s.drop (k + 1))
          refine wlk (And.intro hk1 (And.intro hk1.2 (And.intro hwr (And.intro hk2 (And.intro hk3 (And.intro hk4 (And.intro @Int.le_refl (And.intro @List.take_length.{0} GVaG11.down)))))))) ?_
          refine cll (rsplit_ok 46 (s.drop (k + 1)) _ (by simp; omega)) ?_
          refine wlk (And.intro @strs_len GVaG11.down) ?_
          have hpre : spl 46 (cutAt 45 s).2.1 = spl 46 (s.drop (k + 1)) := by rw [hcut]
          have hhas : (cutAt 45 s).2.2 = true := by rw [hcut]
          refine AWP_cond rfl (fun h => ?_) (fun h => ?_)
          · have hp : parse s = none := parse_bad hhas (by rw [hpre]; simp at h; omega)
            refine wlk GVaG11.down ?_
            refine rtrb GVaG11.down ?_
            exact enc_none hp
          · have h5 : (spl 46 (s.drop (k + 1))).length ≤ 5 := by simp at h; omega
            refine wlk GVaG11.down ?_
            refine AWP_loop (α := { j : Nat // j ≤ (spl 46 (s.drop (k + 1))).length ∧ ∀ x ∈ (spl 46 (s.drop (k + 1))).take j, mark x = true }) (fun j => [.str s, .junk, .ptr σ.length 0, .int .i64 0, .ptr (σ.length + 1) 0, .str (s.take k), .junk, .int .i64 (j.1 : Int), .junk, .junk, .junk, .junk, .junk, .junk, .junk, .junk, .junk, .junk, .junk, .junk, .junk, .junk, .junk, .junk, .junk, .junk, .junk, .junk, .junk, .junk, .junk, .junk, .junk, .junk, .junk, .junk, .junk, .junk, .junk, .junk, .junk, .junk, .junk, .junk, .junk, .junk, .junk, .junk, .junk, .junk, .junk, .junk, .junk, .junk, .junk, .junk, .junk, .junk, .junk, .junk, .junk, .junk, .junk, .junk, .junk, .junk, .junk, .junk, .junk, .junk, .junk, .junk, .junk, .junk, .junk, .junk, .junk, .junk, .junk, .junk, .junk, .junk, .junk, .junk, .junk, .junk, .junk, .junk, .junk, .junk, .junk, .junk, .junk, .junk, .junk, .junk, .junk, .junk, .junk, .junk]) (fun _ => σ ++ [.box [.int .i64 0, .int .i64 0, .int .i64 0, .sl .nil []], .box [.int .i64 0, .int .i64 0, .int .i64 0, .sl .ro (strs (spl 46 (s.drop (k + 1))))]]) (fun j => (spl 46 (s.drop (k + 1))).length - j.1) ⟨0, by omega, by simp⟩ (.same ?_) (fun _ => by simp) ?_
            · exact lle
            · rintro ⟨j, hj, hm⟩
              refine wlk (And.intro @strs_len GVaG11.down) ?_
              refine AWP_cond rfl (fun h => ?_) (fun h => ?_)
              · have hjl : j < (spl 46 (s.drop (k + 1))).length := by simpa using h
                have hmem : (spl 46 (s.drop (k + 1))).getD j [] ∈ spl 46 (s.drop (k + 1)) := by rw [List.getD_eq_getElem?_getD, List.getElem?_eq_getElem hjl]; exact List.getElem_mem _
                have hle := spl_le 46 _ _ hmem
                have hdl : (s.drop (k + 1)).length ≤ s.length := by simp
                refine wlk (And.intro hjl (And.intro @strs_len (And.intro @strs_flat (And.intro (strs_getD hjl) GVaG11.down)))) ?_
                refine cll (rmark_ok ((spl 46 (s.drop (k + 1))).getD j []) _ (by omega)) ?_
                refine wlk GVaG11.down ?_
                refine AWP_cond rfl (fun h => ?_) (fun h => ?_)
                · have hp : parse s = none := parse_bad hhas (by
                    rw [hpre]
                    intro hc
                    have := List.all_eq_true.1 hc.2 _ hmem
                    rw [this] at h
                    cases h)
                  refine wlk GVaG11.down ?_
                  refine rtrb GVaG11.down ?_
                  exact enc_none hp
                · refine wlk GVaG11.down ?_
                  refine ⟨⟨j + 1, by omega, fun x hx => ?_⟩, by simp; omega, ?_⟩
                  · rw [List.take_succ_eq_append_getElem hjl] at hx
                    rcases List.mem_append.1 hx with hx | hx
                    · exact hm x hx
                    · rw [List.mem_singleton.1 hx]
                      simpa [List.getD_eq_getElem?_getD, List.getElem?_eq_getElem hjl] using h
                  · rw [wrap_in (by omega) (by omega)]
                    exact .same (by exact lle)
              · have hj' : j = (spl 46 (s.drop (k + 1))).length := by have : ¬ j < (spl 46 (s.drop (k + 1))).length := by simpa using h
                                                                      omega
                subst hj'
                rw [List.take_length] at hm
                refine wlk GVaG11.down ?_
                refine ⟨⟨(spl 46 (s.drop (k + 1)), .ro), .inr ⟨hhas, hpre.symm, h5, List.all_eq_true.2 hm⟩⟩, by simp, ?_⟩
                have e1 : (cutAt 45 s).1 = s.take k := by rw [hcut]
                simp only [e1]
                exact .same (by exact lle)
        · have hne : s.getD k 0 ≠ 45 := by
            intro e
            rw [e] at h
            simp at h
          refine wlk GVaG11.down ?_
          refine ⟨⟨k + 1, by omega, fun b hb => ?_⟩, by simp; omega, ?_⟩
          · rw [List.take_succ_eq_append_getElem hlt] at hb
            rcases List.mem_append.1 hb with hb | hb
            · exact hd b hb
            · rw [List.mem_singleton.1 hb]
              simpa [List.getD_eq_getElem?_getD, List.getElem?_eq_getElem hlt] using hne
          · rw [wrap_in (by omega) (by omega)]
            exact .same (by exact lle)
      · have hk' : k = s.length := by have : ¬ k < s.length := by simpa using h
                                      omega
        subst hk'
        rw [List.take_length] at hd
        have hcut := cutAt_none hd
        refine wlk GVaG11.down ?_
        refine ⟨⟨([], .nil), .inl ⟨by rw [hcut], rfl⟩⟩, by simp, ?_⟩
        have e1 : (cutAt 45 s).1 = s := by rw [hcut]
        simp only [e1]
        exact .same (by exact lle)
  · rintro ⟨⟨pre, t⟩, hp⟩
    refine wlk GVaG11.down ?_
    refine cll (rsplit_ok 46 (cutAt 45 s).1 _ (by omega)) ?_
    refine wlk (And.intro @strs_len GVaG11.down) ?_
    refine AWP_cond rfl (fun h => ?_) (fun h => ?_)
    · have hne : (spl 46 (cutAt 45 s).1).length ≠ 3 := by intro e; simp [e] at h
      have hp : parse s = none := by
        unfold parse
        split
        · rename_i a b c e; rw [e] at hne; simp at hne
        · rfl
      refine wlk GVaG11.down ?_
      refine rtrb GVaG11.down ?_
      exact enc_none hp
    · have h3 : (spl 46 (cutAt 45 s).1).length = 3 := by have : ((spl 46 (cutAt 45 s).1).length : Int) = 3 := by simpa using h
                                                         omega
      obtain ⟨a, b, c, habc⟩ : ∃ a b c, spl 46 (cutAt 45 s).1 = [a, b, c] := by
        match hx : spl 46 (cutAt 45 s).1, h3 with
        | [a, b, c], _ => exact ⟨a, b, c, rfl⟩
      have hla : ∀ x ∈ spl 46 (cutAt 45 s).1, x.length ≤ 9223372036854775806 := fun x hx => by have := spl_le 46 _ x hx; omega
      rw [habc] at hla h3 ⊢
      refine wlk (And.intro @strs.eq_def (And.intro @flat.eq_def GVaG11.down)) ?_
      refine cll (rnumber_ok a _ (hla a (by simp))) ?_
      refine wlk (And.intro @strs.eq_def (And.intro @flat.eq_def GVaG11.down)) ?_
      refine cll (rnumber_ok b _ (hla b (by simp))) ?_
      refine wlk (And.intro @strs.eq_def (And.intro @flat.eq_def GVaG11.down)) ?_
      refine cll (rnumber_ok c _ (hla c (by simp))) ?_
      refine wlk GVaG11.down ?_
      refine AWP_cond rfl (fun h => ?_) (fun h => ?_)
      · have hn : (numV a && numV b && numV c) = false := by
          cases h1 : numV a <;> cases h2 : numV b <;> cases h3 : numV c <;> simp_all
        have hp : parse s = none := by
          unfold parse
          rw [habc]
          simp [hn]
        refine wlk GVaG11.down ?_
        refine rtrb GVaG11.down ?_
        exact enc_none hp
      · have hn : numV a = true ∧ numV b = true ∧ numV c = true := by
          cases h1 : numV a <;> cases h2 : numV b <;> cases h3 : numV c <;> simp_all
        have hps : parse s = some ⟨val a, val b, val c, pre⟩ := by
          unfold parse
          rw [habc]
          simp only [hn, Bool.and_self, if_true]
          rcases hp with ⟨h1, h2⟩ | ⟨h1, h2, h3, h4⟩
          · simp only at h2
            rw [h1, h2]; rfl
          · simp only at h2 h3 h4
            subst h2
            rw [if_pos h1, if_pos ⟨h3, h4⟩]
        refine wlk (And.intro (rbad_of hn.1) (And.intro (rbad_of hn.2.1) (And.intro (rbad_of hn.2.2) GVaG11.down))) ?_
        refine rtrb GVaG11.down ?_
        exact enc_some t hps
end Go.Proofs.YtfagngmikbmmhaaDoor.A
