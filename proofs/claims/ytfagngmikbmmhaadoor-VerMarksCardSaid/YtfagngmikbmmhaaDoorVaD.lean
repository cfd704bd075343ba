/- The reference's Split. -/
import Derived.Test.YtfagngmikbmmhaaDoorVaC
namespace Go.Proofs.YtfagngmikbmmhaaDoor.A
open Go Go.RowKit
set_option maxRecDepth 100000
set_option linter.unusedSimpArgs false
set_option linter.unusedVariables false

def GVaD30 := PLift.up <| And.intro F3 <| And.intro F5 <| And.intro F9 <| F23
theorem spl_none {c : UInt8} : ∀ {l : List UInt8}, (∀ b ∈ l, b ≠ c) → spl c l = [l]
  | [], _ => rfl
  | a :: l, h => by
    unfold spl
    rw [if_neg (h a List.mem_cons_self), spl_none fun b hb => h b (List.mem_cons_of_mem _ hb)]
theorem spl_at {c : UInt8} {r : List UInt8} : ∀ {l : List UInt8}, (∀ b ∈ l, b ≠ c) → spl c (l ++ c :: r) = l :: spl c r
  | [], _ => by simp [spl]
  | a :: l, h => by
    rw [List.cons_append, spl, if_neg (h a List.mem_cons_self), spl_at fun b hb => h b (List.mem_cons_of_mem _ hb)]
/-- In the midst of splitting: xs are done, the piece begins at f, k is looked at. -/
def SplI (c : UInt8) (s : List UInt8) (p : List (List UInt8) × Nat × Nat) : Prop :=
  (p.2.2 ≤ s.length ∧ p.2.1 ≤ p.2.2 ∧ spl c s = p.1 ++ spl c (s.drop p.2.1) ∧ ∀ b ∈ (s.drop p.2.1).take (p.2.2 - p.2.1), b ≠ c) ∨ (p.2.2 = s.length + 1 ∧ p.1 = spl c s ∧ p.2.1 ≤ s.length + 1)
theorem SplI.start (c : UInt8) (s : List UInt8) : SplI c s ([], 0, 0) := .inl ⟨Nat.zero_le _, Nat.le_refl _, by simp, by simp⟩
theorem SplI.len {c : UInt8} {s : List UInt8} {p : List (List UInt8) × Nat × Nat} (h : SplI c s p) : p.1.length ≤ s.length + 1 := by
  have : (spl c s).length ≤ s.length + 1 := by rw [spl_len, Lib.count_one]; have := List.count_le_length (a := c) (l := s); omega
  rcases h with ⟨_, _, h, _⟩ | ⟨_, h, _⟩
  · have := congrArg List.length h; simp at this; omega
  · rw [h]; exact this
theorem SplI.last {c : UInt8} {s : List UInt8} {xs : List (List UInt8)} {f k : Nat} (h : SplI c s (xs, f, k)) (hk : k = s.length) : SplI c s (xs ++ [(s.drop f).take (k - f)], k + 1, k + 1) := by
  rcases h with ⟨_, h1, h2, h3⟩ | ⟨h1, _⟩
  · simp only at h1 h2 h3
    refine .inr ⟨by simp only []; omega, ?_, by simp only []; omega⟩
    simp only
    have e : (s.drop f).take (k - f) = s.drop f := List.take_of_length_le (by rw [List.length_drop]; omega)
    rw [e] at h3 ⊢
    rw [h2, spl_none h3]
  · simp only at h1; omega
theorem SplI.hit {c : UInt8} {s : List UInt8} {xs : List (List UInt8)} {f k : Nat} (h : SplI c s (xs, f, k)) (hk : k < s.length) (hc : s.getD k 0 = c) : SplI c s (xs ++ [(s.drop f).take (k - f)], k + 1, k + 1) := by
  rcases h with ⟨_, h1, h2, h3⟩ | ⟨h1, _⟩
  · simp only at h1 h2 h3
    refine .inl ⟨by simp only []; omega, by simp only []; omega, ?_, by simp⟩
    simp only
    rw [List.getD_eq_getElem?_getD, List.getElem?_eq_getElem hk, Option.getD_some] at hc
    have e : s.drop f = (s.drop f).take (k - f) ++ c :: s.drop (k + 1) := by
      conv => lhs; rw [← List.take_append_drop (k - f) (s.drop f)]
      rw [List.drop_drop, show f + (k - f) = k from by omega, List.drop_eq_getElem_cons hk, hc]
    rw [h2]
    conv => lhs; rw [e]
    rw [spl_at h3]
    simp
  · simp only at h1; omega
theorem SplI.miss {c : UInt8} {s : List UInt8} {xs : List (List UInt8)} {f k : Nat} (h : SplI c s (xs, f, k)) (hk : k < s.length) (hc : s.getD k 0 ≠ c) : SplI c s (xs, f, k + 1) := by
  rcases h with ⟨_, h1, h2, h3⟩ | ⟨h1, _⟩
  · simp only at h1 h2 h3
    refine .inl ⟨by simp only []; omega, by simp only []; omega, h2, ?_⟩
    simp only
    rw [List.getD_eq_getElem?_getD, List.getElem?_eq_getElem hk, Option.getD_some] at hc
    intro b hb
    rw [show k + 1 - f = (k - f) + 1 from by omega, List.take_succ_eq_append_getElem (by rw [List.length_drop]; omega)] at hb
    rcases List.mem_append.1 hb with hb | hb
    · exact h3 b hb
    · rw [List.mem_singleton.1 hb, List.getElem_drop]
      simpa [show f + (k - f) = k from by omega] using hc
  · simp only at h1; omega
theorem SplI.from_le {c : UInt8} {s : List UInt8} {xs : List (List UInt8)} {f k : Nat} (h : SplI c s (xs, f, k)) (hk : k ≤ s.length) : f ≤ k := by
  rcases h with ⟨_, h1, _⟩ | ⟨h1, _⟩
  · exact h1
  · simp only at h1; omega
theorem SplI.end_ {c : UInt8} {s : List UInt8} {xs : List (List UInt8)} {f k : Nat} (h : SplI c s (xs, f, k)) (hk : ¬ k ≤ s.length) : xs = spl c s ∧ k = s.length + 1 := by
  rcases h with ⟨h1, _⟩ | ⟨h1, h2, _⟩
  · exact absurd h1 hk
  · exact ⟨h2, h1⟩

theorem strs_snoc (xs : List (List UInt8)) (p : List UInt8) : strs (xs ++ [p]) = strs xs ++ [[.str p]] := by simp [strs]
theorem rsplit_ok (c : UInt8) (s : List UInt8) (σ : List AE) (hs : s.length < 4294967281) : Gives Tryd.prog 30 [.str s, .int .u8 (c.toNat : Int)] σ (.sl .ro (strs (spl c s))) := by
  refine Gives_drop (hb := fun hb => ⟨trivial, strs_bel _ _⟩) ?_
  refine ent Tryd.func30 Tryd.ntmps30 Tryd.results30 ?_
  refine wlk GVaD30.down ?_
  refine AWP_tok 5 9 1 rfl ?_
  simp only [List.set_cons_succ, List.set_cons_zero]
  refine AWP_loop (α := { p : List (List UInt8) × Nat × Nat // SplI c s p }) (fun p => [.str s, .int .u8 (c.toNat : Int), .junk, .junk, .sl .nil [], .sl (.own σ.length p.1.1.length) (strs p.1.1), .int .i64 (p.1.2.1 : Int), .int .i64 (p.1.2.2 : Int), .junk, .junk, .junk, .junk, .junk, .junk, .junk, .junk, .junk, .junk, .junk, .junk, .junk, .junk, .junk, .junk, .junk, .junk, .junk, .junk, .junk, .junk, .junk, .junk, .junk, .junk, .junk]) (fun p => σ ++ [.tok p.1.1.length 9 1]) (fun p => s.length + 1 - p.1.2.2) ⟨([], 0, 0), .start c s⟩ (.same ?_) (fun p => by simp) ?_
  · exact lle
  · rintro ⟨⟨xs, f, k⟩, hp⟩
    have hlen := hp.len
    simp only at hlen
    refine wlk GVaD30.down ?_
    refine AWP_cond rfl (fun h => ?_) (fun h => ?_)
    · have hle : k ≤ s.length := by simpa using h
      have hf := hp.from_le hle
      by_cases hk : k = s.length
      · subst hk
        have hf' : (f : Int) ≤ (s.length : Int) := by omega
        refine wlk (And.intro @Nat.lt_irrefl (And.intro @Int.le_refl (And.intro @Bool.true_or (And.intro hf' GVaD30.down)))) ?_
        refine AOps_append rfl rfl rfl rfl (by first | rfl | exact (getA0 _ _).trans rfl | exact (getAk _ _ _).trans rfl) eI23 (by decide) (by simp [flat, strs]) (by simp [flat, strs]) (by simp) (by simp [strs, maxLen]; omega) (by simp [strs, maxLen]; omega) ?_
        simp only [pt, SL]
        refine wlk GVaD30.down ?_
        refine ⟨⟨(xs ++ [(s.drop f).take (s.length - f)], s.length + 1, s.length + 1), hp.last rfl⟩, by simp, ?_⟩
        rw [wrap_in (by omega) (by omega)]
        simp only [strs_snoc, List.length_append, List.length_cons, List.length_nil, ← List.drop_take]
        exact .same (by exact lle)
      · have hlt : k < s.length := by omega
        have hf' : (f : Int) ≤ (k : Int) := by omega
        have hle' : (k : Int) ≤ (s.length : Int) := by omega
        refine wlk (And.intro hlt GVaD30.down) ?_
        refine AWP_cond rfl (fun h => ?_) (fun h => ?_)
        · have hc : s.getD k 0 = c := by
            have : ((k : Int) == (s.length : Int)) = false := by simp; omega
            rw [this] at h
            refine UInt8.toNat_inj.1 ?_
            simp at h ⊢
            omega
          refine wlk (And.intro hf' (And.intro hle' GVaD30.down)) ?_
          refine AOps_append rfl rfl rfl rfl (by first | rfl | exact (getA0 _ _).trans rfl | exact (getAk _ _ _).trans rfl) eI23 (by decide) (by simp [flat, strs]) (by simp [flat, strs]) (by simp) (by simp [strs, maxLen]; omega) (by simp [strs, maxLen]; omega) ?_
          simp only [pt, SL]
          refine wlk GVaD30.down ?_
          refine ⟨⟨(xs ++ [(s.drop f).take (k - f)], k + 1, k + 1), hp.hit hlt hc⟩, by simp; omega, ?_⟩
          rw [wrap_in (by omega) (by omega)]
          simp only [strs_snoc, List.length_append, List.length_cons, List.length_nil, ← List.drop_take]
          exact .same (by exact lle)
        · have hc : s.getD k 0 ≠ c := by
            intro e
            rw [e] at h
            simp at h
          refine wlk GVaD30.down ?_
          refine ⟨⟨(xs, f, k + 1), hp.miss hlt hc⟩, by simp; omega, ?_⟩
          rw [wrap_in (by omega) (by omega)]
          exact .same (by exact lle)
    · obtain ⟨rfl, rfl⟩ := hp.end_ (by simpa using h)
      refine wlk GVaD30.down ?_
      refine rtrb GVaD30.down ?_
      exact Vle.ro _ _
end Go.Proofs.YtfagngmikbmmhaaDoor.A
