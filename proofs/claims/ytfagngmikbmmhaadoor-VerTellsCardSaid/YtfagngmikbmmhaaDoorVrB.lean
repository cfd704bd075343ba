/- VerTells: for all versions, raw, the law returns true. The row's proof and its card. -/
import Derived.Test.YtfagngmikbmmhaaDoorVrW
import Derived.Test.YtfagngmikbmmhaaDoorAhOpen
namespace Go.Proofs.YtfagngmikbmmhaaDoor.A
open Go Go.RowKit
/-- A version as a row hands it over. -/
def VerE (xs : List V) : Prop := ∃ (v : Ver) (t : Tag), xs = [.int .i64 v.major, .int .i64 v.minor, .int .i64 v.patch, .sl t (strs v.pre)] ∧ in64 v.major ∧ in64 v.minor ∧ in64 v.patch ∧ v.pre.length ≤ maxLen ∧ ∀ x ∈ v.pre, x.length ≤ maxLen
theorem in64_of {n : Int} (h : (Lit.int .i64 n).wf = true) : in64 n := bounds_i64 h
theorem strs_of : ∀ {yss : List (List V)}, (∀ y ∈ yss, ∃ s, y = [.str s] ∧ s.length ≤ maxLen) → ∃ l, yss = strs l ∧ l.length = yss.length ∧ ∀ x ∈ l, x.length ≤ maxLen
  | [], _ => ⟨[], rfl, rfl, by simp⟩
  | y :: yss, h => by
    obtain ⟨s, rfl, hs⟩ := h y List.mem_cons_self
    obtain ⟨l, rfl, h1, h2⟩ := strs_of fun z hz => h z (List.mem_cons_of_mem _ hz)
    exact ⟨s :: l, rfl, by simp [strs], fun x hx => by rcases List.mem_cons.1 hx with rfl | hx; exact hs; exact h2 x hx⟩
theorem Opens_strs {H : Type} {enc : TypeId × Value → H} {W : World} {base : Nat} {spare : Nat → Bool} {held : Bool} : Opens enc Tryd.prog W base spare held 23 (fun xs => ∃ t l, xs = [.sl t (strs l)] ∧ l.length ≤ maxLen ∧ ∀ x ∈ l, x.length ≤ maxLen) :=
  (Opens_slice Tryd.underlying23 (Opens_str Tryd.underlying9) (by rintro xs ⟨s, rfl, _⟩; exact (show 1 = Tryd.prog.cellsOf 9 by kernel_rfl)) (show 0 < Tryd.prog.cellsOf 9 by rw [show Tryd.prog.cellsOf 9 = 1 by kernel_rfl]; omega)).mono (by
    rintro xs ⟨t, yss, rfl, h1, h2⟩
    obtain ⟨l, rfl, h3, h4⟩ := strs_of h1
    exact ⟨t, l, rfl, by rw [h3]; exact h2, h4⟩)
theorem Opens_ver {H : Type} {enc : TypeId × Value → H} {W : World} {base : Nat} {spare : Nat → Bool} {held : Bool} : Opens enc Tryd.prog W base spare held 25 VerE :=
  (Opens_struct Tryd.underlying25 (by kernel_rfl) (AllO_cons (Opens_int Tryd.underlying3) (AllO_cons (Opens_int Tryd.underlying3) (AllO_cons (Opens_int Tryd.underlying3) (AllO_cons Opens_strs AllO_nil))))).mono (by
    intro xs h
    simp only [OF] at h
    obtain ⟨_, _, rfl, ⟨a, rfl, ha⟩, _, _, rfl, ⟨b, rfl, hb⟩, _, _, rfl, ⟨c, rfl, hc⟩, _, _, rfl, ⟨t, l, rfl, h1, h2⟩, rfl⟩ := h
    exact ⟨⟨a, b, c, l⟩, t, rfl, in64_of ha, in64_of hb, in64_of hc, h1, h2⟩)
/-- A struct's value. -/
theorem agg_of {v : Value} {n : Nat} (h : v.cells.toList.length = n + 2) : ∃ us, v = .agg us := by
  cases v <;> simp [Value.cells] at h
  exact ⟨_, rfl⟩
theorem ver_arg {H : Type} {enc : TypeId × Value → H} {W : World} {base : Nat} {spare : Nat → Bool} {held : Bool} {v : Value} {d : DataW H} {ps : List MemPlace} (hd : DataW.Trod enc Tryd.prog W base spare held 25 v d ps) :
    ∃ (x : Ver) (t : Tag), in64 x.major ∧ in64 x.minor ∧ in64 x.patch ∧ ∀ en, NB en → VR W en (encV t x) v := by
  obtain ⟨xs, ⟨x, t, rfl, h1, h2, h3, _, _⟩, h4, h5⟩ := Opens_ver.arg hd
  have hl := LR_length (h5 [] (fun x hx => by cases hx))
  obtain ⟨us, rfl⟩ := agg_of (n := 2) hl
  refine ⟨x, t, h1, h2, h3, fun en hn => ?_⟩
  simp only [encV, VR]
  exact ⟨us, rfl, h5 en hn, h4⟩
end Go.Proofs.YtfagngmikbmmhaaDoor.A
