/- Texts of the proof, one behind another: LrA. -/
import Derived.Test.YtdjjlbjagaadaaaGreatDoorMa7
import Derived.Test.YtdjjlbjagaadaaaGreatDoorMa19
import Derived.Test.YtdjjlbjagaadaaaGreatDoorMa6
/- A row's arguments: versions, sums, pins. -/
namespace Go.Proofs.YtdjjlbjagaadaaaGreatDoor.A
open Go Go.RowKit
set_option linter.unusedVariables false
set_option linter.unusedSimpArgs false

theorem and_t {a b : Bool} (h : a = true) (k : b = true) : (a && b) = true := by rw [h, k]; rfl
theorem and_r12 {a b c d e f g h i j k l m : Bool} (h0 : a = true) (h1 : (b && c && d && e && f && g && h && i && j && k && l && m) = true) : (a && b && c && d && e && f && g && h && i && j && k && l && m) = true := by
  subst h0
  simpa using h1
theorem u8_open (xs : List V) (h : ∃ n, xs = [.int .u8 n] ∧ (Lit.int .u8 n).wf = true) : ∃ b : UInt8, xs = [.int .u8 (b.toNat : Int)] := by
  obtain ⟨n, rfl, hn⟩ := h
  obtain ⟨b, rfl⟩ := bounds_of_u8 hn
  exact ⟨b, rfl⟩
theorem in64_of {n : Int} (h : (Lit.int .i64 n).wf = true) : in64 n := bounds_i64 h
theorem strs_of : ∀ {yss : List (List V)}, (∀ y ∈ yss, ∃ s, y = [.str s] ∧ s.length ≤ maxLen) → ∃ l, yss = strs l ∧ l.length = yss.length ∧ ∀ x ∈ l, x.length ≤ maxLen
  | [], _ => ⟨[], rfl, rfl, by simp⟩
  | y :: yss, h => by
    obtain ⟨s, rfl, hs⟩ := h y List.mem_cons_self
    obtain ⟨l, rfl, h1, h2⟩ := strs_of fun z hz => h z (List.mem_cons_of_mem _ hz)
    exact ⟨s :: l, rfl, by simp [strs], fun x hx => by rcases List.mem_cons.1 hx with rfl | hx; exact hs; exact h2 x hx⟩
section
variable {H : Type} {enc : TypeId × Value → H} {W : World} {base : Nat} {spare : Nat → Bool} {held : Bool}
theorem Opens_strs : Opens enc Tryz.prog W base spare held 33 (fun xs => ∃ l, xs = [.sl .ro (strs l)] ∧ l.length ≤ maxLen ∧ ∀ x ∈ l, x.length ≤ maxLen) :=
  (Opens_slice Tryz.underlying33 (Opens_str Tryz.underlying9) (by rintro xs ⟨s, rfl, _⟩; exact (show 1 = Tryz.prog.cellsOf 9 by kernel_rfl)) (show 0 < Tryz.prog.cellsOf 9 by rw [show Tryz.prog.cellsOf 9 = 1 by kernel_rfl]; omega)).weak (by
    rintro xs ⟨t, yss, rfl, h1, h2⟩
    obtain ⟨l, rfl, h3, h4⟩ := strs_of h1
    exact ⟨_, ⟨l, rfl, by rw [h3]; exact h2, h4⟩, Vle.ro _ _, trivial⟩)
/-- A version's cells. -/
def verC (v : Ver) : List V := [.int .i64 v.major, .int .i64 v.minor, .int .i64 v.patch, .sl .ro (strs v.pre)]
structure RawV (v : Ver) : Prop where
  a : in64 v.major
  b : in64 v.minor
  c : in64 v.patch
  n : v.pre.length ≤ maxLen
  p : ∀ x ∈ v.pre, x.length ≤ maxLen
theorem Opens_ver : Opens enc Tryz.prog W base spare held 35 (fun xs => ∃ v, xs = verC v ∧ RawV v) :=
  (Opens_struct Tryz.underlying35 (by kernel_rfl) (AllO_cons (Opens_int Tryz.underlying3) (AllO_cons (Opens_int Tryz.underlying3) (AllO_cons (Opens_int Tryz.underlying3) (AllO_cons Opens_strs AllO_nil))))).mono (by
    intro xs h
    simp only [OF] at h
    obtain ⟨_, _, rfl, ⟨a, rfl, ha⟩, _, _, rfl, ⟨b, rfl, hb⟩, _, _, rfl, ⟨c, rfl, hc⟩, _, _, rfl, ⟨l, rfl, h1, h2⟩, rfl⟩ := h
    exact ⟨⟨a, b, c, l⟩, rfl, in64_of ha, in64_of hb, in64_of hc, h1, h2⟩)
theorem flat_keyC : ∀ {yss : List (List V)}, (∀ y ∈ yss, ∃ n, y = [.int .u8 n] ∧ (Lit.int .u8 n).wf = true) → ∃ l : List UInt8, yss.flatten = keyC l ∧ l.length = yss.length := fun h => by
  obtain ⟨l, rfl, h1⟩ := bytes_of h
  exact ⟨l, encB_flat l, h1⟩
theorem Opens_key {t : TypeId} (ht : Tryz.prog.underlying t = some (.array 32 5)) (hc : Tryz.prog.cellsOf t = 32 * Tryz.prog.cellsOf 5) : Opens enc Tryz.prog W base spare held t (fun xs => ∃ k, xs = keyC k ∧ k.length = 32) :=
  (Opens_array ht hc (Opens_int Tryz.underlying5)).mono (by
    rintro xs ⟨yss, rfl, h1, h2⟩
    obtain ⟨l, e, h3⟩ := flat_keyC h2
    exact ⟨l, e, by rw [h3, h1]⟩)
theorem Opens_pin : Opens enc Tryz.prog W base spare held 39 (fun xs => ∃ p, xs = pinC p ∧ Raw p) :=
  (Opens_struct Tryz.underlying39 (by kernel_rfl) (AllO_cons (Opens_str Tryz.underlying9) (AllO_cons Opens_ver (AllO_cons (Opens_key Tryz.underlying37 (by kernel_rfl)) AllO_nil)))).mono (by
    intro xs h
    simp only [OF] at h
    obtain ⟨_, _, rfl, ⟨n, rfl, hn⟩, _, _, rfl, ⟨v, rfl, hv⟩, _, _, rfl, ⟨k, rfl, hk⟩, rfl⟩ := h
    exact ⟨⟨n, v, k⟩, by simp [pinC, verC], hv.a, hv.b, hv.c, hk⟩)
theorem pins_of : ∀ {yss : List (List V)}, (∀ y ∈ yss, ∃ p, y = pinC p ∧ Raw p) → ∃ l, yss = pinsC l ∧ ∀ p ∈ l, Raw p
  | [], _ => ⟨[], rfl, by simp⟩
  | y :: yss, h => by
    obtain ⟨p, rfl, hp⟩ := h y List.mem_cons_self
    obtain ⟨l, rfl, h1⟩ := pins_of fun z hz => h z (List.mem_cons_of_mem _ hz)
    exact ⟨p :: l, rfl, fun q hq => by rcases List.mem_cons.1 hq with rfl | hq; exact hp; exact h1 q hq⟩
theorem Opens_pins : Opens enc Tryz.prog W base spare held 23 (fun xs => ∃ t l, xs = [.sl t (pinsC l)] ∧ (∀ p ∈ l, Raw p) ∧ (t = .nil → l = []) ∧ (∀ n, tbel n t) ∧ l.length ≤ maxLen) :=
  (Opens_sliceT Tryz.underlying23 Opens_pin (by rintro xs ⟨p, rfl, h⟩; rw [pinC_len h.k]; exact (show 37 = Tryz.prog.cellsOf 39 by kernel_rfl)) (show 0 < Tryz.prog.cellsOf 39 by rw [show Tryz.prog.cellsOf 39 = 37 by kernel_rfl]; omega)).mono (by
    rintro xs ⟨t, yss, rfl, h1, h2, h3⟩
    obtain ⟨l, rfl, h4⟩ := pins_of h1
    rw [pinsC_len] at h2
    refine ⟨t, l, rfl, h4, fun e => ?_, fun n => ?_, h2⟩
    · rcases h3 with ⟨_, h⟩ | h
      · simpa [pinsC] using h
      · rw [h] at e; cases e
    · rcases h3 with ⟨h, _⟩ | h <;> rw [h] <;> trivial)
end
end Go.Proofs.YtdjjlbjagaadaaaGreatDoor.A
