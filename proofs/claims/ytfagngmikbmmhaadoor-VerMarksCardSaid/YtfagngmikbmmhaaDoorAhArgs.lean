/- A row's arguments: arrays; scalars, slices and structs as arguments. -/
import Derived.Test.YtfagngmikbmmhaaDoorAhOpen
import Derived.ChangeShapes
namespace Go.Proofs.YtfagngmikbmmhaaDoor.A
open Go Go.RowKit
set_option linter.unusedVariables false
set_option linter.unusedSimpArgs false

section
variable {H : Type} {enc : TypeId × Value → H} {P : Program} {W : World} {base : Nat} {spare : Nat → Bool} {held : Bool} {t : TypeId}
theorem arr_open {E : List V → Prop} {c : Nat} : ∀ (n : Nat) (cs : List Value), cs.length = n * c → (∀ i, i < n → ∃ y, E y ∧ (∀ u ∈ (cs.drop (i * c)).take c, u.oneCell' = true) ∧ ∀ en, NB en → LR W en y ((cs.drop (i * c)).take c)) →
    ∃ yss : List (List V), yss.length = n ∧ (∀ y ∈ yss, E y) ∧ (∀ u ∈ cs, u.oneCell' = true) ∧ ∀ en, NB en → LR W en yss.flatten cs
  | 0, cs, hl, _ => by
    have : cs = [] := List.eq_nil_of_length_eq_zero (by omega)
    subst this
    exact ⟨[], rfl, by simp, by simp, fun en _ => by simp [LR]⟩
  | n + 1, cs, hl, h => by
    obtain ⟨y, y1, y2, y3⟩ := h 0 (by omega)
    simp only [Nat.zero_mul, List.drop_zero] at y2 y3
    obtain ⟨yss, z1, z2, z3, z4⟩ := arr_open n (cs.drop c) (show (cs.drop c).length = n * c by rw [List.length_drop, hl, Nat.add_mul]; omega) fun i hi => by
      obtain ⟨z, k⟩ := h (i + 1) (by omega)
      refine ⟨z, ?_⟩
      rw [List.drop_drop, show c + i * c = (i + 1) * c from by rw [Nat.add_mul]; omega]
      exact k
    have e : cs = cs.take c ++ cs.drop c := (List.take_append_drop c cs).symm
    refine ⟨y :: yss, by simp [z1], fun x hx => ?_, fun u hu => ?_, fun en hn => ?_⟩
    · rcases List.mem_cons.1 hx with rfl | hx
      · exact y1
      · exact z2 x hx
    · rw [e] at hu
      rcases List.mem_append.1 hu with hu | hu
      · exact y2 u hu
      · exact z3 u hu
    · rw [List.flatten_cons, e]
      exact LR_append (y3 en hn) (z4 en hn)
theorem Opens_array {n : Nat} {e : TypeId} {E : List V → Prop} (ht : P.underlying t = some (.array n e)) (hc : P.cellsOf t = n * P.cellsOf e) (he : Opens enc P W base spare held e E) :
    Opens enc P W base spare held t (fun xs => ∃ yss : List (List V), xs = yss.flatten ∧ yss.length = n ∧ ∀ y ∈ yss, E y) := fun fuel cs x hx => by
  obtain ⟨xs, m, _, _, hl, hxl, hget⟩ := DataW.trod_array ht hx
  obtain ⟨yss, h1, h2, h3, h4⟩ := arr_open (W := W) (E := E) (c := P.cellsOf e) n cs (by rw [hl, hc]) fun i hi => by
    have := hget i hi
    rw [List.getElem?_eq_getElem (by omega)] at this
    exact he _ _ _ this
  exact ⟨_, ⟨yss, rfl, h1, h2⟩, h3, h4⟩
def isA (P : Program) (t : TypeId) : Bool := match P.underlying t with
  | some (.struct _) => true
  | some (.array _ _) => true
  | _ => false
theorem cells_one {r : Reach} {b : Nat} {v : Value} (hv : Value.okWide P W r b t v) (ht : isA P t = false) : v.cells.toList = [v] := by
  unfold isA at ht
  unfold Value.okWide at hv
  split at hv
  · rename_i h; rw [h] at ht; cases ht
  · rename_i h; rw [h] at ht; cases ht
  · cases v <;> first | rfl | skip
    unfold Cell.okWide at hv
    split at hv <;> first | (rename_i h1 h2; cases h2; done) | skip
    unfold Cell.ok at hv
    split at hv <;> first | (rename_i h1 h2; cases h2; done) | exact hv.elim
theorem agg_arg {r : Reach} {b : Nat} {v : Value} (hv : Value.okWide P W r b t v) (ht : isA P t = true) : ∃ us, v = .agg us := by
  unfold isA at ht
  unfold Value.okWide at hv
  split at hv
  · obtain ⟨us, rfl, _⟩ := hv; exact ⟨us, rfl⟩
  · obtain ⟨us, rfl, _⟩ := hv; exact ⟨us, rfl⟩
  · rename_i h1 h2
    split at ht
    · rename_i h; exact absurd h (h1 _)
    · rename_i h; exact absurd h (h2 _ _)
    · cases ht
/-- An argument of one cell. -/
theorem Opens.arg1 {E : List V → Prop} (h : Opens enc P W base spare held t E) {r : Reach} {b : Nat} {v : Value} {d : DataW H} {ps : List MemPlace} (hd : DataW.Trod enc P W base spare held t v d ps) (hv : Value.okWide P W r b t v) (ht : isA P t = false) :
    ∃ xs, E xs ∧ ∀ en, NB en → LR W en xs [v] := by
  obtain ⟨xs, h1, _, h3⟩ := h.arg hd
  rw [cells_one hv ht] at h3
  exact ⟨xs, h1, h3⟩
/-- A struct or an array as an argument. -/
theorem Opens.argA {E : List V → Prop} (h : Opens enc P W base spare held t E) {r : Reach} {b : Nat} {v : Value} {d : DataW H} {ps : List MemPlace} (hd : DataW.Trod enc P W base spare held t v d ps) (hv : Value.okWide P W r b t v) (ht : isA P t = true) :
    ∃ xs, E xs ∧ ∀ en, NB en → LR W en [.agg xs] [v] := by
  obtain ⟨xs, h1, h2, h3⟩ := h.arg hd
  obtain ⟨us, rfl⟩ := agg_arg hv ht
  refine ⟨xs, h1, fun en hn => ?_⟩
  simp only [LR, VR]
  exact ⟨_, _, rfl, ⟨us, rfl, h3 en hn, h2⟩, rfl⟩
theorem arr3 {k : IntKind} (xs : List V) (h : ∃ yss : List (List V), xs = yss.flatten ∧ yss.length = 3 ∧ ∀ y ∈ yss, ∃ n, y = [.int k n] ∧ (Lit.int k n).wf = true) :
    ∃ a b c, xs = [.int k a, .int k b, .int k c] ∧ (Lit.int k a).wf = true ∧ (Lit.int k b).wf = true ∧ (Lit.int k c).wf = true := by
  obtain ⟨yss, rfl, h1, h2⟩ := h
  match yss, h1 with
  | [x, y, z], _ =>
    obtain ⟨a, rfl, ha⟩ := h2 x (by simp)
    obtain ⟨b, rfl, hb⟩ := h2 y (by simp)
    obtain ⟨c, rfl, hc⟩ := h2 z (by simp)
    exact ⟨a, b, c, rfl, ha, hb, hc⟩
theorem bytes_of : ∀ {yss : List (List V)}, (∀ y ∈ yss, ∃ n, y = [.int .u8 n] ∧ (Lit.int .u8 n).wf = true) → ∃ l : List UInt8, yss = encB l ∧ l.length = yss.length
  | [], _ => ⟨[], rfl, rfl⟩
  | y :: yss, h => by
    obtain ⟨n, rfl, hn⟩ := h y List.mem_cons_self
    obtain ⟨l, rfl, h1⟩ := bytes_of fun z hz => h z (List.mem_cons_of_mem _ hz)
    have hb := bounds_u8 hn
    refine ⟨UInt8.ofNat n.toNat :: l, ?_, by simp [encB]⟩
    simp only [encB, List.map_cons]
    congr 2
    simp only [UInt8.toNat_ofNat']
    congr 1
    show n = ((n.toNat % 2 ^ 8 : Nat) : Int)
    omega
theorem Opens_bytes {e : TypeId} (ht : P.underlying t = some (.slice e)) (he : P.underlying e = some (.int .u8)) (hc : P.cellsOf e = 1) : Opens enc P W base spare held t (fun xs => ∃ tg l, xs = [.sl tg (encB l)] ∧ l.length ≤ maxLen) :=
  (Opens_slice ht (Opens_int he) (by rintro xs ⟨n, rfl, _⟩; rw [hc]; rfl) (by omega)).mono (by
    rintro xs ⟨tg, yss, rfl, h1, h2⟩
    obtain ⟨l, rfl, h3⟩ := bytes_of h1
    exact ⟨tg, l, rfl, by rw [h3]; exact h2⟩)
theorem bounds_of_u8 {n : Int} (h : (Lit.int .u8 n).wf = true) : ∃ b : UInt8, n = (b.toNat : Int) := by
  have := bounds_u8 h
  refine ⟨UInt8.ofNat n.toNat, ?_⟩
  simp only [UInt8.toNat_ofNat']
  show n = ((n.toNat % 2 ^ 8 : Nat) : Int)
  omega
end
end Go.Proofs.YtfagngmikbmmhaaDoor.A
