/- A row's arguments, read in the logic: numbers, texts, slices, structs. -/
import Derived.Test.YtfagngmikbmmhaaDoorAhSet
import Derived.OpenShut
import Derived.ChangeArms
import Derived.DataReads
namespace Go.Proofs.YtfagngmikbmmhaaDoor.A
open Go Go.RowKit
set_option linter.unusedVariables false
set_option linter.unusedSimpArgs false

def NB (en : List CE) : Prop := ∀ x ∈ en, ebl x = none
theorem St_of {W : World} {en : List CE} (hn : NB en) {g o : Nat} {u : Value} (h : W.cell? ⟨g, o, none⟩ = some u) : St W en g o u := ⟨h, fun x hx => by
  cases x with
  | glob => trivial
  | box g' => have := hn _ hx; cases this
  | tok ver v n sz => intro e; have := hn _ hx; simp only [ebl] at this; rw [this] at e; cases e
  | row ver v n sz => intro e; have := hn _ hx; simp only [ebl] at this; rw [this] at e; cases e⟩

section
variable {H : Type} (enc : TypeId × Value → H) (P : Program) (W : World) (base : Nat) (spare : Nat → Bool) (held : Bool)
/-- What is read of a value of type t: cells that meet E. -/
def Opens (t : TypeId) (E : List V → Prop) : Prop := ∀ (fuel : Nat) (cs : List Value) (x : DataW H × List MemPlace), DataW.trod enc P W base spare held fuel t cs = some x →
  ∃ xs, E xs ∧ (∀ u ∈ cs, u.oneCell' = true) ∧ ∀ en, NB en → LR W en xs cs
def AllO : List TypeId → List (List V → Prop) → Prop
  | [], [] => True
  | t :: ts, E :: Es => Opens enc P W base spare held t E ∧ AllO ts Es
  | _, _ => False
end
/-- One behind the other. -/
def OF : List (List V → Prop) → List V → Prop
  | [], xs => xs = []
  | E :: Es, xs => ∃ a b, xs = a ++ b ∧ E a ∧ OF Es b
def chainB (P : Program) : Nat → List Field → Nat → Bool
  | o, [], e => o == e
  | o, f :: r, e => f.offset == o && chainB P (o + P.cellsOf f.type) r e

section
variable {H : Type} {enc : TypeId × Value → H} {P : Program} {W : World} {base : Nat} {spare : Nat → Bool} {held : Bool} {t : TypeId}
theorem Opens.mono {E E' : List V → Prop} (h : Opens enc P W base spare held t E) (he : ∀ xs, E xs → E' xs) : Opens enc P W base spare held t E' := fun fuel cs x hx => by
  obtain ⟨xs, h1, h2, h3⟩ := h fuel cs x hx
  exact ⟨xs, he _ h1, h2, h3⟩
theorem Opens_int {k : IntKind} (ht : P.underlying t = some (.int k)) : Opens enc P W base spare held t (fun xs => ∃ n, xs = [.int k n] ∧ (Lit.int k n).wf = true) := fun fuel cs x hx => by
  obtain ⟨n, rfl, _, hw⟩ := DataW.trod_int ht hx
  exact ⟨_, ⟨n, rfl, hw⟩, fun u hu => by rw [List.mem_singleton.1 hu]; rfl, fun en _ => by simp [LR, VR]⟩
theorem Opens_bool (ht : P.underlying t = some .bool) : Opens enc P W base spare held t (fun xs => ∃ b, xs = [.bool b]) := fun fuel cs x hx => by
  obtain ⟨b, rfl, _⟩ := DataW.trod_bool ht hx
  exact ⟨_, ⟨b, rfl⟩, fun u hu => by rw [List.mem_singleton.1 hu]; rfl, fun en _ => by simp [LR, VR]⟩
theorem Opens_str (ht : P.underlying t = some .string) : Opens enc P W base spare held t (fun xs => ∃ s, xs = [.str s] ∧ s.length ≤ maxLen) := fun fuel cs x hx => by
  obtain ⟨s, rfl, _, hw⟩ := DataW.trod_string ht hx
  have e : s.data.toList.length = s.size := by rw [Array.length_toList]; rfl
  exact ⟨_, ⟨s.data.toList, rfl, by rw [e]; exact hw⟩, fun u hu => by rw [List.mem_singleton.1 hu]; rfl, fun en _ => by simp [LR, VR]⟩
theorem AllO_nil : AllO enc P W base spare held [] [] := trivial
theorem AllO_cons {ts : List TypeId} {E : List V → Prop} {Es : List (List V → Prop)} (h : Opens enc P W base spare held t E) (h' : AllO enc P W base spare held ts Es) : AllO enc P W base spare held (t :: ts) (E :: Es) := ⟨h, h'⟩
theorem cells_get {a : Addr} {n : Nat} {cs : List Value} (h : W.cells? base a n = some cs) : cs.length = n ∧ ∀ j, j < n → W.cell? (a.add j) = cs[j]? := by
  unfold World.cells? at h
  split at h
  · refine ⟨by simpa using mapM_some_length h, fun j hj => ?_⟩
    exact mapM_some_get h j j (by simp [hj])
  · cases h
theorem RR_of_get {en : List CE} {sz : Nat} : ∀ {yss : List (List V)} {g o : Nat}, (∀ y ∈ yss, y.length = sz) → (∀ (i : Nat) (y : List V), yss[i]? = some y → ER W en y g (o + i * sz)) → RR W en yss g o
  | [], g, o, _, _ => by simp [RR]
  | y :: yss, g, o, hl, h => by
    simp only [RR]
    refine ⟨by simpa using h 0 y rfl, RR_of_get (fun z hz => hl z (List.mem_cons_of_mem _ hz)) fun i z hz => ?_⟩
    have := h (i + 1) z (by simpa using hz)
    rw [hl y List.mem_cons_self]
    rwa [show o + sz + i * sz = o + (i + 1) * sz from by rw [Nat.add_mul]; omega]
theorem Opens_slice {e : TypeId} {E : List V → Prop} (ht : P.underlying t = some (.slice e)) (he : Opens enc P W base spare held e E) (hE : ∀ xs, E xs → xs.length = P.cellsOf e) (hpos : 0 < P.cellsOf e) :
    Opens enc P W base spare held t (fun xs => ∃ tg yss, xs = [.sl tg yss] ∧ (∀ y ∈ yss, E y) ∧ yss.length ≤ maxLen) := fun fuel cs x hx => by
  rcases DataW.trod_slice ht hx with ⟨rfl, _⟩ | ⟨a, len, cap, elems, rest, n, rfl, rfl, _, hb, hlc, hcm, hel, hget, _⟩
  · exact ⟨_, ⟨.nil, [], rfl, by simp, by simp⟩, fun u hu => by rw [List.mem_singleton.1 hu]; rfl, fun en _ => by
      simp [LR, VR, TagOk, maxLen]
      exact ⟨none, 0, ⟨rfl, rfl⟩, by omega⟩⟩
  · have key : ∀ i, i < len → ∃ y, E y ∧ ∃ csi, W.cells? base (a.add (i * P.cellsOf e)) (P.cellsOf e) = some csi ∧ (∀ u ∈ csi, u.oneCell' = true) ∧ ∀ en, NB en → LR W en y csi := fun i hi => by
      have h1 := hget i hi
      rw [List.getElem?_eq_getElem (by omega), Option.bind_eq_some_iff] at h1
      obtain ⟨csi, h2, h3⟩ := h1
      obtain ⟨y, h4, h5, h6⟩ := he _ _ _ h3
      exact ⟨y, h4, csi, h2, h5, h6⟩
    have key' : ∀ i, ∃ y, i < len → E y ∧ ∃ csi, W.cells? base (a.add (i * P.cellsOf e)) (P.cellsOf e) = some csi ∧ (∀ u ∈ csi, u.oneCell' = true) ∧ ∀ en, NB en → LR W en y csi := fun i => by
      by_cases hi : i < len
      · obtain ⟨y, hy⟩ := key i hi; exact ⟨y, fun _ => hy⟩
      · exact ⟨[], fun h => absurd h hi⟩
    let f : Nat → List V := fun i => Classical.choose (key' i)
    have hf : ∀ i, i < len → E (f i) ∧ ∃ csi, W.cells? base (a.add (i * P.cellsOf e)) (P.cellsOf e) = some csi ∧ (∀ u ∈ csi, u.oneCell' = true) ∧ ∀ en, NB en → LR W en (f i) csi := fun i hi => Classical.choose_spec (key' i) hi
    have hmem : ∀ y ∈ (List.range len).map f, E y := fun y hy => by
      obtain ⟨i, hi, rfl⟩ := List.mem_map.1 hy
      exact (hf i (by simpa using hi)).1
    refine ⟨_, ⟨.ro, (List.range len).map f, rfl, hmem, by simp; omega⟩, fun u hu => by rw [List.mem_singleton.1 hu]; rfl, fun en hn => ?_⟩
    simp only [LR, VR]
    refine ⟨_, [], rfl, ⟨some a, cap, by simp, by simpa using hlc, hcm, trivial, fun hne => ?_⟩, rfl⟩
    have hlen : 0 < len := by
      cases len with
      | zero => simp at hne
      | succ n => omega
    obtain ⟨g, o, spot⟩ := a
    have hspot : spot = none := by
      obtain ⟨_, csi, h2, _⟩ := hf 0 hlen
      have hg := (cells_get h2).2 0 hpos
      have hl := (cells_get h2).1
      rw [List.getElem?_eq_getElem (by omega)] at hg
      simpa [Addr.add] using World.cell?_spot hg
    subst hspot
    refine ⟨g, o, rfl, RR_of_get (sz := P.cellsOf e) (fun y hy => hE y (hmem y hy)) fun i y hy => ?_⟩
    rw [List.getElem?_map, Option.map_eq_some_iff] at hy
    obtain ⟨i', hi', rfl⟩ := hy
    have hii : i < len := by
      have := (List.getElem?_eq_some_iff.1 hi').1
      simpa using this
    have : i' = i := by
      rw [List.getElem?_range hii] at hi'
      exact (Option.some.inj hi').symm
    subst this
    obtain ⟨_, csi, h2, h5, h6⟩ := hf i' hii
    obtain ⟨hcl, hcg⟩ := cells_get h2
    refine ER_mk fun j x hx => ?_
    obtain ⟨u, hu, hv⟩ := LR_get (h6 en hn) j x hx
    have hj : j < P.cellsOf e := by rw [← hcl]; exact (List.getElem?_eq_some_iff.1 hu).1
    have hc := hcg j hj
    rw [hu, Addr_add, Addr_add] at hc
    exact ⟨u, St_of hn hc, h5 u (List.mem_of_getElem? hu), hv⟩
theorem fields_open : ∀ {fl : List Field} {Es : List (List V → Prop)} {o e : Nat} {cs : List Value} {n : Nat}, chainB P o fl e = true → e ≤ cs.length → AllO enc P W base spare held (fl.map (·.type)) Es →
    (∀ f ∈ fl, ∃ x, DataW.trod enc P W base spare held n f.type ((cs.drop f.offset).take (P.cellsOf f.type)) = some x) → ∃ xs, OF Es xs ∧ (∀ u ∈ (cs.drop o).take (e - o), u.oneCell' = true) ∧ o ≤ e ∧ ∀ en, NB en → LR W en xs ((cs.drop o).take (e - o))
  | [], [], o, e, cs, n, hc, _, _, _ => by
    simp only [chainB, beq_iff_eq] at hc
    subst hc
    exact ⟨[], rfl, by simp, Nat.le_refl _, fun en _ => by simp [LR]⟩
  | [], _ :: _, o, e, cs, n, _, _, ha, _ => ha.elim
  | f :: r, [], o, e, cs, n, _, _, ha, _ => ha.elim
  | f :: r, E :: Es, o, e, cs, n, hc, hl, ha, hx => by
    simp only [chainB, Bool.and_eq_true, beq_iff_eq] at hc
    obtain ⟨ho, hc⟩ := hc
    obtain ⟨x, hx0⟩ := hx f List.mem_cons_self
    rw [ho] at hx0
    obtain ⟨a, a1, a2, a3⟩ := ha.1 _ _ _ hx0
    obtain ⟨b, b1, b2, b3, b4⟩ := fields_open hc hl ha.2 fun g hg => hx g (List.mem_cons_of_mem _ hg)
    have hsp : (cs.drop o).take (e - o) = (cs.drop o).take (P.cellsOf f.type) ++ (cs.drop (o + P.cellsOf f.type)).take (e - (o + P.cellsOf f.type)) := by
      rw [show e - o = P.cellsOf f.type + (e - (o + P.cellsOf f.type)) from by omega, List.take_add, List.drop_drop]
    refine ⟨a ++ b, ⟨a, b, rfl, a1, b1⟩, fun u hu => ?_, by omega, fun en hn => ?_⟩
    · rw [hsp] at hu
      rcases List.mem_append.1 hu with hu | hu
      · exact a2 u hu
      · exact b2 u hu
    · rw [hsp]
      exact LR_append (a3 en hn) (b4 en hn)
theorem Opens_struct {fs : Array Field} {Es : List (List V → Prop)} (ht : P.underlying t = some (.struct fs)) (hc : chainB P 0 fs.toList (P.cellsOf t) = true) (ha : AllO enc P W base spare held (fs.toList.map (·.type)) Es) :
    Opens enc P W base spare held t (OF Es) := fun fuel cs x hx => by
  obtain ⟨xs, n, rfl, _, hl, hxl, hget⟩ := DataW.trod_struct ht hx
  obtain ⟨ys, h1, h2, h3, h4⟩ := fields_open (cs := cs) (n := n) hc (by omega) ha fun f hf => by
    obtain ⟨i, hi⟩ := List.getElem?_of_mem hf
    have hi' : fs[i]? = some f := by simpa using hi
    have := hget i f hi'
    have hlt : i < xs.length := by rw [hxl]; exact (Array.getElem?_eq_some_iff.1 hi').1
    rw [List.getElem?_eq_getElem hlt] at this
    exact ⟨_, this⟩
  have e : (cs.drop 0).take (P.cellsOf t - 0) = cs := by rw [List.drop_zero, Nat.sub_zero, ← hl, List.take_length]
  rw [e] at h2 h4
  exact ⟨ys, h1, h2, h4⟩
/-- An argument: a struct's or array's value. -/
theorem Opens.arg {E : List V → Prop} (h : Opens enc P W base spare held t E) {v : Value} {d : DataW H} {ps : List MemPlace} (hd : DataW.Trod enc P W base spare held t v d ps) : ∃ xs, E xs ∧ (∀ u ∈ v.cells.toList, u.oneCell' = true) ∧ ∀ en, NB en → LR W en xs v.cells.toList := by
  obtain ⟨fuel, hf⟩ := hd
  exact h _ _ _ hf
end
end Go.Proofs.YtfagngmikbmmhaaDoor.A
