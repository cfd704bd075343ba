/- Texts of the proof, one behind another: VaS, LrW, AhOpen. -/
import Derived.Test.YtdjjlbjagaadaaaGreatDoorMa5
import Derived.Lib.AppendIntMem
import Derived.Lib.AtoiErrMem
import Derived.Lib.LaidTab
import Derived.WalkKit
import Derived.ProofKit
import Derived.Test.YtdjjlbjagaadaaaGreatDoorCards
import Derived.Carry
import Derived.Test.YtdjjlbjagaadaaaGreatDoorTie
import Derived.Deep.DeepHandedRow
import Derived.Stop.LaidErr
import Derived.OpenShut
import Derived.DataReads
import Derived.ChangeArms
import Derived.Test.YtdjjlbjagaadaaaGreatDoorMa3
/- The shelf's contracts in the logic: Cut, Split, Join, Itoa, Atoi, Compare. -/
namespace Go.Proofs.YtdjjlbjagaadaaaGreatDoor.A
open Go Go.RowKit
set_option maxRecDepth 100000
set_option linter.unusedSimpArgs false
set_option linter.unusedVariables false

/-- What the variables of the library's read. -/
def VarsOk (w : World) : Prop := (∃ m, w.cell? ⟨0, 0, none⟩ = some (.int .i64 m)) ∧ Lib.TabIs Tryz.prog w "internal/strconv.uint64pow10" .u64 Lib.pow10Tab
abbrev GV (σ : List AE) : Prop := Glob σ VarsOk
/-- Strings as a slice's elements. -/
def strs (l : List (List UInt8)) : List (List V) := l.map fun x => [.str x]
theorem strs_len (l : List (List UInt8)) : (strs l).length = l.length := by simp [strs]
theorem strs_flat (l : List (List UInt8)) : flat 1 (strs l) = true := by simp [strs, flat]
theorem strs_bel (n : Nat) (l : List (List UInt8)) : bels2 n (strs l) := by
  induction l with
  | nil => trivial
  | cons x l ih => exact ⟨⟨trivial, trivial⟩, ih⟩
theorem strs_RR {w : World} {en : List CE} : ∀ {l : List (List UInt8)} {g o : Nat}, RR w en (strs l) g o → ∀ (j : Nat) (x : List UInt8), l[j]? = some x → w.cell? ⟨g, o + j, none⟩ = some (.string ⟨x.toArray⟩)
  | [], g, o, _, j, x, h => by simp at h
  | y :: l, g, o, hr, j, x, h => by
    simp only [strs, List.map_cons, RR, ER] at hr
    obtain ⟨⟨⟨u, h1, _, h2⟩, _⟩, h3⟩ := hr
    cases j with
    | zero =>
      simp only [List.getElem?_cons_zero, Option.some.injEq] at h
      subst h
      simp only [VR] at h2
      subst h2
      exact h1.1
    | succ j =>
      have := strs_RR (l := l) h3 j x (by simpa using h)
      simp only [List.length_cons, List.length_nil, Nat.zero_add] at this
      rwa [show o + (j + 1) = o + 1 + j from by omega]
theorem RR_strs {w : World} {en : List CE} : ∀ {l : List (List UInt8)} {g o : Nat}, (∀ (j : Nat) (x : List UInt8), l[j]? = some x → St w en g (o + j) (.string ⟨x.toArray⟩)) → RR w en (strs l) g o
  | [], g, o, _ => by simp [strs, RR]
  | y :: l, g, o, h => by
    simp only [strs, List.map_cons, RR, ER]
    refine ⟨⟨⟨_, h 0 y rfl, rfl, by simp [VR]⟩, trivial⟩, RR_strs (l := l) fun j x hx => ?_⟩
    have := h (j + 1) x (by simpa using hx)
    simp only [List.length_cons, List.length_nil, Nat.zero_add]
    rwa [show o + (j + 1) = o + 1 + j from by omega] at this
theorem LR2 {w : World} {en : List CE} {x y : V} {vals : List Value} (h : LR w en [x, y] vals) : ∃ u v, vals = [u, v] ∧ VR w en x u ∧ VR w en y v := by
  simp only [LR] at h
  obtain ⟨u, us, rfl, h1, v, vs, rfl, h2, rfl⟩ := h
  exact ⟨u, v, rfl, h1, h2⟩
theorem LR1 {w : World} {en : List CE} {x : V} {vals : List Value} (h : LR w en [x] vals) : ∃ u, vals = [u] ∧ VR w en x u := by
  simp only [LR] at h
  obtain ⟨u, us, rfl, h1, rfl⟩ := h
  exact ⟨u, rfl, h1⟩
theorem below_drewN (w : World) (n : Nat) : Below w.heap.size w (w.drewN n) := ⟨rfl, rfl, rfl, Nat.le_refl _, fun _ _ => rfl⟩
theorem cut_ok (c : UInt8) (s : List UInt8) (σ : List AE) (hs : s.length < 4294967281) (hG : GV σ) : Gives Tryz.prog 160 [.str s, .str [c]] σ (.tup [.str (cutAt c s).1, .str (cutAt c s).2.1, .bool (cutAt c s).2.2]) :=
  Gives_of ⟨_, Tryz.func160, rfl, rfl⟩ fun w en vals hi hl => by
    obtain ⟨u, v, rfl, h1, h2⟩ := LR2 hl
    simp only [VR] at h1 h2
    subst h1; subst h2
    obtain ⟨⟨m, hm⟩, _⟩ := hG.at hi
    refine (Tryz.strings_Cut ⟨s.toArray⟩ ⟨[c].toArray⟩ m w (by simpa [ByteArray.size] using hs) hm).mono ?_
    rintro e w' ⟨rfl, n, rfl⟩
    refine ⟨_, rfl, below_drewN w n, ?_⟩
    simp only [cut_eq]
    simp [VR, LR]
theorem split_ok (c : UInt8) (s : List UInt8) (σ : List AE) (hs : s.length < 4294967281) (hG : GV σ) : Gives Tryz.prog 64 [.str s, .str [c]] σ (.sl .ro (strs (spl c s))) :=
  Gives_of ⟨_, Tryz.func64, rfl, rfl⟩ fun w en vals hi hl => by
    obtain ⟨u, v, rfl, h1, h2⟩ := LR2 hl
    simp only [VR] at h1 h2
    subst h1; subst h2
    obtain ⟨⟨m, hm⟩, _⟩ := hG.at hi
    refine (Tryz.strings_Split ⟨s.toArray⟩ ⟨[c].toArray⟩ m w (by simpa [ByteArray.size] using hs) hm (Nat.le_refl 1)).mono ?_
    rintro e w' ⟨rfl, rfl⟩
    refine ⟨_, rfl, (Below.refl _ w).alloc (Nat.le_refl _) _, ?_⟩
    have hc : Lib.countB ⟨s.toArray⟩ ⟨[c].toArray⟩ + 1 = (spl c s).length := (spl_len c s).symm
    have hd : (Lib.splitB ⟨[c].toArray⟩ 0 (Lib.countB ⟨s.toArray⟩ ⟨[c].toArray⟩) ⟨s.toArray⟩).map (·.data.toList) = spl c s := by
      rw [Lib.splitB_data]
      exact split_eq c s
    have hle : (spl c s).length ≤ maxLen := by
      rw [spl_len, Lib.count_one]
      have := List.count_le_length (a := c) (l := s)
      simp only [maxLen]
      omega
    simp only [VR]
    refine ⟨some ⟨w.heap.size, 0, none⟩, (spl c s).length, by rw [hc, strs_len], by rw [strs_len]; exact Nat.le_refl _, hle, trivial, fun _ => ⟨w.heap.size, 0, rfl, RR_strs fun j x hx => ⟨?_, fun y hy => ?_⟩⟩⟩
    · rw [← hd, List.getElem?_map, Option.map_eq_some_iff] at hx
      obtain ⟨b, hb, rfl⟩ := hx
      refine cell_of_heap (heap_alloc_new w _) j _ ?_
      simp only [List.getElem?_map, hb, Option.map_some]
    · cases y with
      | glob => trivial
      | box g => have := hi.lt hy rfl; simp only [okc]; omega
      | tok ver v n sz => intro hv; have := hi.lt hy hv; omega
      | row ver v n sz => intro hv; have := hi.lt hy hv; omega
theorem itoa_ok (n : Int) (σ : List AE) (h0 : -9223372036854775808 ≤ n) (h1 : n ≤ 9223372036854775807) (hG : GV σ) : Gives Tryz.prog 132 [.int .i64 n] σ (.str (Lib.itoa n)) :=
  Gives_of ⟨_, Tryz.func132, rfl, rfl⟩ fun w en vals hi hl => by
    obtain ⟨u, rfl, h2⟩ := LR1 hl
    simp only [VR] at h2
    subst h2
    refine (Tryz.strconv_Itoa n h0 h1 w (hG.at hi).2).mono ?_
    rintro e w' ⟨rfl, k, os, rfl⟩
    exact ⟨_, rfl, Lib.below_grow _ w (Nat.le_refl _) k os, by simp [VR]⟩
theorem atoi_ok (s : List UInt8) (n : Int) (σ : List AE) (hs : s.length ≤ 18) (h : Lib.atoi s = some n) : Gives Tryz.prog 188 [.str s] σ (.tup [.int .i64 n, .exact .nilIface]) :=
  Gives_of ⟨_, Tryz.func188, rfl, rfl⟩ fun w en vals hi hl => by
    obtain ⟨u, rfl, h2⟩ := LR1 hl
    simp only [VR] at h2
    subst h2
    refine (Tryz.strconv_Atoi ⟨s.toArray⟩ n (by simpa [ByteArray.size] using hs) h w).mono ?_
    rintro e w' ⟨rfl, t, rfl⟩
    exact ⟨_, rfl, Lib.bytesWorld_below w _ t, by simp [VR, LR]⟩
theorem compare_ok (x y : Int) (σ : List AE) : Gives Tryz.prog 148 [.int .i64 x, .int .i64 y] σ (.int .i64 (Lib.compareInt x y)) :=
  Gives_of ⟨_, Tryz.func148, rfl, rfl⟩ fun w en vals hi hl => by
    obtain ⟨u, v, rfl, h1, h2⟩ := LR2 hl
    simp only [VR] at h1 h2
    subst h1; subst h2
    refine (Tryz.cmp_Compare_int x y w).mono ?_
    rintro e w' ⟨rfl, rfl⟩
    exact ⟨_, rfl, Below.refl _ _, by simp [VR]⟩
theorem join_ok (c : UInt8) (l : List (List UInt8)) (t : Tag) (σ : List AE) (hn : l.length ≤ 140737488355328) (hl : (Lib.join l [c]).length ≤ 140737488355328) : Gives Tryz.prog 92 [.sl t (strs l), .str [c]] σ (.str (Lib.join l [c])) :=
  Gives_of ⟨_, Tryz.func92, rfl, rfl⟩ fun w en vals hi hll => by
    obtain ⟨u, v, rfl, h1, h2⟩ := LR2 hll
    simp only [VR] at h1 h2
    obtain ⟨B, cc, rfl, h3, h4, _, h5⟩ := h1
    subst h2
    cases l with
    | nil =>
      refine (Tryz.strings_Join_none B cc ⟨[c].toArray⟩ w).mono ?_
      rintro e w' ⟨rfl, rfl⟩
      exact ⟨_, rfl, Below.refl _ _, by simp [VR, Lib.join_nil]⟩
    | cons x l =>
      obtain ⟨g, o, rfl, hr⟩ := h5 (by simp [strs])
      have hcell : ∀ (j : Nat) (y : ByteArray), ((x :: l).map fun z => (⟨z.toArray⟩ : ByteArray))[j]? = some y → w.cell? ⟨g, o + j, none⟩ = some (.string y) := fun j y hy => by
        rw [List.getElem?_map, Option.map_eq_some_iff] at hy
        obtain ⟨z, hz, rfl⟩ := hy
        exact strs_RR hr j z hz
      have hmap : ((x :: l).map fun z => (⟨z.toArray⟩ : ByteArray)).map (·.data.toList) = x :: l := by simp [Function.comp_def]
      have hlen : ((x :: l).map fun z => (⟨z.toArray⟩ : ByteArray)).length = (strs (x :: l)).length := by simp [strs]
      have := Tryz.strings_Join g o cc ((x :: l).map fun z => (⟨z.toArray⟩ : ByteArray)) ⟨[c].toArray⟩ w hcell (World.block_lt_of_cell? w _ (strs_RR hr 0 x rfl)) (by rw [List.length_map]; exact hn) (by rw [hlen]; exact h3) (by rw [hmap]; exact hl)
      rw [hlen, hmap] at this
      refine this.mono ?_
      rintro e w' ⟨rfl, hb⟩
      exact ⟨_, rfl, hb, by simp [VR]⟩
end Go.Proofs.YtdjjlbjagaadaaaGreatDoor.A
/- What a row of this seat hands over: the variables' facts, a world for the witness. -/
namespace Go.Proofs.YtdjjlbjagaadaaaGreatDoor.A
open Go Go.RowKit Go.ChangeShapes Go.WideShapes Go.ChangeAt
set_option maxRecDepth 100000

theorem own : ownKnob Tryz.prog.godebug = none := by kernel_rfl
theorem laidOut : laidOutB Tryz.prog = true := by kernel_rfl
theorem g3 : Tryz.prog.globalNamed "internal/strconv.uint64pow10" = some 3 := by kernel_rfl
theorem g3Type : (Tryz.prog.globals[3]?).map (·.type) = some 239 := by kernel_rfl
theorem cTab : Tryz.prog.cellsOf 239 = 20 := by kernel_rfl
theorem cU64 : Tryz.prog.cellsOf 221 = 1 := by kernel_rfl
abbrev laidList : List (String × DataW Unit) := Rows.lockReadsRow.laid
theorem pow10_of {W : World} (h : laidMet Tryz.prog laidList W) : Lib.TabIs Tryz.prog W "internal/strconv.uint64pow10" .u64 Lib.pow10Tab := by
  have e : (Rows.laid_internal_strconv_uint64pow10 : DataW Unit) = Lib.tabData .u64 Lib.pow10Tab := by kernel_rfl
  refine Lib.tabIs_of_head (rest := [("unicode/utf8.acceptRanges", Rows.laid_unicode_utf8_acceptRanges), ("strconv.ErrRange", Rows.laid_strconv_ErrRange), ("strconv.ErrSyntax", Rows.laid_strconv_ErrSyntax), ("unicode/utf8.first", Rows.laid_unicode_utf8_first)]) g3 g3Type Tryz.underlying239 Tryz.underlying221 cU64 cTab ?_
  rw [← e]
  exact laidMet.tail (laidMet.tail h)
theorem vars_ok {W : World} (hS : W.ShapedOpen Tryz.prog) (h : laidMet Tryz.prog laidList W) : VarsOk W := ⟨cell_of_shapedOpen_int (zero := #[.int .i64 0]) (t := 3) hS (of_decide_eq_true (by kernel_rfl)) (by kernel_rfl) rfl (by kernel_rfl) (by kernel_rfl) Tryz.underlying3, pow10_of h⟩
/-- The variables' blocks tell it of every later world. -/
theorem glob_of {W : World} (h : VarsOk W) : ∃ l, GV [.glob l] ∧ Iv [.glob l] [.glob] W := by
  obtain ⟨⟨m, hm⟩, ht⟩ := h
  have h0 := World.block_lt_of_cell? W _ hm
  have h3 : 3 < W.heap.size := by
    unfold Lib.TabIs World.var? at ht
    rw [g3] at ht
    simp only [Option.bind_some] at ht
    split at ht
    · rename_i hc; exact (Array.getElem?_eq_some_iff.1 hc).1
    · cases ht
  refine ⟨[(0, W.heap[0]'h0), (3, W.heap[3]'h3)], ⟨_, rfl, fun w hw => ?_⟩, rfl, fun i a x ha hx => ?_, fun i j x y g hi hj hx hy => ?_⟩
  · have e0 := hw _ List.mem_cons_self
    have e3 := hw _ (List.mem_cons_of_mem _ List.mem_cons_self)
    simp only at e0 e3
    refine ⟨⟨m, ?_⟩, ?_⟩
    · rw [← hm]
      exact World.cell?_of_block (w := W) (by rw [e0]; exact (Array.getElem?_eq_getElem h0).symm)
    · unfold Lib.TabIs World.var? at ht ⊢
      rw [g3] at ht ⊢
      simp only [Option.bind_some] at ht ⊢
      rw [e3]
      rw [Array.getElem?_eq_getElem h3] at ht
      exact ht
  · match i, ha, hx with
    | 0, ha, hx =>
      simp only [List.getElem?_cons_zero, Option.some.injEq] at ha hx
      subst ha; subst hx
      intro p hp
      simp only [List.mem_cons, List.not_mem_nil, or_false] at hp
      rcases hp with rfl | rfl
      · exact ⟨Array.getElem?_eq_getElem h0, fun x hx => by rw [List.mem_singleton.1 hx]; simp [ebl]⟩
      · exact ⟨Array.getElem?_eq_getElem h3, fun x hx => by rw [List.mem_singleton.1 hx]; simp [ebl]⟩
    | i + 1, ha, hx => simp at ha
  · match i, hi with
    | 0, hi => simp only [List.getElem?_cons_zero, Option.some.injEq] at hi; subst hi; cases hx
    | i + 1, hi => simp at hi
/-- What a pure contract gives at a row. -/
theorem calls_of {f : FuncId} {args : List V} {W : World} {vals : List Value} (hv : VarsOk W) (h : ∀ σ, GV σ → Gives Tryz.prog f args σ (.bool true)) (hl : ∀ en : List CE, (∀ x ∈ en, ebl x = none) → LR W en args vals) :
    Calls Tryz.prog f vals.toArray W (fun e W' => e = .returned (.bool true) ∧ Below W.heap.size W W') := by
  obtain ⟨l, hG, hI⟩ := glob_of hv
  have hn : ∀ x ∈ [CE.glob], ebl x = none := fun x hx => by rw [List.mem_singleton.1 hx]; rfl
  refine ((h _ hG).go W [.glob] vals.toArray hI (by simpa using hl [.glob] hn)).mono fun e W' hk => ?_
  obtain ⟨r, σ', en', ⟨rfl, rfl⟩, hr, _, hx⟩ := hk
  obtain ⟨v, rfl, hv⟩ := hr
  simp only [VR] at hv
  subst hv
  exact ⟨rfl, hx.below hn⟩

/-! ### A world for the witness -/
def flatD : Nat → DataW Unit → List Value
  | 0, _ => []
  | _ + 1, .lit (.int k z) => [.int k z]
  | n + 1, .agg l => l.flatMap (flatD n)
  | _, _ => []
abbrev rangeS : ByteArray := { data := #[118, 97, 108, 117, 101, 32, 111, 117, 116, 32, 111, 102, 32, 114, 97, 110, 103, 101] }
abbrev syntaxS : ByteArray := { data := #[105, 110, 118, 97, 108, 105, 100, 32, 115, 121, 110, 116, 97, 120] }
noncomputable def low : Nat := (World.holding Tryz.prog default ⟨#[], #[], []⟩).heap.size
def putCells (cs : Array Value) : Obj → Obj
  | .cells _ t frozen => .cells cs t frozen
  | o => o
noncomputable def laidWorld (os : Os) : World :=
  let w0 := World.holding Tryz.prog os ⟨#[.cells #[.string rangeS] 252, .cells #[.string syntaxS] 252], #[], []⟩
  { w0 with heap := (((((((w0.heap.modify 6 (putCells (flatD 3 Rows.laid_math_bits_deBruijn32tab).toArray)).modify 7 (putCells (flatD 3 Rows.laid_math_bits_deBruijn64tab).toArray)).modify
      3 (putCells (flatD 3 Rows.laid_internal_strconv_uint64pow10).toArray)).modify 2 (putCells (flatD 3 Rows.laid_unicode_utf8_acceptRanges).toArray)).modify
      5 (putCells #[.iface 250 (.pointer (some ⟨low, 0, none⟩))])).modify 4 (putCells #[.iface 250 (.pointer (some ⟨low + 1, 0, none⟩))])).modify
      1 (putCells (flatD 3 Rows.laid_unicode_utf8_first).toArray)) }
theorem laid_met (os : Os) (args : Array Value) : laidMet Tryz.prog laidList ((laidWorld os).forCall (fun _ _ => 0) ⟨#[], args, []⟩).memory :=
  laidMet_of_run' 8 (by kernel_rfl) (by kernel_rfl)
end Go.Proofs.YtdjjlbjagaadaaaGreatDoor.A
/- A row's arguments, read in the logic: numbers, texts, slices, structs. -/
namespace Go.Proofs.YtdjjlbjagaadaaaGreatDoor.A
open Go Go.RowKit
set_option linter.unusedVariables false
set_option linter.unusedSimpArgs false

def NB (en : List CE) : Prop := ∀ x ∈ en, ebl x = none
theorem St_of {W : World} {en : List CE} (hn : NB en) {g o : Nat} {u : Value} (h : W.cell? ⟨g, o, none⟩ = some u) : St W en g o u := ⟨h, fun x hx => by
  cases x with
  | glob => trivial
  | box g' => have := hn _ hx; cases this
  | tok ver v n sz => intro e; have := hn _ hx; simp only [ebl] at this; rw [this] at e; cases e
  | row ver v n sz => intro e; have := hn _ hx; simp only [ebl] at this; rw [this] at e; cases e⟩

section
variable {H : Type} (enc : TypeId × Value → H) (P : Program) (W : World) (base : Nat) (spare : Nat → Bool) (held : Bool)
/-- What is read of a value of type t: cells that meet E. -/
def Opens (t : TypeId) (E : List V → Prop) : Prop := ∀ (fuel : Nat) (cs : List Value) (x : DataW H × List MemPlace), DataW.trod enc P W base spare held fuel t cs = some x →
  ∃ xs, E xs ∧ (∀ u ∈ cs, u.oneCell' = true) ∧ ∀ en, NB en → LR W en xs cs
def AllO : List TypeId → List (List V → Prop) → Prop
  | [], [] => True
  | t :: ts, E :: Es => Opens enc P W base spare held t E ∧ AllO ts Es
  | _, _ => False
end
/-- One behind the other. -/
def OF : List (List V → Prop) → List V → Prop
  | [], xs => xs = []
  | E :: Es, xs => ∃ a b, xs = a ++ b ∧ E a ∧ OF Es b
def chainB (P : Program) : Nat → List Field → Nat → Bool
  | o, [], e => o == e
  | o, f :: r, e => f.offset == o && chainB P (o + P.cellsOf f.type) r e

section
variable {H : Type} {enc : TypeId × Value → H} {P : Program} {W : World} {base : Nat} {spare : Nat → Bool} {held : Bool} {t : TypeId}
theorem Opens.mono {E E' : List V → Prop} (h : Opens enc P W base spare held t E) (he : ∀ xs, E xs → E' xs) : Opens enc P W base spare held t E' := fun fuel cs x hx => by
  obtain ⟨xs, h1, h2, h3⟩ := h fuel cs x hx
  exact ⟨xs, he _ h1, h2, h3⟩
theorem Opens_int {k : IntKind} (ht : P.underlying t = some (.int k)) : Opens enc P W base spare held t (fun xs => ∃ n, xs = [.int k n] ∧ (Lit.int k n).wf = true) := fun fuel cs x hx => by
  obtain ⟨n, rfl, _, hw⟩ := DataW.trod_int ht hx
  exact ⟨_, ⟨n, rfl, hw⟩, fun u hu => by rw [List.mem_singleton.1 hu]; rfl, fun en _ => by simp [LR, VR]⟩
theorem Opens_bool (ht : P.underlying t = some .bool) : Opens enc P W base spare held t (fun xs => ∃ b, xs = [.bool b]) := fun fuel cs x hx => by
  obtain ⟨b, rfl, _⟩ := DataW.trod_bool ht hx
  exact ⟨_, ⟨b, rfl⟩, fun u hu => by rw [List.mem_singleton.1 hu]; rfl, fun en _ => by simp [LR, VR]⟩
theorem Opens_str (ht : P.underlying t = some .string) : Opens enc P W base spare held t (fun xs => ∃ s, xs = [.str s] ∧ s.length ≤ maxLen) := fun fuel cs x hx => by
  obtain ⟨s, rfl, _, hw⟩ := DataW.trod_string ht hx
  have e : s.data.toList.length = s.size := by rw [Array.length_toList]; rfl
  exact ⟨_, ⟨s.data.toList, rfl, by rw [e]; exact hw⟩, fun u hu => by rw [List.mem_singleton.1 hu]; rfl, fun en _ => by simp [LR, VR]⟩
theorem AllO_nil : AllO enc P W base spare held [] [] := trivial
theorem AllO_cons {ts : List TypeId} {E : List V → Prop} {Es : List (List V → Prop)} (h : Opens enc P W base spare held t E) (h' : AllO enc P W base spare held ts Es) : AllO enc P W base spare held (t :: ts) (E :: Es) := ⟨h, h'⟩
theorem cells_get {a : Addr} {n : Nat} {cs : List Value} (h : W.cells? base a n = some cs) : cs.length = n ∧ ∀ j, j < n → W.cell? (a.add j) = cs[j]? := by
  unfold World.cells? at h
  split at h
  · refine ⟨by simpa using mapM_some_length h, fun j hj => ?_⟩
    exact mapM_some_get h j j (by simp [hj])
  · cases h
theorem RR_of_get {en : List CE} {sz : Nat} : ∀ {yss : List (List V)} {g o : Nat}, (∀ y ∈ yss, y.length = sz) → (∀ (i : Nat) (y : List V), yss[i]? = some y → ER W en y g (o + i * sz)) → RR W en yss g o
  | [], g, o, _, _ => by simp [RR]
  | y :: yss, g, o, hl, h => by
    simp only [RR]
    refine ⟨by simpa using h 0 y rfl, RR_of_get (fun z hz => hl z (List.mem_cons_of_mem _ hz)) fun i z hz => ?_⟩
    have := h (i + 1) z (by simpa using hz)
    rw [hl y List.mem_cons_self]
    rwa [show o + sz + i * sz = o + (i + 1) * sz from by rw [Nat.add_mul]; omega]
theorem Opens_sliceT {e : TypeId} {E : List V → Prop} (ht : P.underlying t = some (.slice e)) (he : Opens enc P W base spare held e E) (hE : ∀ xs, E xs → xs.length = P.cellsOf e) (hpos : 0 < P.cellsOf e) :
    Opens enc P W base spare held t (fun xs => ∃ tg yss, xs = [.sl tg yss] ∧ (∀ y ∈ yss, E y) ∧ yss.length ≤ maxLen ∧ (tg = .nil ∧ yss = [] ∨ tg = .ro)) := fun fuel cs x hx => by
  rcases DataW.trod_slice ht hx with ⟨rfl, _⟩ | ⟨a, len, cap, elems, rest, n, rfl, rfl, _, hb, hlc, hcm, hel, hget, _⟩
  · exact ⟨_, ⟨.nil, [], rfl, by simp, by simp, .inl ⟨rfl, rfl⟩⟩, fun u hu => by rw [List.mem_singleton.1 hu]; rfl, fun en _ => by
      simp [LR, VR, TagOk, maxLen]
      exact ⟨none, 0, ⟨rfl, rfl⟩, by omega⟩⟩
  · have key : ∀ i, i < len → ∃ y, E y ∧ ∃ csi, W.cells? base (a.add (i * P.cellsOf e)) (P.cellsOf e) = some csi ∧ (∀ u ∈ csi, u.oneCell' = true) ∧ ∀ en, NB en → LR W en y csi := fun i hi => by
      have h1 := hget i hi
      rw [List.getElem?_eq_getElem (by omega), Option.bind_eq_some_iff] at h1
      obtain ⟨csi, h2, h3⟩ := h1
      obtain ⟨y, h4, h5, h6⟩ := he _ _ _ h3
      exact ⟨y, h4, csi, h2, h5, h6⟩
    have key' : ∀ i, ∃ y, i < len → E y ∧ ∃ csi, W.cells? base (a.add (i * P.cellsOf e)) (P.cellsOf e) = some csi ∧ (∀ u ∈ csi, u.oneCell' = true) ∧ ∀ en, NB en → LR W en y csi := fun i => by
      by_cases hi : i < len
      · obtain ⟨y, hy⟩ := key i hi; exact ⟨y, fun _ => hy⟩
      · exact ⟨[], fun h => absurd h hi⟩
    let f : Nat → List V := fun i => Classical.choose (key' i)
    have hf : ∀ i, i < len → E (f i) ∧ ∃ csi, W.cells? base (a.add (i * P.cellsOf e)) (P.cellsOf e) = some csi ∧ (∀ u ∈ csi, u.oneCell' = true) ∧ ∀ en, NB en → LR W en (f i) csi := fun i hi => Classical.choose_spec (key' i) hi
    have hmem : ∀ y ∈ (List.range len).map f, E y := fun y hy => by
      obtain ⟨i, hi, rfl⟩ := List.mem_map.1 hy
      exact (hf i (by simpa using hi)).1
    refine ⟨_, ⟨.ro, (List.range len).map f, rfl, hmem, by simp; omega, .inr rfl⟩, fun u hu => by rw [List.mem_singleton.1 hu]; rfl, fun en hn => ?_⟩
    simp only [LR, VR]
    refine ⟨_, [], rfl, ⟨some a, cap, by simp, by simpa using hlc, hcm, trivial, fun hne => ?_⟩, rfl⟩
    have hlen : 0 < len := by
      cases len with
      | zero => simp at hne
      | succ n => omega
    obtain ⟨g, o, spot⟩ := a
    have hspot : spot = none := by
      obtain ⟨_, csi, h2, _⟩ := hf 0 hlen
      have hg := (cells_get h2).2 0 hpos
      have hl := (cells_get h2).1
      rw [List.getElem?_eq_getElem (by omega)] at hg
      simpa [Addr.add] using World.cell?_spot hg
    subst hspot
    refine ⟨g, o, rfl, RR_of_get (sz := P.cellsOf e) (fun y hy => hE y (hmem y hy)) fun i y hy => ?_⟩
    rw [List.getElem?_map, Option.map_eq_some_iff] at hy
    obtain ⟨i', hi', rfl⟩ := hy
    have hii : i < len := by
      have := (List.getElem?_eq_some_iff.1 hi').1
      simpa using this
    have : i' = i := by
      rw [List.getElem?_range hii] at hi'
      exact (Option.some.inj hi').symm
    subst this
    obtain ⟨_, csi, h2, h5, h6⟩ := hf i' hii
    obtain ⟨hcl, hcg⟩ := cells_get h2
    refine ER_mk fun j x hx => ?_
    obtain ⟨u, hu, hv⟩ := LR_get (h6 en hn) j x hx
    have hj : j < P.cellsOf e := by rw [← hcl]; exact (List.getElem?_eq_some_iff.1 hu).1
    have hc := hcg j hj
    rw [hu, Addr_add, Addr_add] at hc
    exact ⟨u, St_of hn hc, h5 u (List.mem_of_getElem? hu), hv⟩
theorem Opens_slice {e : TypeId} {E : List V → Prop} (ht : P.underlying t = some (.slice e)) (he : Opens enc P W base spare held e E) (hE : ∀ xs, E xs → xs.length = P.cellsOf e) (hpos : 0 < P.cellsOf e) :
    Opens enc P W base spare held t (fun xs => ∃ tg yss, xs = [.sl tg yss] ∧ (∀ y ∈ yss, E y) ∧ yss.length ≤ maxLen) := (Opens_sliceT ht he hE hpos).mono fun xs ⟨tg, yss, h1, h2, h3, _⟩ => ⟨tg, yss, h1, h2, h3⟩
/-- Less is said. -/
theorem Opens.weak {E E' : List V → Prop} (h : Opens enc P W base spare held t E) (he : ∀ xs, E xs → ∃ ys, E' ys ∧ Lle xs ys) : Opens enc P W base spare held t E' := fun fuel cs x hx => by
  obtain ⟨xs, h1, h2, h3⟩ := h fuel cs x hx
  obtain ⟨ys, h4, h5⟩ := he xs h1
  exact ⟨ys, h4, h2, fun en hn => h5.LR (h3 en hn)⟩
theorem fields_open : ∀ {fl : List Field} {Es : List (List V → Prop)} {o e : Nat} {cs : List Value} {n : Nat}, chainB P o fl e = true → e ≤ cs.length → AllO enc P W base spare held (fl.map (·.type)) Es →
    (∀ f ∈ fl, ∃ x, DataW.trod enc P W base spare held n f.type ((cs.drop f.offset).take (P.cellsOf f.type)) = some x) → ∃ xs, OF Es xs ∧ (∀ u ∈ (cs.drop o).take (e - o), u.oneCell' = true) ∧ o ≤ e ∧ ∀ en, NB en → LR W en xs ((cs.drop o).take (e - o))
  | [], [], o, e, cs, n, hc, _, _, _ => by
    simp only [chainB, beq_iff_eq] at hc
    subst hc
    exact ⟨[], rfl, by simp, Nat.le_refl _, fun en _ => by simp [LR]⟩
  | [], _ :: _, o, e, cs, n, _, _, ha, _ => ha.elim
  | f :: r, [], o, e, cs, n, _, _, ha, _ => ha.elim
  | f :: r, E :: Es, o, e, cs, n, hc, hl, ha, hx => by
    simp only [chainB, Bool.and_eq_true, beq_iff_eq] at hc
    obtain ⟨ho, hc⟩ := hc
    obtain ⟨x, hx0⟩ := hx f List.mem_cons_self
    rw [ho] at hx0
    obtain ⟨a, a1, a2, a3⟩ := ha.1 _ _ _ hx0
    obtain ⟨b, b1, b2, b3, b4⟩ := fields_open hc hl ha.2 fun g hg => hx g (List.mem_cons_of_mem _ hg)
    have hsp : (cs.drop o).take (e - o) = (cs.drop o).take (P.cellsOf f.type) ++ (cs.drop (o + P.cellsOf f.type)).take (e - (o + P.cellsOf f.type)) := by
      rw [show e - o = P.cellsOf f.type + (e - (o + P.cellsOf f.type)) from by omega, List.take_add, List.drop_drop]
    refine ⟨a ++ b, ⟨a, b, rfl, a1, b1⟩, fun u hu => ?_, by omega, fun en hn => ?_⟩
    · rw [hsp] at hu
      rcases List.mem_append.1 hu with hu | hu
      · exact a2 u hu
      · exact b2 u hu
    · rw [hsp]
      exact LR_append (a3 en hn) (b4 en hn)
theorem Opens_struct {fs : Array Field} {Es : List (List V → Prop)} (ht : P.underlying t = some (.struct fs)) (hc : chainB P 0 fs.toList (P.cellsOf t) = true) (ha : AllO enc P W base spare held (fs.toList.map (·.type)) Es) :
    Opens enc P W base spare held t (OF Es) := fun fuel cs x hx => by
  obtain ⟨xs, n, rfl, _, hl, hxl, hget⟩ := DataW.trod_struct ht hx
  obtain ⟨ys, h1, h2, h3, h4⟩ := fields_open (cs := cs) (n := n) hc (by omega) ha fun f hf => by
    obtain ⟨i, hi⟩ := List.getElem?_of_mem hf
    have hi' : fs[i]? = some f := by simpa using hi
    have := hget i f hi'
    have hlt : i < xs.length := by rw [hxl]; exact (Array.getElem?_eq_some_iff.1 hi').1
    rw [List.getElem?_eq_getElem hlt] at this
    exact ⟨_, this⟩
  have e : (cs.drop 0).take (P.cellsOf t - 0) = cs := by rw [List.drop_zero, Nat.sub_zero, ← hl, List.take_length]
  rw [e] at h2 h4
  exact ⟨ys, h1, h2, h4⟩
/-- An argument: a struct's or array's value. -/
theorem Opens.arg {E : List V → Prop} (h : Opens enc P W base spare held t E) {v : Value} {d : DataW H} {ps : List MemPlace} (hd : DataW.Trod enc P W base spare held t v d ps) : ∃ xs, E xs ∧ (∀ u ∈ v.cells.toList, u.oneCell' = true) ∧ ∀ en, NB en → LR W en xs v.cells.toList := by
  obtain ⟨fuel, hf⟩ := hd
  exact h _ _ _ hf
end
end Go.Proofs.YtdjjlbjagaadaaaGreatDoor.A
