/- What a row of this seat hands over: the variables' facts, a world for the witness. -/
import Derived.Test.YtfagngmikbmmhaaDoorVaK
import Derived.Test.YtfagngmikbmmhaaDoorCards
import Derived.Test.YtfagngmikbmmhaaDoorTie
import Derived.WalkKit
import Derived.ProofKit
import Derived.OpenShut
import Derived.Carry
import Derived.Deep.DeepHandedRow
import Derived.Lib.LaidTab
import Derived.Stop.LaidErr
namespace Go.Proofs.YtfagngmikbmmhaaDoor.A
open Go Go.RowKit Go.ChangeShapes Go.WideShapes Go.ChangeAt
set_option maxRecDepth 100000

theorem own : ownKnob Tryd.prog.godebug = none := by kernel_rfl
theorem laidOut : laidOutB Tryd.prog = true := by kernel_rfl
theorem g3 : Tryd.prog.globalNamed "internal/strconv.uint64pow10" = some 3 := by kernel_rfl
theorem g3Type : (Tryd.prog.globals[3]?).map (·.type) = some 112 := by kernel_rfl
theorem cTab : Tryd.prog.cellsOf 112 = 20 := by kernel_rfl
theorem cU64 : Tryd.prog.cellsOf 96 = 1 := by kernel_rfl
abbrev laidList : List (String × DataW Unit) := Rows.verReadsRow.laid
theorem pow10_of {W : World} (h : laidMet Tryd.prog laidList W) : Lib.TabIs Tryd.prog W "internal/strconv.uint64pow10" .u64 Lib.pow10Tab := by
  have e : (Rows.laid_internal_strconv_uint64pow10 : DataW Unit) = Lib.tabData .u64 Lib.pow10Tab := by kernel_rfl
  refine Lib.tabIs_of_head (rest := [("unicode/utf8.acceptRanges", Rows.laid_unicode_utf8_acceptRanges), ("strconv.ErrRange", Rows.laid_strconv_ErrRange), ("strconv.ErrSyntax", Rows.laid_strconv_ErrSyntax), ("unicode/utf8.first", Rows.laid_unicode_utf8_first)]) g3 g3Type Tryd.underlying112 Tryd.underlying96 cU64 cTab ?_
  rw [← e]
  exact laidMet.tail (laidMet.tail h)
theorem vars_ok {W : World} (hS : W.ShapedOpen Tryd.prog) (h : laidMet Tryd.prog laidList W) : VarsOk W := ⟨cell_of_shapedOpen_int (zero := #[.int .i64 0]) (t := 3) hS (of_decide_eq_true (by kernel_rfl)) (by kernel_rfl) rfl (by kernel_rfl) (by kernel_rfl) Tryd.underlying3, pow10_of h⟩
/-- The variables' blocks tell it of every later world. -/
theorem glob_of {W : World} (h : VarsOk W) : ∃ l, GV [.glob l] ∧ Iv [.glob l] [.glob] W := by
  obtain ⟨⟨m, hm⟩, ht⟩ := h
  have h0 := World.block_lt_of_cell? W _ hm
  have h3 : 3 < W.heap.size := by
    unfold Lib.TabIs World.var? at ht
    rw [g3] at ht
    simp only [Option.bind_some] at ht
    split at ht
    · rename_i hc; exact (Array.getElem?_eq_some_iff.1 hc).1
    · cases ht
  refine ⟨[(0, W.heap[0]'h0), (3, W.heap[3]'h3)], ⟨_, rfl, fun w hw => ?_⟩, rfl, fun i a x ha hx => ?_, fun i j x y g hi hj hx hy => ?_⟩
  · have e0 := hw _ List.mem_cons_self
    have e3 := hw _ (List.mem_cons_of_mem _ List.mem_cons_self)
    simp only at e0 e3
    refine ⟨⟨m, ?_⟩, ?_⟩
    · rw [← hm]
      exact World.cell?_of_block (w := W) (by rw [e0]; exact (Array.getElem?_eq_getElem h0).symm)
    · unfold Lib.TabIs World.var? at ht ⊢
      rw [g3] at ht ⊢
      simp only [Option.bind_some] at ht ⊢
      rw [e3]
      rw [Array.getElem?_eq_getElem h3] at ht
      exact ht
  · match i, ha, hx with
    | 0, ha, hx =>
      simp only [List.getElem?_cons_zero, Option.some.injEq] at ha hx
      subst ha; subst hx
      intro p hp
      simp only [List.mem_cons, List.not_mem_nil, or_false] at hp
      rcases hp with rfl | rfl
      · exact ⟨Array.getElem?_eq_getElem h0, fun x hx => by rw [List.mem_singleton.1 hx]; simp [ebl]⟩
      · exact ⟨Array.getElem?_eq_getElem h3, fun x hx => by rw [List.mem_singleton.1 hx]; simp [ebl]⟩
    | i + 1, ha, hx => simp at ha
  · match i, hi with
    | 0, hi => simp only [List.getElem?_cons_zero, Option.some.injEq] at hi; subst hi; cases hx
    | i + 1, hi => simp at hi
/-- What a pure contract gives at a row. -/
theorem calls_of {f : FuncId} {args : List V} {W : World} {vals : List Value} (hv : VarsOk W) (h : ∀ σ, GV σ → Gives Tryd.prog f args σ (.bool true)) (hl : ∀ en : List CE, (∀ x ∈ en, ebl x = none) → LR W en args vals) :
    Calls Tryd.prog f vals.toArray W (fun e W' => e = .returned (.bool true) ∧ Below W.heap.size W W') := by
  obtain ⟨l, hG, hI⟩ := glob_of hv
  have hn : ∀ x ∈ [CE.glob], ebl x = none := fun x hx => by rw [List.mem_singleton.1 hx]; rfl
  refine ((h _ hG).go W [.glob] vals.toArray hI (by simpa using hl [.glob] hn)).mono fun e W' hk => ?_
  obtain ⟨r, σ', en', ⟨rfl, rfl⟩, hr, _, hx⟩ := hk
  obtain ⟨v, rfl, hv⟩ := hr
  simp only [VR] at hv
  subst hv
  exact ⟨rfl, hx.below hn⟩

/-! ### A world for the witness -/
def flatD : Nat → DataW Unit → List Value
  | 0, _ => []
  | _ + 1, .lit (.int k z) => [.int k z]
  | n + 1, .agg l => l.flatMap (flatD n)
  | _, _ => []
abbrev rangeS : ByteArray := { data := #[118, 97, 108, 117, 101, 32, 111, 117, 116, 32, 111, 102, 32, 114, 97, 110, 103, 101] }
abbrev syntaxS : ByteArray := { data := #[105, 110, 118, 97, 108, 105, 100, 32, 115, 121, 110, 116, 97, 120] }
noncomputable def low : Nat := (World.holding Tryd.prog default ⟨#[], #[], []⟩).heap.size
def putCells (cs : Array Value) : Obj → Obj
  | .cells _ t frozen => .cells cs t frozen
  | o => o
noncomputable def laidWorld (os : Os) : World :=
  let w0 := World.holding Tryd.prog os ⟨#[.cells #[.string rangeS] 122, .cells #[.string syntaxS] 122], #[], []⟩
  { w0 with heap := (((((((w0.heap.modify 6 (putCells (flatD 3 Rows.laid_math_bits_deBruijn32tab).toArray)).modify 7 (putCells (flatD 3 Rows.laid_math_bits_deBruijn64tab).toArray)).modify
      3 (putCells (flatD 3 Rows.laid_internal_strconv_uint64pow10).toArray)).modify 5 (putCells (flatD 3 Rows.laid_unicode_utf8_acceptRanges).toArray)).modify
      2 (putCells #[.iface 120 (.pointer (some ⟨low, 0, none⟩))])).modify 1 (putCells #[.iface 120 (.pointer (some ⟨low + 1, 0, none⟩))])).modify
      4 (putCells (flatD 3 Rows.laid_unicode_utf8_first).toArray)) }
theorem laid_met (os : Os) (args : Array Value) : laidMet Tryd.prog laidList ((laidWorld os).forCall (fun _ _ => 0) ⟨#[], args, []⟩).memory :=
  laidMet_of_run' 8 (by kernel_rfl) (by kernel_rfl)
end Go.Proofs.YtfagngmikbmmhaaDoor.A
