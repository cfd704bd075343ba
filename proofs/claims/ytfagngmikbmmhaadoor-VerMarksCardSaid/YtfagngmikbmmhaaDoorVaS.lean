/- The shelf's contracts in the logic: Cut, Split, Join, Itoa, Atoi, Compare. -/
import Derived.Test.YtfagngmikbmmhaaDoorVaB
import Derived.Test.YtfagngmikbmmhaaDoorVaP
import Derived.Test.YtfagngmikbmmhaaDoorShelf
import Derived.Lib.AtoiErrMem
import Derived.Lib.AppendIntMem
namespace Go.Proofs.YtfagngmikbmmhaaDoor.A
open Go Go.RowKit
set_option maxRecDepth 100000
set_option linter.unusedSimpArgs false
set_option linter.unusedVariables false

/-- What the variables of the library's read. -/
def VarsOk (w : World) : Prop := (∃ m, w.cell? ⟨0, 0, none⟩ = some (.int .i64 m)) ∧ Lib.TabIs Tryd.prog w "internal/strconv.uint64pow10" .u64 Lib.pow10Tab
abbrev GV (σ : List AE) : Prop := Glob σ VarsOk
/-- Strings as a slice's elements. -/
def strs (l : List (List UInt8)) : List (List V) := l.map fun x => [.str x]
theorem strs_len (l : List (List UInt8)) : (strs l).length = l.length := by simp [strs]
theorem strs_flat (l : List (List UInt8)) : flat 1 (strs l) = true := by simp [strs, flat]
theorem strs_bel (n : Nat) (l : List (List UInt8)) : bels2 n (strs l) := by
  induction l with
  | nil => trivial
  | cons x l ih => exact ⟨⟨trivial, trivial⟩, ih⟩
theorem strs_RR {w : World} {en : List CE} : ∀ {l : List (List UInt8)} {g o : Nat}, RR w en (strs l) g o → ∀ (j : Nat) (x : List UInt8), l[j]? = some x → w.cell? ⟨g, o + j, none⟩ = some (.string ⟨x.toArray⟩)
  | [], g, o, _, j, x, h => by simp at h
  | y :: l, g, o, hr, j, x, h => by
    simp only [strs, List.map_cons, RR, ER] at hr
    obtain ⟨⟨⟨u, h1, _, h2⟩, _⟩, h3⟩ := hr
    cases j with
    | zero =>
      simp only [List.getElem?_cons_zero, Option.some.injEq] at h
      subst h
      simp only [VR] at h2
      subst h2
      exact h1.1
    | succ j =>
      have := strs_RR (l := l) h3 j x (by simpa using h)
      simp only [List.length_cons, List.length_nil, Nat.zero_add] at this
      rwa [show o + (j + 1) = o + 1 + j from by omega]
theorem RR_strs {w : World} {en : List CE} : ∀ {l : List (List UInt8)} {g o : Nat}, (∀ (j : Nat) (x : List UInt8), l[j]? = some x → St w en g (o + j) (.string ⟨x.toArray⟩)) → RR w en (strs l) g o
  | [], g, o, _ => by simp [strs, RR]
  | y :: l, g, o, h => by
    simp only [strs, List.map_cons, RR, ER]
    refine ⟨⟨⟨_, h 0 y rfl, rfl, by simp [VR]⟩, trivial⟩, RR_strs (l := l) fun j x hx => ?_⟩
    have := h (j + 1) x (by simpa using hx)
    simp only [List.length_cons, List.length_nil, Nat.zero_add]
    rwa [show o + (j + 1) = o + 1 + j from by omega] at this
theorem LR2 {w : World} {en : List CE} {x y : V} {vals : List Value} (h : LR w en [x, y] vals) : ∃ u v, vals = [u, v] ∧ VR w en x u ∧ VR w en y v := by
  simp only [LR] at h
  obtain ⟨u, us, rfl, h1, v, vs, rfl, h2, rfl⟩ := h
  exact ⟨u, v, rfl, h1, h2⟩
theorem LR1 {w : World} {en : List CE} {x : V} {vals : List Value} (h : LR w en [x] vals) : ∃ u, vals = [u] ∧ VR w en x u := by
  simp only [LR] at h
  obtain ⟨u, us, rfl, h1, rfl⟩ := h
  exact ⟨u, rfl, h1⟩
theorem below_drewN (w : World) (n : Nat) : Below w.heap.size w (w.drewN n) := ⟨rfl, rfl, rfl, Nat.le_refl _, fun _ _ => rfl⟩
theorem cut_ok (c : UInt8) (s : List UInt8) (σ : List AE) (hs : s.length < 4294967281) (hG : GV σ) : Gives Tryd.prog 24 [.str s, .str [c]] σ (.tup [.str (cutAt c s).1, .str (cutAt c s).2.1, .bool (cutAt c s).2.2]) :=
  Gives_of ⟨_, Tryd.func24, rfl, rfl⟩ fun w en vals hi hl => by
    obtain ⟨u, v, rfl, h1, h2⟩ := LR2 hl
    simp only [VR] at h1 h2
    subst h1; subst h2
    obtain ⟨⟨m, hm⟩, _⟩ := hG.at hi
    refine (Tryd.strings_Cut ⟨s.toArray⟩ ⟨[c].toArray⟩ m w (by simpa [ByteArray.size] using hs) hm).mono ?_
    rintro e w' ⟨rfl, n, rfl⟩
    refine ⟨_, rfl, below_drewN w n, ?_⟩
    simp only [cut_eq]
    simp [VR, LR]
theorem split_ok (c : UInt8) (s : List UInt8) (σ : List AE) (hs : s.length < 4294967281) (hG : GV σ) : Gives Tryd.prog 25 [.str s, .str [c]] σ (.sl .ro (strs (spl c s))) :=
  Gives_of ⟨_, Tryd.func25, rfl, rfl⟩ fun w en vals hi hl => by
    obtain ⟨u, v, rfl, h1, h2⟩ := LR2 hl
    simp only [VR] at h1 h2
    subst h1; subst h2
    obtain ⟨⟨m, hm⟩, _⟩ := hG.at hi
    refine (Tryd.strings_Split ⟨s.toArray⟩ ⟨[c].toArray⟩ m w (by simpa [ByteArray.size] using hs) hm (Nat.le_refl 1)).mono ?_
    rintro e w' ⟨rfl, rfl⟩
    refine ⟨_, rfl, (Below.refl _ w).alloc (Nat.le_refl _) _, ?_⟩
    have hc : Lib.countB ⟨s.toArray⟩ ⟨[c].toArray⟩ + 1 = (spl c s).length := (spl_len c s).symm
    have hd : (Lib.splitB ⟨[c].toArray⟩ 0 (Lib.countB ⟨s.toArray⟩ ⟨[c].toArray⟩) ⟨s.toArray⟩).map (·.data.toList) = spl c s := by
      rw [Lib.splitB_data]
      exact split_eq c s
    have hle : (spl c s).length ≤ maxLen := by
      rw [spl_len, Lib.count_one]
      have := List.count_le_length (a := c) (l := s)
      simp only [maxLen]
      omega
    simp only [VR]
    refine ⟨some ⟨w.heap.size, 0, none⟩, (spl c s).length, by rw [hc, strs_len], by rw [strs_len]; exact Nat.le_refl _, hle, trivial, fun _ => ⟨w.heap.size, 0, rfl, RR_strs fun j x hx => ⟨?_, fun y hy => ?_⟩⟩⟩
    · rw [← hd, List.getElem?_map, Option.map_eq_some_iff] at hx
      obtain ⟨b, hb, rfl⟩ := hx
      refine cell_of_heap (heap_alloc_new w _) j _ ?_
      simp only [List.getElem?_map, hb, Option.map_some]
    · cases y with
      | glob => trivial
      | box g => have := hi.lt hy rfl; simp only [okc]; omega
      | tok ver v n sz => intro hv; have := hi.lt hy hv; omega
      | row ver v n sz => intro hv; have := hi.lt hy hv; omega
theorem itoa_ok (n : Int) (σ : List AE) (h0 : -9223372036854775808 ≤ n) (h1 : n ≤ 9223372036854775807) (hG : GV σ) : Gives Tryd.prog 34 [.int .i64 n] σ (.str (Lib.itoa n)) :=
  Gives_of ⟨_, Tryd.func34, rfl, rfl⟩ fun w en vals hi hl => by
    obtain ⟨u, rfl, h2⟩ := LR1 hl
    simp only [VR] at h2
    subst h2
    refine (Tryd.strconv_Itoa n h0 h1 w (hG.at hi).2).mono ?_
    rintro e w' ⟨rfl, k, os, rfl⟩
    exact ⟨_, rfl, Lib.below_grow _ w (Nat.le_refl _) k os, by simp [VR]⟩
theorem atoi_ok (s : List UInt8) (n : Int) (σ : List AE) (hs : s.length ≤ 18) (h : Lib.atoi s = some n) : Gives Tryd.prog 49 [.str s] σ (.tup [.int .i64 n, .exact .nilIface]) :=
  Gives_of ⟨_, Tryd.func49, rfl, rfl⟩ fun w en vals hi hl => by
    obtain ⟨u, rfl, h2⟩ := LR1 hl
    simp only [VR] at h2
    subst h2
    refine (Tryd.strconv_Atoi ⟨s.toArray⟩ n (by simpa [ByteArray.size] using hs) h w).mono ?_
    rintro e w' ⟨rfl, t, rfl⟩
    exact ⟨_, rfl, Lib.bytesWorld_below w _ t, by simp [VR, LR]⟩
theorem compare_ok (x y : Int) (σ : List AE) : Gives Tryd.prog 37 [.int .i64 x, .int .i64 y] σ (.int .i64 (Lib.compareInt x y)) :=
  Gives_of ⟨_, Tryd.func37, rfl, rfl⟩ fun w en vals hi hl => by
    obtain ⟨u, v, rfl, h1, h2⟩ := LR2 hl
    simp only [VR] at h1 h2
    subst h1; subst h2
    refine (Tryd.cmp_Compare_int x y w).mono ?_
    rintro e w' ⟨rfl, rfl⟩
    exact ⟨_, rfl, Below.refl _ _, by simp [VR]⟩
theorem join_ok (c : UInt8) (l : List (List UInt8)) (t : Tag) (σ : List AE) (hn : l.length ≤ 140737488355328) (hl : (Lib.join l [c]).length ≤ 140737488355328) : Gives Tryd.prog 35 [.sl t (strs l), .str [c]] σ (.str (Lib.join l [c])) :=
  Gives_of ⟨_, Tryd.func35, rfl, rfl⟩ fun w en vals hi hll => by
    obtain ⟨u, v, rfl, h1, h2⟩ := LR2 hll
    simp only [VR] at h1 h2
    obtain ⟨B, cc, rfl, h3, h4, _, h5⟩ := h1
    subst h2
    cases l with
    | nil =>
      refine (Tryd.strings_Join_none B cc ⟨[c].toArray⟩ w).mono ?_
      rintro e w' ⟨rfl, rfl⟩
      exact ⟨_, rfl, Below.refl _ _, by simp [VR, Lib.join_nil]⟩
    | cons x l =>
      obtain ⟨g, o, rfl, hr⟩ := h5 (by simp [strs])
      have hcell : ∀ (j : Nat) (y : ByteArray), ((x :: l).map fun z => (⟨z.toArray⟩ : ByteArray))[j]? = some y → w.cell? ⟨g, o + j, none⟩ = some (.string y) := fun j y hy => by
        rw [List.getElem?_map, Option.map_eq_some_iff] at hy
        obtain ⟨z, hz, rfl⟩ := hy
        exact strs_RR hr j z hz
      have hmap : ((x :: l).map fun z => (⟨z.toArray⟩ : ByteArray)).map (·.data.toList) = x :: l := by simp [Function.comp_def]
      have hlen : ((x :: l).map fun z => (⟨z.toArray⟩ : ByteArray)).length = (strs (x :: l)).length := by simp [strs]
      have := Tryd.strings_Join g o cc ((x :: l).map fun z => (⟨z.toArray⟩ : ByteArray)) ⟨[c].toArray⟩ w hcell (World.block_lt_of_cell? w _ (strs_RR hr 0 x rfl)) (by rw [List.length_map]; exact hn) (by rw [hlen]; exact h3) (by rw [hmap]; exact hl)
      rw [hlen, hmap] at this
      refine this.mono ?_
      rintro e w' ⟨rfl, hb⟩
      exact ⟨_, rfl, hb, by simp [VR]⟩
end Go.Proofs.YtfagngmikbmmhaaDoor.A
