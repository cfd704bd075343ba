/- Texts of the proof, one behind another: AhEvalc, AhWalk, AhDraw. -/
import Derived.Test.YtdjjlbjagaadaaaGreatDoorMa1
import Derived.Lib.Builder
import Derived.IntWalk
import Derived.Orders
import Derived.Still
/- Slice literals, builtins, and all operations in one function. -/
namespace Go.Proofs.YtdjjlbjagaadaaaGreatDoor.A
open Go Go.RowKit
set_option linter.unusedVariables false

section
variable {P : Program} {σ : List AE} {fr : List V}

/-! ### Slice literals -/
def chunks (sz : Nat) : Nat → List V → List (List V)
  | 0, _ => []
  | n + 1, cs => cs.take sz :: chunks sz n (cs.drop sz)
theorem chunks_length (sz : Nat) : ∀ (n : Nat) (cs : List V), (chunks sz n cs).length = n
  | 0, _ => rfl
  | n + 1, cs => by simp [chunks, chunks_length sz n]
theorem chunks_flatten (sz : Nat) : ∀ (n : Nat) (cs : List V), cs.length = n * sz → (chunks sz n cs).flatten = cs
  | 0, cs, h => by simp at h; simp [chunks, h]
  | n + 1, cs, h => by
    simp only [chunks, List.flatten_cons]
    rw [chunks_flatten sz n _ (by rw [List.length_drop, h, Nat.add_mul]; omega), List.take_append_drop]
def buildSliceV (P : Program) (t : TypeId) (len : Nat) (ps : List (Nat × V)) : Option V := match P.underlying t with
  | some (.slice e) => match tySize P e, zerosV P e with
    | some sz, some zs => if len * sz ≤ 16777216 ∧ len * sz ≠ 0 ∧ zs.length = sz then
        (fillA (fun i => some (i * sz, sz)) ((List.range (len * sz)).map fun i => zs.getD (i % sz) .junk) ps).map fun cs => .sl .full (chunks sz len cs)
      else if len = 0 ∧ ps.isEmpty = true then some (.sl .full []) else none
    | _, _ => none
  | _ => none
theorem fillA_length {place : Nat → Option (Nat × Nat)} : ∀ {ps : List (Nat × V)} {cs cs' : List V}, fillA place cs ps = some cs' → cs'.length = cs.length
  | [], cs, cs', h => by simp only [fillA, Option.some.injEq] at h; rw [h]
  | (i, x) :: ps, cs, cs', h => by
    simp only [fillA] at h
    split at h
    · split at h
      · rw [fillA_length h, wr_length]
      · cases h
    · cases h
theorem ER_new {w : World} {en : List CE} (hi : Iv σ en w) {us : Array Value} {T : TypeId} {fz : Nat × Nat} {cs : List V} (hl : LR w en cs us.toList) (h1 : ∀ u ∈ us.toList, u.oneCell' = true) : ER (w.alloc (.cells us T fz)) en cs w.heap.size 0 := by
  have he : Ext w en (w.alloc (.cells us T fz)) en := .alloc0 _
  refine ER_mk fun i x hx => ?_
  obtain ⟨u, hu, hv⟩ := LR_get hl i x hx
  refine ⟨u, ⟨?_, fun y hy => ?_⟩, h1 u (List.mem_of_getElem? hu), VR_ext he _ _ hv⟩
  · exact cell_of_heap (heap_alloc_new w _) i u hu
  · cases y with
    | box g => have := hi.lt hy rfl; simp only [okc]; omega
    | glob => trivial
    | tok ver v n sz => intro hv; have := hi.lt hy hv; omega
    | row ver v n sz => intro hv; have := hi.lt hy hv; omega
theorem buildSlice_ok {w : World} {en : List CE} (hi : Iv σ en w) {t : TypeId} {len : Nat} {ps : List (Nat × V)} {vs : Array (Nat × Value)} {z : V} (hp : PR w en ps vs.toList) (h : buildSliceV P t len ps = some z) :
    ∃ v w', (Instr.buildSlice t len vs).run P w = .ok v w' ∧ VR w' en z v ∧ Iv σ en w' ∧ Ext w en w' en := by
  unfold buildSliceV at h
  split at h
  · rename_i e ht
    split at h
    · rename_i sz zs hsz hz
      split at h
      · rename_i hc
        obtain ⟨hc1, hc2, hc3⟩ := hc
        simp only [Option.map_eq_some_iff] at h
        obtain ⟨cs, h1, rfl⟩ := h
        unfold zerosV at hz
        split at hz
        · rename_i z0 h0
          split at hz
          · rename_i hall
            simp only [Option.some.injEq] at hz
            subst hz
            have hz0 : z0.cells.size = sz := by simpa using hc3
            have hone : ∀ u ∈ z0.cells.toList, u.oneCell' = true := fun u hu => by
              rw [Array.all_eq_true_iff_forall_mem] at hall
              exact hall u (by simpa using hu)
            have hszp : 0 < sz := by
              rcases Nat.eq_zero_or_pos sz with h | h
              · subst h; simp at hc2
              · exact h
            have hget : ∀ i : Nat, z0.cells[i % z0.cells.size]! = z0.cells.toList.getD (i % sz) undef := fun i => by
              have hlt : i % sz < z0.cells.size := by rw [hz0]; exact Nat.mod_lt _ hszp
              rw [hz0, List.getD_eq_getElem?_getD, List.getElem?_eq_getElem (by simpa using hlt)]
              simp [getElem!_def, Array.getElem?_eq_getElem hlt]
            have hl0 : LR w en ((List.range (len * sz)).map fun i => (z0.cells.toList.map cv).getD (i % sz) .junk) ((Array.range (len * sz)).map (fun x => z0.cells[x % z0.cells.size]!)).toList := by
              refine LR_mk (by simp) fun i x u hx hu => ?_
              simp only [List.getElem?_map, Array.toList_map, Array.toList_range] at hx hu
              cases hr : (List.range (len * sz))[i]? with
              | none => rw [hr] at hx; cases hx
              | some j =>
                rw [hr] at hx hu
                simp only [Option.map_some, Option.some.injEq] at hx hu
                subst hx; subst hu
                rw [hget]
                have hlt : j % sz < z0.cells.toList.length := by simp [hz0]; exact Nat.mod_lt _ hszp
                rw [List.getD_eq_getElem?_getD, List.getD_eq_getElem?_getD, List.getElem?_map, List.getElem?_eq_getElem hlt]
                simpa using VR_cv w en _
            have h10 : ∀ u ∈ ((Array.range (len * sz)).map (fun x => z0.cells[x % z0.cells.size]!)).toList, u.oneCell' = true := fun u hu => by
              simp only [Array.toList_map, List.mem_map] at hu
              obtain ⟨j, _, rfl⟩ := hu
              rw [hget]
              have hlt : j % sz < z0.cells.toList.length := by simp [hz0]; exact Nat.mod_lt _ hszp
              rw [List.getD_eq_getElem?_getD, List.getElem?_eq_getElem hlt]
              exact hone _ (by simp)
            obtain ⟨ds, h2, h3, h4⟩ := fill_ok hl0 h10 hp h1
            have hlen : cs.length = len * sz := by rw [fillA_length h1]; simp
            refine ⟨.slice (some ⟨w.heap.size, 0, none⟩) len len, w.alloc (.cells ds e), ?_, ?_, hi.alloc0 _, .alloc0 _⟩
            · have hng : ¬ (16777216 < len * sz) := by omega
              simp [Instr.buildSlice, run_underlying ht, run_sizeOf hsz, run_zero h0, hng, h2, newRow]
              exact fun h => absurd h hc2
            · simp only [VR]
              have hm : len ≤ maxLen := by
                have : len ≤ len * sz := Nat.le_mul_of_pos_right _ hszp
                simp only [maxLen]; omega
              refine ⟨some ⟨w.heap.size, 0, none⟩, len, by rw [chunks_length], by rw [chunks_length]; exact Nat.le_refl _, hm, by rw [chunks_length]; rfl, fun _ => ⟨w.heap.size, 0, rfl, RR_mk ?_⟩⟩
              rw [chunks_flatten sz len cs hlen]
              exact ER_new hi h3 h4
          · cases hz
        · cases hz
      · split at h
        · rename_i hc
          obtain ⟨rfl, he⟩ := hc
          cases h
          have hp0 : vs = #[] := by
            cases ps with
            | nil => simp only [PR] at hp; simpa using hp
            | cons _ _ => simp at he
          subst hp0
          refine ⟨.slice (some ⟨w.heap.size, 0, none⟩) 0 0, w.alloc (.cells #[] e), ?_, ?_, hi.alloc0 _, .alloc0 _⟩
          · simp [Instr.buildSlice, run_underlying ht, run_sizeOf hsz, Instr.fill, newRow]
            congr 2
            apply Array.eq_empty_of_size_eq_zero
            simp
          · simp only [VR]
            exact ⟨_, 0, rfl, Nat.le_refl _, Nat.zero_le _, rfl, fun h => absurd rfl h⟩
        · cases h
    · cases h
  · cases h

/-! ### Builtins -/
def lenV (P : Program) (t : TypeId) (x : V) : Option V := match P.underlying t, x with
  | some .string, .str l => some (.int .i64 l.length)
  | some (.slice _), .sl _ xs => some (.int .i64 xs.length)
  | some (.slice _), .ms _ _ n _ => some (.int .i64 n)
  | some (.slice _), .rw _ _ n => some (.int .i64 n)
  | some (.slice _), .rs _ _ _ n => some (.int .i64 n)
  | some (.array n _), .junk => some (.int .i64 n)
  | _, _ => none
theorem len_ok {w : World} {en : List CE} {t ty : TypeId} {x z : V} {u : Value} (hx : VR w en x u) (h : lenV P t x = some z) : ∃ r, (Builtin.len_ #[t] ty #[u]).run P w = .ok r w ∧ VR w en z r := by
  unfold lenV at h
  split at h
  · rename_i l ht
    cases h
    simp only [VR] at hx
    subst hx
    have hsz : (⟨l.toArray⟩ : ByteArray).size = l.length := rfl
    exact ⟨.int .i64 l.length, by simp [Builtin.len_, run_underlying ht, goInt, hsz], by simp [VR]⟩
  · rename_i tg xs ht
    cases h
    simp only [VR] at hx
    obtain ⟨A, c, rfl, _⟩ := hx
    exact ⟨.int .i64 xs.length, by simp [Builtin.len_, run_underlying ht, goInt], by simp [VR]⟩
  · rename_i n _ ht
    cases h
    simp only [VR] at hx
    obtain ⟨g, _, rfl, _⟩ := hx
    exact ⟨.int .i64 n, by simp [Builtin.len_, run_underlying ht, goInt], by simp [VR]⟩
  · rename_i n ht
    cases h
    simp only [VR] at hx
    obtain ⟨A, c, cur, v0, n0, sz, rfl, _⟩ := hx
    exact ⟨.int .i64 n, by simp [Builtin.len_, run_underlying ht, goInt], by simp [VR]⟩
  · rename_i n ht
    cases h
    simp only [VR] at hx
    obtain ⟨A, c, cur, v0, n0, sz, rfl, _⟩ := hx
    exact ⟨.int .i64 n, by simp [Builtin.len_, run_underlying ht, goInt], by simp [VR]⟩
  · rename_i n _ ht
    cases h
    exact ⟨.int .i64 n, by simp [Builtin.len_, run_underlying ht, goInt], by simp [VR]⟩
  · cases h
/-- max, min: of two and more whole numbers of one kind. -/
def mm (mx : Bool) (k : IntKind) (a : Int) : List V → Option V
  | [] => some (.int k a)
  | .int _ b :: xs => mm mx k (if mx then (if b > a then b else a) else (if b < a then b else a)) xs
  | _ => none
def mmV (mx : Bool) : List V → Option V
  | .int k a :: xs => mm mx k a xs
  | _ => none
theorem mm_ok {w : World} {en : List CE} (mx : Bool) : ∀ {xs : List V} {us : List Value} {k : IntKind} {a : Int} {z : V}, LR w en xs us → mm mx k a xs = some z → ∃ r, (us.foldlM (if mx then Builtin.max2 else Builtin.min2) (.int k a)).run P w = .ok r w ∧ VR w en z r
  | [], us, k, a, z, hl, h => by
    simp only [LR] at hl
    subst hl
    simp only [mm, Option.some.injEq] at h
    subst h
    exact ⟨.int k a, by simp, by simp [VR]⟩
  | x :: xs, us, k, a, z, hl, h => by
    simp only [LR] at hl
    obtain ⟨u, us', rfl, h1, h2⟩ := hl
    cases x <;> simp only [mm] at h <;> first | cases h; done | skip
    rename_i k' b
    simp only [VR] at h1
    subst h1
    obtain ⟨r, h3, h4⟩ := mm_ok mx h2 h
    refine ⟨r, ?_, h4⟩
    rw [List.foldlM_cons]
    cases mx <;> simp [Builtin.max2, Builtin.min2] at h3 ⊢ <;> exact h3
theorem mmV_ok {w : World} {en : List CE} (mx : Bool) {xs : List V} {us : List Value} {z : V} (hl : LR w en xs us) (h : mmV mx xs = some z) (ts : Array TypeId) (ty : TypeId) : ∃ r, (if mx then Builtin.max_ ts ty us.toArray else Builtin.min_ ts ty us.toArray).run P w = .ok r w ∧ VR w en z r := by
  unfold mmV at h
  split at h
  · rename_i k a xs'
    simp only [LR] at hl
    obtain ⟨u, us', rfl, h1, h2⟩ := hl
    simp only [VR] at h1
    subst h1
    obtain ⟨r, h3, h4⟩ := mm_ok mx h2 h
    refine ⟨r, ?_, h4⟩
    cases mx <;> simp [Builtin.max_, Builtin.min_] at h3 ⊢ <;> exact h3
  · cases h
def biV (P : Program) (b : Builtin) (ts : Array TypeId) (xs : List V) : Option V := match b, xs with
  | .len, [x] => match ts.toList with
    | [t] => lenV P t x
    | _ => none
  | .max, xs => mmV true xs
  | .min, xs => mmV false xs
  | _, _ => none

/-! ### All of them -/
def retV (σ : List AE) (x : Option V) : Option (V × List AE) := x.map fun x => (x, σ)
def nilV : V → Option V
  | .ptr b o => some (.ptr b o)
  | .ep cs => some (.ep cs)
  | .fn f cs => some (.fn f cs)
  | .rp k ver o => some (.rp k ver o)
  | _ => none
/-- What is there where g holds. -/
def ung (g : Bool) : V → V
  | .gd g' x => bif (!g || g') then x else .junk
  | x => x
theorem ung_ok {w : World} {en : List CE} {g : Bool} (hg : g = true) {x : V} {v : Value} (h : VR w en x v) : VR w en (ung g x) v := by
  subst hg
  unfold ung
  split
  · rename_i g' x'
    simp only [VR] at h
    cases g' with
    | true => exact h.1 rfl
    | false => simp [VR]
  · exact h
def pickV (c a b : V) : Option V := match c with
  | .bool t => some (bif t then ung t a else ung (!t) b)
  | _ => none
def pickG (g : Bool) (c a b : V) : Option V := match ung g c with
  | .bool t => some (bif t then ung (g && t) a else ung (g && !t) b)
  | _ => none
def extV (x : V) (i : Nat) : Option V := match x with
  | .tup cs => cs[i]?
  | _ => none
def ixOf : V → Option Int
  | .int _ n => some n
  | _ => none
def mkfV (fn : Fn) (first : Array Operand) (cs : List V) : Option V := match fn with
  | .func f => if first.size = 0 then some (.fn f cs) else none
  | _ => none
/-- The value itself, where it is known to the letter. -/
def conc1 : V → Option Value
  | .int k n => some (.int k n)
  | .bool b => some (.bool b)
  | .exact v => some v
  | _ => none
def concL : List V → Option (List Value)
  | [] => some []
  | x :: xs => match conc1 x, concL xs with
    | some u, some us => some (u :: us)
    | _, _ => none
def conc : V → Option Value
  | .agg cs => match concL cs with
    | some us => some (.agg us.toArray)
    | none => none
  | x => conc1 x
theorem conc1_ok {w : World} {en : List CE} {x : V} {u v : Value} (hx : VR w en x v) (h : conc1 x = some u) : v = u := by
  unfold conc1 at h
  split at h <;> first
    | (cases h; simpa [VR] using hx)
    | cases h
theorem concL_ok {w : World} {en : List CE} : ∀ {xs : List V} {us vs : List Value}, LR w en xs vs → concL xs = some us → vs = us
  | [], us, vs, hl, h => by
    simp only [concL, Option.some.injEq] at h
    simp only [LR] at hl
    subst h; exact hl
  | x :: xs, us, vs, hl, h => by
    simp only [LR] at hl
    obtain ⟨v, vs', rfl, h1, h2⟩ := hl
    simp only [concL] at h
    split at h
    · rename_i u us' hu hus
      cases h
      rw [conc1_ok h1 hu, concL_ok h2 hus]
    · cases h
theorem conc_ok {w : World} {en : List CE} {x : V} {u v : Value} (hx : VR w en x v) (h : conc x = some u) : v = u := by
  unfold conc at h
  split at h
  · split at h
    · rename_i us hus
      cases h
      simp only [VR] at hx
      obtain ⟨vs, rfl, h1, _⟩ := hx
      rw [← concL_ok h1 hus]
    · cases h
  · exact conc1_ok hx h
def mkI (P : Program) (t : TypeId) (x : V) : Option V := match P.underlying t with
  | some (.interface _) => none
  | some _ => match conc x with
    | some u => some (.exact (.iface t u))
    | none => none
  | none => none
def one1 : Value → Bool
  | .int _ _ => true
  | .bool _ => true
  | .string _ => true
  | _ => false
def allOne : List Value → Bool
  | [] => true
  | v :: l => one1 v && allOne l
def absV : Value → Option V
  | .agg us => match allOne us.toList with
    | true => some (.agg (us.toList.map cv))
    | false => none
  | _ => none
theorem allOne_get : ∀ {l : List Value}, allOne l = true → ∀ v ∈ l, v.oneCell' = true
  | u :: l, h, v, hv => by
    simp only [allOne, Bool.and_eq_true] at h
    rcases List.mem_cons.1 hv with rfl | hv
    · cases v <;> first | rfl | (simp [one1] at h)
    · exact allOne_get h.2 v hv
theorem absV_ok {w : World} {en : List CE} {u : Value} {x : V} (h : absV u = some x) : VR w en x u := by
  cases u <;> simp only [absV] at h <;> try (cases h; done)
  rename_i us
  split at h
  · rename_i ho
    cases h
    simp only [VR]
    exact ⟨us, rfl, LR_cv w en _, allOne_get ho⟩
  · cases h
/-- x.(T), with 'ok', where x holds a T. -/
def tasV (P : Program) (a : TypeId) (ok : Bool) (x : V) : Option V := match P.underlying a, x, ok with
  | some (.interface _), _, _ => none
  | some _, .exact (.iface t u), true => if t = a then (match absV u with
    | some y => some (.tup [y, .bool true])
    | none => none) else none
  | _, _, _ => none
/-- A pointer to a struct whose first field points to one of its kind, as an unsafe pointer, and back. -/
def liesB (P : Program) (T : TypeId) (n o : Nat) (u : TypeId) : Bool := liesAt P P.depth T (n / P.cellsOf T) o u 1
def isUns (P : Program) (t : TypeId) : Bool := match P.underlying t with
  | some .unsafePointer => true
  | _ => false
def ptrE (P : Program) (t : TypeId) : Option TypeId := match P.underlying t with
  | some (.pointer e) => match tySize P e with
    | some (_ + 1) => some e
    | _ => none
  | _ => none
def cvtP (P : Program) (σ : List AE) (s d : TypeId) (x : V) : Option V := match x with
  | .ptr b o => match σ[b]? with
    | some (.boxt T cs) => match ptrE P s, isUns P d, isUns P s, ptrE P d with
      | some _, true, _, _ => if o < cs.length then some (.ptr b o) else none
      | _, _, true, some u => if liesB P T cs.length o u = true then some (.ptr b o) else none
      | _, _, _, _ => none
    | _ => none
  | _ => none
theorem ptrE_ok {t e : TypeId} (h : ptrE P t = some e) : P.underlying t = some (.pointer e) ∧ ∃ j, P.info? e = some j ∧ j.size ≠ 0 := by
  unfold ptrE at h
  split at h
  · rename_i e' ht
    split at h
    · rename_i m hm
      cases h
      refine ⟨ht, ?_⟩
      unfold tySize at hm
      obtain ⟨j, hj, hjs⟩ := Option.map_eq_some_iff.1 hm
      exact ⟨j, hj, by omega⟩
    · cases h
  · cases h
theorem isUns_ok {t : TypeId} (h : isUns P t = true) : P.underlying t = some .unsafePointer := by
  unfold isUns at h
  split at h
  · assumption
  · cases h
theorem cvtP_ok {w : World} {en : List CE} (hi : Iv σ en w) {s d : TypeId} {x z : V} {u : Value} (hx : VR w en x u) (h : cvtP P σ s d x = some z) : ∃ r, (convert s d u).run P w = .ok r w ∧ VR w en z r := by
  unfold cvtP at h
  split at h
  · rename_i b o
    split at h
    · rename_i T cs hb
      have hx' := hx
      simp only [VR] at hx
      obtain ⟨g, hg, rfl⟩ := hx
      have hk := hi.ok b _ _ hb hg
      simp only [EOk] at hk
      obtain ⟨us, h1, h2, h3⟩ := hk
      have hlen := LR_length h2
      simp only [Array.length_toList] at hlen
      have hsh : w.shape? g = some (T, us.size) := by simp [World.shape?, h1]
      split at h
      · rename_i e hs hd
        split at h
        · rename_i ho
          cases h
          obtain ⟨k1, j, k2, k3⟩ := ptrE_ok hs
          exact ⟨_, Lib.run_to_unsafe w ⟨g, o, none⟩ k1 (isUns_ok hd) k2 k3 hsh (by show o < us.size; omega), hx'⟩
        · cases h
      · rename_i u hs hd _
        split at h
        · rename_i hl
          cases h
          obtain ⟨k1, j, k2, k3⟩ := ptrE_ok hd
          unfold liesB at hl
          rw [← hlen] at hl
          exact ⟨_, Lib.run_from_unsafe w ⟨g, o, none⟩ (isUns_ok hs) k1 k2 hsh hl, hx'⟩
        · cases h
      · cases h
    · cases h
  · cases h
def evalOp (P : Program) (σ : List AE) (rd : Operand → V) : Op → Option (V × List AE)
  | .move x => some (rd x, σ)
  | .assign x => some (rd x, σ)
  | .pick c a b => retV σ (pickV (rd c) (rd a) (rd b))
  | .alloc t => allocS P σ t
  | .box _ x => boxS σ (rd x)
  | .build t ps => retV σ (buildV P t (ps.toList.map fun p => (p.1, rd p.2)))
  | .buildSlice t n ps => retV σ (buildSliceV P t n (ps.toList.map fun p => (p.1, rd p.2)))
  | .load t a => retV σ (loadV P σ t (rd a))
  | .store t a x => storeS P σ t (rd a) (rd x)
  | .nilCheck x => retV σ (nilV (rd x))
  | .binOp op t x y _ => retV σ (boT P t op (rd x) (rd y))
  | .unOp op _ x => retV σ (uo op (rd x))
  | .convert s d x => retV σ (match cvt P s d (rd x) with
    | some z => some z
    | none => cvtP P σ s d (rd x))
  | .makeInterface t x => retV σ (mkI P t (rd x))
  | .typeAssert x _ a ok => retV σ (tasV P a ok (rd x))
  | .makeFunc fn first cs => retV σ (mkfV fn first (cs.toList.map rd))
  | .slice t x lo hi mx => retV σ (sliceV P t (rd x) (lo.map rd) (hi.map rd) (mx.map rd))
  | .fieldAddr s x f => retV σ (fieldAddrV P s f (rd x))
  | .field s x f => retV σ (fieldV P s f (rd x))
  | .indexAddr t x i => retV σ ((ixOf (rd i)).bind (indexAddrV P t (rd x)))
  | .index t x i => retV σ ((ixOf (rd i)).bind (indexV P t (rd x)))
  | .extract x i => retV σ (extV (rd x) i)
  | .call c => match c.callee with
    | .builtin b => retV σ (biV P b c.argTypes (c.args.toList.map rd))
    | _ => none
  | _ => none

/-- What the operation's operands read as. -/
def Rd (w : World) (en : List CE) (rd : Operand → V) (a : Act) (o : Op) : Prop := ∀ x ∈ o.operands, VR w en (rd x) (a.eval x)
def OpOkR (P : Program) (σ : List AE) (rd : Operand → V) (o : Oper) (x : V) (σ' : List AE) : Prop :=
  ∀ (a : Act) (w : World) (en : List CE), Iv σ en w → Rd w en rd a o.op →
    Oper.wp P o a w (fun a' w' => ∃ v en', a' = a.put o.dst v ∧ VR w' en' x v ∧ Iv σ' en' w' ∧ Ext w en w' en') (fun _ _ _ => False)
section
variable {rd : Operand → V}
theorem OpOk_val {o : Oper} {x : V} (h : ∀ (a : Act) (w : World) (en : List CE), Iv σ en w → Rd w en rd a o.op → ∃ v, (execOp a.eval o).run P w = .ok (.value v) w ∧ VR w en x v) : OpOkR P σ rd o x σ := fun a w en hi hf => by
  obtain ⟨v, h1, h2⟩ := h a w en hi hf
  unfold Oper.wp
  rw [h1]
  exact ⟨v, en, rfl, h2, hi, Ext.refl w en⟩
theorem rargs_ok {w : World} {en : List CE} {a : Act} {o : Op} (h : Rd w en rd a o) : ∀ (xs : List Operand), (∀ x ∈ xs, x ∈ o.operands) → LR w en (xs.map rd) (xs.map a.eval)
  | [], _ => by simp [LR]
  | x :: xs, hx => by
    simp only [List.map_cons, LR]
    exact ⟨_, _, rfl, h x (hx x List.mem_cons_self), rargs_ok h xs (fun y hy => hx y (List.mem_cons_of_mem _ hy))⟩
theorem PR_ok {w : World} {en : List CE} {a : Act} {o : Op} (h : Rd w en rd a o) : ∀ (ps : List (Nat × Operand)), (∀ p ∈ ps, p.2 ∈ o.operands) → PR w en (ps.map fun p => (p.1, rd p.2)) (ps.map fun p => (p.1, a.eval p.2))
  | [], _ => by simp [PR]
  | p :: ps, hx => by
    simp only [List.map_cons, PR]
    exact ⟨_, _, rfl, h p.2 (hx p List.mem_cons_self), PR_ok h ps (fun q hq => hx q (List.mem_cons_of_mem _ hq))⟩
theorem VRo_ok {w : World} {en : List CE} {a : Act} {o : Op} (h : Rd w en rd a o) (x : Option Operand) (hx : ∀ y, x = some y → y ∈ o.operands) : VRo w en (x.map rd) (x.map a.eval) := by
  cases x with
  | none => trivial
  | some y => exact h y (hx y rfl)
theorem ret_some {x : Option V} {z : V} {σ' : List AE} (h : retV σ x = some (z, σ')) : x = some z ∧ σ' = σ := by
  unfold retV at h
  simp only [Option.map_eq_some_iff, Prod.mk.injEq] at h
  obtain ⟨y, h1, rfl, rfl⟩ := h
  exact ⟨h1, rfl⟩
theorem ixOf_ok {w : World} {en : List CE} {x : V} {n : Int} {v : Value} (h : ixOf x = some n) (hv : VR w en x v) : ∃ k, v = .int k n := by
  unfold ixOf at h
  split at h
  · cases h; simp only [VR] at hv; exact ⟨_, hv⟩
  · cases h

theorem evalOp_ok {o : Oper} {x : V} {σ' : List AE} (h : evalOp P σ rd o.op = some (x, σ')) : OpOkR P σ rd o x σ' := by
  obtain ⟨dst, op, type, pos, after, guard⟩ := o
  cases op <;> simp only [evalOp] at h
  case move =>
    cases h
    exact OpOk_val fun a w en hi hf => ⟨_, rfl, hf _ (by simp [Op.operands])⟩
  case assign =>
    cases h
    exact OpOk_val fun a w en hi hf => ⟨_, rfl, hf _ (by simp [Op.operands])⟩
  case pick =>
    rename_i c p q
    obtain ⟨h1, rfl⟩ := ret_some h
    refine OpOk_val fun a w en hi hf => ?_
    have hc := hf c (by simp [Op.operands])
    have hp := hf p (by simp [Op.operands])
    have hq := hf q (by simp [Op.operands])
    unfold pickV at h1
    split at h1
    · rename_i t ht
      cases h1
      rw [ht] at hc
      simp only [VR] at hc
      refine ⟨if t then a.eval p else a.eval q, by simp [execOp, hc, asBool], ?_⟩
      cases t with
      | true => simpa using ung_ok rfl hp
      | false => simpa using ung_ok rfl hq
    · cases h1
  case alloc =>
    rename_i t
    refine fun a w en hi hf => ?_
    obtain ⟨v, w', en', h1, h2, h3, h4⟩ := alloc_ok hi h
    unfold Oper.wp
    have : (execOp a.eval ⟨dst, .alloc t, type, pos, after, guard⟩).run P w = .ok (.value v) w' := by simp only [execOp, Sem.run_bind, h1, Result.andThen_ok, Sem.run_pure]
    rw [this]
    exact ⟨v, en', rfl, h2, h3, h4⟩
  case box =>
    rename_i t y
    refine fun a w en hi hf => ?_
    obtain ⟨v, w', en', h1, h2, h3, h4⟩ := box_ok (P := P) (t := t) hi (hf y (by simp [Op.operands])) h
    unfold Oper.wp
    have : (execOp a.eval ⟨dst, .box t y, type, pos, after, guard⟩).run P w = .ok (.value v) w' := by simp only [execOp, Sem.run_bind, h1, Result.andThen_ok, Sem.run_pure]
    rw [this]
    exact ⟨v, en', rfl, h2, h3, h4⟩
  case build =>
    rename_i t ps
    obtain ⟨h1, rfl⟩ := ret_some h
    refine OpOk_val fun a w en hi hf => ?_
    obtain ⟨r, h2, h3⟩ := build_ok (vs := ps.map fun (i, x) => (i, a.eval x)) (by
      have := PR_ok hf ps.toList (fun p hp => by simp only [Op.operands]; exact List.mem_toArray.2 (List.mem_map.2 ⟨p, hp, rfl⟩))
      simpa using this) h1
    exact ⟨r, by simp only [execOp, Sem.run_bind, h2, Result.andThen_ok, Sem.run_pure], h3⟩
  case buildSlice =>
    rename_i t n ps
    obtain ⟨h1, rfl⟩ := ret_some h
    refine fun a w en hi hf => ?_
    obtain ⟨v, w', h2, h3, h4, h5⟩ := buildSlice_ok (vs := ps.map fun (i, x) => (i, a.eval x)) hi (by
      have := PR_ok hf ps.toList (fun p hp => by simp only [Op.operands]; exact List.mem_toArray.2 (List.mem_map.2 ⟨p, hp, rfl⟩))
      simpa using this) h1
    unfold Oper.wp
    have : (execOp a.eval ⟨dst, .buildSlice t n ps, type, pos, after, guard⟩).run P w = .ok (.value v) w' := by simp only [execOp, Sem.run_bind, h2, Result.andThen_ok, Sem.run_pure]
    rw [this]
    exact ⟨v, en, rfl, h3, h4, h5⟩
  case load =>
    rename_i t y
    obtain ⟨h1, rfl⟩ := ret_some h
    refine OpOk_val fun a w en hi hf => ?_
    obtain ⟨r, h2, h3⟩ := load_ok hi (hf y (by simp [Op.operands])) h1
    exact ⟨r, by simp only [execOp, Sem.run_bind, h2, Result.andThen_ok, Sem.run_pure], h3⟩
  case store =>
    rename_i t y z
    refine fun a w en hi hf => ?_
    obtain ⟨w', h1, rfl, h3, h4⟩ := store_ok hi (hf y (by simp [Op.operands])) (hf z (by simp [Op.operands])) h
    unfold Oper.wp
    have : (execOp a.eval ⟨dst, .store t y z, type, pos, after, guard⟩).run P w = .ok .skip w' := by simp only [execOp, Sem.run_bind, h1, Result.andThen_ok, Sem.run_pure]
    rw [this]
    exact ⟨undef, en, rfl, by simp [VR], h3, h4⟩
  case nilCheck =>
    rename_i y
    obtain ⟨h1, rfl⟩ := ret_some h
    refine OpOk_val fun a w en hi hf => ?_
    have hy := hf y (by simp [Op.operands])
    unfold nilV at h1
    split at h1
    · rename_i b o he
      cases h1
      rw [he] at hy
      have hy' := hy
      simp only [VR] at hy
      obtain ⟨g, _, e⟩ := hy
      exact ⟨a.eval y, by simp [execOp, e], hy'⟩
    · rename_i cs he
      cases h1
      rw [he] at hy
      have hy' := hy
      simp only [VR] at hy
      obtain ⟨g, o, e, _⟩ := hy
      exact ⟨a.eval y, by simp [execOp, e], hy'⟩
    · rename_i f cs he
      cases h1
      rw [he] at hy
      have hy' := hy
      simp only [VR] at hy
      obtain ⟨us, e, _⟩ := hy
      exact ⟨a.eval y, by simp [execOp, e], hy'⟩
    · rename_i k ver o he
      cases h1
      rw [he] at hy
      have hy' := hy
      simp only [VR] at hy
      obtain ⟨g, cur, v0, n0, sz, e, _⟩ := hy
      exact ⟨a.eval y, by simp [execOp, e], hy'⟩
    · cases h1
  case binOp =>
    rename_i op t y z _
    obtain ⟨h1, rfl⟩ := ret_some h
    refine OpOk_val fun a w en hi hf => ?_
    obtain ⟨r, h2, h3⟩ := boT_ok (hf y (by simp [Op.operands])) (hf z (by simp [Op.operands])) t h1 y z
    exact ⟨r, by simp only [execOp, Sem.run_bind] at h2 ⊢; rw [h2]; rfl, h3⟩
  case unOp =>
    rename_i op _ y
    obtain ⟨h1, rfl⟩ := ret_some h
    refine OpOk_val fun a w en hi hf => ?_
    obtain ⟨r, h2, h3⟩ := uo_ok (P := P) (hf y (by simp [Op.operands])) h1
    exact ⟨r, by simp only [execOp, Sem.run_bind, h2, Result.andThen_ok, Sem.run_pure], h3⟩
  case convert =>
    rename_i s d y
    obtain ⟨h1, rfl⟩ := ret_some h
    refine OpOk_val fun a w en hi hf => ?_
    obtain ⟨r, h2, h3⟩ : ∃ r, (convert s d (a.eval y)).run P w = .ok r w ∧ VR w en x r := by
      split at h1
      · rename_i z hz
        cases h1
        exact cvt_ok (hf y (by simp [Op.operands])) hz
      · exact cvtP_ok hi (hf y (by simp [Op.operands])) h1
    exact ⟨r, by simp only [execOp, Sem.run_bind, h2, Result.andThen_ok, Sem.run_pure], h3⟩
  case makeInterface =>
    rename_i t y
    obtain ⟨h1, rfl⟩ := ret_some h
    refine OpOk_val fun a w en hi hf => ?_
    unfold mkI at h1
    split at h1
    · cases h1
    · rename_i td hni ht
      split at h1
      · rename_i u hu
        cases h1
        have e := conc_ok (hf y (by simp [Op.operands])) hu
        refine ⟨.iface t u, ?_, by simp [VR]⟩
        have hr : (Instr.makeInterface t (a.eval y)).run P w = .ok (.iface t u) w := by
          unfold Instr.makeInterface
          simp only [Sem.run_bind, run_underlying ht, Result.andThen_ok, e]
          simp
        simp only [execOp, Sem.run_bind, hr, Result.andThen_ok, Sem.run_pure]
      · cases h1
    · cases h1
  case typeAssert =>
    rename_i y _ ta ok
    obtain ⟨h1, rfl⟩ := ret_some h
    refine OpOk_val fun a w en hi hf => ?_
    unfold tasV at h1
    split at h1
    · cases h1
    · rename_i td t u hni ht he
      split at h1
      · rename_i hta
        subst hta
        split at h1
        · rename_i z hz
          cases h1
          have hy := hf y (by simp [Op.operands])
          rw [he] at hy
          simp only [VR] at hy
          refine ⟨.tuple #[u, .bool true], ?_, by simp only [VR]; exact ⟨_, rfl, by simp only [LR, VR]; exact ⟨u, _, rfl, absV_ok hz, _, _, rfl, rfl, rfl⟩⟩⟩
          have hr : ∀ xt, (Instr.typeAssert (a.eval y) xt t true).run P w = .ok (.tuple #[u, .bool true]) w := fun xt => by
            unfold Instr.typeAssert
            simp only [Sem.run_bind, run_underlying ht, Result.andThen_ok, hy]
            cases td <;> first
              | exact absurd rfl (hni _)
              | simp
          simp only [execOp, Sem.run_bind, hr, Result.andThen_ok, Sem.run_pure]
        · cases h1
      · cases h1
    · cases h1
  case makeFunc fn first cs =>
    obtain ⟨h1, rfl⟩ := ret_some h
    unfold mkfV at h1
    split at h1
    · rename_i f
      split at h1
      · rename_i h0
        cases h1
        have hfe : first = #[] := Array.eq_empty_of_size_eq_zero h0
        subst hfe
        refine OpOk_val fun a w en hi hf => ?_
        refine ⟨.func (.func f) #[] (cs.map a.eval), by simp [execOp, Instr.makeFunc], ?_⟩
        simp only [VR]
        have := rargs_ok hf cs.toList (fun x hx => by simp only [Op.operands]; simpa using hx)
        exact ⟨_, rfl, by simpa using this⟩
      · cases h1
    · cases h1
  case slice =>
    rename_i t y lo hi' mx
    obtain ⟨h1, rfl⟩ := ret_some h
    refine OpOk_val fun a w en hi hf => ?_
    obtain ⟨r, h2, h3⟩ := slice_ok (hf y (by simp [Op.operands])) (VRo_ok hf lo (fun y hy => by subst hy; simp [Op.operands])) (VRo_ok hf hi' (fun y hy => by subst hy; simp [Op.operands])) (VRo_ok hf mx (fun y hy => by subst hy; simp [Op.operands])) h1
    exact ⟨r, by simp only [execOp, Sem.run_bind, h2, Result.andThen_ok, Sem.run_pure], h3⟩
  case fieldAddr =>
    rename_i s y f
    obtain ⟨h1, rfl⟩ := ret_some h
    refine OpOk_val fun a w en hi hf => ?_
    obtain ⟨r, h2, h3⟩ := fieldAddr_ok (hf y (by simp [Op.operands])) h1
    exact ⟨r, by simp only [execOp, Sem.run_bind, h2, Result.andThen_ok, Sem.run_pure], h3⟩
  case field =>
    rename_i s y f
    obtain ⟨h1, rfl⟩ := ret_some h
    refine OpOk_val fun a w en hi hf => ?_
    obtain ⟨r, h2, h3⟩ := field_ok (hf y (by simp [Op.operands])) h1
    exact ⟨r, by simp only [execOp, Sem.run_bind, h2, Result.andThen_ok, Sem.run_pure], h3⟩
  case indexAddr =>
    rename_i t y i
    obtain ⟨h1, rfl⟩ := ret_some h
    refine OpOk_val fun a w en hi hf => ?_
    simp only [Option.bind_eq_some_iff] at h1
    obtain ⟨n, hn, h1⟩ := h1
    obtain ⟨k, hk⟩ := ixOf_ok hn (hf i (by simp [Op.operands]))
    obtain ⟨r, h2, h3⟩ := indexAddr_ok (k := k) (hf y (by simp [Op.operands])) h1
    exact ⟨r, by simp only [execOp, Sem.run_bind, hk, h2, Result.andThen_ok, Sem.run_pure], h3⟩
  case index =>
    rename_i t y i
    obtain ⟨h1, rfl⟩ := ret_some h
    refine OpOk_val fun a w en hi hf => ?_
    simp only [Option.bind_eq_some_iff] at h1
    obtain ⟨n, hn, h1⟩ := h1
    obtain ⟨k, hk⟩ := ixOf_ok hn (hf i (by simp [Op.operands]))
    obtain ⟨r, h2, h3⟩ := index_ok (k := k) (hf y (by simp [Op.operands])) h1
    exact ⟨r, by simp only [execOp, Sem.run_bind, hk, h2, Result.andThen_ok, Sem.run_pure], h3⟩
  case extract =>
    rename_i y i
    obtain ⟨h1, rfl⟩ := ret_some h
    refine OpOk_val fun a w en hi hf => ?_
    have hy := hf y (by simp [Op.operands])
    unfold extV at h1
    split at h1
    · rename_i cs he
      rw [he] at hy
      simp only [VR] at hy
      obtain ⟨us, e, hl⟩ := hy
      obtain ⟨u, h2, h3⟩ := LR_get hl i _ h1
      rw [Array.getElem?_toList] at h2
      exact ⟨u, by simp [execOp, e, Instr.extract, h2], h3⟩
    · cases h1
  case call c =>
    split at h
    rotate_left
    · cases h
    rename_i b hcb
    obtain ⟨callee, as, ts⟩ := c
    simp only at hcb
    subst hcb
    obtain ⟨h1, rfl⟩ := ret_some h
    refine OpOk_val fun a w en hi hf => ?_
    have hl := rargs_ok hf as.toList (fun x hx => by simp [Op.operands, Call.operands]; simpa using hx)
    unfold biV at h1
    split at h1
    · rename_i y he
      split at h1
      · rename_i t htt
        have hts : ts = #[t] := by simpa using congrArg List.toArray htt
        rw [he] at hl
        simp only [LR] at hl
        obtain ⟨u, us', hu, h3, h4⟩ := hl
        subst h4
        obtain ⟨r, h5, h6⟩ := len_ok (ty := type) h3 h1
        have has : as.map a.eval = #[u] := by
          have h0 : (as.toList.map a.eval).toArray = #[u] := congrArg List.toArray hu
          rw [← h0, ← List.map_toArray, Array.toArray_toList]
        refine ⟨r, ?_, h6⟩
        simp only [execOp, resolve, Sem.run_bind, Sem.run_pure, Result.andThen_ok, invoke, builtin, has, hts, h5]
      · cases h1
    · obtain ⟨r, h5, h6⟩ := mmV_ok (P := P) true hl h1 ts type
      refine ⟨r, ?_, h6⟩
      have has : as.map a.eval = (as.toList.map a.eval).toArray := by rw [← List.map_toArray, Array.toArray_toList]
      simp only [if_true] at h5
      simp only [execOp, resolve, Sem.run_bind, Sem.run_pure, Result.andThen_ok, invoke, builtin, has, h5]
    · obtain ⟨r, h5, h6⟩ := mmV_ok (P := P) false hl h1 ts type
      refine ⟨r, ?_, h6⟩
      have has : as.map a.eval = (as.toList.map a.eval).toArray := by rw [← List.map_toArray, Array.toArray_toList]
      simp only [Bool.false_eq_true, if_false] at h5
      simp only [execOp, resolve, Sem.run_bind, Sem.run_pure, Result.andThen_ok, invoke, builtin, has, h5]
    · cases h1
  all_goals cases h

end

/-- Operations that turn no entry. -/
def isPure : Op → Bool
  | .alloc _ => false
  | .box _ _ => false
  | .store _ _ _ => false
  | .pick _ _ _ => false
  | _ => true
theorem evalOp_pure {rd : Operand → V} {o : Op} {x : V} {σ' : List AE} (hp : isPure o = true) (h : evalOp P σ rd o = some (x, σ')) : σ' = σ := by
  cases o <;> simp only [isPure] at hp <;> simp only [evalOp] at h <;> first
    | (cases hp; done)
    | (exact (ret_some h).2)
    | (cases h; done)
    | (cases h; rfl)
    | (split at h <;> first | exact (ret_some h).2 | cases h)
/-- An operation under a guard. -/
def evalG (P : Program) (σ : List AE) (g : Bool) (rd : Operand → V) : Op → Option V
  | .pick c a b => pickG g (rd c) (rd a) (rd b)
  | o => if isPure o = true then (evalOp P σ (fun x => ung g (rd x)) o).map (·.1) else none
theorem evalG_ok {g : Bool} {rd : Operand → V} {o : Oper} {x : V} (hg : g = true) (h : evalG P σ g rd o.op = some x) : OpOkR P σ rd o x σ := by
  have key : isPure o.op = true → (evalOp P σ (fun x => ung g (rd x)) o.op).map (·.1) = some x → OpOkR P σ rd o x σ := fun hp he => by
    simp only [Option.map_eq_some_iff] at he
    obtain ⟨⟨x', σ'⟩, h1, rfl⟩ := he
    have := evalOp_pure hp h1
    subst this
    exact fun a w en hi hf => evalOp_ok h1 a w en hi (fun y hy => ung_ok hg (hf y hy))
  obtain ⟨dst, op, type, pos, after, guard⟩ := o
  cases op <;> simp only [evalG] at h
  case pick c p q =>
    refine OpOk_val fun a w en hi hf => ?_
    have hc := ung_ok hg (hf c (by simp [Op.operands]))
    have hp := hf p (by simp [Op.operands])
    have hq := hf q (by simp [Op.operands])
    unfold pickG at h
    split at h
    · rename_i t ht
      cases h
      rw [ht] at hc
      simp only [VR] at hc
      refine ⟨if t then a.eval p else a.eval q, by simp [execOp, hc, asBool], ?_⟩
      subst hg
      cases t with
      | true => simpa using ung_ok rfl hp
      | false => simpa using ung_ok rfl hq
    · cases h
  all_goals
    split at h
    · rename_i hp; exact key hp h
    · cases h

theorem OpOk_of {o : Oper} {x : V} {σ' : List AE} (h : OpOkR P σ (gv fr) o x σ') : OpOk P σ fr o x σ' := fun a w en hi hf => h a w en hi (fun _ hy => gv_ops hf _ hy)
theorem AOps_eval {ops : Array Oper} {Q : APost} {o : Oper} {rest : List Oper} {x : V} {σ' : List AE} (hg : o.guard = none) (ho : evalOp P σ (gv fr) o.op = some (x, σ')) (h : AOps P ops Q rest (pt fr o.dst x) σ') : AOps P ops Q (o :: rest) fr σ := AOps_op hg (OpOk_of (evalOp_ok ho)) h
theorem AOps_evalG {ops : Array Oper} {Q : APost} {o : Oper} {rest : List Oper} {g : Bool} {x : V} (hg : gdB ops fr o = some g) (ho : evalG P σ g (gv fr) o.op = some x) (h : AOps P ops Q rest (pt fr o.dst (.gd g x)) σ) : AOps P ops Q (o :: rest) fr σ := fun a w en hi hf {_} hd => by
  unfold wpList
  have hw := gdB_ok hf hg
  cases g with
  | true =>
    rw [if_pos hw]
    refine .inl ?_
    refine Oper_wpQ (fun a' w' hk => ?_) (fun _ _ _ hq => hq.elim) (OpOk_of (evalG_ok rfl ho) a w en hi (hf.on _))
    obtain ⟨v, en', rfl, h1, h2, h3⟩ := hk
    refine wpList_mono (fun _ _ _ hq => LQ_ext h3 hq) _ _ _ (h _ w' en' h2 ((hf.ext h3).put (by simp only [VR]; exact ⟨fun _ => h1, fun e => by cases e⟩) _) ?_)
    cases o.dst <;> simpa [Act.put] using hd
  | false =>
    rw [if_neg (by rw [hw]; simp)]
    refine h _ w en hi (hf.put (by simp [VR]) _) ?_
    cases o.dst <;> simpa [Act.put] using hd

end
end Go.Proofs.YtdjjlbjagaadaaaGreatDoor.A
/- Walking: a region at one stroke. -/
namespace Go.Proofs.YtdjjlbjagaadaaaGreatDoor.A
open Go Go.RowKit
set_option linter.unusedVariables false

section
variable {rn : Option Nat} {P : Program} {σ : List AE} {fr : List V} {Q : APost}

/-- Operations one behind the other, none a call of code. -/
def evalOps (P : Program) (ops : Array Oper) : List Oper → List V → List AE → Option (List V × List AE)
  | [], fr, σ => some (fr, σ)
  | o :: l, fr, σ => match o.guard with
    | none => match evalOp P σ (gv fr) o.op with
      | some (x, σ') => evalOps P ops l (pt fr o.dst x) σ'
      | none => none
    | some _ => match gdB ops fr o with
      | some g => match evalG P σ g (gv fr) o.op with
        | some x => evalOps P ops l (pt fr o.dst (.gd g x)) σ
        | none => if g = false then evalOps P ops l (pt fr o.dst .junk) σ else none
      | none => none
theorem AOps_evals {ops : Array Oper} {rest : List Oper} : ∀ {l : List Oper} {fr fr' : List V} {σ σ' : List AE}, evalOps P ops l fr σ = some (fr', σ') → AOps P ops Q rest fr' σ' → AOps P ops Q (l ++ rest) fr σ
  | [], fr, fr', σ, σ', h, k => by
    simp only [evalOps, Option.some.injEq, Prod.mk.injEq] at h
    obtain ⟨rfl, rfl⟩ := h
    exact k
  | o :: l, fr, fr', σ, σ', h, k => by
    simp only [evalOps] at h
    split at h
    · rename_i hg
      split at h
      · rename_i x σ1 he
        exact AOps_eval hg he (AOps_evals h k)
      · cases h
    · split at h
      · rename_i g hg
        split at h
        · rename_i x he
          exact AOps_evalG hg he (AOps_evals h k)
        · split at h
          · rename_i hf
            exact AOps_skip (by rw [hg, hf]) (AOps_evals h k)
          · cases h
      · cases h
/-- A region all of whose operations are evaluated. -/
theorem AWP_regionE {id : Nat} {l : List Oper} (h : ∀ K : List V → List AE → Prop, (∀ fr' σ', Q .normal fr' σ' → K fr' σ') → ∃ fr' σ', evalOps P l.toArray l fr σ = some (fr', σ') ∧ K fr' σ') : AWP rn P (.region id l.toArray false) Q fr σ := by
  obtain ⟨fr', σ', h1, h2⟩ := h (fun fr' σ' => Q .normal fr' σ') (fun _ _ h => h)
  refine AWP_region ?_
  have := AOps_evals (Q := Q) (rest := []) h1 (AOps_nil h2)
  rwa [List.append_nil] at this
/-- The first n operations. -/
theorem AOps_first {ops : Array Oper} {l : List Oper} (n : Nat) (h : ∀ K : List V → List AE → Prop, (∀ fr' σ', AOps P ops Q (l.drop n) fr' σ' → K fr' σ') → ∃ fr' σ', evalOps P ops (l.take n) fr σ = some (fr', σ') ∧ K fr' σ') : AOps P ops Q l fr σ := by
  obtain ⟨fr', σ', h1, h2⟩ := h (fun fr' σ' => AOps P ops Q (l.drop n) fr' σ') (fun _ _ h => h)
  have := AOps_evals (Q := Q) h1 h2
  rwa [List.take_append_drop] at this
/-- Where a post stands behind a sequence or a block. -/
theorem then_n {next : List V → List AE → Prop} (h : next fr σ) : thenA next Q .normal fr σ := h
theorem then_r {next : List V → List AE → Prop} (h : Q .ret fr σ) : thenA next Q .ret fr σ := h
theorem then_x {next : List V → List AE → Prop} {id : Nat} (h : Q (.exit id) fr σ) : thenA next Q (.exit id) fr σ := h
theorem then_p {next : List V → List AE → Prop} {x : V} (h : Q (.panic x) fr σ) : thenA next Q (.panic x) fr σ := h
theorem blk_n {id : Nat} (h : Q .normal fr σ) : inBlockA id Q .normal fr σ := h
theorem blk_r {id : Nat} (h : Q .ret fr σ) : inBlockA id Q .ret fr σ := h
theorem blk_p {id : Nat} {x : V} (h : Q (.panic x) fr σ) : inBlockA id Q (.panic x) fr σ := h
theorem blk_x {id : Nat} (h : Q .normal fr σ) : inBlockA id Q (.exit id) fr σ := by simp only [inBlockA, if_true]; exact h
theorem blk_y {id id' : Nat} (hne : Nat.beq id' id = false) (h : Q (.exit id') fr σ) : inBlockA id Q (.exit id') fr σ := by
  have : ¬ id' = id := fun e => by subst e; simp at hne
  simp only [inBlockA, this, if_false]; exact h
theorem AWP_true {c : Operand} {x y : Code} (hc : gv fr c = .bool true) (h : AWP rn P x Q fr σ) : AWP rn P (.cond c x y) Q fr σ := AWP_cond hc (fun _ => h) (fun h => by cases h)
theorem AWP_false {c : Operand} {x y : Code} (hc : gv fr c = .bool false) (h : AWP rn P y Q fr σ) : AWP rn P (.cond c x y) Q fr σ := AWP_cond hc (fun h => by cases h) (fun _ => h)
theorem Vle.of_eq {x y : V} (h : x = y) : Vle x y := h ▸ Vle.refl x
/-- The end of a body: one result, in a slot. -/
theorem body_r {rs : List ResultVar} {R : Out → List AE → Prop} {xs : List V} (h1 : resA P fr σ rs = some xs) (h2 : R (.ret (outV xs)) σ) : bodyQ P rs R .ret fr σ := ⟨xs, h1, h2⟩
theorem body_n {rs : List ResultVar} {R : Out → List AE → Prop} {xs : List V} (h1 : resA P fr σ rs = some xs) (h2 : R (.ret (outV xs)) σ) : bodyQ P rs R .normal fr σ := ⟨xs, h1, h2⟩
theorem AOps_call {ops : Array Oper} {o : Oper} {rest : List Oper} {c : Call} {f : Operand} {g : FuncId} {caps : List V} {x : V} (hg : gdB ops fr o = some true) (ho : o.op = .call c) (hc : c.callee = .value f) (hf : gv fr f = .fn g caps)
    (h : Gives P g (c.args.toList.map (gv fr) ++ caps) σ x) (hr : AOps P ops Q rest (pt fr o.dst x) σ) : AOps P ops Q (o :: rest) fr σ :=
  AOps_call_g hg ho hc hf h (fun x' σ' h => by obtain ⟨h1, rfl⟩ := h; cases h1; exact hr) (fun x' σ' h => by cases h.1)
theorem g_self (g : Bool) : (!g || g) = true := by cases g <;> rfl
theorem g_and (g h : Bool) : (!(g && h) || g) = true := by cases g <;> cases h <;> rfl
theorem g_not (g : Bool) : (! !g || !g) = true := by cases g <;> rfl
theorem cond_bool (c a b : Bool) : (bif c then V.bool a else V.bool b) = V.bool (bif c then a else b) := by cases c <;> rfl
theorem cond_or (c b : Bool) : (bif c then true else b) = (c || b) := by cases c <;> rfl
theorem cond_and (c b : Bool) : (bif c then b else false) = (c && b) := by cases c <;> rfl
theorem tt_tt : (true == true) = true := rfl
theorem tt_ff : (true == false) = false := rfl
theorem ff_tt : (false == true) = false := rfl
theorem ff_ff : (false == false) = true := rfl
theorem wrap_in {n : Int} (h0 : -9223372036854775808 ≤ n) (h1 : n ≤ 9223372036854775807) : IntKind.i64.wrap n = n := IntWalk.i64_in n ⟨h0, h1⟩
end
end Go.Proofs.YtdjjlbjagaadaaaGreatDoor.A
/- Regions that hold calls; regions that draw their order: one walk in order serves every order. -/
namespace Go.Proofs.YtdjjlbjagaadaaaGreatDoor.A
open Go Go.RowKit
set_option linter.unusedVariables false
set_option linter.unusedSimpArgs false

section
variable {rn : Option Nat} {P : Program} {σ : List AE} {fr : List V} {Q : APost}

theorem flat_nil (sz : Nat) : flat sz [] = true := rfl
theorem flat_cons (sz : Nat) (x : List V) (xs : List (List V)) : flat sz (x :: xs) = (x.length == sz && flat sz xs) := rfl
theorem rg1 : List.range 1 = [0] := rfl
theorem rg2 : List.range 2 = [0, 1] := rfl
theorem rg3 : List.range 3 = [0, 1, 2] := rfl
theorem rg4 : List.range 4 = [0, 1, 2, 3] := rfl
theorem rg5 : List.range 5 = [0, 1, 2, 3, 4] := rfl
theorem rg6 : List.range 6 = [0, 1, 2, 3, 4, 5] := rfl
theorem rg7 : List.range 7 = [0, 1, 2, 3, 4, 5, 6] := rfl
theorem rg8 : List.range 8 = [0, 1, 2, 3, 4, 5, 6, 7] := rfl
theorem nc1 : ((1 : Nat) : Int) = 1 := rfl
theorem nc2 : ((2 : Nat) : Int) = 2 := rfl
theorem nc3 : ((3 : Nat) : Int) = 3 := rfl
theorem nc4 : ((4 : Nat) : Int) = 4 := rfl
theorem nc8 : ((8 : Nat) : Int) = 8 := rfl
theorem nc10 : ((10 : Nat) : Int) = 10 := rfl
theorem nc32 : ((32 : Nat) : Int) = 32 := rfl
theorem nc0 : ((0 : Nat) : Int) = 0 := rfl
theorem nn (k : Nat) : (0 ≤ (k : Int)) = True := by simp
/-- A call of code (or an append). -/
def isCallV : Op → Bool
  | .call c => match c.callee with
    | .builtin .append => true
    | .builtin _ => false
    | _ => true
  | .panic _ => true
  | .defer _ => true
  | .makeSlice _ _ _ => true
  | .range _ _ => true
  | .next _ _ => true
  | _ => false
def preL : List Oper → List Oper
  | [] => []
  | o :: l => bif isCallV o.op then [] else o :: preL l
def postL : List Oper → List Oper
  | [] => []
  | o :: l => bif isCallV o.op then o :: l else postL l
theorem pre_post : ∀ l : List Oper, preL l ++ postL l = l
  | [] => rfl
  | o :: l => by
    unfold preL postL
    cases isCallV o.op with
    | true => rfl
    | false => simp [pre_post l]
/-- The operations up to the next call. -/
theorem AOps_pre {ops : Array Oper} {o : Oper} {l l' : List Oper} (hc : isCallV o.op = false) (hp : postL (o :: l) = l') (h : ∀ K : List V → List AE → Prop, (∀ fr' σ', AOps P ops Q l' fr' σ' → K fr' σ') → ∃ fr' σ', evalOps P ops (preL (o :: l)) fr σ = some (fr', σ') ∧ K fr' σ') : AOps P ops Q (o :: l) fr σ := by
  subst hp
  obtain ⟨fr', σ', h1, h2⟩ := h (fun fr' σ' => AOps P ops Q (postL (o :: l)) fr' σ') (fun _ _ h => h)
  have := AOps_evals (Q := Q) h1 h2
  rwa [pre_post] at this

/-- A sequence whose second part is walked once, for all ways that lead to it. -/
theorem AWP_seqJ {x y : Code} {α : Type} (F : α → List V) (S : α → List AE) (hx : AWP rn P x (thenA (fun fr' σ' => ∃ a, σ.length ≤ (S a).length ∧ Sub fr' σ' (F a) (S a)) Q) fr σ) (hy : ∀ a, AWP rn P y Q (F a) (S a)) : AWP rn P (.seq x y) Q fr σ :=
  AWP_seqW (AWP_mono (fun ax fr' σ' h => by
    cases ax with
    | normal => obtain ⟨a, h1, h2⟩ := h; exact ⟨F a, S a, h1, h2, hy a⟩
    | ret => exact h
    | exit id => exact h
    | goto l => exact h
    | panic x => exact h) hx)

/-! ### Calls under guards -/
theorem call_wpR {rd : Operand → V} {o : Oper} {c : Call} {f : Operand} {g : FuncId} {caps : List V} {R : Out → List AE → Prop} (ho : o.op = .call c) (hc : c.callee = .value f) (hf : rd f = .fn g caps) (h : ACalls P g (c.args.toList.map rd ++ caps) σ R)
    (a : Act) (w : World) (en : List CE) (hi : Iv σ en w) (hfr : Rd w en rd a o.op) :
    Oper.wp P o a w (fun a' w' => ∃ v x σ' en', a' = a.put o.dst v ∧ R (.ret x) σ' ∧ VR w' en' x v ∧ Iv σ' en' w' ∧ Ext w en w' en')
      (fun e a' w' => ∃ v x σ' en', e = .panic [{ v := v, recovered := false }] ∧ a' = a ∧ R (.pan x) σ' ∧ VR w' en' x v ∧ Iv σ' en' w' ∧ Ext w en w' en') := by
  have hv := hfr f (by simp [ho, Op.operands, Call.operands, hc])
  rw [hf] at hv
  simp only [VR] at hv
  obtain ⟨us, he, hcaps⟩ := hv
  have hargs := rargs_ok hfr c.args.toList (fun x hx => by simp [ho, Op.operands, Call.operands, hc]; right; simpa using hx)
  have hrun : (execOp a.eval o).run P w = .ok (.enter g (c.args.map a.eval ++ us)) w := by
    have := run_callFunc h.ent (c.args.map a.eval ++ us) w
    simp [execOp, ho, resolve, hc, he, Deferred.ofValue, invoke, this]
  unfold Oper.wp
  rw [hrun]
  simp only [Oper.upon]
  refine (h.go w en (c.args.map a.eval ++ us) hi ?_).mono fun e w' hk => ?_
  · simpa using LR_append hargs hcaps
  · obtain ⟨r, σ', en', h1, h2, h3, h4⟩ := hk
    cases r with
    | ret x => obtain ⟨v, rfl, hx⟩ := h2; exact ⟨v, x, σ', en', rfl, h1, hx, h3, h4⟩
    | pan x => obtain ⟨v, rfl, hx⟩ := h2; exact ⟨v, x, σ', en', by simp, by simp, h1, hx, h3, h4⟩
theorem OpOkR_call {rd : Operand → V} {o : Oper} {c : Call} {f : Operand} {g : FuncId} {caps args : List V} {x : V} (ho : o.op = .call c) (hc : c.callee = .value f) (hf : rd f = .fn g caps) (ha : c.args.toList.map rd ++ caps = args) (h : Gives P g args σ x) : OpOkR P σ rd o x σ := fun a w en hi hfr => by
  subst ha
  refine Oper_wpQ (fun a' w' hk => ?_) (fun e a' w' hk => ?_) (call_wpR ho hc hf h a w en hi hfr)
  · obtain ⟨v, x', σ', en', rfl, h1, h2, h3, h4⟩ := hk
    obtain ⟨h5, rfl⟩ := h1
    cases h5
    exact ⟨v, en', rfl, h2, h3, h4⟩
  · obtain ⟨v, x', σ', en', rfl, rfl, h1, _⟩ := hk
    cases h1.1
/-- An unguarded call that gives one value. -/
theorem AOps_callU {ops : Array Oper} {o : Oper} {rest : List Oper} {c : Call} {f : Operand} {g : FuncId} {caps args : List V} {x : V} (h : Gives P g args σ x) (hg : o.guard = none) (ho : o.op = .call c) (hc : c.callee = .value f) (hf : gv fr f = .fn g caps)
    (ha : c.args.toList.map (gv fr) ++ caps = args) (hr : AOps P ops Q rest (pt fr o.dst x) σ) : AOps P ops Q (o :: rest) fr σ :=
  AOps_op hg (OpOk_of (OpOkR_call ho hc hf ha h)) hr
theorem ungR {rd : Operand → V} {g : Bool} (hg : g = true) {w : World} {en : List CE} {a : Act} {o : Op} (h : Rd w en rd a o) : Rd w en (fun y => ung g (rd y)) a o := fun y hy => ung_ok hg (h y hy)
/-- A guarded call that gives one value. -/
theorem AOps_callG {ops : Array Oper} {o : Oper} {rest : List Oper} {c : Call} {f : Operand} {g : FuncId} {b : Bool} {caps args : List V} {x : V} (hg : gdB ops fr o = some b) (h : b = true → Gives P g args σ x) (ho : o.op = .call c) (hc : c.callee = .value f) (hf : ung b (gv fr f) = .fn g caps)
    (ha : c.args.toList.map (fun y => ung b (gv fr y)) ++ caps = args) (hr : AOps P ops Q rest (pt fr o.dst (.gd b x)) σ) : AOps P ops Q (o :: rest) fr σ := fun a w en hi hfr {_} hd => by
  unfold wpList
  have hw := gdB_ok hfr hg
  cases b with
  | true =>
    rw [if_pos hw]
    refine .inl ?_
    refine Oper_wpQ (fun a' w' hk => ?_) (fun _ _ _ hq => hq.elim) (OpOkR_call (rd := fun y => ung true (gv fr y)) ho hc hf ha (h rfl) a w en hi (ungR rfl fun y hy => gv_ops (hfr.on _) y hy))
    obtain ⟨v, en', rfl, h1, h2, h3⟩ := hk
    refine wpList_mono (fun _ _ _ hq => LQ_ext h3 hq) _ _ _ (hr _ w' en' h2 ((hfr.ext h3).put (by simp only [VR]; exact ⟨fun _ => h1, fun e => by cases e⟩) _) ?_)
    cases o.dst <;> simpa [Act.put] using hd
  | false =>
    rw [if_neg (by rw [hw]; simp)]
    refine hr _ w en hi (hfr.put (by simp [VR]) _) ?_
    cases o.dst <;> simpa [Act.put] using hd

/-! ### Drawn orders -/
/-- An operation that looks at values alone. -/
def isP : Op → Bool
  | .move _ => true
  | .assign _ => true
  | .pick _ _ _ => true
  | .binOp _ _ _ _ _ => true
  | .unOp _ _ _ => true
  | .extract _ _ => true
  | .indexAddr _ _ _ => true
  | .index _ _ _ => true
  | .fieldAddr _ _ _ => true
  | .field _ _ _ => true
  | .nilCheck _ => true
  | .slice _ _ _ _ _ => true
  | .makeFunc _ _ _ => true
  | .call c => match c.callee with
    | .builtin .len => true
    | .builtin .max => true
    | .builtin .min => true
    | _ => false
  | _ => false
/-- Functions whose call turns entries. -/
def turns (f : Operand) : Bool := match f with
  | .func g => [76].contains g
  | _ => false
/-- An operation that leaves the entries as they are. -/
def isQ : Op → Bool
  | .call c => match c.callee with
    | .builtin .append => false
    | .value f => !turns f
    | _ => true
  | .alloc _ => false
  | .box _ _ => false
  | .store _ _ _ => false
  | _ => true
theorem evalOp_q {rd : Operand → V} {o : Op} {x : V} {σ' : List AE} (hp : isQ o = true) (h : evalOp P σ rd o = some (x, σ')) : σ' = σ := by
  cases o <;> simp only [isQ] at hp <;> simp only [evalOp] at h <;> first
    | (cases hp; done)
    | (exact (ret_some h).2)
    | (cases h; done)
    | (cases h; rfl)
    | (split at h <;> first | exact (ret_some h).2 | cases h)
theorem retV_any {x : Option V} {z : V} {σ' τ : List AE} (h : retV σ x = some (z, σ')) : retV τ x = some (z, τ) := by
  obtain ⟨h1, _⟩ := ret_some h
  rw [h1]; rfl
theorem evalOp_p {rd : Operand → V} {o : Op} {x : V} {σ' : List AE} (hp : isP o = true) (h : evalOp P σ rd o = some (x, σ')) (τ : List AE) : evalOp P τ rd o = some (x, τ) := by
  cases o <;> simp only [isP] at hp <;> simp only [evalOp] at h ⊢ <;> first
    | (cases hp; done)
    | (exact retV_any h)
    | (cases h; rfl)
    | (split at h <;> first | exact retV_any h | cases h)
/-- An operation that makes a box. -/
def isL : Op → Bool
  | .alloc _ => true
  | _ => false
theorem isL_p {o : Op} (h : isL o = true) : ¬ isP o = true := by cases o <;> simp_all [isL, isP]
theorem isL_q {o : Op} (h : isL o = true) : ¬ isQ o = true := by cases o <;> simp_all [isL, isQ]
theorem evalOp_l {rd : Operand → V} {o : Op} {x : V} {σ' : List AE} (hl : isL o = true) (h : evalOp P σ rd o = some (x, σ')) : ∃ τ, σ' = σ ++ τ := by
  cases o <;> simp only [isL] at hl <;> first
    | (cases hl; done)
    | skip
  simp only [evalOp, allocS] at h
  repeat' split at h
  all_goals first
    | (cases h; done)
    | (simp only [Option.some.injEq, Prod.mk.injEq] at h; exact ⟨_, h.2.symm⟩)
theorem ptrCells_app {x : V} {r : List V × Nat} (h : ptrCells σ x = some r) (τ : List AE) : ptrCells (σ ++ τ) x = some r := by
  cases x <;> simp only [ptrCells] at h ⊢ <;> first
    | exact h
    | skip
  case ptr b o =>
    cases hb : σ[b]? with
    | none => rw [hb] at h; cases h
    | some a => rw [List.getElem?_append_left (List.getElem?_eq_some_iff.1 hb).1, hb]; rw [hb] at h; exact h
  case rp k ver o =>
    cases hb : σ[k]? with
    | none => rw [hb] at h; cases h
    | some a => rw [List.getElem?_append_left (List.getElem?_eq_some_iff.1 hb).1, hb]; rw [hb] at h; exact h
theorem loadV_app {t : TypeId} {x z : V} (h : loadV P σ t x = some z) (τ : List AE) : loadV P (σ ++ τ) t x = some z := by
  unfold loadV at h ⊢
  cases hp : ptrCells σ x with
  | none => rw [hp] at h; cases h
  | some r => rw [ptrCells_app hp τ]; rw [hp] at h; exact h
theorem cvtP_app {s d : TypeId} {x z : V} (h : cvtP P σ s d x = some z) (τ : List AE) : cvtP P (σ ++ τ) s d x = some z := by
  cases x <;> simp only [cvtP] at h ⊢ <;> first
    | (cases h; done)
    | skip
  case ptr b o =>
    cases hb : σ[b]? with
    | none => rw [hb] at h; cases h
    | some a => rw [List.getElem?_append_left (List.getElem?_eq_some_iff.1 hb).1, hb]; rw [hb] at h; exact h
theorem evalOp_app {rd : Operand → V} {o : Op} {x : V} {σ' : List AE} (hq : isQ o = true) (h : evalOp P σ rd o = some (x, σ')) (τ : List AE) : evalOp P (σ ++ τ) rd o = some (x, σ ++ τ) := by
  cases o <;> simp only [isQ] at hq <;> simp only [evalOp] at h ⊢ <;> first
    | (cases hq; done)
    | exact retV_any h
    | (cases h; done)
    | (cases h; rfl)
    | skip
  case load t a => rw [loadV_app (ret_some h).1 τ]; rfl
  case convert s d x' =>
    obtain ⟨h1, _⟩ := ret_some h
    cases hc : cvt P s d (rd x') with
    | some z =>
      rw [hc] at h1
      simp only [h1]
      rfl
    | none =>
      rw [hc] at h1
      simp only at h1 ⊢
      rw [cvtP_app h1 τ]
      rfl
  case call c =>
    split at h
    · exact retV_any h
    · cases h
theorem evalG_app {g : Bool} {rd : Operand → V} {o : Op} {x : V} (hq : isQ o = true) (h : evalG P σ g rd o = some x) (τ : List AE) : evalG P (σ ++ τ) g rd o = some x := by
  have key : (if isPure o = true then (evalOp P σ (fun x => ung g (rd x)) o).map (·.1) else none) = some x → (if isPure o = true then (evalOp P (σ ++ τ) (fun x => ung g (rd x)) o).map (·.1) else none) = some x := fun h => by
    split at h
    · rename_i hp
      rw [if_pos hp]
      obtain ⟨⟨x', σ'⟩, h1, rfl⟩ := Option.map_eq_some_iff.1 h
      rw [evalOp_app hq h1 τ]
      rfl
    · cases h
  cases o <;> first | exact h | exact key h
/-- It ends in a panic, X of it. -/
def PX (X : V → List AE → Prop) (a : Act) (w : World) (en : List CE) : Exit → Act → World → Prop := fun e a' w' => ∃ v x σ' en', e = .panic [{ v := v, recovered := false }] ∧ a' = a ∧ X x σ' ∧ VR w' en' x v ∧ Iv σ' en' w' ∧ Ext w en w' en'
variable {X : V → List AE → Prop} {G : List AE → Prop}
/-- No entry comes up behind. -/
def GN (τ : List AE) : Prop := τ = []
/-- Whatever comes up behind. -/
def GA (τ : List AE) : Prop := True
/-- In this frame the operation comes to x and σ' (or is passed over, x then reading nothing), whatever else has been carried out. -/
def OpA (P : Program) (X : V → List AE → Prop) (σ : List AE) (ops : Array Oper) (o : Oper) (fr : List V) (x : V) (σ' : List AE) : Prop := ∀ (a : Act) (w : World) (en : List CE), Iv σ en w → FRon w en fr a (o.looksAt ops) →
  if Region.wanted o (yielded ops a.tmps) then o.wp P a w (fun a' w' => ∃ v en', a' = a.put o.dst v ∧ VR w' en' x v ∧ Iv σ' en' w' ∧ Ext w en w' en') (PX X a w en) else VR w en x undef ∧ σ' = σ
def Stp (P : Program) (X : V → List AE → Prop) (G : List AE → Prop) (σ : List AE) (ops : Array Oper) (o : Oper) (fr : List V) (x : V) (σ' : List AE) : Prop :=
  if isP o.op = true then σ' = σ ∧ ∀ τ, OpA P X τ ops o fr x τ else if isQ o.op = true then σ' = σ ∧ OpA P X σ ops o fr x σ ∧ ∀ τ, G τ → OpA P X (σ ++ τ) ops o fr x (σ ++ τ) else (isL o.op = true → ∃ τ, σ' = σ ++ τ) ∧ OpA P X σ ops o fr x σ'
def LexA (P : Program) (X : V → List AE → Prop) (G : List AE → Prop) (ops : Array Oper) (F : List V → List AE → Prop) : List Oper → List V → List AE → Prop
  | [], fr, σ => F fr σ
  | o :: rest, fr, σ => ∃ x σ', Stp P X G σ ops o fr x σ' ∧ LexA P X G ops F rest (pt fr o.dst x) σ'
def AAny (P : Program) (X : V → List AE → Prop) (G : List AE → Prop) (md : Region.Mode) (ops : Array Oper) (F : List V → List AE → Prop) : Nat → Array Bool → List V → List AE → Prop
  | 0, listed, fr, σ => Region.ready md ops listed = [] ∧ F fr σ
  | fuel + 1, listed, fr, σ => (Region.ready md ops listed = [] → F fr σ) ∧
    ∀ i ∈ Region.ready md ops listed, ∃ o x σ', ops[i]? = some o ∧ Stp P X G σ ops o fr x σ' ∧ AAny P X G md ops F fuel (listed.setIfInBounds i true) (pt fr o.dst x) σ'
theorem Stp.op {ops : Array Oper} {o : Oper} {x : V} {σ' : List AE} (h : Stp P X G σ ops o fr x σ') : OpA P X σ ops o fr x σ' := by
  unfold Stp at h
  split at h
  · obtain ⟨rfl, h⟩ := h; exact h σ'
  · split at h
    · obtain ⟨rfl, h, _⟩ := h; exact h
    · exact h.2
theorem pt_getD {dst : Option Tmp} {x : V} {t : Nat} (h : ∀ d, dst = some d → d ≠ t) : (pt fr dst x).getD t .junk = fr.getD t .junk := by
  cases dst with
  | none => rfl
  | some d =>
    have : d ≠ t := h d rfl
    simp [pt, List.getD_eq_getElem?_getD, List.getElem?_set, this]
theorem pt_comm {d e : Option Tmp} (x y : V) (h : ∀ t, d = some t → e ≠ some t) : pt (pt fr d x) e y = pt (pt fr e y) d x := by
  cases d with
  | none => rfl
  | some d =>
    cases e with
    | none => rfl
    | some e =>
      have hne : d ≠ e := fun he => h d rfl (he ▸ rfl)
      simp [pt, List.set_comm _ _ hne]
theorem OpA.of_same {ops : Array Oper} {o : Oper} {x : V} {σ' : List AE} {fr' : List V} (h : OpA P X σ ops o fr x σ') (he : ∀ t ∈ o.looksAt ops, fr'.getD t .junk = fr.getD t .junk) : OpA P X σ ops o fr' x σ' := fun a w en hi hf =>
  h a w en hi fun t ht => by rw [← he t ht]; exact hf t ht
theorem Stp.of_same {ops : Array Oper} {o : Oper} {x : V} {σ' : List AE} {fr' : List V} (h : Stp P X G σ ops o fr x σ') (he : ∀ t ∈ o.looksAt ops, fr'.getD t .junk = fr.getD t .junk) : Stp P X G σ ops o fr' x σ' := by
  unfold Stp at h ⊢
  split at h
  · rename_i hp; rw [if_pos hp]; exact ⟨h.1, fun τ => (h.2 τ).of_same he⟩
  · rename_i hp
    rw [if_neg hp]
    split at h
    · rename_i hq; rw [if_pos hq]; exact ⟨h.1, h.2.1.of_same he, fun τ hτ => (h.2.2 τ hτ).of_same he⟩
    · rename_i hq; rw [if_neg hq]; exact ⟨h.1, h.2.of_same he⟩
/-- Two operations that may stand in either order. -/
def pairOk (al : Bool) (a b : Op) : Bool := isP a || isP b || (isQ a && isQ b) || (al && (isQ a && isL b))
theorem swap_ok {ops : Array Oper} {oi oj : Oper} {x y : V} {σi σij : List AE} {fri frj : List V} {al : Bool} (hal : al = true → ∀ τ, G τ) (hp : pairOk al oi.op oj.op = true) (hi : Stp P X G σ ops oi fr x σi) (hj : Stp P X G σi ops oj fri y σij)
    (hsj : ∀ t ∈ oj.looksAt ops, fr.getD t .junk = fri.getD t .junk) (hsi : ∀ t ∈ oi.looksAt ops, frj.getD t .junk = fr.getD t .junk) :
    ∃ σj, Stp P X G σ ops oj fr y σj ∧ Stp P X G σj ops oi frj x σij := by
  have hj' := hj.of_same hsj
  simp only [pairOk, Bool.or_eq_true, Bool.and_eq_true] at hp
  rcases hp with ((hp | hp) | ⟨hq1, hq2⟩) | ⟨ha, hq1, hl⟩
  · unfold Stp at hi
    rw [if_pos hp] at hi
    obtain ⟨rfl, hi⟩ := hi
    refine ⟨σij, hj', ?_⟩
    unfold Stp
    rw [if_pos hp]
    exact ⟨rfl, fun τ => (hi τ).of_same hsi⟩
  · unfold Stp at hj'
    rw [if_pos hp] at hj'
    obtain ⟨rfl, hj'⟩ := hj'
    refine ⟨σ, ?_, hi.of_same hsi⟩
    unfold Stp
    rw [if_pos hp]
    exact ⟨rfl, hj'⟩
  · have e1 : σi = σ := by
      unfold Stp at hi
      split at hi
      · exact hi.1
      · exact hi.1
    subst e1
    have e2 : σij = σi := by
      unfold Stp at hj'
      split at hj'
      · exact hj'.1
      · exact hj'.1
    subst e2
    exact ⟨σij, hj', hi.of_same hsi⟩
  · have hi0 := hi
    unfold Stp at hi hj'
    by_cases hpi : isP oi.op = true
    · rw [if_pos hpi] at hi
      obtain ⟨rfl, hi⟩ := hi
      refine ⟨σij, by unfold Stp; exact hj', ?_⟩
      unfold Stp
      rw [if_pos hpi]
      exact ⟨rfl, fun τ => (hi τ).of_same hsi⟩
    · rw [if_neg hpi, if_pos hq1] at hi
      obtain ⟨rfl, _, hi⟩ := hi
      refine ⟨σij, by unfold Stp; exact hj', ?_⟩
      obtain ⟨b, rfl⟩ : ∃ b, σij = σi ++ b := by
        rw [if_neg (isL_p hl), if_neg (isL_q hl)] at hj'
        exact hj'.1 hl
      unfold Stp
      rw [if_neg hpi, if_pos hq1]
      exact ⟨rfl, (hi b (hal ha _)).of_same hsi, fun τ hτ => by rw [List.append_assoc]; exact (hi _ (hal ha _)).of_same hsi⟩
theorem AAny_first {md : Region.Mode} {ops : Array Oper} {F : List V → List AE → Prop} {i : Nat} {oi : Oper} {x : V} {al : Bool} (hal : al = true → ∀ τ, G τ) (hi : ops[i]? = some oi) (D : Nat → Prop)
    (hD : ∀ k, D k → ∃ ok, ops[k]? = some ok ∧ ∃ e ∈ ok.after, Region.binds md e = true ∧ (e.on = i ∨ D e.on)) :
    ∀ (fuel : Nat) (listed : Array Bool) (fr : List V) (σ σ' : List AE),
      (∀ k, D k → listed.getD k true = false) →
      (∀ j oj, ops[j]? = some oj → j ≠ i → listed.getD j true = false → (∀ e ∈ oj.after, Region.binds md e = true → e.on ≠ i) → ¬ D j → oi.apart ops oj = true ∧ pairOk al oi.op oj.op = true) →
      i ∈ Region.ready md ops listed → Stp P X G σ ops oi fr x σ' →
      AAny P X G md ops F fuel (listed.setIfInBounds i true) (pt fr oi.dst x) σ' → AAny P X G md ops F (fuel + 1) listed fr σ := by
  intro fuel
  induction fuel with
  | zero =>
    intro listed fr σ σ' _ _ hr hy H
    refine ⟨fun h => (by rw [h] at hr; cases hr), fun j hj => ?_⟩
    by_cases hji : j = i
    · subst hji; exact ⟨oi, x, σ', hi, hy, H⟩
    · have := ready_mono hj hji
      rw [H.1] at this
      cases this
  | succ fuel ih =>
    intro listed fr σ σ' hun0 hfree hr hy H
    refine ⟨fun h => (by rw [h] at hr; cases hr), fun j hj => ?_⟩
    by_cases hji : j = i
    · subst hji; exact ⟨oi, x, σ', hi, hy, H⟩
    · obtain ⟨oj, y, σij, hoj, hyj, H2⟩ := H.2 j (ready_mono hj hji)
      obtain ⟨hjun, oj', hoj', hall⟩ := mem_ready.1 hj
      rw [hoj] at hoj'
      cases hoj'
      have hnot : ∀ e ∈ oj.after, Region.binds md e = true → e.on ≠ i := fun e he hb heq => by
        have h1 := hall e he hb
        have h0 := (mem_ready.1 hr).1
        rw [heq] at h1
        rcases Nat.lt_or_ge i listed.size with h' | h'
        · simp [h'] at h0 h1; rw [h0] at h1; cases h1
        · simp [Array.getElem?_eq_none h'] at h1
      have hnD : ¬ D j := fun hdj => by
        obtain ⟨ok, hok, e, he, hb, hon⟩ := hD j hdj
        rw [hoj] at hok
        cases hok
        rcases hon with h2 | h2
        · exact hnot e he hb h2
        · have h1 := hall e he hb
          have h0 := hun0 _ h2
          rcases Nat.lt_or_ge e.on listed.size with h' | h'
          · simp [h'] at h0 h1; rw [h0] at h1; cases h1
          · simp [Array.getElem?_eq_none h'] at h1
      obtain ⟨hap, hpr⟩ := hfree j oj hoj hji hjun hnot hnD
      obtain ⟨a1, a2, a3⟩ := Oper.apart_spec hap
      obtain ⟨σj, k1, k2⟩ := swap_ok (frj := pt fr oj.dst y) hal hpr hy hyj (fun t ht => (pt_getD fun d hd he => a1 d hd (he ▸ ht)).symm) (fun t ht => pt_getD fun d hd he => a3 d hd (he ▸ ht))
      refine ⟨oj, y, σj, hoj, k1, ?_⟩
      refine ih (listed.setIfInBounds j true) _ σj σij (fun k hk => by
        have hkj : j ≠ k := fun e => hnD (e ▸ hk)
        rw [getD_set_ne true hkj]
        exact hun0 k hk) (fun k ok hk hki hun hno hnk => hfree k ok hk hki ?_ hno hnk) (ready_mono hr (Ne.symm hji)) k2 ?_
      · by_cases hjk : j = k
        · subst hjk; exact hjun
        · rw [getD_set_ne true hjk] at hun; exact hun
      · rw [pt_comm _ _ (fun t ht he => a2 t he ht), Array.setIfInBounds_comm _ _ hji]
        exact H2
/-- Of each two, the later after the earlier (by a chain), or they may stand in either order. -/
def pairsFrom (md : Region.Mode) (al : Bool) (o : Op) : List Nat → Nat → List Oper → Bool
  | _, _, [] => true
  | S, j, oj :: l => if oj.after.toList.any (fun e => Region.binds md e && S.contains e.on) then pairsFrom md al o (j :: S) (j + 1) l else pairOk al o oj.op && pairsFrom md al o S (j + 1) l
def pairsB (md : Region.Mode) (al : Bool) : Nat → List Oper → Bool
  | _, [] => true
  | i, o :: l => pairsFrom md al o.op [i] (i + 1) l && pairsB md al (i + 1) l
theorem pairsFrom_get {md : Region.Mode} {al : Bool} {o : Op} {ops : Array Oper} : ∀ {l : List Oper} {S : List Nat} {j : Nat}, (∀ t, l[t]? = ops[j + t]?) → pairsFrom md al o S j l = true →
    ∃ D : Nat → Prop, (∀ k, D k → j ≤ k ∧ ∃ ok, ops[k]? = some ok ∧ ∃ e ∈ ok.after, Region.binds md e = true ∧ (e.on ∈ S ∨ D e.on)) ∧ ∀ k ok, j ≤ k → ops[k]? = some ok → ¬ D k → pairOk al o ok.op = true
  | [], S, j, hl, _ => ⟨fun _ => False, fun _ h => h.elim, fun k ok hk hok _ => by
      have := hl (k - j)
      rw [show j + (k - j) = k from by omega, hok] at this
      simp at this⟩
  | oj :: l, S, j, hl, h => by
    have h0 : ops[j]? = some oj := by simpa using (hl 0).symm
    have hl' : ∀ t, l[t]? = ops[j + 1 + t]? := fun t => by
      have := hl (t + 1)
      rw [List.getElem?_cons_succ] at this
      rw [this]
      congr 1
      omega
    unfold pairsFrom at h
    split at h
    · rename_i hd
      obtain ⟨e, he, hb⟩ := List.any_eq_true.1 hd
      obtain ⟨hb, hs⟩ := (Bool.and_eq_true _ _).mp hb
      obtain ⟨D, h1, h2⟩ := pairsFrom_get hl' h
      refine ⟨fun k => k = j ∨ D k, fun k hk => ?_, fun k ok hk hok hn => h2 k ok (by have : k ≠ j := fun e => hn (.inl e); omega) hok (fun hd => hn (.inr hd))⟩
      rcases hk with rfl | hk
      · exact ⟨Nat.le_refl _, oj, h0, e, by simpa using he, hb, .inl (List.contains_iff_mem.1 hs)⟩
      · obtain ⟨h3, ok, h4, e', he', hb', h5⟩ := h1 k hk
        refine ⟨by omega, ok, h4, e', he', hb', ?_⟩
        rcases h5 with h5 | h5
        · rcases List.mem_cons.1 h5 with h6 | h6
          · exact .inr (.inl h6)
          · exact .inl h6
        · exact .inr (.inr h5)
    · obtain ⟨hp, h⟩ := (Bool.and_eq_true _ _).mp h
      obtain ⟨D, h1, h2⟩ := pairsFrom_get hl' h
      refine ⟨D, fun k hk => ?_, fun k ok hk hok hn => ?_⟩
      · obtain ⟨h3, r⟩ := h1 k hk
        exact ⟨by omega, r⟩
      · by_cases hkj : k = j
        · subst hkj
          rw [h0] at hok
          cases hok
          exact hp
        · exact h2 k ok (by omega) hok hn
theorem AAny_lex {al : Bool} (hal : al = true → ∀ τ, G τ) {md : Region.Mode} {ops : Array Oper} {F : List V → List AE → Prop} : ∀ (l : List Oper) (k : Nat) (listed : Array Bool) (fr : List V) (σ : List AE), (∀ j, l[j]? = ops[k + j]?) → (∀ j, j < k → listed.getD j true = true) → (∀ j, k ≤ j → j < ops.size → listed.getD j true = false) →
    Region.lexFrom md ops l.length k listed = true → pairsB md al k l = true → LexA P X G ops F l fr σ → AAny P X G md ops F l.length listed fr σ
  | [], _, _, _, _, _, _, _, hB, _, h => ⟨by simpa [Region.lexFrom] using hB, h⟩
  | o :: l, k, listed, fr, σ, hl, hk, hu, hB, hP, h => by
    have h0 : ops[k]? = some o := by simpa using (hl 0).symm
    simp only [List.length_cons, Region.lexFrom, Bool.and_eq_true] at hB
    obtain ⟨⟨hr, hf⟩, hB'⟩ := hB
    simp only [pairsB, Bool.and_eq_true] at hP
    obtain ⟨x, σ', hy, hK⟩ := h
    have hspec := Region.free_spec h0 hf
    have hl' : ∀ t, l[t]? = ops[k + 1 + t]? := fun t => by
      have := hl (t + 1)
      rw [List.getElem?_cons_succ] at this
      rw [this]
      congr 1
      omega
    obtain ⟨D, hD1, hD2⟩ := pairsFrom_get (ops := ops) hl' hP.1
    refine AAny_first hal h0 D (fun j hj => ?_) l.length listed fr σ σ' (fun j hj => ?_) (fun j oj hoj hji hun hno hnD => ⟨hspec j oj hoj hji hun hno, ?_⟩) (by simpa using hr) hy
      (AAny_lex hal l (k + 1) _ _ _ hl' (fun j hj => ?_) (fun j hj hjs => ?_) hB' hP.2 hK)
    · obtain ⟨_, ok, h1, e, h2, h3, h4⟩ := hD1 j hj
      refine ⟨ok, h1, e, h2, h3, ?_⟩
      rcases h4 with h4 | h4
      · exact .inl (List.mem_singleton.1 h4)
      · exact .inr h4
    · obtain ⟨h1, ok, h2, _⟩ := hD1 j hj
      exact hu j (by omega) (Array.getElem?_eq_some_iff.1 h2).1
    · have hjk : k < j := by
        rcases Nat.lt_or_ge j k with h | h
        · rw [hk j h] at hun; cases hun
        · omega
      exact hD2 j oj (by omega) hoj hnD
    · by_cases hjk : k = j
      · subst hjk
        rw [Array.getD_eq_getD_getElem?]
        by_cases hs : k < listed.size
        · simp [Array.getElem?_setIfInBounds, hs]
        · simp [Array.getElem?_setIfInBounds, hs]
      · rw [getD_set_ne true hjk]
        exact hk j (by omega)
    · rw [getD_set_ne true (by omega)]
      exact hu j (by omega) hjs
/-- What a region's operations leave of a frame. -/
def Keeps (l : List Oper) (fr fr' : List V) : Prop := ∀ t, (l.all fun o => o.dst != some t) = true → fr'.getD t .junk = fr.getD t .junk
theorem Keeps.pt {ops : Array Oper} {fr0 fr : List V} (h : Keeps ops.toList fr0 fr) {i : Nat} {o : Oper} (ho : ops[i]? = some o) (x : V) : Keeps ops.toList fr0 (pt fr o.dst x) := fun t ht => by
  rw [pt_getD, h t ht]
  intro d hd e
  have := List.all_eq_true.1 ht o (by rw [Array.mem_toList_iff]; exact Array.mem_of_getElem? ho)
  subst e
  rw [hd] at this
  simp at this
theorem wpAny_of_AAny {ds : List Deferred} {md : Region.Mode} {ops : Array Oper} {F : List V → List AE → Prop} (hQ : ∀ fr σ, F fr σ → Q .normal fr σ) {fr0 : List V} (hX : ∀ x σ, X x σ → ∀ fr, Keeps ops.toList fr0 fr → Q (.panic x) fr σ) {w0 : World} {en0 : List CE} : ∀ (fuel : Nat) (listed : Array Bool) (fr : List V) (σ : List AE) (a : Act) (w : World) (en : List CE),
    Keeps ops.toList fr0 fr → Iv σ en w → FR w en fr a → a.defers = ds → Ext w0 en0 w en → AAny P X G md ops F fuel listed fr σ → wpAny P md ops (LQ ds Q w0 en0) fuel listed a w
  | 0, _, fr, σ, a, w, en, hK, hi, hf, hd, he, h => ⟨h.1, .normal, fr, σ, en, hQ _ _ h.2, rfl, hi, hf, hd, he⟩
  | fuel + 1, listed, fr, σ, a, w, en, hK, hi, hf, hd, he, h => by
    refine ⟨fun h0 => ⟨.normal, fr, σ, en, hQ _ _ (h.1 h0), rfl, hi, hf, hd, he⟩, fun i hr => ?_⟩
    obtain ⟨o, x, σ', ho, hop0, hk⟩ := h.2 i hr
    unfold wpOp
    simp only [ho]
    have := hop0.op a w en hi (hf.on _)
    split
    · rename_i hw
      rw [if_pos hw] at this
      refine .inl (Oper_wpQ (fun a' w' hh => ?_) (fun e a' w' hq => ?_) this)
      rotate_left
      · obtain ⟨v, y, σ2, en', rfl, rfl, h1, h2, h3, h4⟩ := hq
        exact ⟨.panic y, fr, σ2, en', hX _ _ h1 _ hK, ⟨v, rfl, h2⟩, h3, hf.ext h4, hd, he.trans h4⟩
      obtain ⟨v, en', rfl, h1, h2, h3⟩ := hh
      refine wpAny_of_AAny hQ hX fuel _ _ _ _ w' en' (hK.pt ho x) h2 ((hf.ext h3).put h1 _) ?_ (he.trans h3) hk
      cases o.dst <;> simpa [Act.put] using hd
    · rename_i hw
      rw [if_neg hw] at this
      obtain ⟨h1, rfl⟩ := this
      refine wpAny_of_AAny hQ hX fuel _ _ _ _ w en (hK.pt ho x) hi (hf.put h1 _) ?_ he hk
      cases o.dst <;> simpa [Act.put] using hd
/-- A region that draws its order. -/
theorem AWP_draw {id : Nat} {l : List Oper} (hm : P.follows .mixedOrders = true) (hB : (Region.lexB .any l.toArray && pairsB .any false 0 l) = true) (h : LexA P (fun x σ' => ∀ fr', Keeps l fr fr' → Q (.panic x) fr' σ') GN l.toArray (fun fr' σ' => Q .normal fr' σ') l fr σ) : AWP rn P (.region id l.toArray true) Q fr σ := fun a w en hi hf {_} hd => by
  simp only [Region.lexB, Bool.and_eq_true] at hB
  refine wpIn_region_any hm (any_in rn (LQ_few _ _ _ _) _ _ _ _ (by exact congrArg List.length hd) ?_)
  refine wpAny_of_AAny (G := GN) (F := fun fr' σ' => Q .normal fr' σ') (X := fun x σ' => ∀ fr', Keeps l fr fr' → Q (.panic x) fr' σ') (fr0 := fr) (fun _ _ h => h) (fun _ _ h fr' hk => h fr' (by simpa using hk)) _ _ fr σ a w.drew en (fun _ _ => rfl) hi.drew (hf.ext .drew) hd .drew ?_
  have := AAny_lex (G := GN) (al := false) (fun h => by cases h) (P := P) (X := fun x σ' => ∀ fr', Keeps l fr fr' → Q (.panic x) fr' σ') (md := .any) l 0 (Array.replicate l.toArray.size false) fr σ (by simp) (fun j hj => absurd hj (by omega)) (fun j _ hj => by simp at hj; simp [hj]) (by simpa using hB.1.2) hB.2 h
  simpa using this
/-- A region that draws its order; boxes may be made ahead of what stands ahead of them. -/
theorem AWP_drawL {id : Nat} {l : List Oper} (hm : P.follows .mixedOrders = true) (hB : (Region.lexB .any l.toArray && pairsB .any true 0 l) = true) (h : LexA P (fun x σ' => ∀ fr', Keeps l fr fr' → Q (.panic x) fr' σ') GA l.toArray (fun fr' σ' => Q .normal fr' σ') l fr σ) : AWP rn P (.region id l.toArray true) Q fr σ := fun a w en hi hf {_} hd => by
  simp only [Region.lexB, Bool.and_eq_true] at hB
  refine wpIn_region_any hm (any_in rn (LQ_few _ _ _ _) _ _ _ _ (by exact congrArg List.length hd) ?_)
  refine wpAny_of_AAny (G := GA) (F := fun fr' σ' => Q .normal fr' σ') (X := fun x σ' => ∀ fr', Keeps l fr fr' → Q (.panic x) fr' σ') (fr0 := fr) (fun _ _ h => h) (fun _ _ h fr' hk => h fr' (by simpa using hk)) _ _ fr σ a w.drew en (fun _ _ => rfl) hi.drew (hf.ext .drew) hd .drew ?_
  have := AAny_lex (G := GA) (al := true) (fun _ _ => trivial) (P := P) (X := fun x σ' => ∀ fr', Keeps l fr fr' → Q (.panic x) fr' σ') (md := .any) l 0 (Array.replicate l.toArray.size false) fr σ (by simp) (fun j hj => absurd hj (by omega)) (fun j _ hj => by simp at hj; simp [hj]) (by simpa using hB.1.2) hB.2 h
  simpa using this

/-! ### The walk in order -/
theorem LexA_nil {ops : Array Oper} {F : List V → List AE → Prop} (h : F fr σ) : LexA P X G ops F [] fr σ := h
theorem gdB_on {ops : Array Oper} {o : Oper} {w : World} {en : List CE} {a : Act} (hf : FRon w en fr a (o.looksAt ops)) {b : Bool} (h : gdB ops fr o = some b) : Region.wanted o (yielded ops a.tmps) = b := by
  unfold gdB at h
  unfold Region.wanted
  split at h
  · rename_i hg; rw [hg]; simpa using h
  · rename_i j want hg
    rw [hg]
    split at h
    · rename_i d hd
      have hv := hf d (by simp [Oper.looksAt, hg, hd])
      split at h
      · rename_i b' hb
        rw [hb] at hv
        simp only [VR] at hv
        simp only [yielded_of hd hv]
        simp only [Option.some.injEq] at h
        subst h
        cases b' <;> cases want <;> rfl
      · rename_i g b' hb
        rw [hb] at hv
        simp only [VR] at hv
        simp only [Option.some.injEq] at h
        subst h
        cases g with
        | true =>
          simp only [yielded_of hd (hv.1 rfl)]
          cases b' <;> cases want <;> rfl
        | false =>
          simp only [yielded_undef hd (hv.2 rfl)]
          cases want <;> rfl
      · cases h
    · cases h
theorem on_rd {ops : Array Oper} {o : Oper} {w : World} {en : List CE} {a : Act} (hf : FRon w en fr a (o.looksAt ops)) : Rd w en (gv fr) a o.op := fun y hy =>
  gv_ops (fun t ht => hf t (by unfold Oper.looksAt; exact List.mem_append_left _ ht)) y hy
theorem OpA_of {ops : Array Oper} {o : Oper} {x : V} {σ' : List AE} (hg : o.guard = none) (h : OpOkR P σ (gv fr) o x σ') : OpA P X σ ops o fr x σ' := fun a w en hi hf => by
  have hw : Region.wanted o (yielded ops a.tmps) = true := by unfold Region.wanted; rw [hg]
  rw [if_pos hw]
  exact Oper_wpQ (fun _ _ h => h) (fun _ _ _ hq => hq.elim) (h a w en hi (on_rd hf))
theorem OpA_ofG {ops : Array Oper} {o : Oper} {x : V} {b : Bool} (hg : gdB ops fr o = some b) (h : b = true → OpOkR P σ (fun y => ung b (gv fr y)) o x σ) : OpA P X σ ops o fr (.gd b x) σ := fun a w en hi hf => by
  have hw := gdB_on hf hg
  cases b with
  | true =>
    rw [if_pos hw]
    refine Oper_wpQ (fun a' w' hk => ?_) (fun _ _ _ hq => hq.elim) (h rfl a w en hi (ungR rfl (on_rd hf)))
    obtain ⟨v, en', h0, h1, h2, h3⟩ := hk
    exact ⟨v, en', h0, by simp only [VR]; exact ⟨fun _ => h1, fun e => by cases e⟩, h2, h3⟩
  | false =>
    rw [if_neg (by rw [hw]; simp)]
    simp only [VR]
    exact ⟨⟨fun e => (by cases e), by simp⟩, trivial⟩
theorem Stp_of {ops : Array Oper} {o : Oper} {x : V} {σ' : List AE} (hg : o.guard = none) (he : evalOp P σ (gv fr) o.op = some (x, σ')) : Stp P X G σ ops o fr x σ' := by
  unfold Stp
  split
  · rename_i hp
    have h1 := evalOp_p hp he σ
    rw [he] at h1
    cases h1
    exact ⟨rfl, fun τ => OpA_of hg (evalOp_ok (evalOp_p hp he τ))⟩
  · split
    · rename_i hq
      obtain rfl := evalOp_q hq he
      exact ⟨rfl, OpA_of hg (evalOp_ok he), fun τ _ => OpA_of hg (evalOp_ok (evalOp_app hq he τ))⟩
    · exact ⟨fun hl => evalOp_l hl he, OpA_of hg (evalOp_ok he)⟩
theorem Stp_callA {ops : Array Oper} {o : Oper} {x : V} (hp : isP o.op = false) (hl : isL o.op = false) (h : OpA P X σ ops o fr x σ) (h2 : ∀ τ, G τ → OpA P X (σ ++ τ) ops o fr x (σ ++ τ)) : Stp P X G σ ops o fr x σ := by
  unfold Stp
  rw [if_neg (by rw [hp]; simp)]
  split
  · exact ⟨rfl, h, h2⟩
  · exact ⟨fun e => (by rw [hl] at e; cases e), h⟩
theorem Stp_call {ops : Array Oper} {o : Oper} {x : V} (hp : isP o.op = false) (hl : isL o.op = false) (h : OpA P X σ ops o fr x σ) : Stp P X GN σ ops o fr x σ :=
  Stp_callA hp hl h fun τ hτ => by
    obtain rfl : τ = [] := hτ
    rw [List.append_nil]
    exact h
theorem evalG_l {g : Bool} {rd : Operand → V} {o : Op} (hl : isL o = true) : evalG P σ g rd o = none := by
  cases o <;> simp only [isL] at hl <;> first
    | (cases hl; done)
    | rfl
theorem evalG_p {g : Bool} {rd : Operand → V} {o : Op} {x : V} (hp : isP o = true) (h : evalG P σ g rd o = some x) (τ : List AE) : evalG P τ g rd o = some x := by
  have key : (if isPure o = true then (evalOp P σ (fun x => ung g (rd x)) o).map (·.1) else none) = some x → (if isPure o = true then (evalOp P τ (fun x => ung g (rd x)) o).map (·.1) else none) = some x := fun h => by
    split at h
    · rename_i hq
      rw [if_pos hq]
      obtain ⟨⟨x', σ'⟩, h1, rfl⟩ := Option.map_eq_some_iff.1 h
      rw [evalOp_p hp h1 τ]
      rfl
    · cases h
  cases o <;> first | exact h | exact key h
theorem LexA_evals {ops : Array Oper} {F : List V → List AE → Prop} {rest : List Oper} : ∀ {l : List Oper} {fr fr' : List V} {σ σ' : List AE}, evalOps P ops l fr σ = some (fr', σ') → LexA P X G ops F rest fr' σ' → LexA P X G ops F (l ++ rest) fr σ
  | [], fr, fr', σ, σ', h, k => by
    simp only [evalOps, Option.some.injEq, Prod.mk.injEq] at h
    obtain ⟨rfl, rfl⟩ := h
    exact k
  | o :: l, fr, fr', σ, σ', h, k => by
    simp only [evalOps] at h
    split at h
    · rename_i hg
      split at h
      · rename_i x σ1 he
        exact ⟨x, σ1, Stp_of hg he, LexA_evals h k⟩
      · cases h
    · split at h
      · rename_i g hg
        split at h
        · rename_i x he
          refine ⟨.gd g x, σ, ?_, LexA_evals h k⟩
          have key : ∀ τ, evalG P τ g (gv fr) o.op = some x → OpA P X τ ops o fr (.gd g x) τ := fun τ he a w en hi hf => by
            have hw := gdB_on hf hg
            cases g with
            | true =>
              rw [if_pos hw]
              refine Oper_wpQ (fun a' w' hk => ?_) (fun _ _ _ hq => hq.elim) (evalG_ok rfl he a w en hi (on_rd hf))
              obtain ⟨v, en', h0, h1, h2, h3⟩ := hk
              exact ⟨v, en', h0, by simp only [VR]; exact ⟨fun _ => h1, fun e => by cases e⟩, h2, h3⟩
            | false =>
              rw [if_neg (by rw [hw]; simp)]
              simp only [VR]
              exact ⟨⟨fun e => (by cases e), by simp⟩, trivial⟩
          unfold Stp
          split
          · rename_i hp
            exact ⟨rfl, fun τ => key τ (evalG_p hp he τ)⟩
          · split
            · rename_i hq
              exact ⟨rfl, key σ he, fun τ _ => key _ (evalG_app hq he τ)⟩
            · exact ⟨fun hl => (by rw [evalG_l hl] at he; cases he), key σ he⟩
        · split at h
          · rename_i hf
            refine ⟨.junk, σ, ?_, LexA_evals h k⟩
            have key : ∀ τ, OpA P X τ ops o fr .junk τ := fun τ a w en hi hfr => by
              rw [if_neg (by rw [gdB_on hfr hg, hf]; simp)]
              exact ⟨by simp [VR], rfl⟩
            unfold Stp
            split
            · exact ⟨rfl, key⟩
            · split
              · exact ⟨rfl, key σ, fun τ _ => key _⟩
              · exact ⟨fun _ => ⟨[], by simp⟩, key σ⟩
          · cases h
      · cases h
theorem LexA_pre {ops : Array Oper} {F : List V → List AE → Prop} {o : Oper} {l l' : List Oper} (hc : isCallV o.op = false) (hp : postL (o :: l) = l') (h : ∀ K : List V → List AE → Prop, (∀ fr' σ', LexA P X G ops F l' fr' σ' → K fr' σ') → ∃ fr' σ', evalOps P ops (preL (o :: l)) fr σ = some (fr', σ') ∧ K fr' σ') : LexA P X G ops F (o :: l) fr σ := by
  subst hp
  obtain ⟨fr', σ', h1, h2⟩ := h (fun fr' σ' => LexA P X G ops F (postL (o :: l)) fr' σ') (fun _ _ h => h)
  have := LexA_evals h1 h2
  rwa [pre_post] at this
theorem isP_call {o : Op} {c : Call} {f : Operand} (ho : o = .call c) (hc : c.callee = .value f) : isP o = false := by
  subst ho
  simp only [isP, hc]
theorem isL_call {o : Op} {c : Call} (ho : o = .call c) : isL o = false := by rw [ho]; rfl
theorem LexA_callU {ops : Array Oper} {F : List V → List AE → Prop} {o : Oper} {rest : List Oper} {c : Call} {f : Operand} {g : FuncId} {caps args : List V} {x : V} (h : Gives P g args σ x) (hg : o.guard = none) (ho : o.op = .call c) (hc : c.callee = .value f) (hf : gv fr f = .fn g caps)
    (ha : c.args.toList.map (gv fr) ++ caps = args) (hr : LexA P X GN ops F rest (pt fr o.dst x) σ) : LexA P X GN ops F (o :: rest) fr σ :=
  ⟨x, σ, Stp_call (isP_call ho hc) (isL_call ho) (OpA_of hg (OpOkR_call ho hc hf ha h)), hr⟩
/-- A call where boxes may come up ahead of it. -/
theorem LexA_callA {ops : Array Oper} {F : List V → List AE → Prop} {o : Oper} {rest : List Oper} {c : Call} {f : Operand} {g : FuncId} {caps args : List V} {x : V} (h : ∀ τ, Gives P g args (σ ++ τ) x) (hg : o.guard = none) (ho : o.op = .call c) (hc : c.callee = .value f) (hf : gv fr f = .fn g caps)
    (ha : c.args.toList.map (gv fr) ++ caps = args) (hr : LexA P X G ops F rest (pt fr o.dst x) σ) : LexA P X G ops F (o :: rest) fr σ :=
  ⟨x, σ, Stp_callA (isP_call ho hc) (isL_call ho) (OpA_of hg (OpOkR_call ho hc hf ha (by simpa using h []))) (fun τ _ => OpA_of hg (OpOkR_call ho hc hf ha (h τ))), hr⟩
theorem LexA_callG {ops : Array Oper} {F : List V → List AE → Prop} {o : Oper} {rest : List Oper} {c : Call} {f : Operand} {g : FuncId} {b : Bool} {caps args : List V} {x : V} (hg : gdB ops fr o = some b) (h : b = true → Gives P g args σ x) (ho : o.op = .call c) (hc : c.callee = .value f) (hf : ung b (gv fr f) = .fn g caps)
    (ha : c.args.toList.map (fun y => ung b (gv fr y)) ++ caps = args) (hr : LexA P X GN ops F rest (pt fr o.dst (.gd b x)) σ) : LexA P X GN ops F (o :: rest) fr σ :=
  ⟨.gd b x, σ, Stp_call (isP_call ho hc) (isL_call ho) (OpA_ofG hg fun hb => OpOkR_call (rd := fun y => ung b (gv fr y)) ho hc hf ha (h hb)), hr⟩

/-! ### Calls that turn entries; calls that panic -/
/-- The function gives x and leaves the entries as S. -/
abbrev GivesS (P : Program) (f : FuncId) (args : List V) (σ : List AE) (x : V) (S : List AE) : Prop := ACalls P f args σ (fun r σ' => r = .ret x ∧ σ' = S)
/-- The function panics with y. -/
abbrev Pans (P : Program) (f : FuncId) (args : List V) (σ : List AE) (y : V) : Prop := ACalls P f args σ (fun r σ' => r = .pan y ∧ σ' = σ)
theorem AOps_callR {ops : Array Oper} {o : Oper} {rest : List Oper} {c : Call} {f : Operand} {g : FuncId} {caps args : List V} {R : Out → List AE → Prop} (h : ACalls P g args σ R) (hg : o.guard = none) (ho : o.op = .call c) (hc : c.callee = .value f) (hf : gv fr f = .fn g caps)
    (ha : c.args.toList.map (gv fr) ++ caps = args) (hr : ∀ x σ', R (.ret x) σ' → AOps P ops Q rest (pt fr o.dst x) σ') (hp : ∀ x σ', R (.pan x) σ' → Q (.panic x) fr σ') : AOps P ops Q (o :: rest) fr σ := by
  subst ha
  exact AOps_call_g (by unfold gdB; rw [hg]) ho hc hf h hr hp
theorem AOps_callS {ops : Array Oper} {o : Oper} {rest : List Oper} {c : Call} {f : Operand} {g : FuncId} {caps args : List V} {x : V} {S : List AE} (h : GivesS P g args σ x S) (hg : o.guard = none) (ho : o.op = .call c) (hc : c.callee = .value f) (hf : gv fr f = .fn g caps)
    (ha : c.args.toList.map (gv fr) ++ caps = args) (hr : AOps P ops Q rest (pt fr o.dst x) S) : AOps P ops Q (o :: rest) fr σ :=
  AOps_callR h hg ho hc hf ha (fun x' σ' h => by obtain ⟨h1, rfl⟩ := h; cases h1; exact hr) (fun x' σ' h => by cases h.1)
theorem AOps_callP {ops : Array Oper} {o : Oper} {rest : List Oper} {c : Call} {f : Operand} {g : FuncId} {caps args : List V} {y : V} (h : Pans P g args σ y) (hg : o.guard = none) (ho : o.op = .call c) (hc : c.callee = .value f) (hf : gv fr f = .fn g caps)
    (ha : c.args.toList.map (gv fr) ++ caps = args) (hp : Q (.panic y) fr σ) : AOps P ops Q (o :: rest) fr σ :=
  AOps_callR h hg ho hc hf ha (fun x' σ' h => by cases h.1) (fun x' σ' h => by obtain ⟨h1, rfl⟩ := h; cases h1; exact hp)
/-- What nothing reads as. -/
def nov : V := .ms 0 0 1 0
theorem nov_no {w : World} {en : List CE} {v : Value} (h : VR w en nov v) : False := by
  simp only [nov, VR] at h
  obtain ⟨g, _, _, h1, _⟩ := h
  omega
theorem AWP_nov {c : Code} {t : Nat} (ht : fr.getD t .junk = nov) : AWP rn P c Q fr σ := fun a w en hi hf {_} hd => by
  have := hf.2 t
  rw [ht] at this
  exact (nov_no this).elim
theorem LexA_callP {ops : Array Oper} {F : List V → List AE → Prop} {o : Oper} {rest : List Oper} {c : Call} {f : Operand} {g : FuncId} {caps args : List V} {y : V} (h : Pans P g args σ y) (hg : o.guard = none) (ho : o.op = .call c) (hc : c.callee = .value f) (hf : gv fr f = .fn g caps)
    (ha : c.args.toList.map (gv fr) ++ caps = args) (hX : X y σ) (hr : LexA P X GN ops F rest (pt fr o.dst nov) σ) : LexA P X GN ops F (o :: rest) fr σ :=
  ⟨nov, σ, Stp_call (isP_call ho hc) (isL_call ho) (fun a w en hi hfr => by
    subst ha
    have hw : Region.wanted o (yielded ops a.tmps) = true := by unfold Region.wanted; rw [hg]
    rw [if_pos hw]
    refine Oper_wpQ (fun a' w' hk => ?_) (fun e a' w' hk => ?_) (call_wpR ho hc hf h a w en hi (on_rd hfr))
    · obtain ⟨v, x', σ', en', rfl, h1, _⟩ := hk
      cases h1.1
    · obtain ⟨v, x', σ', en', rfl, rfl, h1, h2, h3, h4⟩ := hk
      obtain ⟨h5, rfl⟩ := h1
      cases h5
      exact ⟨v, y, σ', en', rfl, rfl, hX, h2, h3, h4⟩), hr⟩

end
end Go.Proofs.YtdjjlbjagaadaaaGreatDoor.A
