/- Slice literals, builtins, and all operations in one function. -/
import Derived.Test.YtfagngmikbmmhaaDoorAhEvalb
namespace Go.Proofs.YtfagngmikbmmhaaDoor.A
open Go Go.RowKit
set_option linter.unusedVariables false

section
variable {P : Program} {σ : List AE} {fr : List V}

/-! ### Slice literals -/
def chunks (sz : Nat) : Nat → List V → List (List V)
  | 0, _ => []
  | n + 1, cs => cs.take sz :: chunks sz n (cs.drop sz)
theorem chunks_length (sz : Nat) : ∀ (n : Nat) (cs : List V), (chunks sz n cs).length = n
  | 0, _ => rfl
  | n + 1, cs => by simp [chunks, chunks_length sz n]
theorem chunks_flatten (sz : Nat) : ∀ (n : Nat) (cs : List V), cs.length = n * sz → (chunks sz n cs).flatten = cs
  | 0, cs, h => by simp at h; simp [chunks, h]
  | n + 1, cs, h => by
    simp only [chunks, List.flatten_cons]
    rw [chunks_flatten sz n _ (by rw [List.length_drop, h, Nat.add_mul]; omega), List.take_append_drop]
def buildSliceV (P : Program) (t : TypeId) (len : Nat) (ps : List (Nat × V)) : Option V := match P.underlying t with
  | some (.slice e) => match tySize P e, zerosV P e with
    | some sz, some zs => if len * sz ≤ 16777216 ∧ len * sz ≠ 0 ∧ zs.length = sz then
        (fillA (fun i => some (i * sz, sz)) ((List.range (len * sz)).map fun i => zs.getD (i % sz) .junk) ps).map fun cs => .sl .full (chunks sz len cs)
      else if len = 0 ∧ ps.isEmpty = true then some (.sl .full []) else none
    | _, _ => none
  | _ => none
theorem fillA_length {place : Nat → Option (Nat × Nat)} : ∀ {ps : List (Nat × V)} {cs cs' : List V}, fillA place cs ps = some cs' → cs'.length = cs.length
  | [], cs, cs', h => by simp only [fillA, Option.some.injEq] at h; rw [h]
  | (i, x) :: ps, cs, cs', h => by
    simp only [fillA] at h
    split at h
    · split at h
      · rw [fillA_length h, wr_length]
      · cases h
    · cases h
theorem ER_new {w : World} {en : List CE} (hi : Iv σ en w) {us : Array Value} {T : TypeId} {fz : Nat × Nat} {cs : List V} (hl : LR w en cs us.toList) (h1 : ∀ u ∈ us.toList, u.oneCell' = true) : ER (w.alloc (.cells us T fz)) en cs w.heap.size 0 := by
  have he : Ext w en (w.alloc (.cells us T fz)) en := .alloc0 _
  refine ER_mk fun i x hx => ?_
  obtain ⟨u, hu, hv⟩ := LR_get hl i x hx
  refine ⟨u, ⟨?_, fun y hy => ?_⟩, h1 u (List.mem_of_getElem? hu), VR_ext he _ _ hv⟩
  · exact cell_of_heap (heap_alloc_new w _) i u hu
  · cases y with
    | box g => have := hi.lt hy rfl; simp only [okc]; omega
    | glob => trivial
    | tok ver v n sz => intro hv; have := hi.lt hy hv; omega
    | row ver v n sz => intro hv; have := hi.lt hy hv; omega
theorem buildSlice_ok {w : World} {en : List CE} (hi : Iv σ en w) {t : TypeId} {len : Nat} {ps : List (Nat × V)} {vs : Array (Nat × Value)} {z : V} (hp : PR w en ps vs.toList) (h : buildSliceV P t len ps = some z) :
    ∃ v w', (Instr.buildSlice t len vs).run P w = .ok v w' ∧ VR w' en z v ∧ Iv σ en w' ∧ Ext w en w' en := by
  unfold buildSliceV at h
  split at h
  · rename_i e ht
    split at h
    · rename_i sz zs hsz hz
      split at h
      · rename_i hc
        obtain ⟨hc1, hc2, hc3⟩ := hc
        simp only [Option.map_eq_some_iff] at h
        obtain ⟨cs, h1, rfl⟩ := h
        unfold zerosV at hz
        split at hz
        · rename_i z0 h0
          split at hz
          · rename_i hall
            simp only [Option.some.injEq] at hz
            subst hz
            have hz0 : z0.cells.size = sz := by simpa using hc3
            have hone : ∀ u ∈ z0.cells.toList, u.oneCell' = true := fun u hu => by
              rw [Array.all_eq_true_iff_forall_mem] at hall
              exact hall u (by simpa using hu)
            have hszp : 0 < sz := by
              rcases Nat.eq_zero_or_pos sz with h | h
              · subst h; simp at hc2
              · exact h
            have hget : ∀ i : Nat, z0.cells[i % z0.cells.size]! = z0.cells.toList.getD (i % sz) undef := fun i => by
              have hlt : i % sz < z0.cells.size := by rw [hz0]; exact Nat.mod_lt _ hszp
              rw [hz0, List.getD_eq_getElem?_getD, List.getElem?_eq_getElem (by simpa using hlt)]
              simp [getElem!_def, Array.getElem?_eq_getElem hlt]
            have hl0 : LR w en ((List.range (len * sz)).map fun i => (z0.cells.toList.map cv).getD (i % sz) .junk) ((Array.range (len * sz)).map (fun x => z0.cells[x % z0.cells.size]!)).toList := by
              refine LR_mk (by simp) fun i x u hx hu => ?_
              simp only [List.getElem?_map, Array.toList_map, Array.toList_range] at hx hu
              cases hr : (List.range (len * sz))[i]? with
              | none => rw [hr] at hx; cases hx
              | some j =>
                rw [hr] at hx hu
                simp only [Option.map_some, Option.some.injEq] at hx hu
                subst hx; subst hu
                rw [hget]
                have hlt : j % sz < z0.cells.toList.length := by simp [hz0]; exact Nat.mod_lt _ hszp
                rw [List.getD_eq_getElem?_getD, List.getD_eq_getElem?_getD, List.getElem?_map, List.getElem?_eq_getElem hlt]
                simpa using VR_cv w en _
            have h10 : ∀ u ∈ ((Array.range (len * sz)).map (fun x => z0.cells[x % z0.cells.size]!)).toList, u.oneCell' = true := fun u hu => by
              simp only [Array.toList_map, List.mem_map] at hu
              obtain ⟨j, _, rfl⟩ := hu
              rw [hget]
              have hlt : j % sz < z0.cells.toList.length := by simp [hz0]; exact Nat.mod_lt _ hszp
              rw [List.getD_eq_getElem?_getD, List.getElem?_eq_getElem hlt]
              exact hone _ (by simp)
            obtain ⟨ds, h2, h3, h4⟩ := fill_ok hl0 h10 hp h1
            have hlen : cs.length = len * sz := by rw [fillA_length h1]; simp
            refine ⟨.slice (some ⟨w.heap.size, 0, none⟩) len len, w.alloc (.cells ds e), ?_, ?_, hi.alloc0 _, .alloc0 _⟩
            · have hng : ¬ (16777216 < len * sz) := by omega
              simp [Instr.buildSlice, run_underlying ht, run_sizeOf hsz, run_zero h0, hng, h2, newRow]
              exact fun h => absurd h hc2
            · simp only [VR]
              have hm : len ≤ maxLen := by
                have : len ≤ len * sz := Nat.le_mul_of_pos_right _ hszp
                simp only [maxLen]; omega
              refine ⟨some ⟨w.heap.size, 0, none⟩, len, by rw [chunks_length], by rw [chunks_length]; exact Nat.le_refl _, hm, by rw [chunks_length]; rfl, fun _ => ⟨w.heap.size, 0, rfl, RR_mk ?_⟩⟩
              rw [chunks_flatten sz len cs hlen]
              exact ER_new hi h3 h4
          · cases hz
        · cases hz
      · split at h
        · rename_i hc
          obtain ⟨rfl, he⟩ := hc
          cases h
          have hp0 : vs = #[] := by
            cases ps with
            | nil => simp only [PR] at hp; simpa using hp
            | cons _ _ => simp at he
          subst hp0
          refine ⟨.slice (some ⟨w.heap.size, 0, none⟩) 0 0, w.alloc (.cells #[] e), ?_, ?_, hi.alloc0 _, .alloc0 _⟩
          · simp [Instr.buildSlice, run_underlying ht, run_sizeOf hsz, Instr.fill, newRow]
            congr 2
            apply Array.eq_empty_of_size_eq_zero
            simp
          · simp only [VR]
            exact ⟨_, 0, rfl, Nat.le_refl _, Nat.zero_le _, rfl, fun h => absurd rfl h⟩
        · cases h
    · cases h
  · cases h

/-! ### Builtins -/
def lenV (P : Program) (t : TypeId) (x : V) : Option V := match P.underlying t, x with
  | some .string, .str l => some (.int .i64 l.length)
  | some (.slice _), .sl _ xs => some (.int .i64 xs.length)
  | some (.slice _), .ms _ _ n _ => some (.int .i64 n)
  | some (.slice _), .rw _ _ n => some (.int .i64 n)
  | some (.slice _), .rs _ _ _ n => some (.int .i64 n)
  | some (.array n _), .junk => some (.int .i64 n)
  | _, _ => none
theorem len_ok {w : World} {en : List CE} {t ty : TypeId} {x z : V} {u : Value} (hx : VR w en x u) (h : lenV P t x = some z) : ∃ r, (Builtin.len_ #[t] ty #[u]).run P w = .ok r w ∧ VR w en z r := by
  unfold lenV at h
  split at h
  · rename_i l ht
    cases h
    simp only [VR] at hx
    subst hx
    have hsz : (⟨l.toArray⟩ : ByteArray).size = l.length := rfl
    exact ⟨.int .i64 l.length, by simp [Builtin.len_, run_underlying ht, goInt, hsz], by simp [VR]⟩
  · rename_i tg xs ht
    cases h
    simp only [VR] at hx
    obtain ⟨A, c, rfl, _⟩ := hx
    exact ⟨.int .i64 xs.length, by simp [Builtin.len_, run_underlying ht, goInt], by simp [VR]⟩
  · rename_i n _ ht
    cases h
    simp only [VR] at hx
    obtain ⟨g, _, rfl, _⟩ := hx
    exact ⟨.int .i64 n, by simp [Builtin.len_, run_underlying ht, goInt], by simp [VR]⟩
  · rename_i n ht
    cases h
    simp only [VR] at hx
    obtain ⟨A, c, cur, v0, n0, sz, rfl, _⟩ := hx
    exact ⟨.int .i64 n, by simp [Builtin.len_, run_underlying ht, goInt], by simp [VR]⟩
  · rename_i n ht
    cases h
    simp only [VR] at hx
    obtain ⟨A, c, cur, v0, n0, sz, rfl, _⟩ := hx
    exact ⟨.int .i64 n, by simp [Builtin.len_, run_underlying ht, goInt], by simp [VR]⟩
  · rename_i n _ ht
    cases h
    exact ⟨.int .i64 n, by simp [Builtin.len_, run_underlying ht, goInt], by simp [VR]⟩
  · cases h
/-- max, min: of two and more whole numbers of one kind. -/
def mm (mx : Bool) (k : IntKind) (a : Int) : List V → Option V
  | [] => some (.int k a)
  | .int _ b :: xs => mm mx k (if mx then (if b > a then b else a) else (if b < a then b else a)) xs
  | _ => none
def mmV (mx : Bool) : List V → Option V
  | .int k a :: xs => mm mx k a xs
  | _ => none
theorem mm_ok {w : World} {en : List CE} (mx : Bool) : ∀ {xs : List V} {us : List Value} {k : IntKind} {a : Int} {z : V}, LR w en xs us → mm mx k a xs = some z → ∃ r, (us.foldlM (if mx then Builtin.max2 else Builtin.min2) (.int k a)).run P w = .ok r w ∧ VR w en z r
  | [], us, k, a, z, hl, h => by
    simp only [LR] at hl
    subst hl
    simp only [mm, Option.some.injEq] at h
    subst h
    exact ⟨.int k a, by simp, by simp [VR]⟩
  | x :: xs, us, k, a, z, hl, h => by
    simp only [LR] at hl
    obtain ⟨u, us', rfl, h1, h2⟩ := hl
    cases x <;> simp only [mm] at h <;> first | cases h; done | skip
    rename_i k' b
    simp only [VR] at h1
    subst h1
    obtain ⟨r, h3, h4⟩ := mm_ok mx h2 h
    refine ⟨r, ?_, h4⟩
    rw [List.foldlM_cons]
    cases mx <;> simp [Builtin.max2, Builtin.min2] at h3 ⊢ <;> exact h3
theorem mmV_ok {w : World} {en : List CE} (mx : Bool) {xs : List V} {us : List Value} {z : V} (hl : LR w en xs us) (h : mmV mx xs = some z) (ts : Array TypeId) (ty : TypeId) : ∃ r, (if mx then Builtin.max_ ts ty us.toArray else Builtin.min_ ts ty us.toArray).run P w = .ok r w ∧ VR w en z r := by
  unfold mmV at h
  split at h
  · rename_i k a xs'
    simp only [LR] at hl
    obtain ⟨u, us', rfl, h1, h2⟩ := hl
    simp only [VR] at h1
    subst h1
    obtain ⟨r, h3, h4⟩ := mm_ok mx h2 h
    refine ⟨r, ?_, h4⟩
    cases mx <;> simp [Builtin.max_, Builtin.min_] at h3 ⊢ <;> exact h3
  · cases h
def biV (P : Program) (b : Builtin) (ts : Array TypeId) (xs : List V) : Option V := match b, xs with
  | .len, [x] => match ts.toList with
    | [t] => lenV P t x
    | _ => none
  | .max, xs => mmV true xs
  | .min, xs => mmV false xs
  | _, _ => none

/-! ### All of them -/
def retV (σ : List AE) (x : Option V) : Option (V × List AE) := x.map fun x => (x, σ)
def nilV : V → Option V
  | .ptr b o => some (.ptr b o)
  | .ep cs => some (.ep cs)
  | .fn f cs => some (.fn f cs)
  | .rp k ver o => some (.rp k ver o)
  | _ => none
/-- What is there where g holds. -/
def ung (g : Bool) : V → V
  | .gd g' x => bif (!g || g') then x else .junk
  | x => x
theorem ung_ok {w : World} {en : List CE} {g : Bool} (hg : g = true) {x : V} {v : Value} (h : VR w en x v) : VR w en (ung g x) v := by
  subst hg
  unfold ung
  split
  · rename_i g' x'
    simp only [VR] at h
    cases g' with
    | true => exact h.1 rfl
    | false => simp [VR]
  · exact h
def pickV (c a b : V) : Option V := match c with
  | .bool t => some (bif t then ung t a else ung (!t) b)
  | _ => none
def pickG (g : Bool) (c a b : V) : Option V := match ung g c with
  | .bool t => some (bif t then ung (g && t) a else ung (g && !t) b)
  | _ => none
def extV (x : V) (i : Nat) : Option V := match x with
  | .tup cs => cs[i]?
  | _ => none
def ixOf : V → Option Int
  | .int _ n => some n
  | _ => none
def mkfV (fn : Fn) (first : Array Operand) (cs : List V) : Option V := match fn with
  | .func f => if first.size = 0 then some (.fn f cs) else none
  | _ => none
def evalOp (P : Program) (σ : List AE) (rd : Operand → V) : Op → Option (V × List AE)
  | .move x => some (rd x, σ)
  | .assign x => some (rd x, σ)
  | .pick c a b => retV σ (pickV (rd c) (rd a) (rd b))
  | .alloc t => allocS P σ t
  | .box _ x => boxS σ (rd x)
  | .build t ps => retV σ (buildV P t (ps.toList.map fun p => (p.1, rd p.2)))
  | .buildSlice t n ps => retV σ (buildSliceV P t n (ps.toList.map fun p => (p.1, rd p.2)))
  | .load t a => retV σ (loadV P σ t (rd a))
  | .store t a x => storeS P σ t (rd a) (rd x)
  | .nilCheck x => retV σ (nilV (rd x))
  | .binOp op t x y _ => retV σ (boT P t op (rd x) (rd y))
  | .unOp op _ x => retV σ (uo op (rd x))
  | .convert s d x => retV σ (cvt P s d (rd x))
  | .makeFunc fn first cs => retV σ (mkfV fn first (cs.toList.map rd))
  | .slice t x lo hi mx => retV σ (sliceV P t (rd x) (lo.map rd) (hi.map rd) (mx.map rd))
  | .fieldAddr s x f => retV σ (fieldAddrV P s f (rd x))
  | .field s x f => retV σ (fieldV P s f (rd x))
  | .indexAddr t x i => retV σ ((ixOf (rd i)).bind (indexAddrV P t (rd x)))
  | .index t x i => retV σ ((ixOf (rd i)).bind (indexV P t (rd x)))
  | .extract x i => retV σ (extV (rd x) i)
  | .call c => match c.callee with
    | .builtin b => retV σ (biV P b c.argTypes (c.args.toList.map rd))
    | _ => none
  | _ => none

/-- What the operation's operands read as. -/
def Rd (w : World) (en : List CE) (rd : Operand → V) (a : Act) (o : Op) : Prop := ∀ x ∈ o.operands, VR w en (rd x) (a.eval x)
def OpOkR (P : Program) (σ : List AE) (rd : Operand → V) (o : Oper) (x : V) (σ' : List AE) : Prop :=
  ∀ (a : Act) (w : World) (en : List CE), Iv σ en w → Rd w en rd a o.op →
    Oper.wp P o a w (fun a' w' => ∃ v en', a' = a.put o.dst v ∧ VR w' en' x v ∧ Iv σ' en' w' ∧ Ext w en w' en') (fun _ _ _ => False)
section
variable {rd : Operand → V}
theorem OpOk_val {o : Oper} {x : V} (h : ∀ (a : Act) (w : World) (en : List CE), Iv σ en w → Rd w en rd a o.op → ∃ v, (execOp a.eval o).run P w = .ok (.value v) w ∧ VR w en x v) : OpOkR P σ rd o x σ := fun a w en hi hf => by
  obtain ⟨v, h1, h2⟩ := h a w en hi hf
  unfold Oper.wp
  rw [h1]
  exact ⟨v, en, rfl, h2, hi, Ext.refl w en⟩
theorem rargs_ok {w : World} {en : List CE} {a : Act} {o : Op} (h : Rd w en rd a o) : ∀ (xs : List Operand), (∀ x ∈ xs, x ∈ o.operands) → LR w en (xs.map rd) (xs.map a.eval)
  | [], _ => by simp [LR]
  | x :: xs, hx => by
    simp only [List.map_cons, LR]
    exact ⟨_, _, rfl, h x (hx x List.mem_cons_self), rargs_ok h xs (fun y hy => hx y (List.mem_cons_of_mem _ hy))⟩
theorem PR_ok {w : World} {en : List CE} {a : Act} {o : Op} (h : Rd w en rd a o) : ∀ (ps : List (Nat × Operand)), (∀ p ∈ ps, p.2 ∈ o.operands) → PR w en (ps.map fun p => (p.1, rd p.2)) (ps.map fun p => (p.1, a.eval p.2))
  | [], _ => by simp [PR]
  | p :: ps, hx => by
    simp only [List.map_cons, PR]
    exact ⟨_, _, rfl, h p.2 (hx p List.mem_cons_self), PR_ok h ps (fun q hq => hx q (List.mem_cons_of_mem _ hq))⟩
theorem VRo_ok {w : World} {en : List CE} {a : Act} {o : Op} (h : Rd w en rd a o) (x : Option Operand) (hx : ∀ y, x = some y → y ∈ o.operands) : VRo w en (x.map rd) (x.map a.eval) := by
  cases x with
  | none => trivial
  | some y => exact h y (hx y rfl)
theorem ret_some {x : Option V} {z : V} {σ' : List AE} (h : retV σ x = some (z, σ')) : x = some z ∧ σ' = σ := by
  unfold retV at h
  simp only [Option.map_eq_some_iff, Prod.mk.injEq] at h
  obtain ⟨y, h1, rfl, rfl⟩ := h
  exact ⟨h1, rfl⟩
theorem ixOf_ok {w : World} {en : List CE} {x : V} {n : Int} {v : Value} (h : ixOf x = some n) (hv : VR w en x v) : ∃ k, v = .int k n := by
  unfold ixOf at h
  split at h
  · cases h; simp only [VR] at hv; exact ⟨_, hv⟩
  · cases h

theorem evalOp_ok {o : Oper} {x : V} {σ' : List AE} (h : evalOp P σ rd o.op = some (x, σ')) : OpOkR P σ rd o x σ' := by
  obtain ⟨dst, op, type, pos, after, guard⟩ := o
  cases op <;> simp only [evalOp] at h
  case move =>
    cases h
    exact OpOk_val fun a w en hi hf => ⟨_, rfl, hf _ (by simp [Op.operands])⟩
  case assign =>
    cases h
    exact OpOk_val fun a w en hi hf => ⟨_, rfl, hf _ (by simp [Op.operands])⟩
  case pick =>
    rename_i c p q
    obtain ⟨h1, rfl⟩ := ret_some h
    refine OpOk_val fun a w en hi hf => ?_
    have hc := hf c (by simp [Op.operands])
    have hp := hf p (by simp [Op.operands])
    have hq := hf q (by simp [Op.operands])
    unfold pickV at h1
    split at h1
    · rename_i t ht
      cases h1
      rw [ht] at hc
      simp only [VR] at hc
      refine ⟨if t then a.eval p else a.eval q, by simp [execOp, hc, asBool], ?_⟩
      cases t with
      | true => simpa using ung_ok rfl hp
      | false => simpa using ung_ok rfl hq
    · cases h1
  case alloc =>
    rename_i t
    refine fun a w en hi hf => ?_
    obtain ⟨v, w', en', h1, h2, h3, h4⟩ := alloc_ok hi h
    unfold Oper.wp
    have : (execOp a.eval ⟨dst, .alloc t, type, pos, after, guard⟩).run P w = .ok (.value v) w' := by simp only [execOp, Sem.run_bind, h1, Result.andThen_ok, Sem.run_pure]
    rw [this]
    exact ⟨v, en', rfl, h2, h3, h4⟩
  case box =>
    rename_i t y
    refine fun a w en hi hf => ?_
    obtain ⟨v, w', en', h1, h2, h3, h4⟩ := box_ok (P := P) (t := t) hi (hf y (by simp [Op.operands])) h
    unfold Oper.wp
    have : (execOp a.eval ⟨dst, .box t y, type, pos, after, guard⟩).run P w = .ok (.value v) w' := by simp only [execOp, Sem.run_bind, h1, Result.andThen_ok, Sem.run_pure]
    rw [this]
    exact ⟨v, en', rfl, h2, h3, h4⟩
  case build =>
    rename_i t ps
    obtain ⟨h1, rfl⟩ := ret_some h
    refine OpOk_val fun a w en hi hf => ?_
    obtain ⟨r, h2, h3⟩ := build_ok (vs := ps.map fun (i, x) => (i, a.eval x)) (by
      have := PR_ok hf ps.toList (fun p hp => by simp only [Op.operands]; exact List.mem_toArray.2 (List.mem_map.2 ⟨p, hp, rfl⟩))
      simpa using this) h1
    exact ⟨r, by simp only [execOp, Sem.run_bind, h2, Result.andThen_ok, Sem.run_pure], h3⟩
  case buildSlice =>
    rename_i t n ps
    obtain ⟨h1, rfl⟩ := ret_some h
    refine fun a w en hi hf => ?_
    obtain ⟨v, w', h2, h3, h4, h5⟩ := buildSlice_ok (vs := ps.map fun (i, x) => (i, a.eval x)) hi (by
      have := PR_ok hf ps.toList (fun p hp => by simp only [Op.operands]; exact List.mem_toArray.2 (List.mem_map.2 ⟨p, hp, rfl⟩))
      simpa using this) h1
    unfold Oper.wp
    have : (execOp a.eval ⟨dst, .buildSlice t n ps, type, pos, after, guard⟩).run P w = .ok (.value v) w' := by simp only [execOp, Sem.run_bind, h2, Result.andThen_ok, Sem.run_pure]
    rw [this]
    exact ⟨v, en, rfl, h3, h4, h5⟩
  case load =>
    rename_i t y
    obtain ⟨h1, rfl⟩ := ret_some h
    refine OpOk_val fun a w en hi hf => ?_
    obtain ⟨r, h2, h3⟩ := load_ok hi (hf y (by simp [Op.operands])) h1
    exact ⟨r, by simp only [execOp, Sem.run_bind, h2, Result.andThen_ok, Sem.run_pure], h3⟩
  case store =>
    rename_i t y z
    refine fun a w en hi hf => ?_
    obtain ⟨w', h1, rfl, h3, h4⟩ := store_ok hi (hf y (by simp [Op.operands])) (hf z (by simp [Op.operands])) h
    unfold Oper.wp
    have : (execOp a.eval ⟨dst, .store t y z, type, pos, after, guard⟩).run P w = .ok .skip w' := by simp only [execOp, Sem.run_bind, h1, Result.andThen_ok, Sem.run_pure]
    rw [this]
    exact ⟨undef, en, rfl, by simp [VR], h3, h4⟩
  case nilCheck =>
    rename_i y
    obtain ⟨h1, rfl⟩ := ret_some h
    refine OpOk_val fun a w en hi hf => ?_
    have hy := hf y (by simp [Op.operands])
    unfold nilV at h1
    split at h1
    · rename_i b o he
      cases h1
      rw [he] at hy
      have hy' := hy
      simp only [VR] at hy
      obtain ⟨g, _, e⟩ := hy
      exact ⟨a.eval y, by simp [execOp, e], hy'⟩
    · rename_i cs he
      cases h1
      rw [he] at hy
      have hy' := hy
      simp only [VR] at hy
      obtain ⟨g, o, e, _⟩ := hy
      exact ⟨a.eval y, by simp [execOp, e], hy'⟩
    · rename_i f cs he
      cases h1
      rw [he] at hy
      have hy' := hy
      simp only [VR] at hy
      obtain ⟨us, e, _⟩ := hy
      exact ⟨a.eval y, by simp [execOp, e], hy'⟩
    · rename_i k ver o he
      cases h1
      rw [he] at hy
      have hy' := hy
      simp only [VR] at hy
      obtain ⟨g, cur, v0, n0, sz, e, _⟩ := hy
      exact ⟨a.eval y, by simp [execOp, e], hy'⟩
    · cases h1
  case binOp =>
    rename_i op t y z _
    obtain ⟨h1, rfl⟩ := ret_some h
    refine OpOk_val fun a w en hi hf => ?_
    obtain ⟨r, h2, h3⟩ := boT_ok (hf y (by simp [Op.operands])) (hf z (by simp [Op.operands])) t h1 y z
    exact ⟨r, by simp only [execOp, Sem.run_bind] at h2 ⊢; rw [h2]; rfl, h3⟩
  case unOp =>
    rename_i op _ y
    obtain ⟨h1, rfl⟩ := ret_some h
    refine OpOk_val fun a w en hi hf => ?_
    obtain ⟨r, h2, h3⟩ := uo_ok (P := P) (hf y (by simp [Op.operands])) h1
    exact ⟨r, by simp only [execOp, Sem.run_bind, h2, Result.andThen_ok, Sem.run_pure], h3⟩
  case convert =>
    rename_i s d y
    obtain ⟨h1, rfl⟩ := ret_some h
    refine OpOk_val fun a w en hi hf => ?_
    obtain ⟨r, h2, h3⟩ := cvt_ok (hf y (by simp [Op.operands])) h1
    exact ⟨r, by simp only [execOp, Sem.run_bind, h2, Result.andThen_ok, Sem.run_pure], h3⟩
  case makeFunc fn first cs =>
    obtain ⟨h1, rfl⟩ := ret_some h
    unfold mkfV at h1
    split at h1
    · rename_i f
      split at h1
      · rename_i h0
        cases h1
        have hfe : first = #[] := Array.eq_empty_of_size_eq_zero h0
        subst hfe
        refine OpOk_val fun a w en hi hf => ?_
        refine ⟨.func (.func f) #[] (cs.map a.eval), by simp [execOp, Instr.makeFunc], ?_⟩
        simp only [VR]
        have := rargs_ok hf cs.toList (fun x hx => by simp only [Op.operands]; simpa using hx)
        exact ⟨_, rfl, by simpa using this⟩
      · cases h1
    · cases h1
  case slice =>
    rename_i t y lo hi' mx
    obtain ⟨h1, rfl⟩ := ret_some h
    refine OpOk_val fun a w en hi hf => ?_
    obtain ⟨r, h2, h3⟩ := slice_ok (hf y (by simp [Op.operands])) (VRo_ok hf lo (fun y hy => by subst hy; simp [Op.operands])) (VRo_ok hf hi' (fun y hy => by subst hy; simp [Op.operands])) (VRo_ok hf mx (fun y hy => by subst hy; simp [Op.operands])) h1
    exact ⟨r, by simp only [execOp, Sem.run_bind, h2, Result.andThen_ok, Sem.run_pure], h3⟩
  case fieldAddr =>
    rename_i s y f
    obtain ⟨h1, rfl⟩ := ret_some h
    refine OpOk_val fun a w en hi hf => ?_
    obtain ⟨r, h2, h3⟩ := fieldAddr_ok (hf y (by simp [Op.operands])) h1
    exact ⟨r, by simp only [execOp, Sem.run_bind, h2, Result.andThen_ok, Sem.run_pure], h3⟩
  case field =>
    rename_i s y f
    obtain ⟨h1, rfl⟩ := ret_some h
    refine OpOk_val fun a w en hi hf => ?_
    obtain ⟨r, h2, h3⟩ := field_ok (hf y (by simp [Op.operands])) h1
    exact ⟨r, by simp only [execOp, Sem.run_bind, h2, Result.andThen_ok, Sem.run_pure], h3⟩
  case indexAddr =>
    rename_i t y i
    obtain ⟨h1, rfl⟩ := ret_some h
    refine OpOk_val fun a w en hi hf => ?_
    simp only [Option.bind_eq_some_iff] at h1
    obtain ⟨n, hn, h1⟩ := h1
    obtain ⟨k, hk⟩ := ixOf_ok hn (hf i (by simp [Op.operands]))
    obtain ⟨r, h2, h3⟩ := indexAddr_ok (k := k) (hf y (by simp [Op.operands])) h1
    exact ⟨r, by simp only [execOp, Sem.run_bind, hk, h2, Result.andThen_ok, Sem.run_pure], h3⟩
  case index =>
    rename_i t y i
    obtain ⟨h1, rfl⟩ := ret_some h
    refine OpOk_val fun a w en hi hf => ?_
    simp only [Option.bind_eq_some_iff] at h1
    obtain ⟨n, hn, h1⟩ := h1
    obtain ⟨k, hk⟩ := ixOf_ok hn (hf i (by simp [Op.operands]))
    obtain ⟨r, h2, h3⟩ := index_ok (k := k) (hf y (by simp [Op.operands])) h1
    exact ⟨r, by simp only [execOp, Sem.run_bind, hk, h2, Result.andThen_ok, Sem.run_pure], h3⟩
  case extract =>
    rename_i y i
    obtain ⟨h1, rfl⟩ := ret_some h
    refine OpOk_val fun a w en hi hf => ?_
    have hy := hf y (by simp [Op.operands])
    unfold extV at h1
    split at h1
    · rename_i cs he
      rw [he] at hy
      simp only [VR] at hy
      obtain ⟨us, e, hl⟩ := hy
      obtain ⟨u, h2, h3⟩ := LR_get hl i _ h1
      rw [Array.getElem?_toList] at h2
      exact ⟨u, by simp [execOp, e, Instr.extract, h2], h3⟩
    · cases h1
  case call c =>
    split at h
    rotate_left
    · cases h
    rename_i b hcb
    obtain ⟨callee, as, ts⟩ := c
    simp only at hcb
    subst hcb
    obtain ⟨h1, rfl⟩ := ret_some h
    refine OpOk_val fun a w en hi hf => ?_
    have hl := rargs_ok hf as.toList (fun x hx => by simp [Op.operands, Call.operands]; simpa using hx)
    unfold biV at h1
    split at h1
    · rename_i y he
      split at h1
      · rename_i t htt
        have hts : ts = #[t] := by simpa using congrArg List.toArray htt
        rw [he] at hl
        simp only [LR] at hl
        obtain ⟨u, us', hu, h3, h4⟩ := hl
        subst h4
        obtain ⟨r, h5, h6⟩ := len_ok (ty := type) h3 h1
        have has : as.map a.eval = #[u] := by
          have h0 : (as.toList.map a.eval).toArray = #[u] := congrArg List.toArray hu
          rw [← h0, ← List.map_toArray, Array.toArray_toList]
        refine ⟨r, ?_, h6⟩
        simp only [execOp, resolve, Sem.run_bind, Sem.run_pure, Result.andThen_ok, invoke, builtin, has, hts, h5]
      · cases h1
    · obtain ⟨r, h5, h6⟩ := mmV_ok (P := P) true hl h1 ts type
      refine ⟨r, ?_, h6⟩
      have has : as.map a.eval = (as.toList.map a.eval).toArray := by rw [← List.map_toArray, Array.toArray_toList]
      simp only [if_true] at h5
      simp only [execOp, resolve, Sem.run_bind, Sem.run_pure, Result.andThen_ok, invoke, builtin, has, h5]
    · obtain ⟨r, h5, h6⟩ := mmV_ok (P := P) false hl h1 ts type
      refine ⟨r, ?_, h6⟩
      have has : as.map a.eval = (as.toList.map a.eval).toArray := by rw [← List.map_toArray, Array.toArray_toList]
      simp only [Bool.false_eq_true, if_false] at h5
      simp only [execOp, resolve, Sem.run_bind, Sem.run_pure, Result.andThen_ok, invoke, builtin, has, h5]
    · cases h1
  all_goals cases h

end

/-- Operations that turn no entry. -/
def isPure : Op → Bool
  | .alloc _ => false
  | .box _ _ => false
  | .store _ _ _ => false
  | .pick _ _ _ => false
  | _ => true
theorem evalOp_pure {rd : Operand → V} {o : Op} {x : V} {σ' : List AE} (hp : isPure o = true) (h : evalOp P σ rd o = some (x, σ')) : σ' = σ := by
  cases o <;> simp only [isPure] at hp <;> simp only [evalOp] at h <;> first
    | (cases hp; done)
    | (exact (ret_some h).2)
    | (cases h; done)
    | (cases h; rfl)
    | (split at h <;> first | exact (ret_some h).2 | cases h)
/-- An operation under a guard. -/
def evalG (P : Program) (σ : List AE) (g : Bool) (rd : Operand → V) : Op → Option V
  | .pick c a b => pickG g (rd c) (rd a) (rd b)
  | o => if isPure o = true then (evalOp P σ (fun x => ung g (rd x)) o).map (·.1) else none
theorem evalG_ok {g : Bool} {rd : Operand → V} {o : Oper} {x : V} (hg : g = true) (h : evalG P σ g rd o.op = some x) : OpOkR P σ rd o x σ := by
  have key : isPure o.op = true → (evalOp P σ (fun x => ung g (rd x)) o.op).map (·.1) = some x → OpOkR P σ rd o x σ := fun hp he => by
    simp only [Option.map_eq_some_iff] at he
    obtain ⟨⟨x', σ'⟩, h1, rfl⟩ := he
    have := evalOp_pure hp h1
    subst this
    exact fun a w en hi hf => evalOp_ok h1 a w en hi (fun y hy => ung_ok hg (hf y hy))
  obtain ⟨dst, op, type, pos, after, guard⟩ := o
  cases op <;> simp only [evalG] at h
  case pick c p q =>
    refine OpOk_val fun a w en hi hf => ?_
    have hc := ung_ok hg (hf c (by simp [Op.operands]))
    have hp := hf p (by simp [Op.operands])
    have hq := hf q (by simp [Op.operands])
    unfold pickG at h
    split at h
    · rename_i t ht
      cases h
      rw [ht] at hc
      simp only [VR] at hc
      refine ⟨if t then a.eval p else a.eval q, by simp [execOp, hc, asBool], ?_⟩
      subst hg
      cases t with
      | true => simpa using ung_ok rfl hp
      | false => simpa using ung_ok rfl hq
    · cases h
  all_goals
    split at h
    · rename_i hp; exact key hp h
    · cases h

theorem OpOk_of {o : Oper} {x : V} {σ' : List AE} (h : OpOkR P σ (gv fr) o x σ') : OpOk P σ fr o x σ' := fun a w en hi hf => h a w en hi (fun _ hy => gv_ops hf _ hy)
theorem AOps_eval {ops : Array Oper} {Q : APost} {o : Oper} {rest : List Oper} {x : V} {σ' : List AE} (hg : o.guard = none) (ho : evalOp P σ (gv fr) o.op = some (x, σ')) (h : AOps P ops Q rest (pt fr o.dst x) σ') : AOps P ops Q (o :: rest) fr σ := AOps_op hg (OpOk_of (evalOp_ok ho)) h
theorem AOps_evalG {ops : Array Oper} {Q : APost} {o : Oper} {rest : List Oper} {g : Bool} {x : V} (hg : gdB ops fr o = some g) (ho : evalG P σ g (gv fr) o.op = some x) (h : AOps P ops Q rest (pt fr o.dst (.gd g x)) σ) : AOps P ops Q (o :: rest) fr σ := fun a w en hi hf {_} hd => by
  unfold wpList
  have hw := gdB_ok hf hg
  cases g with
  | true =>
    rw [if_pos hw]
    refine .inl ?_
    refine Oper_wpQ (fun a' w' hk => ?_) (fun _ _ _ hq => hq.elim) (OpOk_of (evalG_ok rfl ho) a w en hi (hf.on _))
    obtain ⟨v, en', rfl, h1, h2, h3⟩ := hk
    refine wpList_mono (fun _ _ _ hq => LQ_ext h3 hq) _ _ _ (h _ w' en' h2 ((hf.ext h3).put (by simp only [VR]; exact ⟨fun _ => h1, fun e => by cases e⟩) _) ?_)
    cases o.dst <;> simpa [Act.put] using hd
  | false =>
    rw [if_neg (by rw [hw]; simp)]
    refine h _ w en hi (hf.put (by simp [VR]) _) ?_
    cases o.dst <;> simpa [Act.put] using hd

end
end Go.Proofs.YtfagngmikbmmhaaDoor.A
