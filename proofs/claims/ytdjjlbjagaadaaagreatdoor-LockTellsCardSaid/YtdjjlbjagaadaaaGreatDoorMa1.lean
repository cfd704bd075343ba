/- Texts of the proof, one behind another: AhOps, AhEval, AhEvalb. -/
import Derived.Laws.Closers25b
import Derived.Test.YtdjjlbjagaadaaaGreatDoorMa0
import Derived.Laws.Small
import Derived.WalkKit
import Derived.WalkSpells
import Derived.LaidEqlPtr
import Derived.WalkLawsBesides
import Derived.Stop.BytesEq
/- Operations evaluated on abstract states, and that the machine's come to just that. -/
namespace Go.Proofs.YtdjjlbjagaadaaaGreatDoor.A
open Go Go.RowKit
set_option linter.unusedVariables false

section
variable {P : Program} {σ : List AE} {fr : List V}

theorem Addr_add (g o j : Nat) : (⟨g, o, none⟩ : Addr).add j = ⟨g, o + j, none⟩ := by unfold Addr.add; split <;> simp_all

/-! ### Entries in later worlds -/
theorem own_heap {w w' : World} {base : Nat} {e : TypeId} {size n : Nat} {v : Value} {xs : List Value} (h : w.ownsRow base e size v n xs) (hm : ∀ g, v.ownBlock = some g → w'.heap[g]? = w.heap[g]?) : w'.ownsRow base e size v n xs := by
  obtain ⟨h1, h2⟩ := h
  refine ⟨h1, ?_⟩
  rcases h2 with h2 | ⟨g, cap, cur, rfl, hg, hh, r⟩
  · exact .inl h2
  · exact .inr ⟨g, cap, cur, rfl, hg, (hm g rfl).trans hh, r⟩
theorem EOk.keep {w w' : World} {en en' : List CE} {a : AE} {x : CE} (h : EOk w en a x) (he : Ext w en w' en') (hm : ∀ g, ebl x = some g → w'.heap[g]? = w.heap[g]?) : EOk w' en' a x := by
  cases a <;> cases x <;> simp only [EOk] at h ⊢
  · intro p hp
    obtain ⟨h1, h2⟩ := h p hp
    have hlt : p.1 < w.heap.size := (Array.getElem?_eq_some_iff.1 h1).1
    refine ⟨(he.block _ hlt h2).trans h1, fun x hx e => ?_⟩
    obtain ⟨y, hy, hye⟩ := he.fresh x hx _ e hlt
    exact h2 y hy hye
  · obtain ⟨us, T, h1, h2, h3⟩ := h
    exact ⟨us, T, (hm _ rfl).trans h1, LR_ext he _ _ h2, h3⟩
  · obtain ⟨h1, h2, xs, h3⟩ := h
    exact ⟨h1, h2, xs, own_heap h3 hm⟩
  · obtain ⟨h1, h2, h3, us, h4, h5, h6⟩ := h
    exact ⟨h1, h2, h3, us, own_heap h4 hm, LR_ext he _ _ h5, h6⟩
  · obtain ⟨us, h1, h2, h3⟩ := h
    exact ⟨us, (hm _ rfl).trans h1, LR_ext he _ _ h2, h3⟩
  · exact fun g hg => Nat.lt_of_lt_of_le (h g hg) he.size
theorem Ext.alloc {w : World} {en : List CE} (o : Obj) (new : List CE) (hn : ∀ x ∈ new, ebl x = none ∨ ebl x = some w.heap.size) : Ext w en (w.alloc o) (en ++ new) where
  os := rfl
  tape := rfl
  output := rfl
  size := by simp
  block := fun k hk _ => Below.heap_alloc w o k hk
  st := fun g o' u hs => by
    have hlt : g < w.heap.size := World.block_lt_of_cell? w _ hs.1
    refine ⟨by rw [World.cell?_alloc_lt w o _ (by exact hlt)]; exact hs.1, fun x hx => ?_⟩
    rcases List.mem_append.1 hx with hx | hx
    · exact hs.2 x hx
    · rcases hn x hx with h | h
      · cases x with
        | box g' => cases h
        | glob => trivial
        | tok ver v n sz => intro hv; simp only [ebl] at h; rw [h] at hv; cases hv
        | row ver v n sz => intro hv; simp only [ebl] at h; rw [h] at hv; cases hv
      · cases x with
        | box g' => simp only [ebl, Option.some.injEq] at h; simp only [okc]; omega
        | glob => trivial
        | tok ver v n sz => intro hv; simp only [ebl] at h; rw [h] at hv; cases hv; omega
        | row ver v n sz => intro hv; simp only [ebl] at h; rw [h] at hv; cases hv; omega
  ent := fun i x hx => ⟨x, by rw [List.getElem?_append_left (List.getElem?_eq_some_iff.1 hx).1]; exact hx, Evo.refl x⟩
  fresh := fun x hx g hg hlt => by
    rcases List.mem_append.1 hx with hx | hx
    · exact ⟨x, hx, hg⟩
    · rcases hn x hx with h | h
      · rw [h] at hg; cases hg
      · rw [h] at hg; cases hg; omega
theorem Ext.alloc0 {w : World} {en : List CE} (o : Obj) : Ext w en (w.alloc o) en := by
  have := Ext.alloc (w := w) (en := en) o [] (fun x hx => by cases hx)
  rwa [List.append_nil] at this
theorem Ext.drew {w : World} {en : List CE} : Ext w en w.drew en :=
  ⟨rfl, rfl, rfl, Nat.le_refl _, fun _ _ _ => rfl, fun _ _ _ h => h, fun _ x h => ⟨x, h, Evo.refl x⟩, fun x' hx _ hg _ => ⟨x', hx, hg⟩⟩
theorem Iv.keep {w w' : World} {en : List CE} (h : Iv σ en w) (he : Ext w en w' en) (hm : ∀ x ∈ en, ∀ g, ebl x = some g → w'.heap[g]? = w.heap[g]?) : Iv σ en w' where
  len := h.len
  ok := fun i a x ha hx => (h.ok i a x ha hx).keep he (hm x (List.mem_of_getElem? hx))
  dis := h.dis
theorem Iv.alloc0 {w : World} {en : List CE} (h : Iv σ en w) (o : Obj) : Iv σ en (w.alloc o) :=
  h.keep (.alloc0 o) (fun _ hx g hg => Below.heap_alloc w o g (h.lt hx hg))
theorem Iv.drew {w : World} {en : List CE} (h : Iv σ en w) : Iv σ en w.drew := h.keep .drew (fun _ _ _ _ => rfl)
theorem Iv.box {w : World} {en : List CE} (h : Iv σ en w) {cs : List V} {us : Array Value} (T : TypeId) (hl : LR w en cs us.toList) (h1 : ∀ u ∈ us.toList, u.oneCell' = true) :
    Iv (σ ++ [.box cs]) (en ++ [.box w.heap.size]) (w.alloc (.cells us T)) ∧ Ext w en (w.alloc (.cells us T)) (en ++ [.box w.heap.size]) := by
  have he : Ext w en (w.alloc (.cells us T)) (en ++ [.box w.heap.size]) := .alloc _ _ (fun x hx => by rw [List.mem_singleton.1 hx]; exact .inr rfl)
  refine ⟨⟨by simp [h.len], fun i a x ha hx => ?_, fun i j x y g hi hj hx hy => ?_⟩, he⟩
  · rcases Nat.lt_or_ge i σ.length with hi | hi
    · rw [List.getElem?_append_left hi] at ha
      rw [List.getElem?_append_left (by rw [h.len]; exact hi)] at hx
      exact (h.ok i a x ha hx).keep he (fun g hg => Below.heap_alloc w _ g (h.lt (List.mem_of_getElem? hx) hg))
    · rw [List.getElem?_append_right hi] at ha
      rw [List.getElem?_append_right (by rw [h.len]; exact hi), h.len] at hx
      have hz : i - σ.length = 0 := by
        have := (List.getElem?_eq_some_iff.1 ha).1
        simp at this; omega
      rw [hz] at ha hx
      simp only [List.getElem?_cons_zero, Option.some.injEq] at ha hx
      subst ha; subst hx
      exact ⟨us, T, heap_alloc_new w _, LR_ext he _ _ hl, h1⟩
  · have key : ∀ (i : Nat) (x : CE), (en ++ [CE.box w.heap.size])[i]? = some x → ebl x = some g → (i < en.length ∧ en[i]? = some x ∧ g < w.heap.size) ∨ (i = en.length ∧ g = w.heap.size) := fun i x hi hx => by
      rcases Nat.lt_or_ge i en.length with hl | hl
      · rw [List.getElem?_append_left hl] at hi
        exact .inl ⟨hl, hi, h.lt (List.mem_of_getElem? hi) hx⟩
      · rw [List.getElem?_append_right hl] at hi
        have hz : i - en.length = 0 := by
          have := (List.getElem?_eq_some_iff.1 hi).1
          simp at this; omega
        rw [hz] at hi
        simp only [List.getElem?_cons_zero, Option.some.injEq] at hi
        subst hi
        simp only [ebl, Option.some.injEq] at hx
        exact .inr ⟨by omega, hx.symm⟩
    rcases key i x hi hx with ⟨a1, a2, a3⟩ | ⟨a1, a2⟩ <;> rcases key j y hj hy with ⟨b1, b2, b3⟩ | ⟨b1, b2⟩
    · exact h.dis i j x y g a2 b2 hx hy
    · omega
    · omega
    · omega

/-! ### What a value's cells are -/
def cellsV : V → Option (List V)
  | .agg cs => some cs
  | .junk => none
  | .gd _ _ => none
  | .tup _ => none
  | .exact v => if v.oneCell' then some [.exact v] else none
  | x => some [x]
theorem cells_ok {w : World} {en : List CE} {x : V} {v : Value} {cs : List V} (h : VR w en x v) (hc : cellsV x = some cs) : LR w en cs v.cells.toList ∧ ∀ u ∈ v.cells.toList, u.oneCell' = true := by
  have one : ∀ (v : Value), VR w en x v → v.oneCell' = true → some [x] = some cs → LR w en cs v.cells.toList ∧ ∀ u ∈ v.cells.toList, u.oneCell' = true := fun v hv ho he => by
    cases he
    have hcv : v.cells.toList = [v] := by cases v <;> simp_all [Value.cells, Value.oneCell']
    rw [hcv]
    exact ⟨by simp only [LR]; exact ⟨v, [], rfl, hv, rfl⟩, fun u hu => by rw [List.mem_singleton.1 hu]; exact ho⟩
  cases x with
  | agg cs' =>
    simp only [cellsV, Option.some.injEq] at hc
    subst hc
    simp only [VR] at h
    obtain ⟨us, rfl, h2, h3⟩ := h
    exact ⟨h2, h3⟩
  | junk => cases hc
  | gd _ _ => cases hc
  | tup _ => cases hc
  | exact u =>
    simp only [cellsV] at hc
    split at hc
    · rename_i ho
      simp only [VR] at h
      subst h
      exact one v (by simp [VR]) ho hc
    · cases hc
  | bool b => exact one v h (by simp only [VR] at h; subst h; rfl) hc
  | int k n => exact one v h (by simp only [VR] at h; subst h; rfl) hc
  | str s => exact one v h (by simp only [VR] at h; subst h; rfl) hc
  | sl t xs => exact one v h (by simp only [VR] at h; obtain ⟨A, c, rfl, _⟩ := h; rfl) hc
  | ms b o n c => exact one v h (by simp only [VR] at h; obtain ⟨g, _, rfl, _⟩ := h; rfl) hc
  | ptr b o => exact one v h (by simp only [VR] at h; obtain ⟨g, _, rfl⟩ := h; rfl) hc
  | ep cs' => exact one v h (by simp only [VR] at h; obtain ⟨g, o, rfl, _⟩ := h; rfl) hc
  | fn f cs' => exact one v h (by simp only [VR] at h; obtain ⟨us, rfl, _⟩ := h; rfl) hc
  | rw k ver n => exact one v h (by simp only [VR] at h; obtain ⟨A, c, cur, v0, n0, sz, rfl, _⟩ := h; rfl) hc
  | rs k ver o n => exact one v h (by simp only [VR] at h; obtain ⟨A, c, cur, v0, n0, sz, rfl, _⟩ := h; rfl) hc
  | rp k ver o => exact one v h (by simp only [VR] at h; obtain ⟨g, cur, v0, n0, sz, rfl, _⟩ := h; rfl) hc

/-! ### Reading variables -/
theorem row_cells {w : World} {en : List CE} {cs : List V} {us : List Value} {e : TypeId} {sz n : Nat} {v : Value} (h : w.ownsRow 0 e sz v n us) {g : Nat} (hg : v.ownBlock = some g) (j : Nat) (u : Value) (hu : us[j]? = some u) : w.cell? ⟨g, 0 + j, none⟩ = some u := by
  have := h.cells hg j u hu
  rwa [Addr_add] at this
theorem ER_cells {w : World} {en : List CE} : ∀ {xs : List V} {g o : Nat}, ER w en xs g o → ∃ us, LR w en xs us ∧ (∀ (j : Nat) (u : Value), us[j]? = some u → St w en g (o + j) u) ∧ ∀ u ∈ us, u.oneCell' = true
  | [], g, o, _ => ⟨[], by simp [LR], fun j u h => by simp at h, fun u hu => by cases hu⟩
  | x :: xs, g, o, h => by
    simp only [ER] at h
    obtain ⟨⟨u, h1, h2, h3⟩, h4⟩ := h
    obtain ⟨us, k1, k2, k3⟩ := ER_cells h4
    refine ⟨u :: us, by simp only [LR]; exact ⟨u, us, rfl, h3, k1⟩, fun j v hj => ?_, fun v hv => ?_⟩
    · cases j with
      | zero => simp only [List.getElem?_cons_zero, Option.some.injEq] at hj; subst hj; exact h1
      | succ j =>
        have := k2 j v (by simpa using hj)
        rwa [show o + (j + 1) = o + 1 + j from by omega]
    · rcases List.mem_cons.1 hv with rfl | hv
      · exact h2
      · exact k3 v hv
theorem run_loadVar_at {w : World} {en : List CE} {cs : List V} {us : List Value} {g o : Nat} (hl : LR w en cs us) (h1 : ∀ u ∈ us, u.oneCell' = true) (hc : ∀ (j : Nat) (u : Value), us[j]? = some u → w.cell? ⟨g, o + j, none⟩ = some u) {t : TypeId} {off : Nat} {x : V} (h : readT P t cs off = some x) :
    ∃ v, (loadVar t ⟨g, o + off, none⟩).run P w = .ok v w ∧ VR w en x v := by
  unfold readT at h
  split at h
  · rename_i ha
    split at h
    · rename_i n hn
      split at h
      · rename_i hle
        simp only [Option.some.injEq] at h
        subst h
        have hlen := LR_length hl
        have hll : ((us.drop off).take n).length = n := by rw [List.length_take, List.length_drop]; omega
        have hrun := run_loadCells_list (P := P) w ⟨g, o + off, none⟩ ((us.drop off).take n) (fun j v hj => by
          rw [Addr_add]
          rw [List.getElem?_take] at hj
          split at hj
          · rw [List.getElem?_drop] at hj
            have := hc _ v hj
            rwa [show o + off + j = o + (off + j) from by omega]
          · cases hj)
        rw [hll] at hrun
        refine ⟨.agg ((us.drop off).take n).toArray, by simp [loadVar, run_isAgg ha, run_sizeOf hn, hrun], ?_⟩
        simp only [VR]
        exact ⟨_, rfl, LR_take (LR_drop hl off) n, fun u hu => h1 u (List.mem_of_mem_drop (List.mem_of_mem_take (by simpa using hu)))⟩
      · cases h
    · cases h
  · rename_i ha
    obtain ⟨u, hu, hx⟩ := LR_get hl off x h
    refine ⟨u, ?_, hx⟩
    have := hc off u hu
    simp [loadVar, run_isAgg ha, this]
  · cases h
theorem cell_of_heap {w : World} {g : Nat} {us : Array Value} {T : TypeId} {fz : Nat × Nat} (h : w.heap[g]? = some (.cells us T fz)) (j : Nat) (u : Value) (hu : us.toList[j]? = some u) : w.cell? ⟨g, 0 + j, none⟩ = some u := by
  simp only [World.cell?, h, Nat.zero_add]
  simpa using hu
/-- A pointer's cells. -/
def ptrCells (σ : List AE) : V → Option (List V × Nat)
  | .ptr b o => match σ[b]? with
    | some (.box cs) => some (cs, o)
    | some (.boxt _ cs) => some (cs, o)
    | _ => none
  | .rp k ver o => match σ[k]? with
    | some (.row cur _ _ _ cs) => if cur = ver then some (cs, o) else none
    | _ => none
  | .ep cs => some (cs, 0)
  | _ => none
theorem ptr_ok {w : World} {en : List CE} (hi : Iv σ en w) {x : V} {v : Value} (h : VR w en x v) {cs : List V} {off : Nat} (hp : ptrCells σ x = some (cs, off)) :
    ∃ g o us, v = .pointer (some ⟨g, o + off, none⟩) ∧ LR w en cs us ∧ (∀ u ∈ us, u.oneCell' = true) ∧ ∀ (j : Nat) (u : Value), us[j]? = some u → w.cell? ⟨g, o + j, none⟩ = some u := by
  unfold ptrCells at hp
  split at hp
  · rename_i b o
    split at hp
    · rename_i cs' hb
      simp only [Option.some.injEq, Prod.mk.injEq] at hp
      obtain ⟨rfl, rfl⟩ := hp
      simp only [VR] at h
      obtain ⟨g, hg, rfl⟩ := h
      have hk := hi.ok b _ _ hb hg
      simp only [EOk] at hk
      obtain ⟨us, T, h1, h2, h3⟩ := hk
      exact ⟨g, 0, us.toList, by simp, h2, h3, fun j u hu => cell_of_heap h1 j u hu⟩
    · rename_i T cs' hb
      simp only [Option.some.injEq, Prod.mk.injEq] at hp
      obtain ⟨rfl, rfl⟩ := hp
      simp only [VR] at h
      obtain ⟨g, hg, rfl⟩ := h
      have hk := hi.ok b _ _ hb hg
      simp only [EOk] at hk
      obtain ⟨us, h1, h2, h3⟩ := hk
      exact ⟨g, 0, us.toList, by simp, h2, h3, fun j u hu => cell_of_heap h1 j u hu⟩
    · cases hp
  · rename_i k ver o
    split at hp
    · rename_i cur e sz n cs' hk
      split at hp
      · rename_i hcv
        simp only [Option.some.injEq, Prod.mk.injEq] at hp
        obtain ⟨rfl, rfl⟩ := hp
        simp only [VR] at h
        obtain ⟨g, cur', v0, n0, sz0, rfl, hen, hle, hl⟩ := h
        have hok := hi.ok k _ _ hk hen
        simp only [EOk] at hok
        obtain ⟨rfl, rfl, rfl, us, h1, h2, h3⟩ := hok
        exact ⟨g, 0, us, by simp, h2, h3, fun j u hu => row_cells (en := en) (cs := cs') h1 (hl hcv.symm) j u hu⟩
      · cases hp
    · cases hp
  · rename_i cs'
    simp only [Option.some.injEq, Prod.mk.injEq] at hp
    obtain ⟨rfl, rfl⟩ := hp
    simp only [VR] at h
    obtain ⟨g, o, rfl, he⟩ := h
    obtain ⟨us, h1, h2, h3⟩ := ER_cells he
    exact ⟨g, o, us, rfl, h1, h3, fun j u hu => (h2 j u hu).1⟩
  · cases hp

/-! ### A function's results -/
def resA (P : Program) (fr : List V) (σ : List AE) : List ResultVar → Option (List V)
  | [] => some []
  | .tmp t :: rs => (resA P fr σ rs).map (fr.getD t .junk :: ·)
  | .cell a t :: rs => match ptrCells σ (fr.getD a .junk) with
    | some (cs, off) => match readT P t cs off with
      | some x => (resA P fr σ rs).map (x :: ·)
      | none => none
    | none => none
def outV : List V → V
  | [x] => x
  | xs => .tup xs
def resVar (tmps : Array Value) : ResultVar → Sem Value
  | .tmp t => pure (tmps.getD t undef)
  | .cell a t => do loadVar t (← asAddr (tmps.getD a undef))
theorem resVars_ok {w : World} {en : List CE} {a : Act} (hi : Iv σ en w) (hf : FR w en fr a) : ∀ (rs : List ResultVar) (xs : List V), resA P fr σ rs = some xs → ∃ vs, (rs.mapM (resVar a.tmps)).run P w = .ok vs w ∧ LR w en xs vs
  | [], xs, h => by
    simp only [resA, Option.some.injEq] at h
    subst h
    exact ⟨[], by simp, by simp [LR]⟩
  | .tmp t :: rs, xs, h => by
    simp only [resA, Option.map_eq_some_iff] at h
    obtain ⟨ys, h1, rfl⟩ := h
    obtain ⟨vs, h2, h3⟩ := resVars_ok hi hf rs ys h1
    exact ⟨a.tmps.getD t undef :: vs, by simp [List.mapM_cons, resVar, h2], by simp only [LR]; exact ⟨_, vs, rfl, hf.2 t, h3⟩⟩
  | .cell b t :: rs, xs, h => by
    simp only [resA] at h
    split at h
    · rename_i cs off hp
      split at h
      · rename_i x hx
        simp only [Option.map_eq_some_iff] at h
        obtain ⟨ys, h1, rfl⟩ := h
        obtain ⟨vs, h2, h3⟩ := resVars_ok hi hf rs ys h1
        obtain ⟨g, o, us, e1, k1, k2, k3⟩ := ptr_ok hi (hf.2 b) hp
        obtain ⟨v, k4, k5⟩ := run_loadVar_at k1 k2 k3 hx
        exact ⟨v :: vs, by simp [List.mapM_cons, resVar, e1, asAddr, k4, h2], by simp only [LR]; exact ⟨v, vs, rfl, k5, h3⟩⟩
      · cases h
    · cases h
theorem results_ok {w : World} {en : List CE} {a : Act} (hi : Iv σ en w) (hf : FR w en fr a) (fn : Func) {xs : List V} (h : resA P fr σ fn.results.toList = some xs) : ∃ v, (results fn a.tmps).run P w = .ok v w ∧ VR w en (outV xs) v := by
  obtain ⟨vs, h1, h2⟩ := resVars_ok hi hf _ _ h
  have hm : fn.results.mapM (resVar a.tmps) = (fun l => l.toArray) <$> (fn.results.toList.mapM (resVar a.tmps)) := by
    obtain ⟨rs, hrs⟩ : ∃ rs : List ResultVar, fn.results = rs.toArray := ⟨fn.results.toList, by simp⟩
    rw [hrs, List.mapM_toArray]
  have hr : results fn a.tmps = (do let vs ← fn.results.mapM (resVar a.tmps); pure (if h : vs.size = 1 then vs[0] else .tuple vs)) := by
    unfold results
    congr 1
  rw [hr, hm]
  simp only [Sem.run_bind, Sem.run_map, h1, Result.andThen_ok, Sem.run_pure]
  refine ⟨_, rfl, ?_⟩
  have hl := LR_length h2
  match xs, vs, h2, hl with
  | [], [], h2, _ => simp only [outV, VR]; exact ⟨#[], by simp, h2⟩
  | [x], [v], h2, _ =>
    simp only [A.LR] at h2
    obtain ⟨u, us', he, h3, _⟩ := h2
    simp only [List.cons.injEq] at he
    obtain ⟨rfl, _⟩ := he
    simpa [outV] using h3
  | x :: y :: xs, v :: u :: vs, h2, _ => simp only [outV, VR]; exact ⟨(v :: u :: vs).toArray, by simp, h2⟩

/-- The body's end. -/
def bodyQ (P : Program) (rs : List ResultVar) (R : Out → List AE → Prop) : APost
  | .normal, fr, σ => ∃ xs, resA P fr σ rs = some xs ∧ R (.ret (outV xs)) σ
  | .ret, fr, σ => ∃ xs, resA P fr σ rs = some xs ∧ R (.ret (outV xs)) σ
  | .panic x, _, σ => R (.pan x) σ
  | _, _, _ => False
theorem ACalls_body {f : FuncId} {fn : Func} {c : Code} {args : List V} {R : Out → List AE → Prop} (hf : P.funcs[f]? = some fn) (hb : fn.body = some c) (hn : (fn.name == "runtime.NumGoroutine") = false)
    (h : AWP none P c (bodyQ P fn.results.toList R) (args ++ List.replicate (fn.ntmps - args.length) .junk) σ) : ACalls P f args σ R := by
  refine ⟨⟨fn, hf, hn, by rw [hb]; rfl⟩, fun w en vals hi hl => calls_of_wp hf hb ?_⟩
  have hlen : vals.size = args.length := by simpa using LR_length hl
  have hfr : FR w en (args ++ List.replicate (fn.ntmps - args.length) .junk) { tmps := vals ++ Array.replicate (fn.ntmps - vals.size) undef, defers := [] } := by
    refine ⟨by simp [hlen], fun t => ?_⟩
    rcases Nat.lt_or_ge t args.length with ht | ht
    · obtain ⟨u, h1, h2⟩ := LR_get hl t _ (List.getElem?_eq_getElem ht)
      simp only [List.getD_eq_getElem?_getD, List.getElem?_append_left ht, List.getElem?_eq_getElem ht, Option.getD_some, Array.getD_eq_getD_getElem?]
      rw [Array.getElem?_append_left (by rw [hlen]; exact ht)]
      rw [Array.getElem?_toList] at h1
      rw [h1]
      exact h2
    · have : (args ++ List.replicate (fn.ntmps - args.length) V.junk).getD t V.junk = V.junk := by
        rw [List.getD_eq_getElem?_getD, List.getElem?_append_right ht, List.getElem?_replicate]
        split <;> rfl
      rw [this]
      simp [VR]
  refine wp_of_in (Code.wpIn_mono (fun e a' w' hq => ?_) (h _ w en hi hfr rfl))
  obtain ⟨ax, fr', σ', en', h1, h2, h3, h4, h5, h6⟩ := hq
  cases ax with
  | normal =>
    obtain rfl : e = .normal := h2
    obtain ⟨xs, h7, h8⟩ := h1
    obtain ⟨v, h9, h10⟩ := results_ok h3 h4 fn h7
    exact ⟨h5, v, h9, .ret (outV xs), σ', en', h8, ⟨v, rfl, h10⟩, h3, h6⟩
  | ret =>
    obtain rfl : e = .ret := h2
    obtain ⟨xs, h7, h8⟩ := h1
    obtain ⟨v, h9, h10⟩ := results_ok h3 h4 fn h7
    exact ⟨h5, v, h9, .ret (outV xs), σ', en', h8, ⟨v, rfl, h10⟩, h3, h6⟩
  | exit id => exact h1.elim
  | goto l => exact h1.elim
  | panic x =>
    obtain ⟨v, rfl, hv⟩ := h2
    exact ⟨h5, .pan x, σ', en', h1, ⟨v, rfl, hv⟩, h3, h6⟩
/-- What the call made is let go. -/
theorem ACalls_drop {f : FuncId} {args : List V} {R R' : Out → List AE → Prop} (h : ACalls P f args σ R)
    (hr : ∀ r σ', R r σ' → ∃ S, σ.length ≤ S.length ∧ (∃ τ, σ' = S ++ τ) ∧ sbel S.length S ∧ (match r with | .ret x => ∃ y, Vle x y ∧ bel S.length y ∧ R' (.ret y) S | .pan x => ∃ y, Vle x y ∧ bel S.length y ∧ R' (.pan y) S)) : ACalls P f args σ R' :=
  ⟨h.ent, fun w en vals hi hl => (h.go w en vals hi hl).mono fun e w' ⟨r, σ', en', h1, h2, h3, h4⟩ => by
    obtain ⟨S, hS, ⟨τ, rfl⟩, hb, hx⟩ := hr r σ' h1
    have hi' : Iv S (en'.take S.length) w' := by
      have := h3.take (n := S.length) (by simpa using hb)
      simpa using this
    have he' := h4.take (n := S.length) (by rw [hi.len]; exact hS)
    cases r with
    | ret x =>
      obtain ⟨y, hxy, hby, hR⟩ := hx
      obtain ⟨v, rfl, hv⟩ := h2
      exact ⟨.ret y, S, _, hR, ⟨v, rfl, VR_take _ _ (hxy _ _ _ hv) hby⟩, hi', he'⟩
    | pan x =>
      obtain ⟨y, hxy, hby, hR⟩ := hx
      obtain ⟨v, rfl, hv⟩ := h2
      exact ⟨.pan y, S, _, hR, ⟨v, rfl, VR_take _ _ (hxy _ _ _ hv) hby⟩, hi', he'⟩⟩

/-- One value; what the call made is let go. -/
theorem Gives_drop {f : FuncId} {args : List V} {x : V} (h : ACalls P f args σ (fun r σ' => ∃ τ y, σ' = σ ++ τ ∧ r = .ret y ∧ Vle y x)) (hb : bels σ.length args → bel σ.length x) : Gives P f args σ x :=
  ⟨h.ent, fun w en vals hi hl => (h.go w en vals hi hl).mono fun e w' ⟨r, σ', en', h1, h2, h3, h4⟩ => by
    obtain ⟨τ, y, rfl, rfl, hxy⟩ := h1
    obtain ⟨v, rfl, hv⟩ := h2
    have hbel := hb (by rw [← hi.len]; exact LR_bel _ _ hl)
    have hi' : Iv σ (en'.take σ.length) w' := by
      have := h3.take (n := σ.length) (by simpa using hi.sb)
      simpa using this
    have he' := h4.take (n := σ.length) (by rw [hi.len]; exact Nat.le_refl _)
    exact ⟨.ret x, σ, _, ⟨rfl, rfl⟩, ⟨v, rfl, VR_take _ _ (hxy _ _ _ hv) hbel⟩, hi', he'⟩⟩
/-- The end of a body that made boxes. -/
theorem drop_end {τ : List AE} {y x : V} (hx : Vle y x) : ∃ τ' y', σ ++ τ = σ ++ τ' ∧ Out.ret y = .ret y' ∧ Vle y' x := ⟨τ, y, rfl, rfl, hx⟩
theorem drop_end0 {y x : V} (hx : Vle y x) : ∃ τ' y', σ = σ ++ τ' ∧ Out.ret y = .ret y' ∧ Vle y' x := ⟨[], y, by simp, rfl, hx⟩
/-- What the variables' blocks tell of the world. -/
def Glob (σ : List AE) (F : World → Prop) : Prop := ∃ l, σ[0]? = some (.glob l) ∧ ∀ w : World, (∀ p ∈ l, w.heap[p.1]? = some p.2) → F w
theorem Glob.app {F : World → Prop} (h : Glob σ F) (τ : List AE) : Glob (σ ++ τ) F := by
  obtain ⟨l, h1, h2⟩ := h
  exact ⟨l, by rw [List.getElem?_append_left (List.getElem?_eq_some_iff.1 h1).1]; exact h1, h2⟩
theorem Glob.at {F : World → Prop} (h : Glob σ F) {en : List CE} {w : World} (hi : Iv σ en w) : F w := by
  obtain ⟨l, h1, h2⟩ := h
  have hl : 0 < en.length := by rw [hi.len]; exact (List.getElem?_eq_some_iff.1 h1).1
  have := hi.ok 0 _ _ h1 (List.getElem?_eq_getElem hl)
  cases hx : en[0] with
  | glob => rw [hx] at this; simp only [EOk] at this; exact h2 w fun p hp => (this p hp).1
  | box g => rw [hx] at this; simp only [EOk] at this
  | tok _ _ _ _ => rw [hx] at this; simp only [EOk] at this
  | row _ _ _ _ => rw [hx] at this; simp only [EOk] at this
theorem Glob.mono {F F' : World → Prop} (h : Glob σ F) (hf : ∀ w, F w → F' w) : Glob σ F' := by
  obtain ⟨l, h1, h2⟩ := h
  exact ⟨l, h1, fun w hw => hf w (h2 w hw)⟩
/-- A world that goes on below its end. -/
theorem Ext.of_below {w w' : World} {en : List CE} (hi : Iv σ en w) (h : Below w.heap.size w w') : Ext w en w' en where
  os := h.os
  tape := h.tape
  output := h.output
  size := h.size
  block := fun k hk _ => h.block k hk
  st := fun g o u hs => ⟨(World.cell?_of_block (h.block g (World.block_lt_of_cell? w _ hs.1))).trans hs.1, hs.2⟩
  ent := fun i x hx => ⟨x, hx, Evo.refl x⟩
  fresh := fun x hx g hg _ => ⟨x, hx, hg⟩
theorem Iv.of_below {w w' : World} {en : List CE} (hi : Iv σ en w) (h : Below w.heap.size w w') : Iv σ en w' := hi.keep (.of_below hi h) fun x hx g hg => h.block g (hi.lt hx hg)
/-- A contract of the shelf's, taken over. -/
theorem Gives_of {f : FuncId} {args : List V} {x : V} (he : Ent P f) (h : ∀ (w : World) (en : List CE) (vals : List Value), Iv σ en w → LR w en args vals → Calls P f vals.toArray w (fun e w' => ∃ v, e = .returned v ∧ Below w.heap.size w w' ∧ VR w' en x v)) : Gives P f args σ x :=
  ⟨he, fun w en vals hi hl => by
    have := h w en vals.toList hi hl
    rw [Array.toArray_toList] at this
    exact this.mono fun e w' ⟨v, h1, h2, h3⟩ => ⟨.ret x, σ, en, ⟨rfl, rfl⟩, ⟨v, h1, h3⟩, hi.of_below h2, .of_below hi h2⟩⟩
theorem getA0 (σ l : List AE) : (σ ++ l)[σ.length]? = l[0]? := by rw [List.getElem?_append_right (Nat.le_refl _), Nat.sub_self]
theorem getAk (σ l : List AE) (k : Nat) : (σ ++ l)[σ.length + k]? = l[k]? := by rw [List.getElem?_append_right (Nat.le_add_right _ _), Nat.add_sub_cancel_left]
theorem setA0 (σ l : List AE) (x : AE) : (σ ++ l).set σ.length x = σ ++ l.set 0 x := by rw [List.set_append_right (h := Nat.le_refl _), Nat.sub_self]
theorem setAk (σ l : List AE) (x : AE) (k : Nat) : (σ ++ l).set (σ.length + k) x = σ ++ l.set k x := by rw [List.set_append_right (h := Nat.le_add_right _ _), Nat.add_sub_cancel_left]

end
end Go.Proofs.YtdjjlbjagaadaaaGreatDoor.A
/- Operations evaluated on abstract states, and that the machine's come to just that. -/
namespace Go.Proofs.YtdjjlbjagaadaaaGreatDoor.A
open Go Go.RowKit
set_option linter.unusedVariables false

section
variable {P : Program} {σ : List AE} {fr : List V}

/-! ### Plain operators -/
def intBo (op : BinOp) (k : IntKind) (a b : Int) : Option V := match op with
  | .add => some (.int k (k.wrap (a + b)))
  | .sub => some (.int k (k.wrap (a - b)))
  | .mul => some (.int k (k.wrap (a * b)))
  | .quo => if b = 0 then none else some (.int k (k.wrap (a.tdiv b)))
  | .rem => if b = 0 then none else some (.int k (a.tmod b))
  | .eql => some (.bool (a == b))
  | .neq => some (.bool (a != b))
  | .lss => some (.bool (decide (a < b)))
  | .leq => some (.bool (decide (a ≤ b)))
  | .gtr => some (.bool (decide (b < a)))
  | .geq => some (.bool (decide (b ≤ a)))
  | .and => some (.int k (k.wrap (BitVec.ofInt k.bits a &&& BitVec.ofInt k.bits b).toNat))
  | .or => some (.int k (k.wrap (BitVec.ofInt k.bits a ||| BitVec.ofInt k.bits b).toNat))
  | .xor => some (.int k (k.wrap (BitVec.ofInt k.bits a ^^^ BitVec.ofInt k.bits b).toNat))
  | _ => none
def strBo (op : BinOp) (a b : List UInt8) : Option V := match op with
  | .add => if a.length + b.length ≤ 9223372036854775807 then some (.str (a ++ b)) else none
  | .eql => some (.bool (a == b))
  | .neq => some (.bool (!(a == b)))
  | .lss => some (.bool (Op.bytesLess a b))
  | .leq => some (.bool (Op.bytesLess a b || a == b))
  | .gtr => some (.bool (!(Op.bytesLess a b || a == b)))
  | .geq => some (.bool (!Op.bytesLess a b))
  | _ => none
def shBo (op : BinOp) (k : IntKind) (a n : Int) : Option V := match op with
  | .shl => if 0 ≤ n then some (.int k (k.wrap (a * 2 ^ (min n.toNat k.bits)))) else none
  | .shr => if 0 ≤ n then some (.int k (a.fdiv (2 ^ (min n.toNat k.bits)))) else none
  | _ => none
def isSh : BinOp → Bool
  | .shl => true
  | .shr => true
  | _ => false
def boolBo (op : BinOp) (a b : Bool) : Option V := match op with
  | .eql => some (.bool (a == b))
  | .neq => some (.bool (a != b))
  | _ => none
def bo (op : BinOp) (x y : V) : Option V := match x, y with
  | .int k a, .int k' b => if isSh op then shBo op k a b else if k = k' then intBo op k a b else none
  | .str a, .str b => strBo op a b
  | _, _ => none
/-- Bytes of an array. -/
def decK : List V → Option (List UInt8)
  | [] => some []
  | .int .u8 n :: xs => if 0 ≤ n ∧ n ≤ 255 then (decK xs).map (UInt8.ofNat n.toNat :: ·) else none
  | _ => none
def isKey (P : Program) (t : TypeId) : Option (Nat × TypeId) := match P.underlying t with
  | some (.array n e) => match P.underlying e with
    | some (.int .u8) => match tySize P e with
      | some 1 => if P.eqGuardType P.depth t = false then some (n, e) else none
      | _ => none
    | _ => none
  | _ => none
def keyC (l : List UInt8) : List V := l.map fun b => .int .u8 (b.toNat : Int)
theorem keyC_len (l : List UInt8) : (keyC l).length = l.length := by simp [keyC]
theorem decK_keyC : ∀ l : List UInt8, decK (keyC l) = some l
  | [] => rfl
  | b :: l => by
    have ih := decK_keyC l
    have hb := b.toNat_lt
    have e : keyC (b :: l) = .int .u8 (b.toNat : Int) :: keyC l := rfl
    rw [e, decK, if_pos (by omega), ih]
    simp
theorem decK_ok {w : World} {en : List CE} : ∀ {a : List V} {us : List Value} {l : List UInt8}, LR w en a us → decK a = some l → us = l.map Extern.Stop.cell
  | [], us, l, hl, h => by
    simp only [decK, Option.some.injEq] at h
    simp only [LR] at hl
    subst h; subst hl; rfl
  | x :: a, us, l, hl, h => by
    unfold decK at h
    split at h
    · rename_i he; cases he
    · rename_i n xs he
      cases he
      split at h
      · rename_i hn
        simp only [Option.map_eq_some_iff] at h
        obtain ⟨l', h1, rfl⟩ := h
        simp only [LR, VR] at hl
        obtain ⟨u, us', rfl, rfl, h2⟩ := hl
        rw [List.map_cons, ← decK_ok h2 h1]
        congr 1
        simp only [Extern.Stop.cell, UInt8.toNat_ofNat']
        congr 1
        show n = ((n.toNat % 2 ^ 8 : Nat) : Int)
        omega
      · cases h
    · cases h
def keyBo (op : BinOp) (n : Nat) (a b : List V) : Option V := match decK a, decK b with
  | some l, some m => if l.length = n ∧ m.length = n then (match op with
    | .eql => some (.bool (l == m))
    | .neq => some (.bool (!(l == m)))
    | _ => none) else none
  | _, _ => none
def eqB (op : BinOp) (b : Bool) : Option V := match op with
  | .eql => some (.bool b)
  | .neq => some (.bool (!b))
  | _ => none
def isIf0 (P : Program) (t : TypeId) : Option Bool := match P.underlying t with
  | some (.interface ms) => some ms.isEmpty
  | _ => none
def ptrTo (P : Program) (t : TypeId) : Option Nat := match P.underlying t with
  | some (.pointer e) => tySize P e
  | _ => none
def isSlT (P : Program) (t : TypeId) : Bool := match P.underlying t with
  | some (.slice _) => true
  | _ => false
/-- Interfaces, pointers, slices against nil; a pointer against itself. -/
def boX (P : Program) (t : TypeId) (op : BinOp) (x y : V) : Option V := match x, y with
  | .exact (.iface _ _), .exact .nilIface => match isIf0 P t with
    | some _ => eqB op false
    | none => none
  | .exact .nilIface, .exact .nilIface => match isIf0 P t with
    | some true => eqB op true
    | _ => none
  | .ptr _ _, .exact (.pointer none) => match ptrTo P t with
    | some (_ + 1) => eqB op false
    | _ => none
  | .exact (.pointer none), .exact (.pointer none) => match ptrTo P t with
    | some (_ + 1) => eqB op true
    | _ => none
  | .ptr b o, .ptr b' o' => match ptrTo P t with
    | some (_ + 1) => if b = b' ∧ o = o' then eqB op true else none
    | _ => none
  | .sl .nil _, .sl .nil _ => if isSlT P t = true then eqB op true else none
  | .sl _ xs, .sl .nil _ => if isSlT P t = true ∧ 0 < xs.length then eqB op false else none
  | _, _ => none
theorem eqB_ok {w : World} {en : List CE} {op : BinOp} {b : Bool} {z : V} {t : TypeId} {u v : Value} {p q : Operand} (hg : ∀ op, (eqGuard op t p q u v).run P w = .ok () w) (he : (Op.equal t u v).run P w = .ok b w) (h1 : binOp .eql t u v = (do pure (.bool (← Op.equal t u v)) : Sem Value)) (h2 : binOp .neq t u v = (do pure (.bool (!(← Op.equal t u v))) : Sem Value)) (h : eqB op b = some z) :
    ∃ r, (do eqGuard op t p q u v; binOp op t u v : Sem Value).run P w = .ok r w ∧ VR w en z r := by
  cases op <;> simp only [eqB] at h <;> try (cases h; done)
  · cases h
    exact ⟨.bool b, by simp only [Sem.run_bind, hg, Result.andThen_ok, h1, he, Sem.run_pure], by simp [VR]⟩
  · cases h
    exact ⟨.bool (!b), by simp only [Sem.run_bind, hg, Result.andThen_ok, h2, he, Sem.run_pure], by simp [VR]⟩
theorem run_eq_of {w : World} {t : TypeId} {u v : Value} {b : Bool} (h : ∀ d, (Op.equalIn (d + 1) t u v).run P w = .ok b w) : (Op.equal t u v).run P w = .ok b w := h 9999
theorem boX_ok {w : World} {en : List CE} {op : BinOp} {x y z : V} {u v : Value} (hx : VR w en x u) (hy : VR w en y v) (t : TypeId) (h : boX P t op x y = some z) (p q : Operand) :
    ∃ r, (do eqGuard op t p q u v; binOp op t u v : Sem Value).run P w = .ok r w ∧ VR w en z r := by
  unfold boX at h
  split at h
  · split at h
    · rename_i b hb
      unfold isIf0 at hb
      split at hb
      · rename_i ms ht
        simp only [VR] at hx hy
        subst hx; subst hy
        refine eqB_ok (fun op => ?_) ?_ rfl rfl h
        · unfold eqGuard; cases op <;> simp
        · exact run_eq_of fun d => by simp [Op.equalIn, run_underlying ht]
      · cases hb
    · cases h
  · split at h
    · rename_i hb
      unfold isIf0 at hb
      split at hb
      · rename_i ms ht
        simp only [Option.some.injEq] at hb
        simp only [VR] at hx hy
        subst hx; subst hy
        refine eqB_ok (fun op => ?_) ?_ rfl rfl h
        · have hq : (Op.eqGuardIn Op.maxDepth t .nilIface .nilIface).run P w = .ok false w := by
            have key : ∀ d, (Op.eqGuardIn (d + 1) t .nilIface .nilIface).run P w = .ok false w := fun d => by simp [Op.eqGuardIn, run_underlying ht, hb]
            exact key 9999
          unfold eqGuard
          cases op <;> simp [hq]
        · exact run_eq_of fun d => by simp [Op.equalIn, run_underlying ht]
      · cases hb
    · cases h
  · split at h
    · rename_i hb
      unfold ptrTo at hb
      split at hb
      · rename_i e ht
        simp only [VR] at hx hy
        obtain ⟨g, _, rfl⟩ := hx
        subst hy
        refine eqB_ok (fun op => ?_) ?_ rfl rfl h
        · unfold eqGuard; cases op <;> simp
        · exact run_eq_of fun d => by simp [Op.equalIn, run_underlying ht]
      · cases hb
    · cases h
  · split at h
    · rename_i hb
      unfold ptrTo at hb
      split at hb
      · rename_i e ht
        simp only [VR] at hx hy
        subst hx; subst hy
        refine eqB_ok (fun op => ?_) ?_ rfl rfl h
        · unfold eqGuard; cases op <;> simp
        · exact run_eq_of fun d => by simp [Op.equalIn, run_underlying ht]
      · cases hb
    · cases h
  · split at h
    · rename_i hb
      split at h
      · rename_i hbo
        obtain ⟨rfl, rfl⟩ := hbo
        unfold ptrTo at hb
        split at hb
        · rename_i e ht
          simp only [VR] at hx hy
          obtain ⟨g, hg1, rfl⟩ := hx
          obtain ⟨g', hg2, rfl⟩ := hy
          rw [hg1] at hg2
          cases hg2
          refine eqB_ok (fun op => ?_) ?_ rfl rfl h
          · unfold eqGuard; cases op <;> simp
          · exact run_eq_of fun d => by simp [Op.equalIn, run_underlying ht, run_sizeOf hb, run_sameAddr_same]
        · cases hb
      · cases h
    · cases h
  · split at h
    · rename_i hb
      unfold isSlT at hb
      split at hb
      · rename_i e ht
        simp only [VR, TagOk] at hx hy
        obtain ⟨A, c, rfl, _, _, k1, _⟩ := hx
        obtain ⟨A', c', rfl, _, _, k2, _⟩ := hy
        rw [k1, k2]
        refine eqB_ok (fun op => ?_) ?_ rfl rfl h
        · unfold eqGuard; cases op <;> simp
        · exact run_eq_of fun d => by simp [Op.equalIn, run_underlying ht]
      · cases hb
    · cases h
  · split at h
    · rename_i hb
      obtain ⟨hb, hpos⟩ := hb
      unfold isSlT at hb
      split at hb
      · rename_i e ht
        simp only [VR, TagOk] at hx hy
        obtain ⟨A, c, rfl, _, _, _, k1⟩ := hx
        obtain ⟨A', c', rfl, _, _, k2, _⟩ := hy
        obtain ⟨g, o, rfl, _⟩ := k1 (List.length_pos_iff.1 hpos)
        rw [k2]
        refine eqB_ok (fun op => ?_) ?_ rfl rfl h
        · unfold eqGuard; cases op <;> simp
        · exact run_eq_of fun d => by simp [Op.equalIn, run_underlying ht]
      · cases hb
    · cases h
  · cases h
def boT (P : Program) (t : TypeId) (op : BinOp) (x y : V) : Option V := match x, y with
  | .agg a, .agg b => match isKey P t with
    | some (n, _) => keyBo op n a b
    | none => none
  | .bool a, .bool b => match P.underlying t with
    | some .bool => boolBo op a b
    | _ => none
  | x, y => match boX P t op x y with
    | some z => some z
    | none => bo op x y
def uo (op : UnOp) (x : V) : Option V := match op, x with
  | .not, .bool b => some (.bool (!b))
  | .neg, .int k n => some (.int k (k.wrap (0 - n)))
  | _, _ => none

theorem str_toList (s : List UInt8) : (⟨s.toArray⟩ : ByteArray).toList = s := by
  rw [ByteArray.toList_eq]
theorem bo_ok {w : World} {en : List CE} {op : BinOp} {x y z : V} {u v : Value} (hx : VR w en x u) (hy : VR w en y v) (h : bo op x y = some z) (t : TypeId) (p q : Operand) :
    ∃ r, (do eqGuard op t p q u v; binOp op t u v : Sem Value).run P w = .ok r w ∧ VR w en z r := by
  unfold bo at h
  split at h
  · rename_i k a k' b
    simp only [VR] at hx hy
    subst hx; subst hy
    split at h
    · rename_i hs
      cases op <;> first
        | (cases hs; done)
        | (simp only [shBo] at h
           split at h
           · cases h
             rename_i h0
             have h0' : ¬ b < 0 := by omega
             simp [eqGuard, binOp, Op.shift, h0', VR]
           · cases h)
    · split at h
      · rename_i hs hk
        subst hk
        cases op <;> simp only [intBo] at h <;> first
          | (cases h; simp [eqGuard, binOp, Op.intArith, Op.intCmp, Op.intBits, VR]; done)
          | (split at h <;> cases h; rename_i h0; simp [eqGuard, binOp, Op.intDiv, h0, VR]; done)
          | (cases h; done)
      · cases h
  · rename_i a b
    simp only [VR] at hx hy
    subst hx; subst hy
    cases op <;> simp only [strBo] at h
    case add =>
      split at h
      · rename_i h0
        simp only [Option.some.injEq] at h
        subst h
        have h0' : ¬ (9223372036854775807 : Int) < (a.length : Int) + (b.length : Int) := by omega
        have hk : IntKind.i64.max = 9223372036854775807 := rfl
        refine ⟨.string (⟨a.toArray⟩ ++ ⟨b.toArray⟩), ?_, ?_⟩
        · simp only [eqGuard, binOp, Op.stringOp]
          simp [hk, ByteArray.size, h0']
        · simp only [VR]
          congr 1
      · cases h
    all_goals first
      | (cases h; done)
      | (cases h; simp [eqGuard, binOp, Op.stringOp, VR]; done)
  · cases h
theorem boT_ok {w : World} {en : List CE} {op : BinOp} {x y z : V} {u v : Value} (hx : VR w en x u) (hy : VR w en y v) (t : TypeId) (h : boT P t op x y = some z) (p q : Operand) :
    ∃ r, (do eqGuard op t p q u v; binOp op t u v : Sem Value).run P w = .ok r w ∧ VR w en z r := by
  unfold boT at h
  split at h
  · rename_i a b
    split at h
    · rename_i n e hk
      unfold keyBo at h
      split at h
      · rename_i l m hl hm
        split at h
        · rename_i hlm
          unfold isKey at hk
          split at hk
          · rename_i n' e' ht
            split at hk
            · rename_i he
              split at hk
              · rename_i hs
                split at hk
                · rename_i hq
                  simp only [Option.some.injEq, Prod.mk.injEq] at hk
                  obtain ⟨rfl, rfl⟩ := hk
                  simp only [VR] at hx hy
                  obtain ⟨us, rfl, h2, _⟩ := hx
                  obtain ⟨vs, rfl, h3, _⟩ := hy
                  have e1 := decK_ok h2 hl
                  have e2 := decK_ok h3 hm
                  obtain rfl : us = (l.map Extern.Stop.cell).toArray := by rw [← e1]
                  obtain rfl : vs = (m.map Extern.Stop.cell).toArray := by rw [← e2]
                  have hr := run_equalIn_bytes w 9998 t e' n' ht he (fun w => run_sizeOf hs w) l m hlm.1 hlm.2
                  have hr' : (Op.equal t (.agg (l.map Extern.Stop.cell).toArray) (.agg (m.map Extern.Stop.cell).toArray)).run P w = .ok (l == m) w := hr
                  generalize (l.map Extern.Stop.cell).toArray = us at hr' ⊢
                  generalize (m.map Extern.Stop.cell).toArray = vs at hr' ⊢
                  have hg : ∀ op, (eqGuard op t p q (.agg us) (.agg vs)).run P w = .ok () w := fun op => by
                    unfold eqGuard
                    cases op <;> simp [hq]
                  cases op <;> simp only at h <;> try (cases h; done)
                  · cases h
                    exact ⟨.bool (l == m), by simp only [Sem.run_bind, hg, Result.andThen_ok]; simp [binOp, hr'], by simp [VR]⟩
                  · cases h
                    exact ⟨.bool (!(l == m)), by simp only [Sem.run_bind, hg, Result.andThen_ok]; simp [binOp, hr'], by simp [VR]⟩
                · cases hk
              · cases hk
            · cases hk
          · cases hk
        · cases h
      · cases h
    · cases h
  · rename_i a b
    split at h
    · rename_i ht
      simp only [VR] at hx hy
      subst hx; subst hy
      cases op <;> simp only [boolBo] at h <;> first
        | (cases h; done)
        | (cases h; simp [eqGuard, binOp, VR, run_equal_bool _ t a b ht, bne]; done)
    · cases h
  · split at h
    · rename_i hz
      simp only [Option.some.injEq] at h
      subst h
      exact boX_ok hx hy t hz p q
    · exact bo_ok hx hy h t p q
theorem uo_ok {w : World} {en : List CE} {op : UnOp} {x z : V} {u : Value} (hx : VR w en x u) (h : uo op x = some z) : ∃ r, (Op.unary op u).run P w = .ok r w ∧ VR w en z r := by
  unfold uo at h
  split at h
  · cases h
    simp only [VR] at hx
    subst hx
    simp [Op.unary, VR]
  · cases h
    simp only [VR] at hx
    subst hx
    simp [Op.unary, Op.intArith, VR]
  · cases h

/-- Bytes as elements. -/
def encB (l : List UInt8) : List (List V) := l.map fun b => [.int .u8 (b.toNat : Int)]
/-- Elements as bytes. -/
def decB : List (List V) → Option (List UInt8)
  | [] => some []
  | [.int .u8 n] :: xs => (decB xs).map (UInt8.ofNat n.toNat :: ·)
  | _ => none
theorem decB_encB (l : List UInt8) : decB (encB l) = some l := by
  induction l with
  | nil => rfl
  | cons b l ih =>
    have h : decB (encB (b :: l)) = (decB (encB l)).map (UInt8.ofNat ((b.toNat : Int)).toNat :: ·) := rfl
    rw [h, ih]
    simp

def isStr (P : Program) (t : TypeId) : Bool := match P.underlying t with
  | some .string => true
  | _ => false
def isBytes (P : Program) (t : TypeId) : Bool := match P.underlying t with
  | some (.slice e) => match P.underlying e with
    | some (.int .u8) => true
    | _ => false
  | _ => false
def cvt (P : Program) (s d : TypeId) (x : V) : Option V := match P.underlying s, P.underlying d, x with
  | some _, some (.int k), .int _ n => some (.int k (k.wrap n))
  | some _, some .string, .str l => some (.str l)
  | some (.slice e), some .string, .sl _ xs => match P.underlying e with
    | some (.int .u8) => (decB xs).map .str
    | _ => none
  | _, _, _ => none

theorem run_bytes {w : World} {en : List CE} : ∀ {xs : List (List V)} {l : List UInt8} {g o : Nat}, decB xs = some l → RR w en xs g o → ∃ ns : List Int, (ns.map fun n => UInt8.ofNat n.toNat) = l ∧ ∀ i, i < ns.length → w.cell? ⟨g, o + i, none⟩ = some (.int .u8 (ns.getD i 0))
  | [], l, g, o, h, _ => by
    simp only [decB, Option.some.injEq] at h
    subst h
    exact ⟨[], rfl, fun i hi => by simp at hi⟩
  | x :: xs, l, g, o, h, hr => by
    unfold decB at h
    split at h
    · rename_i he; cases he
    · rename_i n xs' he
      cases he
      simp only [Option.map_eq_some_iff] at h
      obtain ⟨l', h1, rfl⟩ := h
      simp only [RR, ER] at hr
      obtain ⟨⟨⟨u, h2, _, h3⟩, _⟩, h4⟩ := hr
      simp only [VR] at h3
      subst h3
      obtain ⟨ns, h5, h6⟩ := run_bytes h1 h4
      refine ⟨n :: ns, by simp [h5], fun i hi => ?_⟩
      cases i with
      | zero => simpa using h2.1
      | succ i =>
        have := h6 i (by simpa using hi)
        simp only [List.length_cons, List.length_nil, Nat.zero_add] at this
        rw [show o + (i + 1) = o + 1 + i from by omega, this]
        simp
    · cases h
theorem decB_length : ∀ {xs : List (List V)} {l : List UInt8}, decB xs = some l → l.length = xs.length
  | [], l, h => by simp only [decB, Option.some.injEq] at h; subst h; rfl
  | x :: xs, l, h => by
    unfold decB at h
    split at h
    · rename_i he; cases he
    · rename_i n xs' he
      cases he
      simp only [Option.map_eq_some_iff] at h
      obtain ⟨l', h1, rfl⟩ := h
      simp [decB_length h1]
    · cases h
theorem cvt_ok {w : World} {en : List CE} {s d : TypeId} {x z : V} {u : Value} (hx : VR w en x u) (h : cvt P s d x = some z) : ∃ r, (convert s d u).run P w = .ok r w ∧ VR w en z r := by
  unfold cvt at h
  split at h
  · rename_i h1 h2
    cases h
    simp only [VR] at hx
    subst hx
    simp [convert, run_underlying h1, run_underlying h2, Conv.intToInt, VR]
  · rename_i h1 h2
    cases h
    simp only [VR] at hx
    subst hx
    simp [convert, run_underlying h1, run_underlying h2, VR]
  · rename_i e t xs h1 h2
    split at h
    · rename_i h3
      simp only [Option.map_eq_some_iff] at h
      obtain ⟨l, h4, rfl⟩ := h
      simp only [VR] at hx
      obtain ⟨A, c, rfl, h5, h6, h7, h8⟩ := hx
      have hl := decB_length h4
      cases xs with
      | nil =>
        simp only [decB, Option.some.injEq] at h4
        subst h4
        cases A with
        | none => exact ⟨.string ByteArray.empty, run_convert_bytes_nil w s e h1 h3 _ _ d h2, by simp only [VR]; rfl⟩
        | some a =>
          refine ⟨.string ByteArray.empty, ?_, by simp only [VR]; rfl⟩
          show (convert s d (.slice (some a) 0 c)).run P w = _
          rw [run_convert_bytes_string w s d e a 0 c h1 h3 h2, run_bytesToString w a 0 c [] (by simp [loadCells, loadCellsFrom])]
          rfl
      | cons x xs =>
        obtain ⟨g, o, rfl, h9⟩ := h8 (by simp)
        obtain ⟨ns, h10, h11⟩ := run_bytes h4 h9
        have hn : ns.length = (x :: xs).length := by rw [← hl, ← h10]; simp
        refine ⟨_, run_convert_bytes_arg w s e h1 h3 g o _ c ns hn (fun i hi => h11 i (by omega)) d h2, ?_⟩
        simp only [VR, strOfNums, h10]
    · cases h
  · cases h

/-! ### Places -/
/-- Field f of a struct of type s: where it begins, its type. -/
def fld (P : Program) (s : TypeId) (f : Nat) : Option (Nat × TypeId) := match P.underlying s with
  | some (.struct fs) => (fs[f]?).map fun x => (x.offset, x.type)
  | _ => none
def ofs (n : Nat) : V → Option V
  | .ptr b o => some (.ptr b (o + n))
  | .rp k ver o => some (.rp k ver (o + n))
  | .ep cs => some (.ep (cs.drop n))
  | _ => none
theorem ofs_ok {w : World} {en : List CE} {n : Nat} {x z : V} {u : Value} (hx : VR w en x u) (h : ofs n x = some z) : ∃ a : Addr, u = .pointer (some a) ∧ a.spot = none ∧ VR w en z (.pointer (some (a.add n))) := by
  unfold ofs at h
  split at h
  · cases h
    simp only [VR] at hx ⊢
    obtain ⟨g, h1, rfl⟩ := hx
    exact ⟨_, rfl, rfl, g, h1, by rw [Addr_add]⟩
  · cases h
    simp only [VR] at hx ⊢
    obtain ⟨g, cur, v0, n0, sz0, rfl, h1⟩ := hx
    exact ⟨_, rfl, rfl, g, cur, v0, n0, sz0, by rw [Addr_add], h1⟩
  · cases h
    simp only [VR] at hx ⊢
    obtain ⟨g, o, rfl, h1⟩ := hx
    exact ⟨_, rfl, rfl, g, o + n, by rw [Addr_add], ER_drop h1 n⟩
  · cases h
def fieldAddrV (P : Program) (s : TypeId) (f : Nat) (x : V) : Option V := match fld P s f with
  | some (o, t) => match tySize P t with
    | some (_ + 1) => ofs o x
    | _ => none
  | none => none
theorem fieldAddr_ok {w : World} {en : List CE} {s : TypeId} {f : Nat} {x z : V} {u : Value} (hx : VR w en x u) (h : fieldAddrV P s f x = some z) : ∃ r, (Instr.fieldAt s u f).run P w = .ok r w ∧ VR w en z r := by
  unfold fieldAddrV at h
  split at h
  · rename_i o t hf
    split at h
    · rename_i m hm
      unfold fld at hf
      split at hf
      · rename_i fs hs
        simp only [Option.map_eq_some_iff, Prod.mk.injEq] at hf
        obtain ⟨y, h1, rfl, rfl⟩ := hf
        obtain ⟨a, rfl, _, h2⟩ := ofs_ok hx h
        refine ⟨_, ?_, h2⟩
        simp [Instr.fieldAt, run_underlying hs, h1, Instr.sureAddr, fieldPlace, run_sizeOf hm]
      · cases hf
    · cases h
  · cases h
def fieldV (P : Program) (s : TypeId) (f : Nat) (x : V) : Option V := match fld P s f, x with
  | some (o, t), .agg cs => readT P t cs o
  | _, _ => none
theorem run_part {w : World} {en : List CE} {cs : List V} {us : Array Value} (hl : LR w en cs us.toList) (h1 : ∀ u ∈ us.toList, u.oneCell' = true) {t : TypeId} {off : Nat} {x : V} (h : readT P t cs off = some x) :
    ∃ v, (part t us off).run P w = .ok v w ∧ VR w en x v := by
  unfold readT at h
  split at h
  · rename_i ha
    split at h
    · rename_i n hn
      split at h
      · rename_i hle
        simp only [Option.some.injEq] at h
        subst h
        refine ⟨.agg (us.extract off (off + n)), by simp [part, run_isAgg ha, run_sizeOf hn], ?_⟩
        simp only [VR]
        have he : (us.extract off (off + n)).toList = (us.toList.drop off).take n := by
          rw [Array.toList_extract, List.extract_eq_take_drop]
          congr 1; omega
        refine ⟨_, rfl, by rw [he]; exact LR_take (LR_drop hl off) n, fun u hu => ?_⟩
        rw [he] at hu
        exact h1 u (List.mem_of_mem_drop (List.mem_of_mem_take hu))
      · cases h
    · cases h
  · rename_i ha
    obtain ⟨u, hu, hx⟩ := LR_get hl off x h
    rw [Array.getElem?_toList] at hu
    exact ⟨u, by simp [part, run_isAgg ha, hu], hx⟩
  · cases h
theorem field_ok {w : World} {en : List CE} {s : TypeId} {f : Nat} {x z : V} {u : Value} (hx : VR w en x u) (h : fieldV P s f x = some z) : ∃ r, (Instr.field s u f).run P w = .ok r w ∧ VR w en z r := by
  unfold fieldV at h
  split at h
  · rename_i o t cs hf
    unfold fld at hf
    split at hf
    · rename_i fs hs
      simp only [Option.map_eq_some_iff, Prod.mk.injEq] at hf
      obtain ⟨y, h1, rfl, rfl⟩ := hf
      simp only [VR] at hx
      obtain ⟨us, rfl, h2, h3⟩ := hx
      obtain ⟨v, h4, h5⟩ := run_part h2 h3 h
      exact ⟨v, by simp [Instr.field, run_underlying hs, h1, asAgg, h4], h5⟩
    · cases hf
  · cases h

def loadV (P : Program) (σ : List AE) (t : TypeId) (x : V) : Option V := match ptrCells σ x with
  | some (cs, o) => readT P t cs o
  | none => none
theorem load_ok {w : World} {en : List CE} (hi : Iv σ en w) {t : TypeId} {x z : V} {u : Value} (hx : VR w en x u) (h : loadV P σ t x = some z) : ∃ r, (Instr.loadAt t u).run P w = .ok r w ∧ VR w en z r := by
  unfold loadV at h
  split at h
  · rename_i cs o hp
    obtain ⟨g, o', us, rfl, h1, h2, h3⟩ := ptr_ok hi hx hp
    obtain ⟨v, h4, h5⟩ := run_loadVar_at h1 h2 h3 h
    exact ⟨v, by simp [Instr.loadAt, Instr.sureAddr, h4], h5⟩
  · cases h

/-! ### Indexes -/
def indexV (P : Program) (t : TypeId) (x : V) (n : Int) : Option V := match P.underlying t, x with
  | some .string, .str l => if 0 ≤ n ∧ n.toNat < l.length then some (.int .u8 ((l.getD n.toNat 0).toNat : Int)) else none
  | some (.array len e), .agg cs => match tySize P e with
    | some sz => if 0 ≤ n ∧ n < len then readT P e cs (n.toNat * sz) else none
    | none => none
  | _, _ => none
theorem index_ok {w : World} {en : List CE} {t : TypeId} {x z : V} {n : Int} {k : IntKind} {u : Value} (hx : VR w en x u) (h : indexV P t x n = some z) : ∃ r, (Instr.index t u (.int k n)).run P w = .ok r w ∧ VR w en z r := by
  unfold indexV at h
  split at h
  · rename_i l ht
    split at h
    · rename_i hn
      cases h
      simp only [VR] at hx
      subst hx
      refine ⟨.int .u8 ((l.getD n.toNat 0).toNat : Int), ?_, by simp [VR]⟩
      have hb : (⟨l.toArray⟩ : ByteArray)[n.toNat]? = some (l.getD n.toNat 0) := by
        have hlt : n.toNat < (⟨l.toArray⟩ : ByteArray).size := by simpa [ByteArray.size] using hn.2
        have e1 : (⟨l.toArray⟩ : ByteArray)[n.toNat]? = some ((⟨l.toArray⟩ : ByteArray)[n.toNat]'hlt) := by
          simp only [getElem?, decidableGetElem?]
          rw [dif_pos hlt]
        rw [e1, List.getD_eq_getElem?_getD, List.getElem?_eq_getElem hn.2]
        rfl
      simp [Instr.index, asIntOf, run_underlying ht, hn.1, hb]
    · cases h
  · rename_i len e cs ht
    split at h
    · rename_i sz hsz
      split at h
      · rename_i hn
        simp only [VR] at hx
        obtain ⟨us, rfl, h2, h3⟩ := hx
        obtain ⟨v, h4, h5⟩ := run_part h2 h3 h
        exact ⟨v, by simp [Instr.index, asIntOf, run_underlying ht, hn.1, hn.2, run_sizeOf hsz, h4], h5⟩
      · cases h
    · cases h
  · cases h

/-- Elements all of sz cells. -/
def flat (sz : Nat) (xs : List (List V)) : Bool := xs.all fun x => x.length == sz
theorem RR_at {w : World} {en : List CE} {sz : Nat} : ∀ {xs : List (List V)} {g o : Nat}, flat sz xs = true → RR w en xs g o → ∀ i (h : i < xs.length), ER w en xs[i] g (o + i * sz)
  | [], g, o, _, _, i, hi => absurd hi (by simp)
  | x :: xs, g, o, hf, hr, i, hi => by
    simp only [flat, List.all_cons, Bool.and_eq_true, beq_iff_eq] at hf
    simp only [RR] at hr
    cases i with
    | zero => simpa using hr.1
    | succ i =>
      have := RR_at (xs := xs) (sz := sz) (by simpa [flat] using hf.2) hr.2 i (by simpa using hi)
      simp only [List.getElem_cons_succ]
      rwa [show o + (i + 1) * sz = o + x.length + i * sz from by rw [hf.1, Nat.add_mul]; omega]
theorem RR_drop {w : World} {en : List CE} {sz : Nat} {xs : List (List V)} {g o : Nat} (hf : flat sz xs = true) (hr : RR w en xs g o) (n : Nat) : RR w en (xs.drop n) g (o + n * sz) := by
  induction n generalizing xs o with
  | zero => simpa using hr
  | succ n ih =>
    cases xs with
    | nil => simp [RR]
    | cons x xs =>
      simp only [flat, List.all_cons, Bool.and_eq_true, beq_iff_eq] at hf
      simp only [RR] at hr
      have := ih (xs := xs) (by simpa [flat] using hf.2) hr.2
      simp only [List.drop_succ_cons]
      rwa [show o + (n + 1) * sz = o + x.length + n * sz from by rw [hf.1, Nat.add_mul]; omega]
theorem RR_take' {w : World} {en : List CE} : ∀ {xs : List (List V)} {g o : Nat}, RR w en xs g o → ∀ n, RR w en (xs.take n) g o
  | _, _, _, _, 0 => by simp [RR]
  | [], _, _, _, _ + 1 => by simp [RR]
  | x :: xs, g, o, h, n + 1 => by
    simp only [RR, List.take_succ_cons] at h ⊢
    exact ⟨h.1, RR_take' h.2 n⟩
def indexAddrV (P : Program) (t : TypeId) (x : V) (n : Int) : Option V := match P.underlying t, x with
  | some (.slice e), .sl _ xs => match tySize P e with
    | some sz => if 0 ≤ n ∧ n.toNat < xs.length ∧ flat sz xs = true then some (.ep (xs.getD n.toNat [])) else none
    | none => none
  | some (.slice e), .ms b o m _ => match tySize P e with
    | some sz => if 0 ≤ n ∧ n < m then some (.ptr b (o + n.toNat * sz)) else none
    | none => none
  | some (.slice e), .rw k ver m => match tySize P e with
    | some sz => if 0 ≤ n ∧ n < m then some (.rp k ver (n.toNat * sz)) else none
    | none => none
  | some (.slice e), .rs k ver o m => match tySize P e with
    | some sz => if 0 ≤ n ∧ n < m then some (.rp k ver (o + n.toNat * sz)) else none
    | none => none
  | some (.array len e), x => match tySize P e with
    | some sz => if 0 ≤ n ∧ n < len then ofs (n.toNat * sz) x else none
    | none => none
  | _, _ => none
theorem indexAddr_ok {w : World} {en : List CE} {t : TypeId} {x z : V} {n : Int} {k : IntKind} {u : Value} (hx : VR w en x u) (h : indexAddrV P t x n = some z) : ∃ r, (Instr.indexAt t u (.int k n)).run P w = .ok r w ∧ VR w en z r := by
  unfold indexAddrV at h
  split at h
  · rename_i e tg xs ht
    split at h
    · rename_i sz hsz
      split at h
      · rename_i hn
        obtain ⟨h0, h1, hf⟩ := hn
        cases h
        simp only [VR] at hx ⊢
        obtain ⟨A, c, rfl, _, _, _, h4⟩ := hx
        obtain ⟨g, o, rfl, hr⟩ := h4 (by intro he; subst he; simp at h1)
        have hlt : n < (xs.length : Int) := by omega
        refine ⟨_, by simp [Instr.indexAt, asIntOf, run_underlying ht, h0, hlt, run_sizeOf hsz, Addr_add], g, o + n.toNat * sz, rfl, ?_⟩
        rw [List.getD_eq_getElem?_getD, List.getElem?_eq_getElem h1]
        exact RR_at hf hr _ h1
      · cases h
    · cases h
  · rename_i e b o m c ht
    split at h
    · rename_i sz hsz
      split at h
      · rename_i hn
        cases h
        simp only [VR] at hx ⊢
        obtain ⟨g, h1, rfl, _⟩ := hx
        exact ⟨_, by simp [Instr.indexAt, asIntOf, run_underlying ht, hn.1, hn.2, run_sizeOf hsz, Addr_add], g, h1, rfl⟩
      · cases h
    · cases h
  · rename_i e k ver m ht
    split at h
    · rename_i sz hsz
      split at h
      · rename_i hn
        cases h
        simp only [VR] at hx ⊢
        obtain ⟨A, c, cur, v0, n0, sz0, rfl, h1, h2, h3, h4, h5, h6⟩ := hx
        obtain ⟨g, rfl⟩ := h3 (by omega)
        refine ⟨_, by simp [Instr.indexAt, asIntOf, run_underlying ht, hn.1, hn.2, run_sizeOf hsz, Addr_add], g, cur, v0, n0, sz0, rfl, h4, h5, fun e => ?_⟩
        rw [(h6 e).1]
        rfl
      · cases h
    · cases h
  · rename_i e k ver o m ht
    split at h
    · rename_i sz hsz
      split at h
      · rename_i hn
        cases h
        simp only [VR] at hx ⊢
        obtain ⟨A, c, cur, v0, n0, sz0, rfl, h1, h2, h4, h5, h6⟩ := hx
        obtain ⟨g, rfl, h7⟩ := h6 (by omega)
        exact ⟨_, by simp [Instr.indexAt, asIntOf, run_underlying ht, hn.1, hn.2, run_sizeOf hsz, Addr_add], g, cur, v0, n0, sz0, rfl, h4, h5, h7⟩
      · cases h
    · cases h
  · rename_i len e x ht
    split at h
    · rename_i sz hsz
      split at h
      · rename_i hn
        obtain ⟨a, rfl, _, h2⟩ := ofs_ok hx h
        exact ⟨_, by simp [Instr.indexAt, asIntOf, run_underlying ht, Instr.sureAddr, hn.1, hn.2, run_sizeOf hsz], h2⟩
      · cases h
    · cases h
  · cases h

end
end Go.Proofs.YtdjjlbjagaadaaaGreatDoor.A
/- Slicing, builtins, literals, stores; and all operations in one function. -/
namespace Go.Proofs.YtdjjlbjagaadaaaGreatDoor.A
open Go Go.RowKit
set_option linter.unusedVariables false

section
variable {P : Program} {σ : List AE} {fr : List V}

/-! ### Slices of strings and slices -/
def bnd (d : Int) : Option V → Option Int
  | none => some d
  | some (.int _ n) => some n
  | _ => none
def tagCut (t : Tag) (full : Bool) : Tag := match t with
  | .nil => .nil
  | .full => if full then .full else .ro
  | _ => .ro
/-- x[lo:hi] of a string. -/
def sliceStr (l : List UInt8) (lo hi : Option V) : Option V := match bnd 0 lo, bnd l.length hi with
  | some a, some b => if 0 ≤ a ∧ a ≤ b ∧ b ≤ l.length then some (.str ((l.take b.toNat).drop a.toNat)) else none
  | _, _ => none
/-- x[lo:hi] of a slice, its elements of sz cells; x[lo:hi:mx] where mx is hi. -/
def sliceSl (sz : Nat) (t : Tag) (xs : List (List V)) (lo hi mx : Option V) : Option V := match bnd 0 lo, bnd xs.length hi with
  | some a, some b => if 0 ≤ a ∧ a ≤ b ∧ b ≤ xs.length ∧ flat sz xs = true then
      match mx with
      | none => some (.sl (tagCut t hi.isNone) ((xs.take b.toNat).drop a.toNat))
      | some (.int _ m) => if m = b ∧ hi.isSome = true then some (.sl .full ((xs.take b.toNat).drop a.toNat)) else none
      | _ => none
    else none
  | _, _ => none
/-- x[lo:hi] of a row's own slice of m elements from cell o on. -/
def sliceRw (sz k ver o m : Nat) (lo hi : Option V) : Option V := match bnd 0 lo, bnd m hi with
  | some a, some b => if 0 ≤ a ∧ a ≤ b ∧ b ≤ m then some (.rs k ver (o + a.toNat * sz) (b.toNat - a.toNat)) else none
  | _, _ => none
def sliceV (P : Program) (t : TypeId) (x : V) (lo hi mx : Option V) : Option V := match P.underlying t, x with
  | some .string, .str l => if mx.isNone then sliceStr l lo hi else none
  | some (.slice e), .sl tg xs => match tySize P e with
    | some sz => sliceSl sz tg xs lo hi mx
    | none => none
  | some (.slice e), .rw k ver m => match tySize P e with
    | some sz => if mx.isNone then sliceRw sz k ver 0 m lo hi else none
    | none => none
  | some (.slice e), .rs k ver o m => match tySize P e with
    | some sz => if mx.isNone then sliceRw sz k ver o m lo hi else none
    | none => none
  | _, _ => none
/-- An operand that may be missing. -/
def VRo (w : World) (en : List CE) : Option V → Option Value → Prop
  | none, none => True
  | some x, some v => VR w en x v
  | _, _ => False
theorem bnd_ok {w : World} {en : List CE} {d : Int} {x : Option V} {v : Option Value} (h : VRo w en x v) {n : Int} (hb : bnd d x = some n) : (v = none ∧ x = none ∧ n = d) ∨ ∃ k, v = some (.int k n) := by
  cases x with
  | none => cases v with
    | none => simp only [bnd, Option.some.injEq] at hb; exact .inl ⟨rfl, rfl, hb.symm⟩
    | some v => exact h.elim
  | some x => cases v with
    | none => exact h.elim
    | some v =>
      cases x <;> simp only [bnd] at hb <;> first | cases hb; done | skip
      simp only [Option.some.injEq] at hb
      subst hb
      simp only [VRo, VR] at h
      exact .inr ⟨_, by rw [h]⟩
theorem run_bound {k : IntKind} {n : Int} {y : Nat} {c : BoundsCode} (h0 : 0 ≤ n) (h1 : n ≤ y) (w : World) : (Instr.sliceBound (.int k n) y c).run P w = .ok n.toNat w := by
  simp [Instr.sliceBound, asIntOf, h0, h1]
theorem run_sliceBounds {isS : Bool} {len cap : Nat} {lo hi mx : Option Value} {a b m : Int} (hlo : (lo = none ∧ a = 0) ∨ ∃ k, lo = some (.int k a)) (hhi : (hi = none ∧ b = len ∧ mx = none) ∨ ∃ k, hi = some (.int k b)) (hmx : (mx = none ∧ m = cap) ∨ ∃ k, mx = some (.int k m))
    (h0 : 0 ≤ a) (h1 : a ≤ b) (h2 : b ≤ m) (h3 : m ≤ cap) (w : World) : (Instr.sliceBounds isS len cap lo hi mx).run P w = .ok (a.toNat, b.toNat, m.toNat) w := by
  have em : (m.toNat : Int) = m := by omega
  have eb : (b.toNat : Int) = b := by omega
  rcases hmx with ⟨rfl, rfl⟩ | ⟨km, rfl⟩ <;> rcases hhi with ⟨rfl, rfl, e⟩ | ⟨kh, rfl⟩ <;> rcases hlo with ⟨rfl, rfl⟩ | ⟨kl, rfl⟩ <;> (try cases e)
  all_goals simp only [Instr.sliceBounds, Sem.run_bind, Sem.run_pure, Result.andThen_ok]
  all_goals (try rw [run_bound (by omega) (by omega)])
  all_goals (try simp only [Result.andThen_ok])
  all_goals (try rw [run_bound (by omega) (by omega)])
  all_goals (try simp only [Result.andThen_ok])
  all_goals (try rw [run_bound (by omega) (by omega)])
  all_goals (try simp only [Result.andThen_ok])
  all_goals simp
theorem sliceRw_ok {w : World} {en : List CE} {t e : TypeId} {sz k ver o m : Nat} {z : V} {lo hi mx : Option V} {ulo uhi umx : Option Value} {A : Option Addr} {c : Nat} (ht : P.underlying t = some (.slice e)) (hsz : tySize P e = some sz) (hlo : VRo w en lo ulo) (hhi : VRo w en hi uhi) (hmx : VRo w en mx umx) (hm : mx.isNone = true)
    (h1 : m ≤ c) (h2 : c ≤ maxLen) {cur n0 sz0 : Nat} {v0 : Value} (h3 : en[k]? = some (.row cur v0 n0 sz0)) (h4 : ver ≤ cur) (h5 : m ≠ 0 → ∃ g, A = some ⟨g, o, none⟩ ∧ (ver = cur → v0.ownBlock = some g)) (h : sliceRw sz k ver o m lo hi = some z) :
    ∃ r, (Instr.sliceAt t (.slice A m c) ulo uhi umx).run P w = .ok r w ∧ VR w en z r := by
  unfold sliceRw at h
  split at h
  · rename_i a b ha hb
    split at h
    · rename_i hn
      obtain ⟨k0, k1, k2⟩ := hn
      cases h
      have hmn : umx = none := by
        cases mx with
        | none => cases umx with
          | none => rfl
          | some _ => exact hmx.elim
        | some _ => cases hm
      subst hmn
      have hlo' : (ulo = none ∧ a = 0) ∨ ∃ k, ulo = some (.int k a) := by rcases bnd_ok hlo ha with ⟨e1, _, e2⟩ | hk; exact .inl ⟨e1, e2⟩; exact .inr hk
      have hhi' : (uhi = none ∧ b = m ∧ (none : Option Value) = none) ∨ ∃ k, uhi = some (.int k b) := by rcases bnd_ok hhi hb with ⟨e1, _, e2⟩ | hk; exact .inl ⟨e1, e2, rfl⟩; exact .inr hk
      have hr := run_sliceBounds (P := P) (isS := true) (len := m) (cap := c) (m := c) hlo' hhi' (.inl ⟨rfl, rfl⟩) k0 k1 (by omega) (Int.le_refl _) w
      refine ⟨.slice (if c = a.toNat then A else A.map (·.add (a.toNat * sz))) (b.toNat - a.toNat) (c - a.toNat), by simp [Instr.sliceAt, Instr.slice, run_underlying ht, hr, run_sizeOf hsz], ?_⟩
      simp only [VR]
      refine ⟨_, _, cur, v0, n0, sz0, rfl, by omega, by omega, h3, h4, fun hne => ?_⟩
      obtain ⟨g, rfl, h6⟩ := h5 (by omega)
      refine ⟨g, ?_, h6⟩
      rw [if_neg (by omega)]
      simp [Addr_add]
    · cases h
  · cases h
theorem slice_ok {w : World} {en : List CE} {t : TypeId} {x z : V} {lo hi mx : Option V} {u : Value} {ulo uhi umx : Option Value} (hx : VR w en x u) (hlo : VRo w en lo ulo) (hhi : VRo w en hi uhi) (hmx : VRo w en mx umx) (h : sliceV P t x lo hi mx = some z) :
    ∃ r, (Instr.sliceAt t u ulo uhi umx).run P w = .ok r w ∧ VR w en z r := by
  unfold sliceV at h
  split at h
  · rename_i l ht
    split at h
    · rename_i hm
      unfold sliceStr at h
      split at h
      · rename_i a b ha hb
        split at h
        · rename_i hn
          obtain ⟨h0, h1, h2⟩ := hn
          cases h
          simp only [VR] at hx
          subst hx
          have hmn : umx = none := by
            cases mx with
            | none => cases umx with
              | none => rfl
              | some _ => exact hmx.elim
            | some _ => cases hm
          subst hmn
          have hr := run_sliceBounds (P := P) (isS := false) (len := l.length) (cap := l.length) (mx := none) (m := l.length)
            (by rcases bnd_ok hlo ha with ⟨e1, _, e2⟩ | hk; exact .inl ⟨e1, e2⟩; exact .inr hk)
            (by rcases bnd_ok hhi hb with ⟨e1, _, e2⟩ | hk; exact .inl ⟨e1, e2, rfl⟩; exact .inr hk) (.inl ⟨rfl, rfl⟩) h0 h1 h2 (Int.le_refl _) w
          have hsz : (⟨l.toArray⟩ : ByteArray).size = l.length := by simp [ByteArray.size]
          refine ⟨.string ((⟨l.toArray⟩ : ByteArray).extract a.toNat b.toNat), ?_, ?_⟩
          · simp [Instr.sliceAt, Instr.slice, run_underlying ht, hsz, hr]
          · simp only [VR]
            congr 1
            apply ByteArray.ext
            apply Array.ext'
            rw [ByteArray.data_extract, Array.toList_extract, List.extract_eq_take_drop]
            rw [List.drop_take]
        · cases h
      · cases h
    · cases h
  · rename_i e tg xs ht
    split at h
    · rename_i sz hsz
      unfold sliceSl at h
      split at h
      · rename_i a b ha hb
        split at h
        · rename_i hn
          obtain ⟨h0, h1, h2, hf⟩ := hn
          simp only [VR] at hx
          obtain ⟨A, c, rfl, h3, h4, h5, h6⟩ := hx
          have hlo' : (ulo = none ∧ a = 0) ∨ ∃ k, ulo = some (.int k a) := by rcases bnd_ok hlo ha with ⟨e1, _, e2⟩ | hk; exact .inl ⟨e1, e2⟩; exact .inr hk
          have hlen : ((xs.take b.toNat).drop a.toNat).length = b.toNat - a.toNat := by rw [List.length_drop, List.length_take]; omega
          have hcell : ∀ m : Nat, b.toNat ≤ m → (xs.take b.toNat).drop a.toNat ≠ [] → ∃ g o, (if m = a.toNat then A else A.map (·.add (a.toNat * sz))) = some ⟨g, o, none⟩ ∧ RR w en ((xs.take b.toNat).drop a.toNat) g o := fun m hm hne => by
            have hne' : 0 < ((xs.take b.toNat).drop a.toNat).length := List.length_pos_iff.2 hne
            obtain ⟨g, o, rfl, hr⟩ := h6 (by intro he; subst he; simp at hne')
            refine ⟨g, o + a.toNat * sz, ?_, ?_⟩
            · rw [if_neg (by omega)]
              simp [Addr_add]
            · refine RR_drop ?_ (RR_take' hr _) _
              simp only [flat, List.all_eq_true] at hf ⊢
              exact fun x hx => hf x (List.mem_of_mem_take hx)
          split at h
          · -- no third index
            cases h
            have hmn : umx = none := by cases umx with
              | none => rfl
              | some _ => exact hmx.elim
            subst hmn
            have hhi' : (uhi = none ∧ b = xs.length ∧ (none : Option Value) = none) ∨ ∃ k, uhi = some (.int k b) := by rcases bnd_ok hhi hb with ⟨e1, _, e2⟩ | hk; exact .inl ⟨e1, e2, rfl⟩; exact .inr hk
            have hr := run_sliceBounds (P := P) (isS := true) (len := xs.length) (cap := c) (m := c) hlo' hhi' (.inl ⟨rfl, rfl⟩) h0 h1 (by omega) (Int.le_refl _) w
            refine ⟨.slice (if c = a.toNat then A else A.map (·.add (a.toNat * sz))) (b.toNat - a.toNat) (c - a.toNat), by simp [Instr.sliceAt, Instr.slice, run_underlying ht, hr, run_sizeOf hsz], ?_⟩
            simp only [VR]
            refine ⟨_, _, by rw [hlen], by rw [hlen]; omega, by omega, ?_, hcell c (by omega)⟩
            cases tg with
            | ro => trivial
            | own _ _ => trivial
            | nil =>
              simp only [tagCut, TagOk] at h5 ⊢
              have : xs.length = 0 ∧ c = 0 ∧ A = none := by injection h5 with e1 e2 e3; exact ⟨e2, e3, e1⟩
              obtain ⟨e1, e2, e3⟩ := this
              subst e3
              have eb : b = 0 := by omega
              have ea : a = 0 := by omega
              subst eb; subst ea; subst e2
              simp
            | full =>
              cases hi with
              | none =>
                simp only [tagCut, Option.isNone_none, if_true, TagOk] at h5 ⊢
                simp only [bnd, Option.some.injEq] at hb
                rw [hlen]; omega
              | some _ => simp [tagCut, TagOk]
          · rename_i km m
            split at h
            · rename_i hmb
              obtain ⟨hmb, hsome⟩ := hmb
              subst hmb
              cases h
              cases umx with
              | none => exact hmx.elim
              | some um =>
                simp only [VRo, VR] at hmx
                subst hmx
                have hhi' : (uhi = none ∧ m = xs.length ∧ some (Value.int km m) = none) ∨ ∃ k, uhi = some (.int k m) := by
                  rcases bnd_ok hhi hb with ⟨_, e1, _⟩ | hk
                  · rw [e1] at hsome; cases hsome
                  · exact .inr hk
                have hr := run_sliceBounds (P := P) (isS := true) (len := xs.length) (cap := c) (m := m) hlo' hhi' (.inr ⟨_, rfl⟩) h0 h1 (Int.le_refl _) (by omega) w
                refine ⟨.slice (if m.toNat = a.toNat then A else A.map (·.add (a.toNat * sz))) (m.toNat - a.toNat) (m.toNat - a.toNat), by simp [Instr.sliceAt, Instr.slice, run_underlying ht, hr, run_sizeOf hsz], ?_⟩
                simp only [VR]
                exact ⟨_, _, by rw [hlen], by rw [hlen]; omega, by omega, by rw [hlen]; rfl, hcell m.toNat (Nat.le_refl _)⟩
            · cases h
          · cases h
        · cases h
      · cases h
    · cases h
  · rename_i e k ver m ht
    split at h
    · rename_i sz hsz
      split at h
      · rename_i hm
        simp only [VR] at hx
        obtain ⟨A, c, cur, v0, n0, sz0, rfl, h1, h2, h3, h4, h5, h6⟩ := hx
        exact sliceRw_ok ht hsz hlo hhi hmx hm h1 h2 h4 h5 (fun hne => by
          obtain ⟨g, rfl⟩ := h3 hne
          exact ⟨g, rfl, fun e => by rw [(h6 e).1]; rfl⟩) h
      · cases h
    · cases h
  · rename_i e k ver o m ht
    split at h
    · rename_i sz hsz
      split at h
      · rename_i hm
        simp only [VR] at hx
        obtain ⟨A, c, cur, v0, n0, sz0, rfl, h1, h2, h4, h5, h6⟩ := hx
        exact sliceRw_ok ht hsz hlo hhi hmx hm h1 h2 h4 h5 h6 h
      · cases h
    · cases h
  · cases h

/-! ### Writing cells -/
def wr0 : List V → Nat → List V → List V
  | cs, _, [] => cs
  | cs, o, u :: us => wr0 (cs.set o u) (o + 1) us
theorem wr0_length : ∀ (us cs : List V) (o : Nat), (wr0 cs o us).length = cs.length
  | [], cs, o => rfl
  | u :: us, cs, o => by simp [wr0, wr0_length us]
theorem set_eq (cs : List Value) (o : Nat) (u : Value) (h : o < cs.length) : cs.set o u = cs.take o ++ [u] ++ cs.drop (o + 1) := by
  simp [List.set_eq_take_append_cons_drop, h]
theorem LR_wr0 {w : World} {en : List CE} : ∀ {us : List V} {vs : List Value} {cs : List V} {ds : List Value} {o : Nat}, LR w en cs ds → LR w en us vs → o + us.length ≤ cs.length → LR w en (wr0 cs o us) (ds.take o ++ vs ++ ds.drop (o + vs.length))
  | [], vs, cs, ds, o, h, hu, _ => by
    simp only [LR] at hu
    subst hu
    simpa [wr0] using h
  | u :: us, vs, cs, ds, o, h, hu, hl => by
    simp only [LR] at hu
    obtain ⟨v, vs', rfl, h1, h2⟩ := hu
    simp only [List.length_cons] at hl
    have hd := LR_length h
    have := LR_wr0 (o := o + 1) (LR_set h o h1) h2 (by simp; omega)
    simp only [wr0]
    rw [set_eq ds o v (by omega)] at this
    have ht : (List.take o ds ++ [v] ++ List.drop (o + 1) ds).take (o + 1) = ds.take o ++ [v] := by
      rw [List.take_append_of_le_length (by simp; omega)]
      rw [List.take_of_length_le (by simp; omega)]
    have hdr : (List.take o ds ++ [v] ++ List.drop (o + 1) ds).drop (o + 1 + vs'.length) = ds.drop (o + (v :: vs').length) := by
      rw [List.drop_append, List.drop_of_length_le (by simp; omega), List.nil_append, List.drop_drop]
      congr 1
      simp; omega
    rw [ht, hdr] at this
    simpa using this
theorem wr0_all : ∀ (us : List V) (o : Nat) (cs : List V), o + us.length ≤ cs.length → wr0 cs o us = cs.take o ++ (us ++ cs.drop (o + us.length))
  | [], o, cs, h => by simp [wr0]
  | u :: us, o, cs, h => by
    simp only [List.length_cons] at h
    have hl : o < cs.length := by omega
    have e : cs.set o u = cs.take o ++ u :: cs.drop (o + 1) := by simp [List.set_eq_take_append_cons_drop, hl]
    have et : (cs.take o).length = o := by simp; omega
    rw [wr0, wr0_all us (o + 1) (cs.set o u) (by simp; omega), e]
    have h1 : (cs.take o ++ u :: cs.drop (o + 1)).take (o + 1) = cs.take o ++ [u] := by
      rw [List.take_append, et, List.take_of_length_le (by omega), show o + 1 - o = 1 from by omega]
      rfl
    have h2 : (cs.take o ++ u :: cs.drop (o + 1)).drop (o + 1 + us.length) = cs.drop (o + (us.length + 1)) := by
      rw [List.drop_append, et, List.drop_of_length_le (by omega), List.nil_append, show o + 1 + us.length - o = us.length + 1 from by omega, List.drop_succ_cons, List.drop_drop]
      congr 1
      omega
    rw [h1, h2]
    simp
/-- One by one, or all at once. -/
def wr (cs : List V) (o : Nat) (us : List V) : List V := if us.length ≤ 1 then wr0 cs o us else if o + us.length ≤ cs.length then cs.take o ++ (us ++ cs.drop (o + us.length)) else wr0 cs o us
theorem wr_eq (cs : List V) (o : Nat) (us : List V) : wr cs o us = wr0 cs o us := by
  unfold wr
  split
  · rfl
  · split
    · rename_i h
      exact (wr0_all us o cs h).symm
    · rfl
theorem wr_length (us cs : List V) (o : Nat) : (wr cs o us).length = cs.length := by rw [wr_eq, wr0_length]
theorem LR_wr {w : World} {en : List CE} {us : List V} {vs : List Value} {cs : List V} {ds : List Value} {o : Nat} (h1 : LR w en cs ds) (h2 : LR w en us vs) (h : o + us.length ≤ cs.length) : LR w en (wr cs o us) (ds.take o ++ vs ++ ds.drop (o + vs.length)) := by
  rw [wr_eq]
  exact LR_wr0 h1 h2 h
theorem take_put {α : Type} {cu vs : List α} {o L : Nat} (h : vs.length + o ≤ L) : (cu.take o ++ vs ++ cu.drop (o + vs.length)).take L = (cu.take L).take o ++ vs ++ (cu.take L).drop (o + vs.length) := by
  by_cases hc : o ≤ cu.length
  · have e1 : (cu.take o).length = o := by simp; omega
    rw [List.append_assoc, List.take_append, List.take_append, e1, List.take_of_length_le (by rw [e1]; omega), List.take_of_length_le (by omega : vs.length ≤ L - o), List.take_take, Nat.min_eq_left (by omega), List.drop_take, List.append_assoc]
    congr 3
    omega
  · have e1 : cu.take o = cu := List.take_of_length_le (by omega)
    have e2 : cu.drop (o + vs.length) = [] := List.drop_of_length_le (by omega)
    have e3 : cu.take L = cu := List.take_of_length_le (by omega)
    rw [e3, e1, e2, List.append_nil]
    exact List.take_of_length_le (by simp; omega)
def storeS (P : Program) (σ : List AE) (t : TypeId) (a x : V) : Option (V × List AE) := match a with
  | .ptr b o => match σ[b]?, cellsV x, tySize P t with
    | some (.box cs), some us, some n => if us.length = n ∧ o + n ≤ cs.length then some (.junk, σ.set b (.box (wr cs o us))) else none
    | some (.boxt T cs), some us, some n => if us.length = n ∧ o + n ≤ cs.length then some (.junk, σ.set b (.boxt T (wr cs o us))) else none
    | _, _, _ => none
  | .rp k ver o => match σ[k]?, cellsV x, tySize P t with
    | some (.row cur e sz m cs), some us, some n => if cur = ver ∧ us.length = n ∧ o + n ≤ cs.length then some (.junk, σ.set k (.row cur e sz m (wr cs o us))) else none
    | _, _, _ => none
  | _ => none
theorem setRow_ext {w : World} {en : List CE} {x : CE} {g : Nat} (hm : x ∈ en) (hb : ebl x = some g) (hno : ∀ o, ¬ okc x g o) {vs : Array Value} : Ext w en (w.setRow g vs) en where
  os := rfl
  tape := rfl
  output := rfl
  size := by simp [World.setRow]
  block := fun k _ hk => setRow_other w g k vs (fun e => hk _ hm (by rw [hb, e]))
  st := fun g' o u hs => by
    have hne : g' ≠ g := fun e => hno o (by have := hs.2 _ hm; rwa [e] at this)
    exact ⟨(World.cell?_of_block (setRow_other w g g' vs hne)).trans hs.1, hs.2⟩
  ent := fun i x hx => ⟨x, hx, Evo.refl x⟩
  fresh := fun x hx g hg _ => ⟨x, hx, hg⟩
theorem store_ok {w : World} {en : List CE} (hi : Iv σ en w) {t : TypeId} {a x z : V} {σ' : List AE} {u v : Value} (ha : VR w en a u) (hx : VR w en x v) (h : storeS P σ t a x = some (z, σ')) :
    ∃ w', (Instr.storeAt t u v).run P w = .ok () w' ∧ z = .junk ∧ Iv σ' en w' ∧ Ext w en w' en := by
  unfold storeS at h
  split at h
  · rename_i b o
    split at h
    · rename_i cs us n hb hc hn
      split at h
      · rename_i hl
        obtain ⟨hl1, hl2⟩ := hl
        simp only [Option.some.injEq, Prod.mk.injEq] at h
        obtain ⟨rfl, rfl⟩ := h
        simp only [VR] at ha
        obtain ⟨g, hg, rfl⟩ := ha
        have hk := hi.ok b _ _ hb hg
        simp only [EOk] at hk
        obtain ⟨ds, T, h1, h2, h3⟩ := hk
        obtain ⟨k1, k2⟩ := cells_ok hx hc
        have hvl := LR_length k1
        have hdl := LR_length h2
        have hst := run_storeCells_at P g o T v.cells.toList 0 ds w h1 (by rw [hvl]; simp only [Array.length_toList] at hdl; omega) k2
        simp only [Nat.add_zero] at hst
        have hsz : v.cells.size = n := by rw [← hl1, ← hvl]; simp
        have hlr := LR_wr (o := o) h2 k1 (by omega)
        have hone : ∀ u ∈ ds.toList.take o ++ v.cells.toList ++ ds.toList.drop (o + v.cells.toList.length), u.oneCell' = true := fun u hu => by
          rcases List.mem_append.1 hu with hu | hu
          · rcases List.mem_append.1 hu with hu | hu
            · exact h3 u (List.mem_of_mem_take hu)
            · exact k2 u hu
          · exact h3 u (List.mem_of_mem_drop hu)
        generalize ds.toList.take o ++ v.cells.toList ++ ds.toList.drop (o + v.cells.toList.length) = nl at hst hlr hone
        have he := setRow_ext (w := w) (vs := nl.toArray) (List.mem_of_getElem? hg) rfl (fun o h => h rfl)
        refine ⟨w.setRow g nl.toArray, by simp [Instr.storeAt, Instr.sureAddr, storeVar, run_sizeOf hn, hsz, hst], rfl, ?_, he⟩
        refine ⟨by simp [hi.len], fun i a x ha hx => ?_, hi.dis⟩
        rw [List.getElem?_set] at ha
        split at ha
        · rename_i hbi
          subst hbi
          split at ha
          · cases ha
            rw [hg] at hx
            cases hx
            exact ⟨nl.toArray, T, setRow_heap w g ds _ T (0, 0) h1, LR_ext he _ _ hlr, hone⟩
          · cases ha
        · rename_i hbi
          refine (hi.ok i a x ha hx).keep he (fun g' hg' => setRow_other w g g' _ (fun e => ?_))
          subst e
          exact hbi (hi.dis b i _ x g' hg hx rfl hg')
      · cases h
    · rename_i T cs us n hb hc hn
      split at h
      · rename_i hl
        obtain ⟨hl1, hl2⟩ := hl
        simp only [Option.some.injEq, Prod.mk.injEq] at h
        obtain ⟨rfl, rfl⟩ := h
        simp only [VR] at ha
        obtain ⟨g, hg, rfl⟩ := ha
        have hk := hi.ok b _ _ hb hg
        simp only [EOk] at hk
        obtain ⟨ds, h1, h2, h3⟩ := hk
        obtain ⟨k1, k2⟩ := cells_ok hx hc
        have hvl := LR_length k1
        have hdl := LR_length h2
        have hst := run_storeCells_at P g o T v.cells.toList 0 ds w h1 (by rw [hvl]; simp only [Array.length_toList] at hdl; omega) k2
        simp only [Nat.add_zero] at hst
        have hsz : v.cells.size = n := by rw [← hl1, ← hvl]; simp
        have hlr := LR_wr (o := o) h2 k1 (by omega)
        have hone : ∀ u ∈ ds.toList.take o ++ v.cells.toList ++ ds.toList.drop (o + v.cells.toList.length), u.oneCell' = true := fun u hu => by
          rcases List.mem_append.1 hu with hu | hu
          · rcases List.mem_append.1 hu with hu | hu
            · exact h3 u (List.mem_of_mem_take hu)
            · exact k2 u hu
          · exact h3 u (List.mem_of_mem_drop hu)
        generalize ds.toList.take o ++ v.cells.toList ++ ds.toList.drop (o + v.cells.toList.length) = nl at hst hlr hone
        have he := setRow_ext (w := w) (vs := nl.toArray) (List.mem_of_getElem? hg) rfl (fun o h => h rfl)
        refine ⟨w.setRow g nl.toArray, by simp [Instr.storeAt, Instr.sureAddr, storeVar, run_sizeOf hn, hsz, hst], rfl, ?_, he⟩
        refine ⟨by simp [hi.len], fun i a x ha hx => ?_, hi.dis⟩
        rw [List.getElem?_set] at ha
        split at ha
        · rename_i hbi
          subst hbi
          split at ha
          · cases ha
            rw [hg] at hx
            cases hx
            exact ⟨nl.toArray, setRow_heap w g ds _ T (0, 0) h1, LR_ext he _ _ hlr, hone⟩
          · cases ha
        · rename_i hbi
          refine (hi.ok i a x ha hx).keep he (fun g' hg' => setRow_other w g g' _ (fun e => ?_))
          subst e
          exact hbi (hi.dis b i _ x g' hg hx rfl hg')
      · cases h
    · cases h
  · rename_i k ver o
    split at h
    · rename_i cur e sz m cs us n hb hc hn
      split at h
      · rename_i hl
        obtain ⟨hl0, hl1, hl2⟩ := hl
        simp only [Option.some.injEq, Prod.mk.injEq] at h
        obtain ⟨rfl, rfl⟩ := h
        simp only [VR] at ha
        obtain ⟨g, cur', v0, n0, sz0, rfl, hg, hle, hlk⟩ := ha
        have hk := hi.ok k _ _ hb hg
        simp only [EOk] at hk
        obtain ⟨rfl, rfl, rfl, ds, h1, h2, h3⟩ := hk
        have hob := hlk hl0.symm
        have h1' := h1
        rcases h1.2 with ⟨rfl, _⟩ | ⟨g', cap, cu, rfl, _, hgg, hnc, hcm, hcs, htk⟩
        · cases hob
        obtain rfl : g' = g := by simpa [Value.ownBlock] using hob
        obtain ⟨k1, k2⟩ := cells_ok hx hc
        have hvl := LR_length k1
        have hdl := LR_length h2
        have hdn : ds.length = m * sz := h1.1
        have hcl : m * sz ≤ cu.size := by rw [hcs]; exact Nat.mul_le_mul_right _ hnc
        have hst := run_storeCells_at P g' o e v.cells.toList 0 cu w hgg (by omega) k2
        simp only [Nat.add_zero] at hst
        have hsz : v.cells.size = n := by rw [← hl1, ← hvl]; simp
        have hlr := LR_wr (o := o) h2 k1 (by omega)
        have hone : ∀ u ∈ ds.take o ++ v.cells.toList ++ ds.drop (o + v.cells.toList.length), u.oneCell' = true := fun u hu => by
          rcases List.mem_append.1 hu with hu | hu
          · rcases List.mem_append.1 hu with hu | hu
            · exact h3 u (List.mem_of_mem_take hu)
            · exact k2 u hu
          · exact h3 u (List.mem_of_mem_drop hu)
        have htake : (cu.toList.take o ++ v.cells.toList ++ cu.toList.drop (o + v.cells.toList.length)).take (m * sz) = ds.take o ++ v.cells.toList ++ ds.drop (o + v.cells.toList.length) := by
          have hvo : v.cells.toList.length + o ≤ m * sz := by omega
          rw [← htk, take_put hvo]
        have hlen : (cu.toList.take o ++ v.cells.toList ++ cu.toList.drop (o + v.cells.toList.length)).length = cu.size := by
          simp only [List.length_append, List.length_take, List.length_drop, Array.length_toList]
          simp only [Array.length_toList] at hvl
          omega
        generalize cu.toList.take o ++ v.cells.toList ++ cu.toList.drop (o + v.cells.toList.length) = nl at hst htake hlen
        have he := setRow_ext (w := w) (vs := nl.toArray) (List.mem_of_getElem? hg) rfl (fun o h => h rfl)
        refine ⟨w.setRow g' nl.toArray, by simp [Instr.storeAt, Instr.sureAddr, storeVar, run_sizeOf hn, hsz, hst], rfl, ?_, he⟩
        refine ⟨by simp [hi.len], fun i a x ha hx => ?_, hi.dis⟩
        rw [List.getElem?_set] at ha
        split at ha
        · rename_i hbi
          subst hbi
          split at ha
          · cases ha
            rw [hg] at hx
            cases hx
            exact ⟨rfl, rfl, rfl, _, ⟨by rw [LR_length hlr, wr_length, ← hdl, hdn], .inr ⟨g', cap, nl.toArray, rfl, Nat.zero_le _, setRow_heap w g' cu _ e (0, 0) hgg, hnc, hcm, by simpa [hcs] using hlen, htake⟩⟩, LR_ext he _ _ hlr, hone⟩
          · cases ha
        · rename_i hbi
          refine (hi.ok i a x ha hx).keep he (fun g hg' => setRow_other w g' g _ (fun e => ?_))
          subst e
          exact hbi (hi.dis k i _ x g hg hx rfl hg')
      · cases h
    · cases h
  · cases h

/-! ### New variables -/
def tyZero (P : Program) (t : TypeId) : Option Value := (P.info? t).bind (·.zero)
def zerosV (P : Program) (t : TypeId) : Option (List V) := match tyZero P t with
  | some z => if z.cells.all (·.oneCell') = true then some (z.cells.toList.map cv) else none
  | none => none
theorem run_zero {t : TypeId} {z : Value} (h : tyZero P t = some z) (w : World) : (zeroValue t).run P w = .ok z w := by
  unfold tyZero at h
  cases hu : P.info? t with
  | none => rw [hu] at h; cases h
  | some i =>
    rw [hu] at h
    simp only [Option.bind_some] at h
    simp [zeroValue, typeInfo, hu, h]
theorem LR_cv (w : World) (en : List CE) : ∀ vs : List Value, LR w en (vs.map cv) vs
  | [] => by simp [LR]
  | v :: vs => by simp only [List.map_cons, LR]; exact ⟨v, vs, rfl, VR_cv w en v, LR_cv w en vs⟩
/-- A struct whose first field points to one of its kind. -/
def selfP (P : Program) (t : TypeId) : Bool := match P.underlying t with
  | some (.struct fs) => match fs[0]? with
    | some f => match P.underlying f.type with
      | some (.pointer e) => e == t
      | _ => false
    | none => false
  | _ => false
def allocS (P : Program) (σ : List AE) (t : TypeId) : Option (V × List AE) := match zerosV P t with
  | some zs => some (.ptr σ.length 0, σ ++ [bif selfP P t then .boxt t zs else .box zs])
  | none => none
theorem Iv.boxt {w : World} {en : List CE} (h : Iv σ en w) {cs : List V} {us : Array Value} (T : TypeId) (hl : LR w en cs us.toList) (h1 : ∀ u ∈ us.toList, u.oneCell' = true) :
    Iv (σ ++ [.boxt T cs]) (en ++ [.box w.heap.size]) (w.alloc (.cells us T)) := by
  obtain ⟨k1, k2⟩ := h.box T hl h1
  refine ⟨by simp [h.len], fun i a x ha hx => ?_, k1.dis⟩
  rcases Nat.lt_or_ge i σ.length with hi | hi
  · refine k1.ok i a x ?_ hx
    rw [List.getElem?_append_left hi] at ha ⊢
    exact ha
  · rw [List.getElem?_append_right hi] at ha
    rw [List.getElem?_append_right (by rw [h.len]; exact hi), h.len] at hx
    have hz : i - σ.length = 0 := by
      have := (List.getElem?_eq_some_iff.1 ha).1
      simp at this; omega
    rw [hz] at ha hx
    simp only [List.getElem?_cons_zero, Option.some.injEq] at ha hx
    subst ha; subst hx
    exact ⟨us, heap_alloc_new w _, LR_ext k2 _ _ hl, h1⟩
theorem alloc_ok {w : World} {en : List CE} (hi : Iv σ en w) {t : TypeId} {z : V} {σ' : List AE} (h : allocS P σ t = some (z, σ')) :
    ∃ v w' en', (Instr.alloc t true (.tuple #[])).run P w = .ok v w' ∧ VR w' en' z v ∧ Iv σ' en' w' ∧ Ext w en w' en' := by
  unfold allocS zerosV at h
  split at h
  · rename_i zs hz
    split at hz
    · rename_i z0 h0
      split at hz
      · rename_i hall
        simp only [Option.some.injEq, Prod.mk.injEq] at hz h
        obtain ⟨rfl, rfl⟩ := h
        subst hz
        obtain ⟨h1, h2⟩ := hi.box t (LR_cv w en z0.cells.toList) (fun u hu => by
          rw [Array.all_eq_true_iff_forall_mem] at hall
          exact hall u (by simpa using hu))
        have h3 := hi.boxt t (LR_cv w en z0.cells.toList) (fun u hu => by
          rw [Array.all_eq_true_iff_forall_mem] at hall
          exact hall u (by simpa using hu))
        refine ⟨_, _, _, by simp [Instr.alloc, run_zero h0, newVar, newRow]; rfl, by simp only [VR]; exact ⟨w.heap.size, by simp [← hi.len], rfl⟩, ?_, h2⟩
        cases selfP P t with
        | true => exact h3
        | false => exact h1
      · cases hz
    · cases hz
  · cases h
def boxS (σ : List AE) (x : V) : Option (V × List AE) := match cellsV x with
  | some us => some (.ptr σ.length 0, σ ++ [.box us])
  | none => none
theorem box_ok {w : World} {en : List CE} (hi : Iv σ en w) {t : TypeId} {x z : V} {σ' : List AE} {u : Value} (hx : VR w en x u) (h : boxS σ x = some (z, σ')) :
    ∃ v w' en', (Instr.box t u).run P w = .ok v w' ∧ VR w' en' z v ∧ Iv σ' en' w' ∧ Ext w en w' en' := by
  unfold boxS at h
  split at h
  · rename_i us hc
    simp only [Option.some.injEq, Prod.mk.injEq] at h
    obtain ⟨rfl, rfl⟩ := h
    obtain ⟨k1, k2⟩ := cells_ok hx hc
    obtain ⟨h1, h2⟩ := hi.box t k1 k2
    exact ⟨_, _, _, by simp [Instr.box, newVar, newRow]; rfl, by simp only [VR]; exact ⟨w.heap.size, by simp [← hi.len], rfl⟩, h1, h2⟩
  · cases h

/-! ### Literals -/
def fillA (place : Nat → Option (Nat × Nat)) : List V → List (Nat × V) → Option (List V)
  | cs, [] => some cs
  | cs, (i, x) :: rest => match place i, cellsV x with
    | some (o, n), some us => match decide (us.length = n ∧ o + n ≤ cs.length) with
      | true => fillA place (wr cs o us) rest
      | false => none
    | _, _ => none
def PR (w : World) (en : List CE) : List (Nat × V) → List (Nat × Value) → Prop
  | [], vs => vs = []
  | (i, x) :: ps, vs => ∃ v vs', vs = (i, v) :: vs' ∧ VR w en x v ∧ PR w en ps vs'
theorem foldl_set (o : Nat) : ∀ (vs : List Value) (k : Nat) (cs : Array Value), ((vs.zipIdx k).foldl (fun cs (x : Value × Nat) => cs.setIfInBounds (o + x.2) x.1) cs).toList = (vs.zipIdx k).foldl (fun cs (x : Value × Nat) => cs.set (o + x.2) x.1) cs.toList
  | [], k, cs => rfl
  | v :: vs, k, cs => by
    simp only [List.zipIdx_cons, List.foldl_cons]
    rw [foldl_set o vs (k + 1)]
    simp
theorem LR_foldl {w : World} {en : List CE} (o : Nat) : ∀ {us : List V} {vs : List Value} {cs : List V} {ds : List Value} (k : Nat), LR w en cs ds → LR w en us vs → LR w en (wr cs (o + k) us) ((vs.zipIdx k).foldl (fun cs (x : Value × Nat) => cs.set (o + x.2) x.1) ds)
  | [], vs, cs, ds, k, h, hu => by
    simp only [LR] at hu
    subst hu
    simpa [wr_eq, wr0] using h
  | u :: us, vs, cs, ds, k, h, hu => by
    simp only [LR] at hu
    obtain ⟨v, vs', rfl, h1, h2⟩ := hu
    simp only [wr_eq, wr0, List.zipIdx_cons, List.foldl_cons]
    have := LR_foldl o (k + 1) (LR_set h (o + k) h1) h2
    rw [wr_eq] at this
    exact this
theorem foldl_one (o : Nat) (p : Value → Prop) : ∀ (vs : List Value) (k : Nat) (cs : List Value), (∀ v ∈ vs, p v) → (∀ c ∈ cs, p c) → ∀ c ∈ (vs.zipIdx k).foldl (fun cs (x : Value × Nat) => cs.set (o + x.2) x.1) cs, p c
  | [], k, cs, _, hc => hc
  | v :: vs, k, cs, hv, hc => by
    simp only [List.zipIdx_cons, List.foldl_cons]
    refine foldl_one o p vs (k + 1) _ (fun x hx => hv x (List.mem_cons_of_mem _ hx)) (fun c hc' => ?_)
    rcases List.mem_or_eq_of_mem_set hc' with h | rfl
    · exact hc c h
    · exact hv _ List.mem_cons_self
theorem fill_ok {w : World} {en : List CE} {place : Nat → Option (Nat × Nat)} : ∀ {ps : List (Nat × V)} {vs : List (Nat × Value)} {cs cs' : List V} {ds : Array Value}, LR w en cs ds.toList → (∀ u ∈ ds.toList, u.oneCell' = true) → PR w en ps vs → fillA place cs ps = some cs' →
    ∃ ds', Instr.fill place ds vs = some ds' ∧ LR w en cs' ds'.toList ∧ ∀ u ∈ ds'.toList, u.oneCell' = true
  | [], vs, cs, cs', ds, hl, h1, hp, h => by
    simp only [PR] at hp
    subst hp
    simp only [fillA, Option.some.injEq] at h
    subst h
    exact ⟨ds, rfl, hl, h1⟩
  | (i, x) :: ps, vs, cs, cs', ds, hl, h1, hp, h => by
    simp only [PR] at hp
    obtain ⟨v, vs', rfl, h2, h3⟩ := hp
    simp only [fillA] at h
    split at h
    · rename_i o n us hpl hc
      split at h
      · rename_i hn0
        have hn := of_decide_eq_true hn0
        obtain ⟨k1, k2⟩ := cells_ok h2 hc
        have hvl := LR_length k1
        have hdl := LR_length hl
        simp only [Array.length_toList] at hvl hdl
        have hlr := LR_foldl o 0 hl k1
        simp only [Nat.add_zero] at hlr
        have hz : (v.cells.zipIdx.foldl (fun cs (x : Value × Nat) => cs.setIfInBounds (o + x.2) x.1) ds).toList = (v.cells.toList.zipIdx 0).foldl (fun cs (x : Value × Nat) => cs.set (o + x.2) x.1) ds.toList := by
          rw [← Array.foldl_toList, Array.toList_zipIdx, foldl_set]
        obtain ⟨ds', h5, h6⟩ := fill_ok (ds := v.cells.zipIdx.foldl (fun cs (x : Value × Nat) => cs.setIfInBounds (o + x.2) x.1) ds) (by rw [hz]; exact hlr) (by rw [hz]; exact foldl_one o _ _ _ _ k2 h1) h3 h
        refine ⟨ds', ?_, h6⟩
        simp only [Instr.fill, hpl]
        rw [if_neg (by simp; omega)]
        exact h5
      · cases h
    · cases h
def places (P : Program) (t : TypeId) : Option (List (Nat × Nat)) := match P.underlying t with
  | some (.struct fs) => fs.toList.mapM fun f => (tySize P f.type).map fun n => (f.offset, n)
  | _ => none
def buildV (P : Program) (t : TypeId) (ps : List (Nat × V)) : Option V := match zerosV P t with
  | some zs => match P.underlying t with
    | some (.array _ e) => match tySize P e with
      | some n => (fillA (fun i => some (i * n, n)) zs ps).map .agg
      | none => none
    | some (.struct _) => match places P t with
      | some pl => (fillA (fun i => pl[i]?) zs ps).map .agg
      | none => none
    | _ => none
  | none => none
theorem run_places {w : World} : ∀ {fs : List Field} {pl : List (Nat × Nat)}, (fs.mapM fun f => (tySize P f.type).map fun n => (f.offset, n)) = some pl → (fs.mapM fun f => (do pure (f.offset, ← sizeOf f.type) : Sem (Nat × Nat))).run P w = .ok pl w
  | [], pl, h => by simp at h; subst h; simp
  | f :: fs, pl, h => by
    rw [List.mapM_cons] at h
    cases hs : tySize P f.type with
    | none => rw [hs] at h; simp at h
    | some n =>
      rw [hs] at h
      cases hr : (fs.mapM fun f => (tySize P f.type).map fun n => (f.offset, n)) with
      | none => rw [hr] at h; simp at h
      | some pl' =>
        rw [hr] at h
        simp at h
        subst h
        have := run_places (w := w) hr
        rw [List.mapM_cons]
        simp only [Sem.run_bind, run_sizeOf hs, Result.andThen_ok, Sem.run_pure, this]
theorem build_ok {w : World} {en : List CE} {t : TypeId} {ps : List (Nat × V)} {vs : Array (Nat × Value)} {z : V} (hp : PR w en ps vs.toList) (h : buildV P t ps = some z) : ∃ r, (Instr.build t vs).run P w = .ok r w ∧ VR w en z r := by
  unfold buildV at h
  split at h
  · rename_i zs hz
    unfold zerosV at hz
    split at hz
    · rename_i z0 h0
      split at hz
      · rename_i hall
        simp only [Option.some.injEq] at hz
        subst hz
        have hone : ∀ u ∈ z0.cells.toList, u.oneCell' = true := fun u hu => by
          rw [Array.all_eq_true_iff_forall_mem] at hall
          exact hall u (by simpa using hu)
        split at h
        · rename_i len e ht
          split at h
          · rename_i n hn
            simp only [Option.map_eq_some_iff] at h
            obtain ⟨cs', h1, rfl⟩ := h
            obtain ⟨ds', h2, h3, h4⟩ := fill_ok (LR_cv w en z0.cells.toList) hone hp h1
            exact ⟨.agg ds', by simp [Instr.build, run_zero h0, run_underlying ht, run_sizeOf hn, h2], by simp only [VR]; exact ⟨ds', rfl, h3, h4⟩⟩
          · cases h
        · rename_i fs ht
          split at h
          · rename_i pl hpl
            simp only [Option.map_eq_some_iff] at h
            obtain ⟨cs', h1, rfl⟩ := h
            unfold places at hpl
            rw [ht] at hpl
            have hrp := run_places (w := w) hpl
            have hrp' : (fs.mapM fun f => (do pure (f.offset, ← sizeOf f.type) : Sem (Nat × Nat))).run P w = .ok pl.toArray w := by
              obtain ⟨l, rfl⟩ : ∃ l : List Field, fs = l.toArray := ⟨fs.toList, by simp⟩
              rw [List.mapM_toArray]
              simp only [Sem.run_map, hrp, Result.andThen_ok]
            obtain ⟨ds', h2, h3, h4⟩ := fill_ok (LR_cv w en z0.cells.toList) hone hp h1
            refine ⟨.agg ds', ?_, by simp only [VR]; exact ⟨ds', rfl, h3, h4⟩⟩
            simp only [Instr.build, Sem.run_bind, run_zero h0, Result.andThen_ok, run_underlying ht, hrp']
            have e1 : (fun (x : Nat) => pl.toArray[x]?) = fun (i : Nat) => pl[i]? := by funext i; simp
            rw [e1, h2]
            simp
          · cases h
        · cases h
      · cases hz
    · cases hz
  · cases h

end
end Go.Proofs.YtdjjlbjagaadaaaGreatDoor.A
