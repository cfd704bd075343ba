/- Operations evaluated on abstract states, and that the machine's come to just that. -/
import Derived.Test.YtfagngmikbmmhaaDoorAhRules
import Derived.Laws.Closers25b
namespace Go.Proofs.YtfagngmikbmmhaaDoor.A
open Go Go.RowKit
set_option linter.unusedVariables false

section
variable {P : Program} {σ : List AE} {fr : List V}

theorem Addr_add (g o j : Nat) : (⟨g, o, none⟩ : Addr).add j = ⟨g, o + j, none⟩ := by unfold Addr.add; split <;> simp_all

/-! ### Entries in later worlds -/
theorem own_heap {w w' : World} {base : Nat} {e : TypeId} {size n : Nat} {v : Value} {xs : List Value} (h : w.ownsRow base e size v n xs) (hm : ∀ g, v.ownBlock = some g → w'.heap[g]? = w.heap[g]?) : w'.ownsRow base e size v n xs := by
  obtain ⟨h1, h2⟩ := h
  refine ⟨h1, ?_⟩
  rcases h2 with h2 | ⟨g, cap, cur, rfl, hg, hh, r⟩
  · exact .inl h2
  · exact .inr ⟨g, cap, cur, rfl, hg, (hm g rfl).trans hh, r⟩
theorem EOk.keep {w w' : World} {en en' : List CE} {a : AE} {x : CE} (h : EOk w en a x) (he : Ext w en w' en') (hm : ∀ g, ebl x = some g → w'.heap[g]? = w.heap[g]?) : EOk w' en' a x := by
  cases a <;> cases x <;> simp only [EOk] at h ⊢
  · intro p hp
    obtain ⟨h1, h2⟩ := h p hp
    have hlt : p.1 < w.heap.size := (Array.getElem?_eq_some_iff.1 h1).1
    refine ⟨(he.block _ hlt h2).trans h1, fun x hx e => ?_⟩
    obtain ⟨y, hy, hye⟩ := he.fresh x hx _ e hlt
    exact h2 y hy hye
  · obtain ⟨us, T, h1, h2, h3⟩ := h
    exact ⟨us, T, (hm _ rfl).trans h1, LR_ext he _ _ h2, h3⟩
  · obtain ⟨h1, h2, xs, h3⟩ := h
    exact ⟨h1, h2, xs, own_heap h3 hm⟩
  · obtain ⟨h1, h2, h3, us, h4, h5, h6⟩ := h
    exact ⟨h1, h2, h3, us, own_heap h4 hm, LR_ext he _ _ h5, h6⟩
theorem Ext.alloc {w : World} {en : List CE} (o : Obj) (new : List CE) (hn : ∀ x ∈ new, ebl x = none ∨ ebl x = some w.heap.size) : Ext w en (w.alloc o) (en ++ new) where
  os := rfl
  tape := rfl
  output := rfl
  size := by simp
  block := fun k hk _ => Below.heap_alloc w o k hk
  st := fun g o' u hs => by
    have hlt : g < w.heap.size := World.block_lt_of_cell? w _ hs.1
    refine ⟨by rw [World.cell?_alloc_lt w o _ (by exact hlt)]; exact hs.1, fun x hx => ?_⟩
    rcases List.mem_append.1 hx with hx | hx
    · exact hs.2 x hx
    · rcases hn x hx with h | h
      · cases x with
        | box g' => cases h
        | glob => trivial
        | tok ver v n sz => intro hv; simp only [ebl] at h; rw [h] at hv; cases hv
        | row ver v n sz => intro hv; simp only [ebl] at h; rw [h] at hv; cases hv
      · cases x with
        | box g' => simp only [ebl, Option.some.injEq] at h; simp only [okc]; omega
        | glob => trivial
        | tok ver v n sz => intro hv; simp only [ebl] at h; rw [h] at hv; cases hv; omega
        | row ver v n sz => intro hv; simp only [ebl] at h; rw [h] at hv; cases hv; omega
  ent := fun i x hx => ⟨x, by rw [List.getElem?_append_left (List.getElem?_eq_some_iff.1 hx).1]; exact hx, Evo.refl x⟩
  fresh := fun x hx g hg hlt => by
    rcases List.mem_append.1 hx with hx | hx
    · exact ⟨x, hx, hg⟩
    · rcases hn x hx with h | h
      · rw [h] at hg; cases hg
      · rw [h] at hg; cases hg; omega
theorem Ext.alloc0 {w : World} {en : List CE} (o : Obj) : Ext w en (w.alloc o) en := by
  have := Ext.alloc (w := w) (en := en) o [] (fun x hx => by cases hx)
  rwa [List.append_nil] at this
theorem Ext.drew {w : World} {en : List CE} : Ext w en w.drew en :=
  ⟨rfl, rfl, rfl, Nat.le_refl _, fun _ _ _ => rfl, fun _ _ _ h => h, fun _ x h => ⟨x, h, Evo.refl x⟩, fun x' hx _ hg _ => ⟨x', hx, hg⟩⟩
theorem Iv.keep {w w' : World} {en : List CE} (h : Iv σ en w) (he : Ext w en w' en) (hm : ∀ x ∈ en, ∀ g, ebl x = some g → w'.heap[g]? = w.heap[g]?) : Iv σ en w' where
  len := h.len
  ok := fun i a x ha hx => (h.ok i a x ha hx).keep he (hm x (List.mem_of_getElem? hx))
  dis := h.dis
theorem Iv.alloc0 {w : World} {en : List CE} (h : Iv σ en w) (o : Obj) : Iv σ en (w.alloc o) :=
  h.keep (.alloc0 o) (fun _ hx g hg => Below.heap_alloc w o g (h.lt hx hg))
theorem Iv.drew {w : World} {en : List CE} (h : Iv σ en w) : Iv σ en w.drew := h.keep .drew (fun _ _ _ _ => rfl)
theorem Iv.box {w : World} {en : List CE} (h : Iv σ en w) {cs : List V} {us : Array Value} (T : TypeId) (hl : LR w en cs us.toList) (h1 : ∀ u ∈ us.toList, u.oneCell' = true) :
    Iv (σ ++ [.box cs]) (en ++ [.box w.heap.size]) (w.alloc (.cells us T)) ∧ Ext w en (w.alloc (.cells us T)) (en ++ [.box w.heap.size]) := by
  have he : Ext w en (w.alloc (.cells us T)) (en ++ [.box w.heap.size]) := .alloc _ _ (fun x hx => by rw [List.mem_singleton.1 hx]; exact .inr rfl)
  refine ⟨⟨by simp [h.len], fun i a x ha hx => ?_, fun i j x y g hi hj hx hy => ?_⟩, he⟩
  · rcases Nat.lt_or_ge i σ.length with hi | hi
    · rw [List.getElem?_append_left hi] at ha
      rw [List.getElem?_append_left (by rw [h.len]; exact hi)] at hx
      exact (h.ok i a x ha hx).keep he (fun g hg => Below.heap_alloc w _ g (h.lt (List.mem_of_getElem? hx) hg))
    · rw [List.getElem?_append_right hi] at ha
      rw [List.getElem?_append_right (by rw [h.len]; exact hi), h.len] at hx
      have hz : i - σ.length = 0 := by
        have := (List.getElem?_eq_some_iff.1 ha).1
        simp at this; omega
      rw [hz] at ha hx
      simp only [List.getElem?_cons_zero, Option.some.injEq] at ha hx
      subst ha; subst hx
      exact ⟨us, T, heap_alloc_new w _, LR_ext he _ _ hl, h1⟩
  · have key : ∀ (i : Nat) (x : CE), (en ++ [CE.box w.heap.size])[i]? = some x → ebl x = some g → (i < en.length ∧ en[i]? = some x ∧ g < w.heap.size) ∨ (i = en.length ∧ g = w.heap.size) := fun i x hi hx => by
      rcases Nat.lt_or_ge i en.length with hl | hl
      · rw [List.getElem?_append_left hl] at hi
        exact .inl ⟨hl, hi, h.lt (List.mem_of_getElem? hi) hx⟩
      · rw [List.getElem?_append_right hl] at hi
        have hz : i - en.length = 0 := by
          have := (List.getElem?_eq_some_iff.1 hi).1
          simp at this; omega
        rw [hz] at hi
        simp only [List.getElem?_cons_zero, Option.some.injEq] at hi
        subst hi
        simp only [ebl, Option.some.injEq] at hx
        exact .inr ⟨by omega, hx.symm⟩
    rcases key i x hi hx with ⟨a1, a2, a3⟩ | ⟨a1, a2⟩ <;> rcases key j y hj hy with ⟨b1, b2, b3⟩ | ⟨b1, b2⟩
    · exact h.dis i j x y g a2 b2 hx hy
    · omega
    · omega
    · omega

/-! ### What a value's cells are -/
def cellsV : V → Option (List V)
  | .agg cs => some cs
  | .junk => none
  | .gd _ _ => none
  | .tup _ => none
  | .exact v => if v.oneCell' then some [.exact v] else none
  | x => some [x]
theorem cells_ok {w : World} {en : List CE} {x : V} {v : Value} {cs : List V} (h : VR w en x v) (hc : cellsV x = some cs) : LR w en cs v.cells.toList ∧ ∀ u ∈ v.cells.toList, u.oneCell' = true := by
  have one : ∀ (v : Value), VR w en x v → v.oneCell' = true → some [x] = some cs → LR w en cs v.cells.toList ∧ ∀ u ∈ v.cells.toList, u.oneCell' = true := fun v hv ho he => by
    cases he
    have hcv : v.cells.toList = [v] := by cases v <;> simp_all [Value.cells, Value.oneCell']
    rw [hcv]
    exact ⟨by simp only [LR]; exact ⟨v, [], rfl, hv, rfl⟩, fun u hu => by rw [List.mem_singleton.1 hu]; exact ho⟩
  cases x with
  | agg cs' =>
    simp only [cellsV, Option.some.injEq] at hc
    subst hc
    simp only [VR] at h
    obtain ⟨us, rfl, h2, h3⟩ := h
    exact ⟨h2, h3⟩
  | junk => cases hc
  | gd _ _ => cases hc
  | tup _ => cases hc
  | exact u =>
    simp only [cellsV] at hc
    split at hc
    · rename_i ho
      simp only [VR] at h
      subst h
      exact one v (by simp [VR]) ho hc
    · cases hc
  | bool b => exact one v h (by simp only [VR] at h; subst h; rfl) hc
  | int k n => exact one v h (by simp only [VR] at h; subst h; rfl) hc
  | str s => exact one v h (by simp only [VR] at h; subst h; rfl) hc
  | sl t xs => exact one v h (by simp only [VR] at h; obtain ⟨A, c, rfl, _⟩ := h; rfl) hc
  | ms b o n c => exact one v h (by simp only [VR] at h; obtain ⟨g, _, rfl, _⟩ := h; rfl) hc
  | ptr b o => exact one v h (by simp only [VR] at h; obtain ⟨g, _, rfl⟩ := h; rfl) hc
  | ep cs' => exact one v h (by simp only [VR] at h; obtain ⟨g, o, rfl, _⟩ := h; rfl) hc
  | fn f cs' => exact one v h (by simp only [VR] at h; obtain ⟨us, rfl, _⟩ := h; rfl) hc
  | rw k ver n => exact one v h (by simp only [VR] at h; obtain ⟨A, c, cur, v0, n0, sz, rfl, _⟩ := h; rfl) hc
  | rs k ver o n => exact one v h (by simp only [VR] at h; obtain ⟨A, c, cur, v0, n0, sz, rfl, _⟩ := h; rfl) hc
  | rp k ver o => exact one v h (by simp only [VR] at h; obtain ⟨g, cur, v0, n0, sz, rfl, _⟩ := h; rfl) hc

/-! ### Reading variables -/
theorem row_cells {w : World} {en : List CE} {cs : List V} {us : List Value} {e : TypeId} {sz n : Nat} {v : Value} (h : w.ownsRow 0 e sz v n us) {g : Nat} (hg : v.ownBlock = some g) (j : Nat) (u : Value) (hu : us[j]? = some u) : w.cell? ⟨g, 0 + j, none⟩ = some u := by
  have := h.cells hg j u hu
  rwa [Addr_add] at this
theorem ER_cells {w : World} {en : List CE} : ∀ {xs : List V} {g o : Nat}, ER w en xs g o → ∃ us, LR w en xs us ∧ (∀ (j : Nat) (u : Value), us[j]? = some u → St w en g (o + j) u) ∧ ∀ u ∈ us, u.oneCell' = true
  | [], g, o, _ => ⟨[], by simp [LR], fun j u h => by simp at h, fun u hu => by cases hu⟩
  | x :: xs, g, o, h => by
    simp only [ER] at h
    obtain ⟨⟨u, h1, h2, h3⟩, h4⟩ := h
    obtain ⟨us, k1, k2, k3⟩ := ER_cells h4
    refine ⟨u :: us, by simp only [LR]; exact ⟨u, us, rfl, h3, k1⟩, fun j v hj => ?_, fun v hv => ?_⟩
    · cases j with
      | zero => simp only [List.getElem?_cons_zero, Option.some.injEq] at hj; subst hj; exact h1
      | succ j =>
        have := k2 j v (by simpa using hj)
        rwa [show o + (j + 1) = o + 1 + j from by omega]
    · rcases List.mem_cons.1 hv with rfl | hv
      · exact h2
      · exact k3 v hv
theorem run_loadVar_at {w : World} {en : List CE} {cs : List V} {us : List Value} {g o : Nat} (hl : LR w en cs us) (h1 : ∀ u ∈ us, u.oneCell' = true) (hc : ∀ (j : Nat) (u : Value), us[j]? = some u → w.cell? ⟨g, o + j, none⟩ = some u) {t : TypeId} {off : Nat} {x : V} (h : readT P t cs off = some x) :
    ∃ v, (loadVar t ⟨g, o + off, none⟩).run P w = .ok v w ∧ VR w en x v := by
  unfold readT at h
  split at h
  · rename_i ha
    split at h
    · rename_i n hn
      split at h
      · rename_i hle
        simp only [Option.some.injEq] at h
        subst h
        have hlen := LR_length hl
        have hll : ((us.drop off).take n).length = n := by rw [List.length_take, List.length_drop]; omega
        have hrun := run_loadCells_list (P := P) w ⟨g, o + off, none⟩ ((us.drop off).take n) (fun j v hj => by
          rw [Addr_add]
          rw [List.getElem?_take] at hj
          split at hj
          · rw [List.getElem?_drop] at hj
            have := hc _ v hj
            rwa [show o + off + j = o + (off + j) from by omega]
          · cases hj)
        rw [hll] at hrun
        refine ⟨.agg ((us.drop off).take n).toArray, by simp [loadVar, run_isAgg ha, run_sizeOf hn, hrun], ?_⟩
        simp only [VR]
        exact ⟨_, rfl, LR_take (LR_drop hl off) n, fun u hu => h1 u (List.mem_of_mem_drop (List.mem_of_mem_take (by simpa using hu)))⟩
      · cases h
    · cases h
  · rename_i ha
    obtain ⟨u, hu, hx⟩ := LR_get hl off x h
    refine ⟨u, ?_, hx⟩
    have := hc off u hu
    simp [loadVar, run_isAgg ha, this]
  · cases h
theorem cell_of_heap {w : World} {g : Nat} {us : Array Value} {T : TypeId} {fz : Nat × Nat} (h : w.heap[g]? = some (.cells us T fz)) (j : Nat) (u : Value) (hu : us.toList[j]? = some u) : w.cell? ⟨g, 0 + j, none⟩ = some u := by
  simp only [World.cell?, h, Nat.zero_add]
  simpa using hu
/-- A pointer's cells. -/
def ptrCells (σ : List AE) : V → Option (List V × Nat)
  | .ptr b o => match σ[b]? with
    | some (.box cs) => some (cs, o)
    | _ => none
  | .rp k ver o => match σ[k]? with
    | some (.row cur _ _ _ cs) => if cur = ver then some (cs, o) else none
    | _ => none
  | .ep cs => some (cs, 0)
  | _ => none
theorem ptr_ok {w : World} {en : List CE} (hi : Iv σ en w) {x : V} {v : Value} (h : VR w en x v) {cs : List V} {off : Nat} (hp : ptrCells σ x = some (cs, off)) :
    ∃ g o us, v = .pointer (some ⟨g, o + off, none⟩) ∧ LR w en cs us ∧ (∀ u ∈ us, u.oneCell' = true) ∧ ∀ (j : Nat) (u : Value), us[j]? = some u → w.cell? ⟨g, o + j, none⟩ = some u := by
  unfold ptrCells at hp
  split at hp
  · rename_i b o
    split at hp
    · rename_i cs' hb
      simp only [Option.some.injEq, Prod.mk.injEq] at hp
      obtain ⟨rfl, rfl⟩ := hp
      simp only [VR] at h
      obtain ⟨g, hg, rfl⟩ := h
      have hk := hi.ok b _ _ hb hg
      simp only [EOk] at hk
      obtain ⟨us, T, h1, h2, h3⟩ := hk
      exact ⟨g, 0, us.toList, by simp, h2, h3, fun j u hu => cell_of_heap h1 j u hu⟩
    · cases hp
  · rename_i k ver o
    split at hp
    · rename_i cur e sz n cs' hk
      split at hp
      · rename_i hcv
        simp only [Option.some.injEq, Prod.mk.injEq] at hp
        obtain ⟨rfl, rfl⟩ := hp
        simp only [VR] at h
        obtain ⟨g, cur', v0, n0, sz0, rfl, hen, hle, hl⟩ := h
        have hok := hi.ok k _ _ hk hen
        simp only [EOk] at hok
        obtain ⟨rfl, rfl, rfl, us, h1, h2, h3⟩ := hok
        exact ⟨g, 0, us, by simp, h2, h3, fun j u hu => row_cells (en := en) (cs := cs') h1 (hl hcv.symm) j u hu⟩
      · cases hp
    · cases hp
  · rename_i cs'
    simp only [Option.some.injEq, Prod.mk.injEq] at hp
    obtain ⟨rfl, rfl⟩ := hp
    simp only [VR] at h
    obtain ⟨g, o, rfl, he⟩ := h
    obtain ⟨us, h1, h2, h3⟩ := ER_cells he
    exact ⟨g, o, us, rfl, h1, h3, fun j u hu => (h2 j u hu).1⟩
  · cases hp

/-! ### A function's results -/
def resA (P : Program) (fr : List V) (σ : List AE) : List ResultVar → Option (List V)
  | [] => some []
  | .tmp t :: rs => (resA P fr σ rs).map (fr.getD t .junk :: ·)
  | .cell a t :: rs => match ptrCells σ (fr.getD a .junk) with
    | some (cs, off) => match readT P t cs off with
      | some x => (resA P fr σ rs).map (x :: ·)
      | none => none
    | none => none
def outV : List V → V
  | [x] => x
  | xs => .tup xs
def resVar (tmps : Array Value) : ResultVar → Sem Value
  | .tmp t => pure (tmps.getD t undef)
  | .cell a t => do loadVar t (← asAddr (tmps.getD a undef))
theorem resVars_ok {w : World} {en : List CE} {a : Act} (hi : Iv σ en w) (hf : FR w en fr a) : ∀ (rs : List ResultVar) (xs : List V), resA P fr σ rs = some xs → ∃ vs, (rs.mapM (resVar a.tmps)).run P w = .ok vs w ∧ LR w en xs vs
  | [], xs, h => by
    simp only [resA, Option.some.injEq] at h
    subst h
    exact ⟨[], by simp, by simp [LR]⟩
  | .tmp t :: rs, xs, h => by
    simp only [resA, Option.map_eq_some_iff] at h
    obtain ⟨ys, h1, rfl⟩ := h
    obtain ⟨vs, h2, h3⟩ := resVars_ok hi hf rs ys h1
    exact ⟨a.tmps.getD t undef :: vs, by simp [List.mapM_cons, resVar, h2], by simp only [LR]; exact ⟨_, vs, rfl, hf.2 t, h3⟩⟩
  | .cell b t :: rs, xs, h => by
    simp only [resA] at h
    split at h
    · rename_i cs off hp
      split at h
      · rename_i x hx
        simp only [Option.map_eq_some_iff] at h
        obtain ⟨ys, h1, rfl⟩ := h
        obtain ⟨vs, h2, h3⟩ := resVars_ok hi hf rs ys h1
        obtain ⟨g, o, us, e1, k1, k2, k3⟩ := ptr_ok hi (hf.2 b) hp
        obtain ⟨v, k4, k5⟩ := run_loadVar_at k1 k2 k3 hx
        exact ⟨v :: vs, by simp [List.mapM_cons, resVar, e1, asAddr, k4, h2], by simp only [LR]; exact ⟨v, vs, rfl, k5, h3⟩⟩
      · cases h
    · cases h
theorem results_ok {w : World} {en : List CE} {a : Act} (hi : Iv σ en w) (hf : FR w en fr a) (fn : Func) {xs : List V} (h : resA P fr σ fn.results.toList = some xs) : ∃ v, (results fn a.tmps).run P w = .ok v w ∧ VR w en (outV xs) v := by
  obtain ⟨vs, h1, h2⟩ := resVars_ok hi hf _ _ h
  have hm : fn.results.mapM (resVar a.tmps) = (fun l => l.toArray) <$> (fn.results.toList.mapM (resVar a.tmps)) := by
    obtain ⟨rs, hrs⟩ : ∃ rs : List ResultVar, fn.results = rs.toArray := ⟨fn.results.toList, by simp⟩
    rw [hrs, List.mapM_toArray]
  have hr : results fn a.tmps = (do let vs ← fn.results.mapM (resVar a.tmps); pure (if h : vs.size = 1 then vs[0] else .tuple vs)) := by
    unfold results
    congr 1
  rw [hr, hm]
  simp only [Sem.run_bind, Sem.run_map, h1, Result.andThen_ok, Sem.run_pure]
  refine ⟨_, rfl, ?_⟩
  have hl := LR_length h2
  match xs, vs, h2, hl with
  | [], [], h2, _ => simp only [outV, VR]; exact ⟨#[], by simp, h2⟩
  | [x], [v], h2, _ =>
    simp only [A.LR] at h2
    obtain ⟨u, us', he, h3, _⟩ := h2
    simp only [List.cons.injEq] at he
    obtain ⟨rfl, _⟩ := he
    simpa [outV] using h3
  | x :: y :: xs, v :: u :: vs, h2, _ => simp only [outV, VR]; exact ⟨(v :: u :: vs).toArray, by simp, h2⟩

/-- The body's end. -/
def bodyQ (P : Program) (rs : List ResultVar) (R : Out → List AE → Prop) : APost
  | .normal, fr, σ => ∃ xs, resA P fr σ rs = some xs ∧ R (.ret (outV xs)) σ
  | .ret, fr, σ => ∃ xs, resA P fr σ rs = some xs ∧ R (.ret (outV xs)) σ
  | .panic x, _, σ => R (.pan x) σ
  | _, _, _ => False
theorem ACalls_body {f : FuncId} {fn : Func} {c : Code} {args : List V} {R : Out → List AE → Prop} (hf : P.funcs[f]? = some fn) (hb : fn.body = some c) (hn : (fn.name == "runtime.NumGoroutine") = false)
    (h : AWP P c (bodyQ P fn.results.toList R) (args ++ List.replicate (fn.ntmps - args.length) .junk) σ) : ACalls P f args σ R := by
  refine ⟨⟨fn, hf, hn, by rw [hb]; rfl⟩, fun w en vals hi hl => calls_of_wp hf hb ?_⟩
  have hlen : vals.size = args.length := by simpa using LR_length hl
  have hfr : FR w en (args ++ List.replicate (fn.ntmps - args.length) .junk) { tmps := vals ++ Array.replicate (fn.ntmps - vals.size) undef, defers := [] } := by
    refine ⟨by simp [hlen], fun t => ?_⟩
    rcases Nat.lt_or_ge t args.length with ht | ht
    · obtain ⟨u, h1, h2⟩ := LR_get hl t _ (List.getElem?_eq_getElem ht)
      simp only [List.getD_eq_getElem?_getD, List.getElem?_append_left ht, List.getElem?_eq_getElem ht, Option.getD_some, Array.getD_eq_getD_getElem?]
      rw [Array.getElem?_append_left (by rw [hlen]; exact ht)]
      rw [Array.getElem?_toList] at h1
      rw [h1]
      exact h2
    · have : (args ++ List.replicate (fn.ntmps - args.length) V.junk).getD t V.junk = V.junk := by
        rw [List.getD_eq_getElem?_getD, List.getElem?_append_right ht, List.getElem?_replicate]
        split <;> rfl
      rw [this]
      simp [VR]
  refine Code.wp_mono (fun e a' w' hq => ?_) (h _ w en hi hfr rfl)
  obtain ⟨ax, fr', σ', en', h1, h2, h3, h4, h5, h6⟩ := hq
  cases ax with
  | normal =>
    obtain rfl : e = .normal := h2
    obtain ⟨xs, h7, h8⟩ := h1
    obtain ⟨v, h9, h10⟩ := results_ok h3 h4 fn h7
    exact ⟨h5, v, h9, .ret (outV xs), σ', en', h8, ⟨v, rfl, h10⟩, h3, h6⟩
  | ret =>
    obtain rfl : e = .ret := h2
    obtain ⟨xs, h7, h8⟩ := h1
    obtain ⟨v, h9, h10⟩ := results_ok h3 h4 fn h7
    exact ⟨h5, v, h9, .ret (outV xs), σ', en', h8, ⟨v, rfl, h10⟩, h3, h6⟩
  | exit id => exact h1.elim
  | goto l => exact h1.elim
  | panic x =>
    obtain ⟨v, rfl, hv⟩ := h2
    exact ⟨h5, .pan x, σ', en', h1, ⟨v, rfl, hv⟩, h3, h6⟩
/-- What the call made is let go. -/
theorem ACalls_drop {f : FuncId} {args : List V} {R R' : Out → List AE → Prop} (h : ACalls P f args σ R)
    (hr : ∀ r σ', R r σ' → ∃ S, σ.length ≤ S.length ∧ (∃ τ, σ' = S ++ τ) ∧ sbel S.length S ∧ (match r with | .ret x => ∃ y, Vle x y ∧ bel S.length y ∧ R' (.ret y) S | .pan x => ∃ y, Vle x y ∧ bel S.length y ∧ R' (.pan y) S)) : ACalls P f args σ R' :=
  ⟨h.ent, fun w en vals hi hl => (h.go w en vals hi hl).mono fun e w' ⟨r, σ', en', h1, h2, h3, h4⟩ => by
    obtain ⟨S, hS, ⟨τ, rfl⟩, hb, hx⟩ := hr r σ' h1
    have hi' : Iv S (en'.take S.length) w' := by
      have := h3.take (n := S.length) (by simpa using hb)
      simpa using this
    have he' := h4.take (n := S.length) (by rw [hi.len]; exact hS)
    cases r with
    | ret x =>
      obtain ⟨y, hxy, hby, hR⟩ := hx
      obtain ⟨v, rfl, hv⟩ := h2
      exact ⟨.ret y, S, _, hR, ⟨v, rfl, VR_take _ _ (hxy _ _ _ hv) hby⟩, hi', he'⟩
    | pan x =>
      obtain ⟨y, hxy, hby, hR⟩ := hx
      obtain ⟨v, rfl, hv⟩ := h2
      exact ⟨.pan y, S, _, hR, ⟨v, rfl, VR_take _ _ (hxy _ _ _ hv) hby⟩, hi', he'⟩⟩

/-- One value; what the call made is let go. -/
theorem Gives_drop {f : FuncId} {args : List V} {x : V} (h : ACalls P f args σ (fun r σ' => ∃ τ y, σ' = σ ++ τ ∧ r = .ret y ∧ Vle y x)) (hb : bels σ.length args → bel σ.length x) : Gives P f args σ x :=
  ⟨h.ent, fun w en vals hi hl => (h.go w en vals hi hl).mono fun e w' ⟨r, σ', en', h1, h2, h3, h4⟩ => by
    obtain ⟨τ, y, rfl, rfl, hxy⟩ := h1
    obtain ⟨v, rfl, hv⟩ := h2
    have hbel := hb (by rw [← hi.len]; exact LR_bel _ _ hl)
    have hi' : Iv σ (en'.take σ.length) w' := by
      have := h3.take (n := σ.length) (by simpa using hi.sb)
      simpa using this
    have he' := h4.take (n := σ.length) (by rw [hi.len]; exact Nat.le_refl _)
    exact ⟨.ret x, σ, _, ⟨rfl, rfl⟩, ⟨v, rfl, VR_take _ _ (hxy _ _ _ hv) hbel⟩, hi', he'⟩⟩
/-- The end of a body that made boxes. -/
theorem drop_end {τ : List AE} {y x : V} (hx : Vle y x) : ∃ τ' y', σ ++ τ = σ ++ τ' ∧ Out.ret y = .ret y' ∧ Vle y' x := ⟨τ, y, rfl, rfl, hx⟩
theorem drop_end0 {y x : V} (hx : Vle y x) : ∃ τ' y', σ = σ ++ τ' ∧ Out.ret y = .ret y' ∧ Vle y' x := ⟨[], y, by simp, rfl, hx⟩
/-- What the variables' blocks tell of the world. -/
def Glob (σ : List AE) (F : World → Prop) : Prop := ∃ l, σ[0]? = some (.glob l) ∧ ∀ w : World, (∀ p ∈ l, w.heap[p.1]? = some p.2) → F w
theorem Glob.app {F : World → Prop} (h : Glob σ F) (τ : List AE) : Glob (σ ++ τ) F := by
  obtain ⟨l, h1, h2⟩ := h
  exact ⟨l, by rw [List.getElem?_append_left (List.getElem?_eq_some_iff.1 h1).1]; exact h1, h2⟩
theorem Glob.at {F : World → Prop} (h : Glob σ F) {en : List CE} {w : World} (hi : Iv σ en w) : F w := by
  obtain ⟨l, h1, h2⟩ := h
  have hl : 0 < en.length := by rw [hi.len]; exact (List.getElem?_eq_some_iff.1 h1).1
  have := hi.ok 0 _ _ h1 (List.getElem?_eq_getElem hl)
  cases hx : en[0] with
  | glob => rw [hx] at this; simp only [EOk] at this; exact h2 w fun p hp => (this p hp).1
  | box g => rw [hx] at this; simp only [EOk] at this
  | tok _ _ _ _ => rw [hx] at this; simp only [EOk] at this
  | row _ _ _ _ => rw [hx] at this; simp only [EOk] at this
theorem Glob.mono {F F' : World → Prop} (h : Glob σ F) (hf : ∀ w, F w → F' w) : Glob σ F' := by
  obtain ⟨l, h1, h2⟩ := h
  exact ⟨l, h1, fun w hw => hf w (h2 w hw)⟩
/-- A world that goes on below its end. -/
theorem Ext.of_below {w w' : World} {en : List CE} (hi : Iv σ en w) (h : Below w.heap.size w w') : Ext w en w' en where
  os := h.os
  tape := h.tape
  output := h.output
  size := h.size
  block := fun k hk _ => h.block k hk
  st := fun g o u hs => ⟨(World.cell?_of_block (h.block g (World.block_lt_of_cell? w _ hs.1))).trans hs.1, hs.2⟩
  ent := fun i x hx => ⟨x, hx, Evo.refl x⟩
  fresh := fun x hx g hg _ => ⟨x, hx, hg⟩
theorem Iv.of_below {w w' : World} {en : List CE} (hi : Iv σ en w) (h : Below w.heap.size w w') : Iv σ en w' := hi.keep (.of_below hi h) fun x hx g hg => h.block g (hi.lt hx hg)
/-- A contract of the shelf's, taken over. -/
theorem Gives_of {f : FuncId} {args : List V} {x : V} (he : Ent P f) (h : ∀ (w : World) (en : List CE) (vals : List Value), Iv σ en w → LR w en args vals → Calls P f vals.toArray w (fun e w' => ∃ v, e = .returned v ∧ Below w.heap.size w w' ∧ VR w' en x v)) : Gives P f args σ x :=
  ⟨he, fun w en vals hi hl => by
    have := h w en vals.toList hi hl
    rw [Array.toArray_toList] at this
    exact this.mono fun e w' ⟨v, h1, h2, h3⟩ => ⟨.ret x, σ, en, ⟨rfl, rfl⟩, ⟨v, h1, h3⟩, hi.of_below h2, .of_below hi h2⟩⟩
theorem getA0 (σ l : List AE) : (σ ++ l)[σ.length]? = l[0]? := by rw [List.getElem?_append_right (Nat.le_refl _), Nat.sub_self]
theorem getAk (σ l : List AE) (k : Nat) : (σ ++ l)[σ.length + k]? = l[k]? := by rw [List.getElem?_append_right (Nat.le_add_right _ _), Nat.add_sub_cancel_left]
theorem setA0 (σ l : List AE) (x : AE) : (σ ++ l).set σ.length x = σ ++ l.set 0 x := by rw [List.set_append_right (h := Nat.le_refl _), Nat.sub_self]
theorem setAk (σ l : List AE) (x : AE) (k : Nat) : (σ ++ l).set (σ.length + k) x = σ ++ l.set k x := by rw [List.set_append_right (h := Nat.le_add_right _ _), Nat.add_sub_cancel_left]

end
end Go.Proofs.YtfagngmikbmmhaaDoor.A
