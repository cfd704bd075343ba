/- Rows of the call's own, with their cells: appending, slices made anew, what is left of them behind a call. -/
import Derived.Test.YtfagngmikbmmhaaDoorAhAppend
namespace Go.Proofs.YtfagngmikbmmhaaDoor.A
open Go Go.RowKit
set_option linter.unusedVariables false
set_option linter.unusedSimpArgs false

section
variable {P : Program} {σ : List AE} {fr : List V} {Q : APost}

theorem appendR_ok {w : World} {en : List CE} (hi : Iv σ en w) {t ty e : TypeId} {sz bytes : Nat} (he : elemI P t = some (e, sz, bytes)) (hsz : 0 < sz) {k ver n : Nat} {cs : List V} (hk : σ[k]? = some (.row ver e sz n cs))
    {ys : List (List V)} {tg : Tag} {v y : Value} (hv : VR w en (.rw k ver n) v) (hy : VR w en (.sl tg ys) y) (hfy : flat sz ys = true) (hne : ys ≠ []) (h63 : n + ys.length ≤ maxLen) (hb : (n + ys.length) * bytes ≤ 140737488355328) :
    ∃ v' w' en', (Builtin.append_ #[t, t] ty #[v, y]).run P w = .ok v' w' ∧ VR w' en' (.rw k (ver + 1) (n + ys.length)) v' ∧ Iv (σ.set k (.row (ver + 1) e sz (n + ys.length) (cs ++ ys.flatten))) en' w' ∧ Ext w en w' en' := by
  simp only [VR] at hv hy
  obtain ⟨A, c, cur, v0, n0, sz0, hvv, hc1, hc2, hA, hek, hcur, hsame⟩ := hv
  obtain ⟨A', c', hyv, hc1', hc2', _, hrow'⟩ := hy
  obtain ⟨g', o', rfl, hR'⟩ := hrow' hne
  have hkl : k < σ.length := (List.getElem?_eq_some_iff.1 hk).1
  have hok := hi.ok k _ _ hk hek
  simp only [EOk] at hok
  obtain ⟨rfl, rfl, rfl, xv, hown, hLx, hox⟩ := hok
  obtain ⟨hv0, _⟩ := hsame rfl
  rw [hv0] at hek hown
  obtain ⟨us, hus, hst, hone⟩ := ER_cells (RR_ER hR')
  have hl : us.length = ys.length * sz := by rw [LR_length hus, flat_len hfy]
  have hnews : ∀ j u, us[j]? = some u → w.cell? ((⟨g', o', none⟩ : Addr).add j) = some u := fun j u hu => by rw [Addr_add]; exact (hst j u hu).1
  obtain ⟨v', w', hr, ho, hg, hb1, hb2⟩ := append_cases (ty := ty) (c := c') he hsz hown hl hnews hone h63 hb
  have hent : ∀ j x, en[j]? = some x → j ≠ k → (en.set k (.row (ver + 1) v' (n + ys.length) sz))[j]? = some x := fun j x hx hj => by
    rw [List.getElem?_set, if_neg (fun e => hj e.symm)]; exact hx
  have hkn : (en.set k (.row (ver + 1) v' (n + ys.length) sz))[k]? = some (.row (ver + 1) v' (n + ys.length) sz) := by
    rw [List.getElem?_set, if_pos rfl, if_pos (by rw [hi.len]; exact hkl)]
  have hset : ∀ x ∈ en.set k (.row (ver + 1) v' (n + ys.length) sz), x = .row (ver + 1) v' (n + ys.length) sz ∨ ∃ j, j ≠ k ∧ en[j]? = some x := fun x hx => by
    obtain ⟨j, hj⟩ := List.getElem?_of_mem hx
    rw [List.getElem?_set] at hj
    split at hj
    · split at hj
      · left; cases hj; rfl
      · cases hj
    · rename_i hne; exact .inr ⟨j, fun e => hne e.symm, hj⟩
  have hst' : ∀ gg oo u, St w en gg oo u → St w' (en.set k (.row (ver + 1) v' (n + ys.length) sz)) gg oo u := fun gg oo u hs => by
    have hlt := World.block_lt_of_cell? w _ hs.1
    have hgv : v.ownBlock ≠ some gg := hs.2 _ (List.mem_of_getElem? hek)
    refine ⟨(World.cell?_of_block (hg.block gg hlt (fun e => hgv e.symm))).trans hs.1, fun x hx => ?_⟩
    rcases hset x hx with rfl | ⟨j, _, hj⟩
    · intro hv'
      rcases hb1 gg hv' with h2 | h2
      · exact absurd h2 hgv
      · exact absurd hlt (Nat.not_lt.2 h2)
    · exact hs.2 x (List.mem_of_getElem? hj)
  have hext : Ext w en w' (en.set k (.row (ver + 1) v' (n + ys.length) sz)) := {
    os := hg.os
    tape := hg.tape
    output := hg.output
    size := hg.size
    block := fun j hj hx => hg.block j hj fun e => hx _ (List.mem_of_getElem? hek) e.symm
    st := hst'
    ent := fun j x hx => by
      by_cases hj : j = k
      · subst hj
        rw [hek] at hx
        cases hx
        exact ⟨_, hkn, ver + 1, v', _, rfl, Nat.le_succ _, fun e => by omega⟩
      · exact ⟨x, hent j x hx hj, Evo.refl x⟩
    fresh := fun x hx gg hgg hlt => by
      rcases hset x hx with rfl | ⟨j, _, hj⟩
      · rcases hb1 gg hgg with h2 | h2
        · exact ⟨_, List.mem_of_getElem? hek, h2⟩
        · exact absurd hlt (Nat.not_lt.2 h2)
      · exact ⟨x, List.mem_of_getElem? hj, hgg⟩ }
  have hoth : ∀ j x, j ≠ k → en[j]? = some x → ∀ gg, ebl x = some gg → w'.heap[gg]? = w.heap[gg]? := fun j x hj hx gg hgg => by
    refine hg.block gg (hi.lt (List.mem_of_getElem? hx) hgg) fun e => hj (hi.dis j k x _ gg hx hek hgg e.symm)
  have hnn : 0 < n + ys.length := by cases ys with
    | nil => exact absurd rfl hne
    | cons _ _ => simp only [List.length_cons]; omega
  refine ⟨v', w', _, by rw [hyv]; exact hr, ?_, ⟨by simp [hi.len], fun j a x ha hx => ?_, fun i j x y gg hxi hyj hgx hgy => ?_⟩, hext⟩
  · simp only [VR]
    rcases ho.2 with ⟨_, h0⟩ | ⟨gv, cap, cu, rfl, _, hgc, hnc, hcm, hcs, htk⟩
    · omega
    · exact ⟨some ⟨gv, 0, none⟩, cap, ver + 1, _, _, sz, rfl, hnc, hcm, fun _ => ⟨gv, rfl⟩, hkn, Nat.le_refl _, fun _ => ⟨rfl, rfl⟩⟩
  · by_cases hj : j = k
    · subst hj
      rw [hkn] at hx
      rw [List.getElem?_set, if_pos rfl, if_pos hkl] at ha
      cases ha; cases hx
      refine ⟨rfl, rfl, rfl, xv ++ us, ho, LR_append (LR_ext hext _ _ hLx) (LR_ext hext _ _ hus), fun u hu => ?_⟩
      rcases List.mem_append.1 hu with hu | hu
      · exact hox u hu
      · exact hone u hu
    · rw [List.getElem?_set, if_neg (fun e => hj e.symm)] at ha hx
      exact (hi.ok j a x ha hx).keep hext (hoth j x hj hx)
  · have key : ∀ i x, (en.set k (.row (ver + 1) v' (n + ys.length) sz))[i]? = some x → ebl x = some gg → (i = k ∧ v'.ownBlock = some gg) ∨ (i ≠ k ∧ en[i]? = some x) := fun i x hx hgx => by
      by_cases hik : i = k
      · subst hik
        rw [hkn] at hx
        cases hx
        exact .inl ⟨rfl, hgx⟩
      · rw [List.getElem?_set, if_neg (fun e => hik e.symm)] at hx
        exact .inr ⟨hik, hx⟩
    have cross : ∀ i x, i ≠ k → en[i]? = some x → ebl x = some gg → v'.ownBlock = some gg → False := fun i x hik hx hgx hv' => by
      rcases hb1 gg hv' with h2 | h2
      · exact hik (hi.dis i k x _ gg hx hek hgx h2)
      · exact absurd (hi.lt (List.mem_of_getElem? hx) hgx) (Nat.not_lt.2 h2)
    rcases key i x hxi hgx with ⟨e1, e2⟩ | ⟨e1, e2⟩ <;> rcases key j y hyj hgy with ⟨e3, e4⟩ | ⟨e3, e4⟩
    · rw [e1, e3]
    · exact (cross j y e3 e4 hgy e2).elim
    · exact (cross i x e1 e2 hgx e4).elim
    · exact hi.dis i j x y gg e2 e4 hgx hgy
theorem AOps_appendR {ops : Array Oper} {o : Oper} {rest : List Oper} {s y : Operand} {t e : TypeId} {sz bytes k ver n : Nat} {cs : List V} {ys : List (List V)} {tg : Tag} (hg : o.guard = none) (ho : o.op = .call { callee := .builtin .append, args := #[s, y], argTypes := #[t, t] })
    (hs : gv fr s = .rw k ver n) (hy : gv fr y = .sl tg ys) (hk : σ[k]? = some (.row ver e sz n cs)) (he : elemI P t = some (e, sz, bytes)) (hsz : 0 < sz) (hfy : flat sz ys = true) (hne : ys ≠ []) (h63 : n + ys.length ≤ maxLen) (hb : (n + ys.length) * bytes ≤ 140737488355328)
    (hr : AOps P ops Q rest (pt fr o.dst (.rw k (ver + 1) (n + ys.length))) (σ.set k (.row (ver + 1) e sz (n + ys.length) (cs ++ ys.flatten)))) : AOps P ops Q (o :: rest) fr σ :=
  AOps_op hg (OpOk_of fun a w en hi hf => by
    have h1 := hf s (by simp [ho, Op.operands, Call.operands])
    have h2 := hf y (by simp [ho, Op.operands, Call.operands])
    rw [hs] at h1
    rw [hy] at h2
    obtain ⟨v', w', en', h3, h4, h5, h6⟩ := appendR_ok (ty := o.type) hi he hsz hk h1 h2 hfy hne h63 hb
    unfold Oper.wp
    have : (execOp a.eval o).run P w = .ok (.value v') w' := by simp [execOp, ho, resolve, invoke, builtin, h3]
    rw [this]
    exact ⟨v', en', rfl, h4, h5, h6⟩) hr

/-! ### A new row -/
theorem newRow_ok {w : World} {en : List CE} (hi : Iv σ en w) {e : TypeId} {sz n cap : Nat} {cs : List V} {us : List Value} {cu : Array Value} (hl : LR w en cs us) (h1 : ∀ u ∈ us, u.oneCell' = true) (hlen : us.length = n * sz) (hnc : n ≤ cap) (hcm : cap ≤ maxLen) (hcs : cu.size = cap * sz) (htk : cu.toList.take (n * sz) = us) :
    VR (w.alloc (.cells cu e)) (en ++ [.row 0 (.slice (some ⟨w.heap.size, 0, none⟩) n cap) n sz]) (.rw σ.length 0 n) (.slice (some ⟨w.heap.size, 0, none⟩) n cap) ∧
    Iv (σ ++ [.row 0 e sz n cs]) (en ++ [.row 0 (.slice (some ⟨w.heap.size, 0, none⟩) n cap) n sz]) (w.alloc (.cells cu e)) ∧ Ext w en (w.alloc (.cells cu e)) (en ++ [.row 0 (.slice (some ⟨w.heap.size, 0, none⟩) n cap) n sz]) := by
  have he : Ext w en (w.alloc (.cells cu e)) (en ++ [.row 0 (.slice (some ⟨w.heap.size, 0, none⟩) n cap) n sz]) := .alloc _ _ (fun x hx => by rw [List.mem_singleton.1 hx]; exact .inr rfl)
  refine ⟨?_, ⟨by simp [hi.len], fun i a x ha hx => ?_, fun i j x y g hi' hj hx hy => ?_⟩, he⟩
  · simp only [VR]
    refine ⟨_, cap, 0, _, n, sz, rfl, hnc, hcm, fun _ => ⟨_, rfl⟩, ?_, Nat.le_refl _, fun _ => ⟨rfl, rfl⟩⟩
    rw [← hi.len, List.getElem?_append_right (Nat.le_refl _), Nat.sub_self]; rfl
  · rcases Nat.lt_or_ge i σ.length with hl' | hl'
    · rw [List.getElem?_append_left hl'] at ha
      rw [List.getElem?_append_left (by rw [hi.len]; exact hl')] at hx
      exact (hi.ok i a x ha hx).keep he (fun g hg => Below.heap_alloc w _ g (hi.lt (List.mem_of_getElem? hx) hg))
    · rw [List.getElem?_append_right hl'] at ha
      rw [List.getElem?_append_right (by rw [hi.len]; exact hl'), hi.len] at hx
      have hz : i - σ.length = 0 := by have := (List.getElem?_eq_some_iff.1 ha).1; simp at this; omega
      rw [hz] at ha hx
      simp only [List.getElem?_cons_zero, Option.some.injEq] at ha hx
      subst ha; subst hx
      exact ⟨rfl, rfl, rfl, us, ⟨hlen, .inr ⟨_, cap, cu, rfl, Nat.zero_le _, heap_alloc_new w _, hnc, hcm, hcs, htk⟩⟩, LR_ext he _ _ hl, h1⟩
  · have key : ∀ (i : Nat) (x : CE), (en ++ [CE.row 0 (.slice (some ⟨w.heap.size, 0, none⟩) n cap) n sz])[i]? = some x → ebl x = some g → (i < en.length ∧ en[i]? = some x ∧ g < w.heap.size) ∨ (i = en.length ∧ g = w.heap.size) := fun i x hi' hx => by
      rcases Nat.lt_or_ge i en.length with hl | hl
      · rw [List.getElem?_append_left hl] at hi'
        exact .inl ⟨hl, hi', hi.lt (List.mem_of_getElem? hi') hx⟩
      · rw [List.getElem?_append_right hl] at hi'
        have hz : i - en.length = 0 := by
          have := (List.getElem?_eq_some_iff.1 hi').1
          simp at this; omega
        rw [hz] at hi'
        simp only [List.getElem?_cons_zero, Option.some.injEq] at hi'
        subst hi'
        simp only [ebl, Value.ownBlock, Option.some.injEq] at hx
        exact .inr ⟨by omega, hx.symm⟩
    rcases key i x hi' hx with ⟨a1, a2, a3⟩ | ⟨a1, a2⟩ <;> rcases key j y hj hy with ⟨b1, b2, b3⟩ | ⟨b1, b2⟩
    · exact hi.dis i j x y g a2 b2 hx hy
    · omega
    · omega
    · omega
theorem appendN_ok {w : World} {en : List CE} (hi : Iv σ en w) {t ty e : TypeId} {sz bytes : Nat} (he : elemI P t = some (e, sz, bytes)) (hsz : 0 < sz) {xs ys : List (List V)} {tg tg' : Tag} {v y : Value} (hv : VR w en (.sl tg xs) v) (hy : VR w en (.sl tg' ys) y)
    (htg : tg = .full ∨ tg = .nil) (hfx : flat sz xs = true) (hfy : flat sz ys = true) (hne : ys ≠ []) (h63 : xs.length + ys.length ≤ maxLen) (hb : (xs.length + ys.length) * bytes ≤ 140737488355328) :
    ∃ v' w' en', (Builtin.append_ #[t, t] ty #[v, y]).run P w = .ok v' w' ∧ VR w' en' (.rw σ.length 0 (xs.length + ys.length)) v' ∧ Iv (σ ++ [.row 0 e sz (xs.length + ys.length) (xs.flatten ++ ys.flatten)]) en' w' ∧ Ext w en w' en' := by
  unfold elemI at he
  split at he <;> try cases he
  rename_i e' ht
  split at he <;> try cases he
  rename_i i hi0
  split at he <;> try cases he
  rename_i z hz
  split at he <;> try cases he
  rename_i hzs
  simp only [VR] at hv hy
  obtain ⟨A, c, rfl, hc1, hc2, htag, hrow⟩ := hv
  obtain ⟨A', c', rfl, hc1', hc2', _, hrow'⟩ := hy
  obtain ⟨g', o', rfl, hR'⟩ := hrow' hne
  obtain ⟨us, hus, hst, hone⟩ := ER_cells (RR_ER hR')
  have hl : us.length = ys.length * i.size := by rw [LR_length hus, flat_len hfy]
  have hnews : ∀ j u, us[j]? = some u → w.cell? ((⟨g', o', none⟩ : Addr).add j) = some u := fun j u hu => by rw [Addr_add]; exact (hst j u hu).1
  have hn1 : 0 < ys.length := List.length_pos_iff.2 hne
  have hm63 : xs.length + ys.length ≤ 9223372036854775807 := by simp only [maxLen] at h63; omega
  have hd : ∀ u g o, St w en g o u → St w.drew en g o u := fun u g o hs => Ext.drew.st g o u hs
  have fin : ∀ (xv : List Value) (cap0 : Nat), LR w en xs.flatten xv → (∀ u ∈ xv, u.oneCell' = true) → xv.length = xs.length * i.size →
      (Builtin.append_ #[t, t] ty #[.slice A xs.length c, .slice (some ⟨g', o', none⟩) ys.length c']).run P w = .ok (.slice (some ⟨w.heap.size, 0, none⟩) (xs.length + ys.length) (grownCap w (xs.length + ys.length) cap0 e)) (w.drew.alloc (.cells (xv.toArray ++ us.toArray ++ Builtin.zeroCells z.cells (grownCap w (xs.length + ys.length) cap0 e - (xs.length + ys.length))) e)) →
      ∃ v' w' en', (Builtin.append_ #[t, t] ty #[.slice A xs.length c, .slice (some ⟨g', o', none⟩) ys.length c']).run P w = .ok v' w' ∧ VR w' en' (.rw σ.length 0 (xs.length + ys.length)) v' ∧ Iv (σ ++ [.row 0 e i.size (xs.length + ys.length) (xs.flatten ++ ys.flatten)]) en' w' ∧ Ext w en w' en' := fun xv cap0 hLx hox hxl hrun => by
    have hge := grownCap_ge w (xs.length + ys.length) cap0 e
    have hle := grownCap_le_maxLen w (xs.length + ys.length) cap0 e h63
    generalize grownCap w (xs.length + ys.length) cap0 e = cap at hrun hge hle
    have hlen : (xv ++ us).length = (xs.length + ys.length) * i.size := by rw [List.length_append, hxl, hl, Nat.add_mul]
    obtain ⟨k1, k2, k3⟩ := newRow_ok (w := w.drew) (e := e) (sz := i.size) (n := xs.length + ys.length) (cap := cap) (cs := xs.flatten ++ ys.flatten) (us := xv ++ us) (cu := xv.toArray ++ us.toArray ++ Builtin.zeroCells z.cells (cap - (xs.length + ys.length))) hi.drew
      (LR_append (LR_ext .drew _ _ hLx) (LR_ext .drew _ _ hus)) (fun u hu => by rcases List.mem_append.1 hu with hu | hu; exact hox u hu; exact hone u hu) hlen hge hle
      (by
        rw [List.length_append] at hlen
        have hzc : (Builtin.zeroCells z.cells (cap - (xs.length + ys.length))).size = (cap - (xs.length + ys.length)) * i.size := by
          simp [Builtin.zeroCells, hzs]
        simp only [Array.size_append, List.size_toArray, hzc]
        rw [hlen, ← Nat.add_mul]
        congr 1
        omega)
      (by
        simp only [Array.toList_append, List.toList_toArray]
        rw [← hlen]
        exact List.take_left)
    exact ⟨_, _, _, hrun, k1, k2, Ext.drew.trans k3⟩
  by_cases hx : xs = []
  · subst hx
    have hA : c = 0 := by
      rcases htg with rfl | rfl
      · simpa [TagOk] using htag
      · simp only [TagOk] at htag
        injection htag
    subst hA
    cases A with
    | none =>
      refine fin [] 0 (by simp [LR]) (by simp) (by simp) ?_
      have hr := run_append_nil (P := P) w t ty e i z ht hi0 hz ⟨g', o', none⟩ ys.length c' us hl hnews (by omega) (by simp only [List.length_nil] at hm63; omega) (by simp only [List.length_nil, Nat.zero_add] at hb; omega)
      simpa using hr
    | some b =>
      refine fin [] 0 (by simp [LR]) (by simp) (by simp) ?_
      have hr := run_append_grow (P := P) w t ty e i z ht hi0 hz b 0 0 [] (by simp) (by simp) ⟨g', o', none⟩ ys.length c' us hl hnews (by omega) (by simp only [List.length_nil] at hm63; omega) (growslice_fits (by omega) (by simpa using hb))
      simpa using hr
  · obtain ⟨g, o, rfl, hR⟩ := hrow hx
    obtain ⟨xv, hxv, hxst, hxone⟩ := ER_cells (RR_ER hR)
    have hcx : c = xs.length := by
      rcases htg with rfl | rfl
      · exact htag
      · simp only [TagOk] at htag
        injection htag with h1 _ _
        cases h1
    subst hcx
    have hxl : xv.length = xs.length * i.size := by rw [LR_length hxv, flat_len hfx]
    refine fin xv xs.length hxv hxone hxl ?_
    exact run_append_grow (P := P) w t ty e i z ht hi0 hz ⟨g, o, none⟩ xs.length xs.length xv hxl (fun j u hu => by rw [Addr_add]; exact (hxst j u hu).1) ⟨g', o', none⟩ ys.length c' us hl hnews (by omega) (by omega) (growslice_fits (by omega) hb)
theorem AOps_appendN {ops : Array Oper} {o : Oper} {rest : List Oper} {s y : Operand} {t e : TypeId} {sz bytes : Nat} {xs ys : List (List V)} {tg tg' : Tag} (hg : o.guard = none) (ho : o.op = .call { callee := .builtin .append, args := #[s, y], argTypes := #[t, t] })
    (hs : gv fr s = .sl tg xs) (hy : gv fr y = .sl tg' ys) (htg : tg = .full ∨ tg = .nil) (he : elemI P t = some (e, sz, bytes)) (hsz : 0 < sz) (hfx : flat sz xs = true) (hfy : flat sz ys = true) (hne : ys ≠ []) (h63 : xs.length + ys.length ≤ maxLen) (hb : (xs.length + ys.length) * bytes ≤ 140737488355328)
    (hr : AOps P ops Q rest (pt fr o.dst (.rw σ.length 0 (xs.length + ys.length))) (σ ++ [.row 0 e sz (xs.length + ys.length) (xs.flatten ++ ys.flatten)])) : AOps P ops Q (o :: rest) fr σ :=
  AOps_op hg (OpOk_of fun a w en hi hf => by
    have h1 := hf s (by simp [ho, Op.operands, Call.operands])
    have h2 := hf y (by simp [ho, Op.operands, Call.operands])
    rw [hs] at h1
    rw [hy] at h2
    obtain ⟨v', w', en', h3, h4, h5, h6⟩ := appendN_ok (ty := o.type) hi he hsz h1 h2 htg hfx hfy hne h63 hb
    unfold Oper.wp
    have : (execOp a.eval o).run P w = .ok (.value v') w' := by simp [execOp, ho, resolve, invoke, builtin, h3]
    rw [this]
    exact ⟨v', en', rfl, h4, h5, h6⟩) hr

/-! ### What is left of a row -/
theorem freeze_rs {w : World} {en : List CE} (hi : Iv σ en w) {k ver off n m : Nat} {e : TypeId} {sz N : Nat} {cs : List V} {v : Value} (hk : σ[k]? = some (.row ver e sz N cs)) (hv : VR w en (.rs k ver off n) v) (hm : m ≤ k) (hb : bels m cs) {xs : List (List V)}
    (hx : xs.flatten = (cs.drop off).take (n * sz)) (hf : flat sz xs = true) (hl : xs.length = n) : VR w (en.take m) (.sl .ro xs) v := by
  simp only [VR] at hv ⊢
  obtain ⟨A, c, cur, v0, n0, sz0, rfl, h1, h2, h3, h4, h5⟩ := hv
  subst hl
  refine ⟨A, c, rfl, h1, h2, trivial, fun hne => ?_⟩
  obtain ⟨g, rfl, h6⟩ := h5 (by simpa using hne)
  have hok := hi.ok k _ _ hk h3
  simp only [EOk] at hok
  obtain ⟨rfl, rfl, rfl, us, k1, k2, k3⟩ := hok
  have hob := h6 rfl
  refine ⟨g, off, rfl, RR_mk ?_⟩
  rw [hx]
  refine ER_mk fun i x hxi => ?_
  rw [List.getElem?_take] at hxi
  split at hxi
  · rw [List.getElem?_drop] at hxi
    obtain ⟨u, hu, hv⟩ := LR_get k2 _ x hxi
    have hbx : bel m x := by
      have := bels_get hb (off + i)
      rwa [List.getD_eq_getElem?_getD, hxi] at this
    refine ⟨u, ⟨?_, fun y hy => ?_⟩, k3 u (List.mem_of_getElem? hu), VR_take x u hv hbx⟩
    · have := row_cells (en := en) (cs := cs) k1 hob _ u hu
      rwa [Nat.zero_add] at this
    · obtain ⟨j, hj⟩ := List.getElem?_of_mem hy
      rw [List.getElem?_take] at hj
      split at hj
      · rename_i hjm
        have hne : ebl y ≠ some g := fun e => by
          have := hi.dis j k y _ g hj h3 e hob
          omega
        cases y with
        | glob => trivial
        | box g2 => intro e; exact hne (by simp [ebl, e])
        | tok _ v2 _ _ => intro e; exact absurd e hne
        | row _ v2 _ _ => exact hne
      · cases hj
  · cases hxi
theorem Vle.rw_rs (k ver n : Nat) : Vle (.rw k ver n) (.rs k ver 0 n) := fun w en v h => by
  simp only [VR] at h ⊢
  obtain ⟨A, c, cur, v0, n0, sz, rfl, h1, h2, h3, h4, h5, h6⟩ := h
  refine ⟨A, c, cur, v0, n0, sz, rfl, h1, h2, h4, h5, fun hn => ?_⟩
  obtain ⟨g, rfl⟩ := h3 hn
  exact ⟨g, rfl, fun e => by rw [(h6 e).1]; rfl⟩
/-- In the state σ' the value reads as y; of the first m entries alone it reads as x. -/
def Frz (σ' : List AE) (m : Nat) (y x : V) : Prop := ∀ w en v, Iv σ' en w → VR w en y v → VR w (en.take m) x v
theorem Frz.of {m : Nat} {y x : V} (h : Vle y x) (hb : bel m x) : Frz σ m y x := fun w en v _ hv => VR_take _ _ (h _ _ _ hv) hb
theorem Frz.rs {k ver off n m : Nat} {e : TypeId} {sz N : Nat} {cs : List V} (hk : σ[k]? = some (.row ver e sz N cs)) (hm : m ≤ k) (hb : bels m cs) {xs : List (List V)} (hx : xs.flatten = (cs.drop off).take (n * sz)) (hf : flat sz xs = true) (hl : xs.length = n) : Frz σ m (.rs k ver off n) (.sl .ro xs) :=
  fun w en v hi hv => freeze_rs hi hk hv hm hb hx hf hl
theorem Frz.rw {k ver n m : Nat} {e : TypeId} {sz N : Nat} {cs : List V} (hk : σ[k]? = some (.row ver e sz N cs)) (hm : m ≤ k) (hb : bels m cs) {xs : List (List V)} (hx : xs.flatten = cs.take (n * sz)) (hf : flat sz xs = true) (hl : xs.length = n) : Frz σ m (.rw k ver n) (.sl .ro xs) :=
  fun w en v hi hv => freeze_rs hi hk (Vle.rw_rs _ _ _ _ _ _ hv) hm hb (by simpa using hx) hf hl
def FrzL (σ' : List AE) (m : Nat) : List V → List V → Prop
  | [], [] => True
  | y :: ys, x :: xs => Frz σ' m y x ∧ FrzL σ' m ys xs
  | _, _ => False
theorem FrzL.ok {w : World} {en : List CE} {m : Nat} (hi : Iv σ en w) : ∀ {ys xs : List V} {us : List Value}, FrzL σ m ys xs → LR w en ys us → LR w (en.take m) xs us
  | [], [], us, _, h => by simpa [A.LR] using h
  | y :: ys, x :: xs, us, hf, h => by
    simp only [A.LR] at h ⊢
    obtain ⟨u, us', h1, h2, h3⟩ := h
    exact ⟨u, us', h1, hf.1 _ _ _ hi h2, FrzL.ok hi hf.2 h3⟩
theorem Frz.tup {m : Nat} {ys xs : List V} (h : FrzL σ m ys xs) : Frz σ m (.tup ys) (.tup xs) := fun w en v hi hv => by
  simp only [VR] at hv ⊢
  obtain ⟨us, h1, h2⟩ := hv
  exact ⟨us, h1, h.ok hi h2⟩
theorem Frz.agg {m : Nat} {ys xs : List V} (h : FrzL σ m ys xs) : Frz σ m (.agg ys) (.agg xs) := fun w en v hi hv => by
  simp only [VR] at hv ⊢
  obtain ⟨us, h1, h2, h3⟩ := hv
  exact ⟨us, h1, h.ok hi h2, h3⟩
/-- One value; what the call made is let go, rows are left as they are. -/
theorem Gives_frz {f : FuncId} {args : List V} {x : V} (h : ACalls P f args σ (fun r σ' => ∃ y, r = .ret y ∧ (∃ τ, σ' = σ ++ τ) ∧ (bels σ.length args → Frz σ' σ.length y x))) : Gives P f args σ x :=
  ⟨h.ent, fun w en vals hi hl => (h.go w en vals hi hl).mono fun e w' ⟨r, σ', en', h1, h2, h3, h4⟩ => by
    obtain ⟨y, rfl, ⟨τ, rfl⟩, hfr⟩ := h1
    obtain ⟨v, rfl, hv⟩ := h2
    have hi' : Iv σ (en'.take σ.length) w' := by
      have := h3.take (n := σ.length) (by simpa using hi.sb)
      simpa using this
    have he' := h4.take (n := σ.length) (by rw [hi.len]; exact Nat.le_refl _)
    exact ⟨.ret x, σ, _, ⟨rfl, rfl⟩, ⟨v, rfl, hfr (by rw [← hi.len]; exact LR_bel _ _ hl) _ _ _ h3 hv⟩, hi', he'⟩⟩
/-- The end of a body that made rows. -/
theorem frz_end {args : List V} {τ : List AE} {y x : V} (hx : bels σ.length args → Frz (σ ++ τ) σ.length y x) : ∃ y', Out.ret y = .ret y' ∧ (∃ τ', σ ++ τ = σ ++ τ') ∧ (bels σ.length args → Frz (σ ++ τ) σ.length y' x) := ⟨y, rfl, ⟨τ, rfl⟩, hx⟩

/-! ### Appending to what has no room -/
theorem run_append_zero {w : World} {t ty e : TypeId} (ht : P.underlying t = some (.slice e)) {sz : Nat} (hsz : tySize P e = some sz) {A A' : Option Addr} {n c c' : Nat} (hnc : n ≤ c) : (Builtin.append_ #[t, t] ty #[.slice A n c, .slice A' 0 c']).run P w = .ok (.slice A n c) w := by
  have h1 : (Builtin.firstCells sz 0 (.slice A' 0 c')).run P w = .ok #[] w := by
    cases A' with
    | none => simp [Builtin.firstCells]
    | some a => simp [Builtin.firstCells, loadCells, loadCellsFrom]
  cases A with
  | none => simp [Builtin.append_, run_underlying ht, run_sizeOf hsz, Builtin.lenOf, hnc, h1]
  | some a => simp [Builtin.append_, run_underlying ht, run_sizeOf hsz, Builtin.lenOf, hnc, h1, storeCells]
theorem elemI_size {t e : TypeId} {sz bytes : Nat} (he : elemI P t = some (e, sz, bytes)) : P.underlying t = some (.slice e) ∧ tySize P e = some sz := by
  unfold elemI at he
  split at he <;> try cases he
  rename_i e' ht
  split at he <;> try cases he
  rename_i i hi0
  split at he <;> try cases he
  rename_i z hz
  split at he <;> try cases he
  exact ⟨ht, by simp [tySize, hi0]⟩
theorem appendF_ok {w : World} {en : List CE} (hi : Iv σ en w) {t ty e : TypeId} {sz bytes : Nat} (he : elemI P t = some (e, sz, bytes)) (hsz : 0 < sz) {xs ys : List (List V)} {tg tg' : Tag} {v y : Value} (hv : VR w en (.sl tg xs) v) (hy : VR w en (.sl tg' ys) y)
    (htg : tg = .full ∨ tg = .nil) (hfx : flat sz xs = true) (hfy : flat sz ys = true) (h63 : xs.length + ys.length ≤ maxLen) (hb : (xs.length + ys.length) * bytes ≤ 140737488355328) :
    ∃ v' w' en', (Builtin.append_ #[t, t] ty #[v, y]).run P w = .ok v' w' ∧ VR w' en' (.sl .ro (xs ++ ys)) v' ∧ Iv σ en' w' ∧ Ext w en w' en' := by
  by_cases hne : ys = []
  · subst hne
    obtain ⟨ht, hs⟩ := elemI_size he
    have hv' := Vle.ro _ _ _ _ _ hv
    simp only [VR] at hv hy
    obtain ⟨A, c, rfl, hc1, hc2, htag, hrow⟩ := hv
    obtain ⟨A', c', rfl, hc1', hc2', _, hrow'⟩ := hy
    exact ⟨_, w, en, run_append_zero ht hs hc1, by rw [List.append_nil]; exact hv', hi, Ext.refl w en⟩
  · have hbx : bels σ.length xs.flatten ∧ bels σ.length ys.flatten := by
      have key : ∀ {tg : Tag} {zs : List (List V)} {u : Value}, VR w en (.sl tg zs) u → bels en.length zs.flatten := fun {tg zs u} hu => by
        by_cases hz : zs = []
        · subst hz; trivial
        · simp only [VR] at hu
          obtain ⟨A, c, _, _, _, _, hr⟩ := hu
          obtain ⟨g, o, _, hR⟩ := hr hz
          exact ER_bel _ _ _ (RR_ER hR)
      rw [← hi.len]
      exact ⟨key hv, key hy⟩
    have hbb : ∀ {xs ys : List V} {n : Nat}, bels n xs → bels n ys → bels n (xs ++ ys) := by
      intro xs
      induction xs with
      | nil => intro ys n _ h; exact h
      | cons x xs ih => intro ys n h1 h2; exact ⟨h1.1, ih h1.2 h2⟩
    obtain ⟨v', w', en', h1, h2, h3, h4⟩ := appendN_ok (ty := ty) hi he hsz hv hy htg hfx hfy hne h63 hb
    have hen : en'.length = en.length + 1 := by rw [h3.len, hi.len]; simp
    have hf : VR w' (en'.take σ.length) (.sl .ro (xs ++ ys)) v' := freeze_rs h3 (k := σ.length) (m := σ.length) (off := 0) (by rw [List.getElem?_append_right (Nat.le_refl _), Nat.sub_self]; rfl) (Vle.rw_rs _ _ _ _ _ _ h2) (Nat.le_refl _) (hbb hbx.1 hbx.2)
      (by
        have h5 := flat_len hfx
        have h6 := flat_len hfy
        rw [List.drop_zero, List.take_of_length_le, List.flatten_append]
        rw [List.length_append, h5, h6, Nat.add_mul]
        exact Nat.le_refl _)
      (by
        simp only [flat, List.all_append, Bool.and_eq_true] at hfx hfy ⊢
        exact ⟨hfx, hfy⟩)
      (by simp)
    have hi' : Iv σ (en'.take σ.length) w' := by
      have := h3.take (n := σ.length) (by simpa using hi.sb)
      simpa using this
    have he' := h4.take (n := σ.length) (by rw [hi.len]; exact Nat.le_refl _)
    exact ⟨v', w', _, h1, hf, hi', he'⟩
theorem AOps_appendF {ops : Array Oper} {o : Oper} {rest : List Oper} {s y : Operand} {t e : TypeId} {sz bytes : Nat} {xs ys : List (List V)} {tg tg' : Tag} (hg : o.guard = none) (ho : o.op = .call { callee := .builtin .append, args := #[s, y], argTypes := #[t, t] })
    (hs : gv fr s = .sl tg xs) (hy : gv fr y = .sl tg' ys) (htg : tg = .full ∨ tg = .nil) (he : elemI P t = some (e, sz, bytes)) (hsz : 0 < sz) (hfx : flat sz xs = true) (hfy : flat sz ys = true) (h63 : xs.length + ys.length ≤ maxLen) (hb : (xs.length + ys.length) * bytes ≤ 140737488355328)
    (hr : AOps P ops Q rest (pt fr o.dst (.sl .ro (xs ++ ys))) σ) : AOps P ops Q (o :: rest) fr σ :=
  AOps_op hg (OpOk_of fun a w en hi hf => by
    have h1 := hf s (by simp [ho, Op.operands, Call.operands])
    have h2 := hf y (by simp [ho, Op.operands, Call.operands])
    rw [hs] at h1
    rw [hy] at h2
    obtain ⟨v', w', en', h3, h4, h5, h6⟩ := appendF_ok (ty := o.type) hi he hsz h1 h2 htg hfx hfy h63 hb
    unfold Oper.wp
    have : (execOp a.eval o).run P w = .ok (.value v') w' := by simp [execOp, ho, resolve, invoke, builtin, h3]
    rw [this]
    exact ⟨v', en', rfl, h4, h5, h6⟩) hr
end
end Go.Proofs.YtfagngmikbmmhaaDoor.A
