/- Texts of the proof, one behind another: AhAppend, AhRow, AhSet. -/
import Derived.OwnWalk
import Derived.Test.YtdjjlbjagaadaaaGreatDoorMa2
/- Appending to a row of the call's own; slices' first token. -/
namespace Go.Proofs.YtdjjlbjagaadaaaGreatDoor.A
open Go Go.RowKit
set_option linter.unusedVariables false
set_option linter.unusedSimpArgs false

section
variable {rn : Option Nat} {P : Program} {σ : List AE} {fr : List V} {Q : APost}

/-- A slice type's element: its type, cells, bytes. -/
def elemI (P : Program) (t : TypeId) : Option (TypeId × Nat × Nat) := match P.underlying t with
  | some (.slice e) => match P.info? e with
    | some i => match i.zero with
      | some z => if z.cells.size = i.size then some (e, i.size, i.bytes) else none
      | none => none
    | none => none
  | _ => none
theorem append_cases {w : World} {t ty e : TypeId} {sz bytes : Nat} (he : elemI P t = some (e, sz, bytes)) (hsz : 0 < sz) {v : Value} {n : Nat} {xs : List Value} (hown : w.ownsRow 0 e sz v n xs)
    {a : Addr} {m c : Nat} {news : List Value} (hl : news.length = m * sz) (hnews : ∀ j u, news[j]? = some u → w.cell? (a.add j) = some u) (h1 : ∀ u ∈ news, u.oneCell' = true)
    (h63 : n + m ≤ maxLen) (hbytes : (n + m) * bytes ≤ 140737488355328) :
    ∃ v' w', (Builtin.append_ #[t, t] ty #[v, .slice (some a) m c]).run P w = .ok v' w' ∧ w'.ownsRow 0 e sz v' (n + m) (xs ++ news) ∧ w.grownBy w' v.ownBlock ∧
      (∀ g, v'.ownBlock = some g → v.ownBlock = some g ∨ w.heap.size ≤ g) ∧ (∀ g, v.ownBlock = some g → v'.ownBlock = some g ∨ w'.heap[g]? = w.heap[g]?) := by
  unfold elemI at he
  split at he <;> try cases he
  rename_i e' ht
  split at he <;> try cases he
  rename_i i hi
  split at he <;> try cases he
  rename_i z hz
  split at he <;> try cases he
  rename_i hzs
  obtain ⟨v', w', hr, ho, hg, hn⟩ := run_append_own (P := P) w 0 t ty e i z i.size i.bytes ht hi hz rfl rfl hzs hsz v n xs hown a m c news hl hnews h1 h63 hbytes (Nat.zero_le _)
  refine ⟨v', w', hr, ho, hg, ?_⟩
  have hsmall : n + m ≤ 9223372036854775807 := by simp only [maxLen] at h63; omega
  rcases hown.2 with ⟨rfl, rfl⟩ | ⟨g, cap, cur, rfl, hbg, hgc, hnc, hcm, hcs, htake⟩
  · refine ⟨fun g hg' => ?_, fun g hg' => by cases hg'⟩
    by_cases hm : m = 0
    · obtain rfl := hn.2 ⟨rfl, hm⟩
      cases hg'
    · have hr' := run_append_nil (P := P) w t ty e i z ht hi hz a m c news hl hnews (by omega) (by omega) (by simp only [Nat.zero_add] at hbytes; omega)
      rw [hr'] at hr
      cases hr
      cases hg'
      exact .inr (Nat.le_refl _)
  · by_cases hroom : n + m ≤ cap
    · have hfit : n * i.size + news.length ≤ cur.size := by rw [hl, hcs, ← Nat.add_mul]; exact Nat.mul_le_mul_right _ hroom
      have hr' := run_append_room (P := P) w t ty e i ht hi g n cap cur hgc a m c news hl hnews h1 hroom hfit
      rw [hr'] at hr
      cases hr
      exact ⟨fun g' hg' => .inl hg', fun g' hg' => .inl hg'⟩
    · have holds : ∀ j u, xs[j]? = some u → w.cell? ((⟨g, 0, none⟩ : Addr).add j) = some u := World.ownsRow.cells (w := w) (base := 0) (e := e) (size := i.size) (n := n) ⟨hown.1, .inr ⟨g, cap, cur, rfl, hbg, hgc, hnc, hcm, hcs, htake⟩⟩ (g := g) rfl
      have hr' := run_append_grow (P := P) w t ty e i z ht hi hz ⟨g, 0, none⟩ n cap xs hown.1 holds a m c news hl hnews (by omega) (by omega) (growslice_fits (by omega) hbytes)
      rw [hr'] at hr
      cases hr
      refine ⟨fun g' hg' => ?_, fun g' hg' => .inr ?_⟩
      · cases hg'
        exact .inr (Nat.le_refl _)
      · cases hg'
        exact Below.heap_alloc w.drew _ g (Array.getElem?_eq_some_iff.1 hgc).1

theorem flat_len {sz : Nat} {xs : List (List V)} (h : flat sz xs = true) : xs.flatten.length = xs.length * sz := by
  induction xs with
  | nil => simp
  | cons x xs ih =>
    simp only [flat, List.all_cons, Bool.and_eq_true, beq_iff_eq] at h
    have hx : flat sz xs = true := h.2
    simp only [List.flatten_cons, List.length_append, List.length_cons, ih hx, h.1, Nat.add_mul]
    omega
/-- Appending, whatever runs it: what it leaves. -/
theorem append_fin {w : World} {en : List CE} (hi : Iv σ en w) {e : TypeId} {sz : Nat} (hsz : 0 < sz) {k ver : Nat} (hk : σ[k]? = some (.tok ver e sz)) {R : Value → World → Prop}
    {xs ys : List (List V)} {v : Value} (hv : VR w en (.sl (.own k ver) xs) v) (hfx : flat sz xs = true) (hne : ys ≠ []) {us : List Value} (hus : LR w en ys.flatten us) (hone : ∀ u ∈ us, u.oneCell' = true)
    (hap : ∀ xv, w.ownsRow 0 e sz v xs.length xv → ∃ v' w', R v' w' ∧ w'.ownsRow 0 e sz v' (xs.length + ys.length) (xv ++ us) ∧ w.grownBy w' v.ownBlock ∧
      (∀ g, v'.ownBlock = some g → v.ownBlock = some g ∨ w.heap.size ≤ g) ∧ (∀ g, v.ownBlock = some g → v'.ownBlock = some g ∨ w'.heap[g]? = w.heap[g]?)) :
    ∃ v' w' en', R v' w' ∧ VR w' en' (.sl (.own k (ver + 1)) (xs ++ ys)) v' ∧ Iv (σ.set k (.tok (ver + 1) e sz)) en' w' ∧ Ext w en w' en' := by
  simp only [VR] at hv
  obtain ⟨A, c, hvv, hc1, hc2, htag, hrow⟩ := hv
  have hkl : k < σ.length := (List.getElem?_eq_some_iff.1 hk).1
  obtain ⟨cur, v0, n0, sz0, hek, hcur, hsame⟩ := htag
  have hok := hi.ok k _ _ hk hek
  simp only [EOk] at hok
  obtain ⟨rfl, rfl, xv, hown⟩ := hok
  obtain ⟨hv0, hn0⟩ := hsame rfl
  rw [hv0, hn0] at hek hown
  obtain ⟨v', w', hr, ho, hg, hb1, hb2⟩ := hap xv hown
  have hkeep : ∀ j u, xv[j]? = some u → ∀ gv, v'.ownBlock = some gv → w'.cell? ⟨gv, j, none⟩ = some u := fun j u hu gv hgv => by
    have := ho.cells hgv j u (by rw [List.getElem?_append_left (List.getElem?_eq_some_iff.1 hu).1]; exact hu)
    rwa [Addr_add, Nat.zero_add] at this
  have hent : ∀ j x, en[j]? = some x → j ≠ k → (en.set k (.tok (ver + 1) v' (xs.length + ys.length) sz))[j]? = some x := fun j x hx hj => by
    rw [List.getElem?_set, if_neg (fun e => hj e.symm)]; exact hx
  have hkn : (en.set k (.tok (ver + 1) v' (xs.length + ys.length) sz))[k]? = some (.tok (ver + 1) v' (xs.length + ys.length) sz) := by
    rw [List.getElem?_set, if_pos rfl, if_pos (by rw [hi.len]; exact hkl)]
  have hset : ∀ x ∈ en.set k (.tok (ver + 1) v' (xs.length + ys.length) sz), x = .tok (ver + 1) v' (xs.length + ys.length) sz ∨ ∃ j, j ≠ k ∧ en[j]? = some x := fun x hx => by
    obtain ⟨j, hj⟩ := List.getElem?_of_mem hx
    rw [List.getElem?_set] at hj
    split at hj
    · split at hj
      · left; cases hj; rfl
      · cases hj
    · rename_i hne; exact .inr ⟨j, fun e => hne e.symm, hj⟩
  have hst' : ∀ gg oo u, St w en gg oo u → St w' (en.set k (.tok (ver + 1) v' (xs.length + ys.length) sz)) gg oo u := fun gg oo u hs => by
    have hlt := World.block_lt_of_cell? w _ hs.1
    have hek' := hs.2 _ (List.mem_of_getElem? hek)
    simp only [okc] at hek'
    by_cases hgv : v.ownBlock = some gg
    · have hoo := hek' hgv
      have hxl : oo < xv.length := by rw [hown.1]; exact hoo
      have hcell := hown.cells hgv oo _ (List.getElem?_eq_getElem hxl)
      rw [Addr_add, Nat.zero_add] at hcell
      rw [hs.1] at hcell
      refine ⟨?_, fun x hx => ?_⟩
      · rcases hb2 gg hgv with h2 | h2
        · exact hkeep oo u (by rw [List.getElem?_eq_getElem hxl, ← hcell]) gg h2
        · exact (World.cell?_of_block h2).trans hs.1
      · rcases hset x hx with rfl | ⟨j, _, hj⟩
        · intro _; exact Nat.lt_of_lt_of_le hoo (Nat.mul_le_mul_right _ (Nat.le_add_right _ _))
        · exact hs.2 x (List.mem_of_getElem? hj)
    · refine ⟨(World.cell?_of_block (hg.block gg hlt (fun e => hgv e.symm))).trans hs.1, fun x hx => ?_⟩
      rcases hset x hx with rfl | ⟨j, _, hj⟩
      · intro hv'
        rcases hb1 gg hv' with h2 | h2
        · exact absurd h2 hgv
        · exact absurd hlt (Nat.not_lt.2 h2)
      · exact hs.2 x (List.mem_of_getElem? hj)
  have hext : Ext w en w' (en.set k (.tok (ver + 1) v' (xs.length + ys.length) sz)) := {
    os := hg.os
    tape := hg.tape
    output := hg.output
    size := hg.size
    block := fun j hj hx => hg.block j hj fun e => hx _ (List.mem_of_getElem? hek) e.symm
    st := hst'
    ent := fun j x hx => by
      by_cases hj : j = k
      · subst hj
        rw [hek] at hx
        cases hx
        exact ⟨_, hkn, ver + 1, v', _, rfl, Nat.le_succ _, fun e => by omega⟩
      · exact ⟨x, hent j x hx hj, Evo.refl x⟩
    fresh := fun x hx gg hgg hlt => by
      rcases hset x hx with rfl | ⟨j, _, hj⟩
      · rcases hb1 gg hgg with h2 | h2
        · exact ⟨_, List.mem_of_getElem? hek, h2⟩
        · exact absurd hlt (Nat.not_lt.2 h2)
      · exact ⟨x, List.mem_of_getElem? hj, hgg⟩ }
  have hoth : ∀ j x, j ≠ k → en[j]? = some x → ∀ gg, ebl x = some gg → w'.heap[gg]? = w.heap[gg]? := fun j x hj hx gg hgg => by
    refine hg.block gg (hi.lt (List.mem_of_getElem? hx) hgg) fun e => hj (hi.dis j k x _ gg hx hek hgg e.symm)
  refine ⟨v', w', _, hr, ?_, ⟨by simp [hi.len], fun j a x ha hx => ?_, fun i j x y gg hxi hyj hgx hgy => ?_⟩, hext⟩
  · obtain ⟨hol, hov⟩ := ho
    simp only [VR]
    have hnn : 0 < xs.length + ys.length := by cases ys with
      | nil => exact absurd rfl hne
      | cons _ _ => simp only [List.length_cons]; omega
    rcases hov with ⟨_, h0⟩ | ⟨gv, cap, cur, rfl, _, hgc, hnc, hcm, hcs, htk⟩
    · omega
    refine ⟨some ⟨gv, 0, none⟩, cap, by rw [List.length_append], by rw [List.length_append]; exact hnc, hcm, ⟨ver + 1, _, _, sz, hkn, Nat.le_refl _, fun _ => ⟨rfl, by rw [List.length_append]⟩⟩, fun _ => ⟨gv, 0, rfl, RR_mk ?_⟩⟩
    have hokn : ∀ o, o < (xs.length + ys.length) * sz → ∀ x ∈ en.set k (.tok (ver + 1) (.slice (some ⟨gv, 0, none⟩) (xs.length + ys.length) cap) (xs.length + ys.length) sz), okc x gv o := fun o ho' x hx => by
      rcases hset x hx with rfl | ⟨j, hj, hjx⟩
      · intro _; exact ho'
      · have hno : ebl x ≠ some gv := fun e => by
          rcases hb1 gv rfl with h2 | h2
          · exact hj (hi.dis j k x _ gv hjx hek e h2)
          · exact absurd (hi.lt (List.mem_of_getElem? hjx) e) (Nat.not_lt.2 h2)
        cases x with
        | glob => trivial
        | box g2 => simp only [okc]; intro e; exact hno (by simp [ebl, e])
        | tok _ v2 _ _ => intro e; exact absurd e hno
        | row _ v2 _ _ => exact hno
    have hcellv : ∀ j u, (xv ++ us)[j]? = some u → St w' (en.set k (.tok (ver + 1) (.slice (some ⟨gv, 0, none⟩) (xs.length + ys.length) cap) (xs.length + ys.length) sz)) gv j u := fun j u hu => by
      have := World.ownsRow.cells (w := w') (base := 0) (e := e) (size := sz) (n := xs.length + ys.length) ⟨hol, .inr ⟨gv, cap, cur, rfl, Nat.zero_le _, hgc, hnc, hcm, hcs, htk⟩⟩ (g := gv) rfl j u hu
      rw [Addr_add, Nat.zero_add] at this
      refine ⟨this, hokn j ?_⟩
      have := (List.getElem?_eq_some_iff.1 hu).1
      rw [hol] at this
      exact this
    rw [List.flatten_append]
    refine ER_append (ER_mk fun j x hx => ?_) (ER_mk fun j x hx => ?_)
    · -- the old elements
      have hxn : xs ≠ [] := fun e => by subst e; simp at hx
      obtain ⟨go, oo, hA, hRo⟩ := hrow hxn
      obtain ⟨u, hu1, hu2, hu3⟩ := ER_get (RR_ER hRo) j x hx
      have hj : j < xs.length * sz := by rw [← flat_len hfx]; exact (List.getElem?_eq_some_iff.1 hx).1
      have hjx : j < xv.length := by rw [hown.1]; exact hj
      have hoo : go = go ∧ oo = 0 := by
        rcases hown.2 with ⟨e1, _⟩ | ⟨g2, cap2, cur2, e1, _⟩
        · rw [hvv, hA] at e1; cases e1
        · rw [hvv, hA] at e1; cases e1; exact ⟨rfl, rfl⟩
      obtain ⟨_, rfl⟩ := hoo
      have hcell := hown.cells (g := go) (by rw [hvv, hA]; rfl) j _ (List.getElem?_eq_getElem hjx)
      rw [Addr_add] at hcell
      rw [hu1.1] at hcell
      have hxu : (xv ++ us)[j]? = some u := by rw [List.getElem?_append_left hjx, List.getElem?_eq_getElem hjx, Option.some.inj hcell]
      exact ⟨u, by rw [Nat.zero_add]; exact hcellv j u hxu, hu2, VR_ext hext x u hu3⟩
    · obtain ⟨u, hu1, hu2⟩ := LR_get hus j x hx
      have hxu : (xv ++ us)[xs.flatten.length + j]? = some u := by
        rw [flat_len hfx, ← hown.1, List.getElem?_append_right (Nat.le_add_right _ _), Nat.add_sub_cancel_left]
        exact hu1
      exact ⟨u, by rw [Nat.zero_add]; exact hcellv _ u hxu, hone u (List.mem_of_getElem? hu1), VR_ext hext x u hu2⟩
  · by_cases hj : j = k
    · subst hj
      rw [hkn] at hx
      rw [List.getElem?_set, if_pos rfl, if_pos hkl] at ha
      cases ha; cases hx
      exact ⟨rfl, rfl, _, ho⟩
    · rw [List.getElem?_set, if_neg (fun e => hj e.symm)] at ha hx
      exact (hi.ok j a x ha hx).keep hext (hoth j x hj hx)
  · have key : ∀ i x, (en.set k (.tok (ver + 1) v' (xs.length + ys.length) sz))[i]? = some x → ebl x = some gg → (i = k ∧ v'.ownBlock = some gg) ∨ (i ≠ k ∧ en[i]? = some x) := fun i x hx hgx => by
      by_cases hik : i = k
      · subst hik
        rw [hkn] at hx
        cases hx
        exact .inl ⟨rfl, hgx⟩
      · rw [List.getElem?_set, if_neg (fun e => hik e.symm)] at hx
        exact .inr ⟨hik, hx⟩
    have cross : ∀ i x, i ≠ k → en[i]? = some x → ebl x = some gg → v'.ownBlock = some gg → False := fun i x hik hx hgx hv' => by
      rcases hb1 gg hv' with h2 | h2
      · exact hik (hi.dis i k x _ gg hx hek hgx h2)
      · exact absurd (hi.lt (List.mem_of_getElem? hx) hgx) (Nat.not_lt.2 h2)
    rcases key i x hxi hgx with ⟨e1, e2⟩ | ⟨e1, e2⟩ <;> rcases key j y hyj hgy with ⟨e3, e4⟩ | ⟨e3, e4⟩
    · rw [e1, e3]
    · exact (cross j y e3 e4 hgy e2).elim
    · exact (cross i x e1 e2 hgx e4).elim
    · exact hi.dis i j x y gg e2 e4 hgx hgy
theorem append_ok {w : World} {en : List CE} (hi : Iv σ en w) {t ty e : TypeId} {sz bytes : Nat} (he : elemI P t = some (e, sz, bytes)) (hsz : 0 < sz) {k ver : Nat} (hk : σ[k]? = some (.tok ver e sz))
    {xs ys : List (List V)} {tg : Tag} {v y : Value} (hv : VR w en (.sl (.own k ver) xs) v) (hy : VR w en (.sl tg ys) y) (hfx : flat sz xs = true) (hfy : flat sz ys = true) (hne : ys ≠ []) (h63 : xs.length + ys.length ≤ maxLen) (hb : (xs.length + ys.length) * bytes ≤ 140737488355328) :
    ∃ v' w' en', (Builtin.append_ #[t, t] ty #[v, y]).run P w = .ok v' w' ∧ VR w' en' (.sl (.own k (ver + 1)) (xs ++ ys)) v' ∧ Iv (σ.set k (.tok (ver + 1) e sz)) en' w' ∧ Ext w en w' en' := by
  simp only [VR] at hy
  obtain ⟨A', c', hyv, hc1', hc2', _, hrow'⟩ := hy
  obtain ⟨g', o', rfl, hR'⟩ := hrow' hne
  obtain ⟨us, hus, hst, hone⟩ := ER_cells (RR_ER hR')
  have hl : us.length = ys.length * sz := by rw [LR_length hus, flat_len hfy]
  have hnews : ∀ j u, us[j]? = some u → w.cell? ((⟨g', o', none⟩ : Addr).add j) = some u := fun j u hu => by rw [Addr_add]; exact (hst j u hu).1
  subst hyv
  exact append_fin (R := fun v' w' => (Builtin.append_ #[t, t] ty #[v, .slice (some ⟨g', o', none⟩) ys.length c']).run P w = .ok v' w') hi hsz hk hv hfx hne hus hone fun xv hown => append_cases (ty := ty) (c := c') he hsz hown hl hnews hone h63 hb
/-- A slice that is nil gets a token. -/
theorem tok_ok {w : World} {en : List CE} (hi : Iv σ en w) (e : TypeId) (sz : Nat) : Iv (σ ++ [.tok 0 e sz]) (en ++ [.tok 0 (.slice none 0 0) 0 sz]) w ∧ Ext w en w (en ++ [.tok 0 (.slice none 0 0) 0 sz]) := by
  have he : Ext w en w (en ++ [.tok 0 (.slice none 0 0) 0 sz]) := {
    os := rfl, tape := rfl, output := rfl, size := Nat.le_refl _, block := fun _ _ _ => rfl
    st := fun g o u hs => ⟨hs.1, fun x hx => by
      rcases List.mem_append.1 hx with hx | hx
      · exact hs.2 x hx
      · rw [List.mem_singleton.1 hx]; intro h; cases h⟩
    ent := fun i x hx => ⟨x, by rw [List.getElem?_append_left (List.getElem?_eq_some_iff.1 hx).1]; exact hx, Evo.refl x⟩
    fresh := fun x hx g hg _ => by
      rcases List.mem_append.1 hx with hx | hx
      · exact ⟨x, hx, hg⟩
      · rw [List.mem_singleton.1 hx] at hg; cases hg }
  refine ⟨⟨by simp [hi.len], fun i a x ha hx => ?_, fun i j x y g hxi hyj hx hy => ?_⟩, he⟩
  · rcases Nat.lt_or_ge i σ.length with hl | hl
    · rw [List.getElem?_append_left hl] at ha
      rw [List.getElem?_append_left (by rw [hi.len]; exact hl)] at hx
      exact (hi.ok i a x ha hx).keep he fun _ _ => rfl
    · rw [List.getElem?_append_right hl] at ha
      rw [List.getElem?_append_right (by rw [hi.len]; exact hl), hi.len] at hx
      have hz : i - σ.length = 0 := by have := (List.getElem?_eq_some_iff.1 ha).1; simp at this; omega
      rw [hz] at ha hx
      simp only [List.getElem?_cons_zero, Option.some.injEq] at ha hx
      subst ha; subst hx
      exact ⟨rfl, rfl, [], World.ownsRow_nil w 0 e sz⟩
  · have key : ∀ (i : Nat) (x : CE), (en ++ [CE.tok 0 (.slice none 0 0) 0 sz])[i]? = some x → ebl x = some g → en[i]? = some x := fun i x hx hgx => by
      rcases Nat.lt_or_ge i en.length with hl | hl
      · rwa [List.getElem?_append_left hl] at hx
      · rw [List.getElem?_append_right hl] at hx
        have hz : i - en.length = 0 := by have := (List.getElem?_eq_some_iff.1 hx).1; simp at this; omega
        rw [hz] at hx
        simp only [List.getElem?_cons_zero, Option.some.injEq] at hx
        subst hx
        cases hgx
    exact hi.dis i j x y g (key i x hxi hx) (key j y hyj hy) hx hy
theorem AWP_tok {c : Code} (t : Nat) (e : TypeId) (sz : Nat) (ht : fr.getD t .junk = .sl .nil []) (h : AWP rn P c Q (fr.set t (.sl (.own σ.length 0) [])) (σ ++ [.tok 0 e sz])) : AWP rn P c Q fr σ := fun a w en hi hf {_} hd => by
  obtain ⟨hi', he⟩ := tok_ok hi e sz
  refine Code.wpIn_mono (fun _ _ _ hq => LQ_ext he hq) (h a w _ hi' ⟨by rw [List.length_set]; exact hf.1, fun u => ?_⟩ hd)
  by_cases hu : t = u
  · subst hu
    have hv := VR_ext he _ _ (hf.2 t)
    rw [ht] at hv
    simp only [VR] at hv
    obtain ⟨A, c', h1, h2, h3, h4, _⟩ := hv
    have hlt : t < fr.length := by
      rcases Nat.lt_or_ge t fr.length with h | h
      · exact h
      · rw [List.getD_eq_getElem?_getD, List.getElem?_eq_none h] at ht; cases ht
    rw [List.getD_eq_getElem?_getD, List.getElem?_set, if_pos rfl, if_pos hlt, Option.getD_some]
    simp only [VR]
    have h4' : a.tmps.getD t undef = .slice none 0 0 := h4
    refine ⟨none, 0, h4', Nat.zero_le _, Nat.zero_le _, ⟨0, .slice none 0 0, 0, sz, ?_, Nat.le_refl _, fun _ => ⟨h4'.symm, rfl⟩⟩, fun h => absurd rfl h⟩
    rw [List.getElem?_append_right (by rw [hi.len]; exact Nat.le_refl _), hi.len, Nat.sub_self]
    rfl
  · rw [List.getD_eq_getElem?_getD, List.getElem?_set, if_neg hu, ← List.getD_eq_getElem?_getD]
    exact VR_ext he _ _ (hf.2 u)
theorem AOps_append {ops : Array Oper} {o : Oper} {rest : List Oper} {s y : Operand} {t e : TypeId} {sz bytes k ver : Nat} {xs ys : List (List V)} {tg : Tag} (hg : o.guard = none) (ho : o.op = .call { callee := .builtin .append, args := #[s, y], argTypes := #[t, t] })
    (hs : gv fr s = .sl (.own k ver) xs) (hy : gv fr y = .sl tg ys) (hk : σ[k]? = some (.tok ver e sz)) (he : elemI P t = some (e, sz, bytes)) (hsz : 0 < sz) (hfx : flat sz xs = true) (hfy : flat sz ys = true) (hne : ys ≠ []) (h63 : xs.length + ys.length ≤ maxLen) (hb : (xs.length + ys.length) * bytes ≤ 140737488355328)
    (hr : AOps P ops Q rest (pt fr o.dst (.sl (.own k (ver + 1)) (xs ++ ys))) (σ.set k (.tok (ver + 1) e sz))) : AOps P ops Q (o :: rest) fr σ :=
  AOps_op hg (OpOk_of fun a w en hi hf => by
    have h1 := hf s (by simp [ho, Op.operands, Call.operands])
    have h2 := hf y (by simp [ho, Op.operands, Call.operands])
    rw [hs] at h1
    rw [hy] at h2
    obtain ⟨v', w', en', h3, h4, h5, h6⟩ := append_ok (ty := o.type) hi he hsz hk h1 h2 hfx hfy hne h63 hb
    unfold Oper.wp
    have : (execOp a.eval o).run P w = .ok (.value v') w' := by simp [execOp, ho, resolve, invoke, builtin, h3]
    rw [this]
    exact ⟨v', en', rfl, h4, h5, h6⟩) hr
end
end Go.Proofs.YtdjjlbjagaadaaaGreatDoor.A
/- Rows of the call's own, with their cells: appending, slices made anew, what is left of them behind a call. -/
namespace Go.Proofs.YtdjjlbjagaadaaaGreatDoor.A
open Go Go.RowKit
set_option linter.unusedVariables false
set_option linter.unusedSimpArgs false

section
variable {P : Program} {σ : List AE} {fr : List V} {Q : APost}

theorem appendR_ok {w : World} {en : List CE} (hi : Iv σ en w) {t ty e : TypeId} {sz bytes : Nat} (he : elemI P t = some (e, sz, bytes)) (hsz : 0 < sz) {k ver n : Nat} {cs : List V} (hk : σ[k]? = some (.row ver e sz n cs))
    {ys : List (List V)} {tg : Tag} {v y : Value} (hv : VR w en (.rw k ver n) v) (hy : VR w en (.sl tg ys) y) (hfy : flat sz ys = true) (hne : ys ≠ []) (h63 : n + ys.length ≤ maxLen) (hb : (n + ys.length) * bytes ≤ 140737488355328) :
    ∃ v' w' en', (Builtin.append_ #[t, t] ty #[v, y]).run P w = .ok v' w' ∧ VR w' en' (.rw k (ver + 1) (n + ys.length)) v' ∧ Iv (σ.set k (.row (ver + 1) e sz (n + ys.length) (cs ++ ys.flatten))) en' w' ∧ Ext w en w' en' := by
  simp only [VR] at hv hy
  obtain ⟨A, c, cur, v0, n0, sz0, hvv, hc1, hc2, hA, hek, hcur, hsame⟩ := hv
  obtain ⟨A', c', hyv, hc1', hc2', _, hrow'⟩ := hy
  obtain ⟨g', o', rfl, hR'⟩ := hrow' hne
  have hkl : k < σ.length := (List.getElem?_eq_some_iff.1 hk).1
  have hok := hi.ok k _ _ hk hek
  simp only [EOk] at hok
  obtain ⟨rfl, rfl, rfl, xv, hown, hLx, hox⟩ := hok
  obtain ⟨hv0, _⟩ := hsame rfl
  rw [hv0] at hek hown
  obtain ⟨us, hus, hst, hone⟩ := ER_cells (RR_ER hR')
  have hl : us.length = ys.length * sz := by rw [LR_length hus, flat_len hfy]
  have hnews : ∀ j u, us[j]? = some u → w.cell? ((⟨g', o', none⟩ : Addr).add j) = some u := fun j u hu => by rw [Addr_add]; exact (hst j u hu).1
  obtain ⟨v', w', hr, ho, hg, hb1, hb2⟩ := append_cases (ty := ty) (c := c') he hsz hown hl hnews hone h63 hb
  have hent : ∀ j x, en[j]? = some x → j ≠ k → (en.set k (.row (ver + 1) v' (n + ys.length) sz))[j]? = some x := fun j x hx hj => by
    rw [List.getElem?_set, if_neg (fun e => hj e.symm)]; exact hx
  have hkn : (en.set k (.row (ver + 1) v' (n + ys.length) sz))[k]? = some (.row (ver + 1) v' (n + ys.length) sz) := by
    rw [List.getElem?_set, if_pos rfl, if_pos (by rw [hi.len]; exact hkl)]
  have hset : ∀ x ∈ en.set k (.row (ver + 1) v' (n + ys.length) sz), x = .row (ver + 1) v' (n + ys.length) sz ∨ ∃ j, j ≠ k ∧ en[j]? = some x := fun x hx => by
    obtain ⟨j, hj⟩ := List.getElem?_of_mem hx
    rw [List.getElem?_set] at hj
    split at hj
    · split at hj
      · left; cases hj; rfl
      · cases hj
    · rename_i hne; exact .inr ⟨j, fun e => hne e.symm, hj⟩
  have hst' : ∀ gg oo u, St w en gg oo u → St w' (en.set k (.row (ver + 1) v' (n + ys.length) sz)) gg oo u := fun gg oo u hs => by
    have hlt := World.block_lt_of_cell? w _ hs.1
    have hgv : v.ownBlock ≠ some gg := hs.2 _ (List.mem_of_getElem? hek)
    refine ⟨(World.cell?_of_block (hg.block gg hlt (fun e => hgv e.symm))).trans hs.1, fun x hx => ?_⟩
    rcases hset x hx with rfl | ⟨j, _, hj⟩
    · intro hv'
      rcases hb1 gg hv' with h2 | h2
      · exact absurd h2 hgv
      · exact absurd hlt (Nat.not_lt.2 h2)
    · exact hs.2 x (List.mem_of_getElem? hj)
  have hext : Ext w en w' (en.set k (.row (ver + 1) v' (n + ys.length) sz)) := {
    os := hg.os
    tape := hg.tape
    output := hg.output
    size := hg.size
    block := fun j hj hx => hg.block j hj fun e => hx _ (List.mem_of_getElem? hek) e.symm
    st := hst'
    ent := fun j x hx => by
      by_cases hj : j = k
      · subst hj
        rw [hek] at hx
        cases hx
        exact ⟨_, hkn, ver + 1, v', _, rfl, Nat.le_succ _, fun e => by omega⟩
      · exact ⟨x, hent j x hx hj, Evo.refl x⟩
    fresh := fun x hx gg hgg hlt => by
      rcases hset x hx with rfl | ⟨j, _, hj⟩
      · rcases hb1 gg hgg with h2 | h2
        · exact ⟨_, List.mem_of_getElem? hek, h2⟩
        · exact absurd hlt (Nat.not_lt.2 h2)
      · exact ⟨x, List.mem_of_getElem? hj, hgg⟩ }
  have hoth : ∀ j x, j ≠ k → en[j]? = some x → ∀ gg, ebl x = some gg → w'.heap[gg]? = w.heap[gg]? := fun j x hj hx gg hgg => by
    refine hg.block gg (hi.lt (List.mem_of_getElem? hx) hgg) fun e => hj (hi.dis j k x _ gg hx hek hgg e.symm)
  have hnn : 0 < n + ys.length := by cases ys with
    | nil => exact absurd rfl hne
    | cons _ _ => simp only [List.length_cons]; omega
  refine ⟨v', w', _, by rw [hyv]; exact hr, ?_, ⟨by simp [hi.len], fun j a x ha hx => ?_, fun i j x y gg hxi hyj hgx hgy => ?_⟩, hext⟩
  · simp only [VR]
    rcases ho.2 with ⟨_, h0⟩ | ⟨gv, cap, cu, rfl, _, hgc, hnc, hcm, hcs, htk⟩
    · omega
    · exact ⟨some ⟨gv, 0, none⟩, cap, ver + 1, _, _, sz, rfl, hnc, hcm, fun _ => ⟨gv, rfl⟩, hkn, Nat.le_refl _, fun _ => ⟨rfl, rfl⟩⟩
  · by_cases hj : j = k
    · subst hj
      rw [hkn] at hx
      rw [List.getElem?_set, if_pos rfl, if_pos hkl] at ha
      cases ha; cases hx
      refine ⟨rfl, rfl, rfl, xv ++ us, ho, LR_append (LR_ext hext _ _ hLx) (LR_ext hext _ _ hus), fun u hu => ?_⟩
      rcases List.mem_append.1 hu with hu | hu
      · exact hox u hu
      · exact hone u hu
    · rw [List.getElem?_set, if_neg (fun e => hj e.symm)] at ha hx
      exact (hi.ok j a x ha hx).keep hext (hoth j x hj hx)
  · have key : ∀ i x, (en.set k (.row (ver + 1) v' (n + ys.length) sz))[i]? = some x → ebl x = some gg → (i = k ∧ v'.ownBlock = some gg) ∨ (i ≠ k ∧ en[i]? = some x) := fun i x hx hgx => by
      by_cases hik : i = k
      · subst hik
        rw [hkn] at hx
        cases hx
        exact .inl ⟨rfl, hgx⟩
      · rw [List.getElem?_set, if_neg (fun e => hik e.symm)] at hx
        exact .inr ⟨hik, hx⟩
    have cross : ∀ i x, i ≠ k → en[i]? = some x → ebl x = some gg → v'.ownBlock = some gg → False := fun i x hik hx hgx hv' => by
      rcases hb1 gg hv' with h2 | h2
      · exact hik (hi.dis i k x _ gg hx hek hgx h2)
      · exact absurd (hi.lt (List.mem_of_getElem? hx) hgx) (Nat.not_lt.2 h2)
    rcases key i x hxi hgx with ⟨e1, e2⟩ | ⟨e1, e2⟩ <;> rcases key j y hyj hgy with ⟨e3, e4⟩ | ⟨e3, e4⟩
    · rw [e1, e3]
    · exact (cross j y e3 e4 hgy e2).elim
    · exact (cross i x e1 e2 hgx e4).elim
    · exact hi.dis i j x y gg e2 e4 hgx hgy
theorem AOps_appendR {ops : Array Oper} {o : Oper} {rest : List Oper} {s y : Operand} {t e : TypeId} {sz bytes k ver n : Nat} {cs : List V} {ys : List (List V)} {tg : Tag} (hg : o.guard = none) (ho : o.op = .call { callee := .builtin .append, args := #[s, y], argTypes := #[t, t] })
    (hs : gv fr s = .rw k ver n) (hy : gv fr y = .sl tg ys) (hk : σ[k]? = some (.row ver e sz n cs)) (he : elemI P t = some (e, sz, bytes)) (hsz : 0 < sz) (hfy : flat sz ys = true) (hne : ys ≠ []) (h63 : n + ys.length ≤ maxLen) (hb : (n + ys.length) * bytes ≤ 140737488355328)
    (hr : AOps P ops Q rest (pt fr o.dst (.rw k (ver + 1) (n + ys.length))) (σ.set k (.row (ver + 1) e sz (n + ys.length) (cs ++ ys.flatten)))) : AOps P ops Q (o :: rest) fr σ :=
  AOps_op hg (OpOk_of fun a w en hi hf => by
    have h1 := hf s (by simp [ho, Op.operands, Call.operands])
    have h2 := hf y (by simp [ho, Op.operands, Call.operands])
    rw [hs] at h1
    rw [hy] at h2
    obtain ⟨v', w', en', h3, h4, h5, h6⟩ := appendR_ok (ty := o.type) hi he hsz hk h1 h2 hfy hne h63 hb
    unfold Oper.wp
    have : (execOp a.eval o).run P w = .ok (.value v') w' := by simp [execOp, ho, resolve, invoke, builtin, h3]
    rw [this]
    exact ⟨v', en', rfl, h4, h5, h6⟩) hr

/-! ### A new row -/
theorem newRow_ok {w : World} {en : List CE} (hi : Iv σ en w) {e : TypeId} {sz n cap : Nat} {cs : List V} {us : List Value} {cu : Array Value} (hl : LR w en cs us) (h1 : ∀ u ∈ us, u.oneCell' = true) (hlen : us.length = n * sz) (hnc : n ≤ cap) (hcm : cap ≤ maxLen) (hcs : cu.size = cap * sz) (htk : cu.toList.take (n * sz) = us) :
    VR (w.alloc (.cells cu e)) (en ++ [.row 0 (.slice (some ⟨w.heap.size, 0, none⟩) n cap) n sz]) (.rw σ.length 0 n) (.slice (some ⟨w.heap.size, 0, none⟩) n cap) ∧
    Iv (σ ++ [.row 0 e sz n cs]) (en ++ [.row 0 (.slice (some ⟨w.heap.size, 0, none⟩) n cap) n sz]) (w.alloc (.cells cu e)) ∧ Ext w en (w.alloc (.cells cu e)) (en ++ [.row 0 (.slice (some ⟨w.heap.size, 0, none⟩) n cap) n sz]) := by
  have he : Ext w en (w.alloc (.cells cu e)) (en ++ [.row 0 (.slice (some ⟨w.heap.size, 0, none⟩) n cap) n sz]) := .alloc _ _ (fun x hx => by rw [List.mem_singleton.1 hx]; exact .inr rfl)
  refine ⟨?_, ⟨by simp [hi.len], fun i a x ha hx => ?_, fun i j x y g hi' hj hx hy => ?_⟩, he⟩
  · simp only [VR]
    refine ⟨_, cap, 0, _, n, sz, rfl, hnc, hcm, fun _ => ⟨_, rfl⟩, ?_, Nat.le_refl _, fun _ => ⟨rfl, rfl⟩⟩
    rw [← hi.len, List.getElem?_append_right (Nat.le_refl _), Nat.sub_self]; rfl
  · rcases Nat.lt_or_ge i σ.length with hl' | hl'
    · rw [List.getElem?_append_left hl'] at ha
      rw [List.getElem?_append_left (by rw [hi.len]; exact hl')] at hx
      exact (hi.ok i a x ha hx).keep he (fun g hg => Below.heap_alloc w _ g (hi.lt (List.mem_of_getElem? hx) hg))
    · rw [List.getElem?_append_right hl'] at ha
      rw [List.getElem?_append_right (by rw [hi.len]; exact hl'), hi.len] at hx
      have hz : i - σ.length = 0 := by have := (List.getElem?_eq_some_iff.1 ha).1; simp at this; omega
      rw [hz] at ha hx
      simp only [List.getElem?_cons_zero, Option.some.injEq] at ha hx
      subst ha; subst hx
      exact ⟨rfl, rfl, rfl, us, ⟨hlen, .inr ⟨_, cap, cu, rfl, Nat.zero_le _, heap_alloc_new w _, hnc, hcm, hcs, htk⟩⟩, LR_ext he _ _ hl, h1⟩
  · have key : ∀ (i : Nat) (x : CE), (en ++ [CE.row 0 (.slice (some ⟨w.heap.size, 0, none⟩) n cap) n sz])[i]? = some x → ebl x = some g → (i < en.length ∧ en[i]? = some x ∧ g < w.heap.size) ∨ (i = en.length ∧ g = w.heap.size) := fun i x hi' hx => by
      rcases Nat.lt_or_ge i en.length with hl | hl
      · rw [List.getElem?_append_left hl] at hi'
        exact .inl ⟨hl, hi', hi.lt (List.mem_of_getElem? hi') hx⟩
      · rw [List.getElem?_append_right hl] at hi'
        have hz : i - en.length = 0 := by
          have := (List.getElem?_eq_some_iff.1 hi').1
          simp at this; omega
        rw [hz] at hi'
        simp only [List.getElem?_cons_zero, Option.some.injEq] at hi'
        subst hi'
        simp only [ebl, Value.ownBlock, Option.some.injEq] at hx
        exact .inr ⟨by omega, hx.symm⟩
    rcases key i x hi' hx with ⟨a1, a2, a3⟩ | ⟨a1, a2⟩ <;> rcases key j y hj hy with ⟨b1, b2, b3⟩ | ⟨b1, b2⟩
    · exact hi.dis i j x y g a2 b2 hx hy
    · omega
    · omega
    · omega
theorem appendN_ok {w : World} {en : List CE} (hi : Iv σ en w) {t ty e : TypeId} {sz bytes : Nat} (he : elemI P t = some (e, sz, bytes)) (hsz : 0 < sz) {xs ys : List (List V)} {tg tg' : Tag} {v y : Value} (hv : VR w en (.sl tg xs) v) (hy : VR w en (.sl tg' ys) y)
    (htg : tg = .full ∨ tg = .nil) (hfx : flat sz xs = true) (hfy : flat sz ys = true) (hne : ys ≠ []) (h63 : xs.length + ys.length ≤ maxLen) (hb : (xs.length + ys.length) * bytes ≤ 140737488355328) :
    ∃ v' w' en', (Builtin.append_ #[t, t] ty #[v, y]).run P w = .ok v' w' ∧ VR w' en' (.rw σ.length 0 (xs.length + ys.length)) v' ∧ Iv (σ ++ [.row 0 e sz (xs.length + ys.length) (xs.flatten ++ ys.flatten)]) en' w' ∧ Ext w en w' en' := by
  unfold elemI at he
  split at he <;> try cases he
  rename_i e' ht
  split at he <;> try cases he
  rename_i i hi0
  split at he <;> try cases he
  rename_i z hz
  split at he <;> try cases he
  rename_i hzs
  simp only [VR] at hv hy
  obtain ⟨A, c, rfl, hc1, hc2, htag, hrow⟩ := hv
  obtain ⟨A', c', rfl, hc1', hc2', _, hrow'⟩ := hy
  obtain ⟨g', o', rfl, hR'⟩ := hrow' hne
  obtain ⟨us, hus, hst, hone⟩ := ER_cells (RR_ER hR')
  have hl : us.length = ys.length * i.size := by rw [LR_length hus, flat_len hfy]
  have hnews : ∀ j u, us[j]? = some u → w.cell? ((⟨g', o', none⟩ : Addr).add j) = some u := fun j u hu => by rw [Addr_add]; exact (hst j u hu).1
  have hn1 : 0 < ys.length := List.length_pos_iff.2 hne
  have hm63 : xs.length + ys.length ≤ 9223372036854775807 := by simp only [maxLen] at h63; omega
  have hd : ∀ u g o, St w en g o u → St w.drew en g o u := fun u g o hs => Ext.drew.st g o u hs
  have fin : ∀ (xv : List Value) (cap0 : Nat), LR w en xs.flatten xv → (∀ u ∈ xv, u.oneCell' = true) → xv.length = xs.length * i.size →
      (Builtin.append_ #[t, t] ty #[.slice A xs.length c, .slice (some ⟨g', o', none⟩) ys.length c']).run P w = .ok (.slice (some ⟨w.heap.size, 0, none⟩) (xs.length + ys.length) (grownCap w (xs.length + ys.length) cap0 e)) (w.drew.alloc (.cells (xv.toArray ++ us.toArray ++ Builtin.zeroCells z.cells (grownCap w (xs.length + ys.length) cap0 e - (xs.length + ys.length))) e)) →
      ∃ v' w' en', (Builtin.append_ #[t, t] ty #[.slice A xs.length c, .slice (some ⟨g', o', none⟩) ys.length c']).run P w = .ok v' w' ∧ VR w' en' (.rw σ.length 0 (xs.length + ys.length)) v' ∧ Iv (σ ++ [.row 0 e i.size (xs.length + ys.length) (xs.flatten ++ ys.flatten)]) en' w' ∧ Ext w en w' en' := fun xv cap0 hLx hox hxl hrun => by
    have hge := grownCap_ge w (xs.length + ys.length) cap0 e
    have hle := grownCap_le_maxLen w (xs.length + ys.length) cap0 e h63
    generalize grownCap w (xs.length + ys.length) cap0 e = cap at hrun hge hle
    have hlen : (xv ++ us).length = (xs.length + ys.length) * i.size := by rw [List.length_append, hxl, hl, Nat.add_mul]
    obtain ⟨k1, k2, k3⟩ := newRow_ok (w := w.drew) (e := e) (sz := i.size) (n := xs.length + ys.length) (cap := cap) (cs := xs.flatten ++ ys.flatten) (us := xv ++ us) (cu := xv.toArray ++ us.toArray ++ Builtin.zeroCells z.cells (cap - (xs.length + ys.length))) hi.drew
      (LR_append (LR_ext .drew _ _ hLx) (LR_ext .drew _ _ hus)) (fun u hu => by rcases List.mem_append.1 hu with hu | hu; exact hox u hu; exact hone u hu) hlen hge hle
      (by
        rw [List.length_append] at hlen
        have hzc : (Builtin.zeroCells z.cells (cap - (xs.length + ys.length))).size = (cap - (xs.length + ys.length)) * i.size := by
          simp [Builtin.zeroCells, hzs]
        simp only [Array.size_append, List.size_toArray, hzc]
        rw [hlen, ← Nat.add_mul]
        congr 1
        omega)
      (by
        simp only [Array.toList_append, List.toList_toArray]
        rw [← hlen]
        exact List.take_left)
    exact ⟨_, _, _, hrun, k1, k2, Ext.drew.trans k3⟩
  by_cases hx : xs = []
  · subst hx
    have hA : c = 0 := by
      rcases htg with rfl | rfl
      · simpa [TagOk] using htag
      · simp only [TagOk] at htag
        injection htag
    subst hA
    cases A with
    | none =>
      refine fin [] 0 (by simp [LR]) (by simp) (by simp) ?_
      have hr := run_append_nil (P := P) w t ty e i z ht hi0 hz ⟨g', o', none⟩ ys.length c' us hl hnews (by omega) (by simp only [List.length_nil] at hm63; omega) (by simp only [List.length_nil, Nat.zero_add] at hb; omega)
      simpa using hr
    | some b =>
      refine fin [] 0 (by simp [LR]) (by simp) (by simp) ?_
      have hr := run_append_grow (P := P) w t ty e i z ht hi0 hz b 0 0 [] (by simp) (by simp) ⟨g', o', none⟩ ys.length c' us hl hnews (by omega) (by simp only [List.length_nil] at hm63; omega) (growslice_fits (by omega) (by simpa using hb))
      simpa using hr
  · obtain ⟨g, o, rfl, hR⟩ := hrow hx
    obtain ⟨xv, hxv, hxst, hxone⟩ := ER_cells (RR_ER hR)
    have hcx : c = xs.length := by
      rcases htg with rfl | rfl
      · exact htag
      · simp only [TagOk] at htag
        injection htag with h1 _ _
        cases h1
    subst hcx
    have hxl : xv.length = xs.length * i.size := by rw [LR_length hxv, flat_len hfx]
    refine fin xv xs.length hxv hxone hxl ?_
    exact run_append_grow (P := P) w t ty e i z ht hi0 hz ⟨g, o, none⟩ xs.length xs.length xv hxl (fun j u hu => by rw [Addr_add]; exact (hxst j u hu).1) ⟨g', o', none⟩ ys.length c' us hl hnews (by omega) (by omega) (growslice_fits (by omega) hb)
theorem AOps_appendN {ops : Array Oper} {o : Oper} {rest : List Oper} {s y : Operand} {t e : TypeId} {sz bytes : Nat} {xs ys : List (List V)} {tg tg' : Tag} (hg : o.guard = none) (ho : o.op = .call { callee := .builtin .append, args := #[s, y], argTypes := #[t, t] })
    (hs : gv fr s = .sl tg xs) (hy : gv fr y = .sl tg' ys) (htg : tg = .full ∨ tg = .nil) (he : elemI P t = some (e, sz, bytes)) (hsz : 0 < sz) (hfx : flat sz xs = true) (hfy : flat sz ys = true) (hne : ys ≠ []) (h63 : xs.length + ys.length ≤ maxLen) (hb : (xs.length + ys.length) * bytes ≤ 140737488355328)
    (hr : AOps P ops Q rest (pt fr o.dst (.rw σ.length 0 (xs.length + ys.length))) (σ ++ [.row 0 e sz (xs.length + ys.length) (xs.flatten ++ ys.flatten)])) : AOps P ops Q (o :: rest) fr σ :=
  AOps_op hg (OpOk_of fun a w en hi hf => by
    have h1 := hf s (by simp [ho, Op.operands, Call.operands])
    have h2 := hf y (by simp [ho, Op.operands, Call.operands])
    rw [hs] at h1
    rw [hy] at h2
    obtain ⟨v', w', en', h3, h4, h5, h6⟩ := appendN_ok (ty := o.type) hi he hsz h1 h2 htg hfx hfy hne h63 hb
    unfold Oper.wp
    have : (execOp a.eval o).run P w = .ok (.value v') w' := by simp [execOp, ho, resolve, invoke, builtin, h3]
    rw [this]
    exact ⟨v', en', rfl, h4, h5, h6⟩) hr

/-! ### What is left of a row -/
theorem freeze_rs {w : World} {en : List CE} (hi : Iv σ en w) {k ver off n m : Nat} {e : TypeId} {sz N : Nat} {cs : List V} {v : Value} (hk : σ[k]? = some (.row ver e sz N cs)) (hv : VR w en (.rs k ver off n) v) (hm : m ≤ k) (hb : bels m cs) {xs : List (List V)}
    (hx : xs.flatten = (cs.drop off).take (n * sz)) (hf : flat sz xs = true) (hl : xs.length = n) : VR w (en.take m) (.sl .ro xs) v := by
  simp only [VR] at hv ⊢
  obtain ⟨A, c, cur, v0, n0, sz0, rfl, h1, h2, h3, h4, h5⟩ := hv
  subst hl
  refine ⟨A, c, rfl, h1, h2, trivial, fun hne => ?_⟩
  obtain ⟨g, rfl, h6⟩ := h5 (by simpa using hne)
  have hok := hi.ok k _ _ hk h3
  simp only [EOk] at hok
  obtain ⟨rfl, rfl, rfl, us, k1, k2, k3⟩ := hok
  have hob := h6 rfl
  refine ⟨g, off, rfl, RR_mk ?_⟩
  rw [hx]
  refine ER_mk fun i x hxi => ?_
  rw [List.getElem?_take] at hxi
  split at hxi
  · rw [List.getElem?_drop] at hxi
    obtain ⟨u, hu, hv⟩ := LR_get k2 _ x hxi
    have hbx : bel m x := by
      have := bels_get hb (off + i)
      rwa [List.getD_eq_getElem?_getD, hxi] at this
    refine ⟨u, ⟨?_, fun y hy => ?_⟩, k3 u (List.mem_of_getElem? hu), VR_take x u hv hbx⟩
    · have := row_cells (en := en) (cs := cs) k1 hob _ u hu
      rwa [Nat.zero_add] at this
    · obtain ⟨j, hj⟩ := List.getElem?_of_mem hy
      rw [List.getElem?_take] at hj
      split at hj
      · rename_i hjm
        have hne : ebl y ≠ some g := fun e => by
          have := hi.dis j k y _ g hj h3 e hob
          omega
        cases y with
        | glob => trivial
        | box g2 => intro e; exact hne (by simp [ebl, e])
        | tok _ v2 _ _ => intro e; exact absurd e hne
        | row _ v2 _ _ => exact hne
      · cases hj
  · cases hxi
theorem Vle.rw_rs (k ver n : Nat) : Vle (.rw k ver n) (.rs k ver 0 n) := fun w en v h => by
  simp only [VR] at h ⊢
  obtain ⟨A, c, cur, v0, n0, sz, rfl, h1, h2, h3, h4, h5, h6⟩ := h
  refine ⟨A, c, cur, v0, n0, sz, rfl, h1, h2, h4, h5, fun hn => ?_⟩
  obtain ⟨g, rfl⟩ := h3 hn
  exact ⟨g, rfl, fun e => by rw [(h6 e).1]; rfl⟩
/-- In the state σ' the value reads as y; of the first m entries alone it reads as x. -/
def Frz (σ' : List AE) (m : Nat) (y x : V) : Prop := ∀ w en v, Iv σ' en w → VR w en y v → VR w (en.take m) x v
theorem Frz.of {m : Nat} {y x : V} (h : Vle y x) (hb : bel m x) : Frz σ m y x := fun w en v _ hv => VR_take _ _ (h _ _ _ hv) hb
theorem Frz.rs {k ver off n m : Nat} {e : TypeId} {sz N : Nat} {cs : List V} (hk : σ[k]? = some (.row ver e sz N cs)) (hm : m ≤ k) (hb : bels m cs) {xs : List (List V)} (hx : xs.flatten = (cs.drop off).take (n * sz)) (hf : flat sz xs = true) (hl : xs.length = n) : Frz σ m (.rs k ver off n) (.sl .ro xs) :=
  fun w en v hi hv => freeze_rs hi hk hv hm hb hx hf hl
theorem Frz.rw {k ver n m : Nat} {e : TypeId} {sz N : Nat} {cs : List V} (hk : σ[k]? = some (.row ver e sz N cs)) (hm : m ≤ k) (hb : bels m cs) {xs : List (List V)} (hx : xs.flatten = cs.take (n * sz)) (hf : flat sz xs = true) (hl : xs.length = n) : Frz σ m (.rw k ver n) (.sl .ro xs) :=
  fun w en v hi hv => freeze_rs hi hk (Vle.rw_rs _ _ _ _ _ _ hv) hm hb (by simpa using hx) hf hl
def FrzL (σ' : List AE) (m : Nat) : List V → List V → Prop
  | [], [] => True
  | y :: ys, x :: xs => Frz σ' m y x ∧ FrzL σ' m ys xs
  | _, _ => False
theorem FrzL.ok {w : World} {en : List CE} {m : Nat} (hi : Iv σ en w) : ∀ {ys xs : List V} {us : List Value}, FrzL σ m ys xs → LR w en ys us → LR w (en.take m) xs us
  | [], [], us, _, h => by simpa [A.LR] using h
  | y :: ys, x :: xs, us, hf, h => by
    simp only [A.LR] at h ⊢
    obtain ⟨u, us', h1, h2, h3⟩ := h
    exact ⟨u, us', h1, hf.1 _ _ _ hi h2, FrzL.ok hi hf.2 h3⟩
theorem Frz.tup {m : Nat} {ys xs : List V} (h : FrzL σ m ys xs) : Frz σ m (.tup ys) (.tup xs) := fun w en v hi hv => by
  simp only [VR] at hv ⊢
  obtain ⟨us, h1, h2⟩ := hv
  exact ⟨us, h1, h.ok hi h2⟩
theorem Frz.agg {m : Nat} {ys xs : List V} (h : FrzL σ m ys xs) : Frz σ m (.agg ys) (.agg xs) := fun w en v hi hv => by
  simp only [VR] at hv ⊢
  obtain ⟨us, h1, h2, h3⟩ := hv
  exact ⟨us, h1, h.ok hi h2, h3⟩
/-- One value; what the call made is let go, rows are left as they are. -/
theorem Gives_frz {f : FuncId} {args : List V} {x : V} (h : ACalls P f args σ (fun r σ' => ∃ y, r = .ret y ∧ (∃ τ, σ' = σ ++ τ) ∧ (bels σ.length args → Frz σ' σ.length y x))) : Gives P f args σ x :=
  ⟨h.ent, fun w en vals hi hl => (h.go w en vals hi hl).mono fun e w' ⟨r, σ', en', h1, h2, h3, h4⟩ => by
    obtain ⟨y, rfl, ⟨τ, rfl⟩, hfr⟩ := h1
    obtain ⟨v, rfl, hv⟩ := h2
    have hi' : Iv σ (en'.take σ.length) w' := by
      have := h3.take (n := σ.length) (by simpa using hi.sb)
      simpa using this
    have he' := h4.take (n := σ.length) (by rw [hi.len]; exact Nat.le_refl _)
    exact ⟨.ret x, σ, _, ⟨rfl, rfl⟩, ⟨v, rfl, hfr (by rw [← hi.len]; exact LR_bel _ _ hl) _ _ _ h3 hv⟩, hi', he'⟩⟩
/-- The end of a body that made rows. -/
theorem frz_end {args : List V} {τ : List AE} {y x : V} (hx : bels σ.length args → Frz (σ ++ τ) σ.length y x) : ∃ y', Out.ret y = .ret y' ∧ (∃ τ', σ ++ τ = σ ++ τ') ∧ (bels σ.length args → Frz (σ ++ τ) σ.length y' x) := ⟨y, rfl, ⟨τ, rfl⟩, hx⟩

/-! ### Appending to what has no room -/
theorem run_append_zero {w : World} {t ty e : TypeId} (ht : P.underlying t = some (.slice e)) {sz : Nat} (hsz : tySize P e = some sz) {A A' : Option Addr} {n c c' : Nat} (hnc : n ≤ c) : (Builtin.append_ #[t, t] ty #[.slice A n c, .slice A' 0 c']).run P w = .ok (.slice A n c) w := by
  have h1 : (Builtin.firstCells sz 0 (.slice A' 0 c')).run P w = .ok #[] w := by
    cases A' with
    | none => simp [Builtin.firstCells]
    | some a => simp [Builtin.firstCells, loadCells, loadCellsFrom]
  cases A with
  | none => simp [Builtin.append_, run_underlying ht, run_sizeOf hsz, Builtin.lenOf, hnc, h1]
  | some a => simp [Builtin.append_, run_underlying ht, run_sizeOf hsz, Builtin.lenOf, hnc, h1, storeCells]
theorem elemI_size {t e : TypeId} {sz bytes : Nat} (he : elemI P t = some (e, sz, bytes)) : P.underlying t = some (.slice e) ∧ tySize P e = some sz := by
  unfold elemI at he
  split at he <;> try cases he
  rename_i e' ht
  split at he <;> try cases he
  rename_i i hi0
  split at he <;> try cases he
  rename_i z hz
  split at he <;> try cases he
  exact ⟨ht, by simp [tySize, hi0]⟩
theorem appendF_ok {w : World} {en : List CE} (hi : Iv σ en w) {t ty e : TypeId} {sz bytes : Nat} (he : elemI P t = some (e, sz, bytes)) (hsz : 0 < sz) {xs ys : List (List V)} {tg tg' : Tag} {v y : Value} (hv : VR w en (.sl tg xs) v) (hy : VR w en (.sl tg' ys) y)
    (htg : tg = .full ∨ tg = .nil) (hfx : flat sz xs = true) (hfy : flat sz ys = true) (h63 : xs.length + ys.length ≤ maxLen) (hb : (xs.length + ys.length) * bytes ≤ 140737488355328) :
    ∃ v' w' en', (Builtin.append_ #[t, t] ty #[v, y]).run P w = .ok v' w' ∧ VR w' en' (.sl .ro (xs ++ ys)) v' ∧ Iv σ en' w' ∧ Ext w en w' en' := by
  by_cases hne : ys = []
  · subst hne
    obtain ⟨ht, hs⟩ := elemI_size he
    have hv' := Vle.ro _ _ _ _ _ hv
    simp only [VR] at hv hy
    obtain ⟨A, c, rfl, hc1, hc2, htag, hrow⟩ := hv
    obtain ⟨A', c', rfl, hc1', hc2', _, hrow'⟩ := hy
    exact ⟨_, w, en, run_append_zero ht hs hc1, by rw [List.append_nil]; exact hv', hi, Ext.refl w en⟩
  · have hbx : bels σ.length xs.flatten ∧ bels σ.length ys.flatten := by
      have key : ∀ {tg : Tag} {zs : List (List V)} {u : Value}, VR w en (.sl tg zs) u → bels en.length zs.flatten := fun {tg zs u} hu => by
        by_cases hz : zs = []
        · subst hz; trivial
        · simp only [VR] at hu
          obtain ⟨A, c, _, _, _, _, hr⟩ := hu
          obtain ⟨g, o, _, hR⟩ := hr hz
          exact ER_bel _ _ _ (RR_ER hR)
      rw [← hi.len]
      exact ⟨key hv, key hy⟩
    have hbb : ∀ {xs ys : List V} {n : Nat}, bels n xs → bels n ys → bels n (xs ++ ys) := by
      intro xs
      induction xs with
      | nil => intro ys n _ h; exact h
      | cons x xs ih => intro ys n h1 h2; exact ⟨h1.1, ih h1.2 h2⟩
    obtain ⟨v', w', en', h1, h2, h3, h4⟩ := appendN_ok (ty := ty) hi he hsz hv hy htg hfx hfy hne h63 hb
    have hen : en'.length = en.length + 1 := by rw [h3.len, hi.len]; simp
    have hf : VR w' (en'.take σ.length) (.sl .ro (xs ++ ys)) v' := freeze_rs h3 (k := σ.length) (m := σ.length) (off := 0) (by rw [List.getElem?_append_right (Nat.le_refl _), Nat.sub_self]; rfl) (Vle.rw_rs _ _ _ _ _ _ h2) (Nat.le_refl _) (hbb hbx.1 hbx.2)
      (by
        have h5 := flat_len hfx
        have h6 := flat_len hfy
        rw [List.drop_zero, List.take_of_length_le, List.flatten_append]
        rw [List.length_append, h5, h6, Nat.add_mul]
        exact Nat.le_refl _)
      (by
        simp only [flat, List.all_append, Bool.and_eq_true] at hfx hfy ⊢
        exact ⟨hfx, hfy⟩)
      (by simp)
    have hi' : Iv σ (en'.take σ.length) w' := by
      have := h3.take (n := σ.length) (by simpa using hi.sb)
      simpa using this
    have he' := h4.take (n := σ.length) (by rw [hi.len]; exact Nat.le_refl _)
    exact ⟨v', w', _, h1, hf, hi', he'⟩
theorem AOps_appendF {ops : Array Oper} {o : Oper} {rest : List Oper} {s y : Operand} {t e : TypeId} {sz bytes : Nat} {xs ys : List (List V)} {tg tg' : Tag} (hg : o.guard = none) (ho : o.op = .call { callee := .builtin .append, args := #[s, y], argTypes := #[t, t] })
    (hs : gv fr s = .sl tg xs) (hy : gv fr y = .sl tg' ys) (htg : tg = .full ∨ tg = .nil) (he : elemI P t = some (e, sz, bytes)) (hsz : 0 < sz) (hfx : flat sz xs = true) (hfy : flat sz ys = true) (h63 : xs.length + ys.length ≤ maxLen) (hb : (xs.length + ys.length) * bytes ≤ 140737488355328)
    (hr : AOps P ops Q rest (pt fr o.dst (.sl .ro (xs ++ ys))) σ) : AOps P ops Q (o :: rest) fr σ :=
  AOps_op hg (OpOk_of fun a w en hi hf => by
    have h1 := hf s (by simp [ho, Op.operands, Call.operands])
    have h2 := hf y (by simp [ho, Op.operands, Call.operands])
    rw [hs] at h1
    rw [hy] at h2
    obtain ⟨v', w', en', h3, h4, h5, h6⟩ := appendF_ok (ty := o.type) hi he hsz h1 h2 htg hfx hfy h63 hb
    unfold Oper.wp
    have : (execOp a.eval o).run P w = .ok (.value v') w' := by simp [execOp, ho, resolve, invoke, builtin, h3]
    rw [this]
    exact ⟨v', en', rfl, h4, h5, h6⟩) hr
end
end Go.Proofs.YtdjjlbjagaadaaaGreatDoor.A
/- The evaluation's plain rules, in one. -/
namespace Go.Proofs.YtdjjlbjagaadaaaGreatDoor.A
open Go Go.RowKit
set_option linter.unusedVariables false
theorem SL :
    (∀ {α : Type} {x : α} {xs : List α} {i : Nat} {a : α}, (x :: xs).set (i + 1) a = x :: xs.set i a) ∧
    (∀ {α : Type} {x : α} {xs : List α} {a : α}, (x :: xs).set 0 a = a :: xs) ∧
    (∀ {α : Type} {x : α} {xs : List α} {d : α}, (x :: xs).getD 0 d = x) ∧
    (∀ {α : Type} {x : α} {xs : List α} {n : Nat} {d : α}, (x :: xs).getD (n + 1) d = xs.getD n d) ∧
    (∀ {α : Type} {β : Type} {f : α → β} {a : α} {l : List α}, List.map f (a :: l) = f a :: List.map f l) ∧
    (∀ {α : Type} {β : Type} {f : α → β}, List.map f [] = []) ∧
    (∀ {α : Type} {β : Type} (a : α) (f : α → β), Option.map f (some a) = some (f a)) ∧
    (∀ {α : Type} {β : Type} (f : α → β), Option.map f none = none) ∧
    (∀ {α : Type} {β : Type} (a : α) (f : α → Option β), (some a).bind f = f a) ∧
    (∀ {α : Type} {β : Type} (f : α → Option β), none.bind f = none) ∧ (false = true) = False ∧
    (∀ {α : Type}, (none : Option α).isNone = true) ∧
    (∀ {α : Type} {a : α}, (some a).isNone = false) ∧
    (∀ {α : Type} {a : α}, (some a).isSome = true) ∧
    (∀ {α : Type} {a b : α}, (bif true then a else b) = a) ∧
    (∀ {α : Type} {a b : α}, (bif false then a else b) = b) ∧
    (∀ {α : Type} {as : List α}, as.toArray.toList = as) ∧
    (∀ {α : Type} {xs : List α} {i : Nat}, xs.toArray[i]? = xs[i]?) ∧
    (∀ (c a b : Bool), (bif c then V.bool a else V.bool b) = V.bool (bif c then a else b)) ∧
    (∀ (c b : Bool), (bif c then true else b) = (c || b)) ∧
    (∀ (c b : Bool), (bif c then b else false) = (c && b)) ∧
    (∀ (g : Bool), (!g || g) = true) ∧
    (∀ (g h : Bool), (!(g && h) || g) = true) ∧
    (∀ (g : Bool), (!!g || !g) = true) ∧
    (∀ (b : Bool), (true && b) = b) ∧ (true == true) = true ∧ (true == false) = false ∧ (false == true) = false ∧ (false == false) = true ∧
    (∀ {α : Type} {a : α} {l : List α}, (a :: l)[0]? = some a) ∧
    (∀ {α : Type} {a : α} {i : Nat} {l : List α}, (a :: l)[i + 1]? = l[i]?) ∧
    (∀ (σ l : List AE), (σ ++ l)[σ.length]? = l[0]?) ∧
    (∀ (σ l : List AE) (k : Nat), (σ ++ l)[σ.length + k]? = l[k]?) ∧
    (∀ (σ l : List AE) (x : AE), (σ ++ l).set σ.length x = σ ++ l.set 0 x) ∧
    (∀ (σ l : List AE) (x : AE) (k : Nat), (σ ++ l).set (σ.length + k) x = σ ++ l.set k x) ∧
    (∀ {α : Type} {as bs : List α}, (as ++ bs).length = as.length + bs.length) ∧
    (∀ {α : Type} {a : α} {as : List α}, (a :: as).length = as.length + 1) ∧
    (∀ {α : Type}, ([] : List α).length = 0) ∧
    (∀ {α : Type} (as bs cs : List α), as ++ bs ++ cs = as ++ (bs ++ cs)) ∧
    (∀ {α : Type} {a : α} {as bs : List α}, a :: as ++ bs = a :: (as ++ bs)) ∧
    (∀ {α : Type} (as : List α), [] ++ as = as) ∧
    (∀ (n : Nat), 0 + n = n) ∧
    (∀ (n : Nat), n + 0 = n) ∧
    (∀ (n : Nat), n ≤ n) ∧
    (∀ {α : Type} {l : List α}, List.drop 0 l = l) ∧
    (∀ {α : Type} {a : α} {l : List α} {i : Nat}, List.drop (i + 1) (a :: l) = List.drop i l) ∧
    (∀ {α : Type} {l : List α}, List.take 0 l = []) ∧
    (∀ {α : Type} {a : α} {as : List α} {i : Nat}, List.take (i + 1) (a :: as) = a :: List.take i as) ∧
    (∀ {α : Type} {a : α} {n : Nat}, List.replicate (n + 1) a = a :: List.replicate n a) ∧
    (∀ {α : Type} {a : α}, List.replicate 0 a = []) ∧
    (∀ (n m k : Nat), n + m + k = n + (m + k)) ∧
    (∀ (sz : Nat), flat sz [] = true) ∧
    (∀ (sz : Nat) (x : List V) (xs : List (List V)), flat sz (x :: xs) = (x.length == sz && flat sz xs)) ∧ List.range 1 = [0] ∧ List.range 2 = [0, 1] ∧ List.range 3 = [0, 1, 2] ∧ List.range 4 = [0, 1, 2, 3] ∧ List.range 5 = [0, 1, 2, 3, 4] ∧ List.range 6 = [0, 1, 2, 3, 4, 5] ∧ List.range 7 = [0, 1, 2, 3, 4, 5, 6] ∧ List.range 8 = [0, 1, 2, 3, 4, 5, 6, 7] ∧
    (∀ (b : Bool), (false || b) = b) ∧
    (∀ (b : Bool), (b || true) = true) ∧
    (∀ (b : Bool), (true || b) = true) ∧
    (∀ (b : Bool), (b || false) = b) ∧
    (∀ (b : Bool), (b && true) = b) ∧
    (∀ (b : Bool), (false && b) = false) ∧
    (∀ (b : Bool), (b && false) = false) ∧ (!true) = false ∧ (!false) = true :=
  And.intro @List.set_cons_succ <|
  And.intro @List.set_cons_zero <|
  And.intro @List.getD_cons_zero <|
  And.intro @List.getD_cons_succ <|
  And.intro @List.map_cons <|
  And.intro @List.map_nil <|
  And.intro @Option.map_some <|
  And.intro @Option.map_none <|
  And.intro @Option.bind_some <|
  And.intro @Option.bind_none <|
  And.intro @Bool.false_eq_true <|
  And.intro @Option.isNone_none <|
  And.intro @Option.isNone_some <|
  And.intro @Option.isSome_some <|
  And.intro @Bool.cond_true <|
  And.intro @Bool.cond_false <|
  And.intro @List.toList_toArray <|
  And.intro @List.getElem?_toArray <|
  And.intro @cond_bool <|
  And.intro @cond_or <|
  And.intro @cond_and <|
  And.intro @g_self <|
  And.intro @g_and <|
  And.intro @g_not <|
  And.intro @Bool.true_and <|
  And.intro @tt_tt <|
  And.intro @tt_ff <|
  And.intro @ff_tt <|
  And.intro @ff_ff <|
  And.intro @List.getElem?_cons_zero <|
  And.intro @List.getElem?_cons_succ <|
  And.intro @getA0 <|
  And.intro @getAk <|
  And.intro @setA0 <|
  And.intro @setAk <|
  And.intro @List.length_append <|
  And.intro @List.length_cons <|
  And.intro @List.length_nil <|
  And.intro @List.append_assoc <|
  And.intro @List.cons_append <|
  And.intro @List.nil_append <|
  And.intro @Nat.zero_add <|
  And.intro @Nat.add_zero <|
  And.intro @Nat.le_refl <|
  And.intro @List.drop_zero <|
  And.intro @List.drop_succ_cons <|
  And.intro @List.take_zero <|
  And.intro @List.take_succ_cons <|
  And.intro @List.replicate_succ <|
  And.intro @List.replicate_zero <|
  And.intro @Nat.add_assoc <|
  And.intro @flat_nil <|
  And.intro @flat_cons <|
  And.intro @rg1 <|
  And.intro @rg2 <|
  And.intro @rg3 <|
  And.intro @rg4 <|
  And.intro @rg5 <|
  And.intro @rg6 <|
  And.intro @rg7 <|
  And.intro @rg8 <|
  And.intro @Bool.false_or <|
  And.intro @Bool.or_true <|
  And.intro @Bool.true_or <|
  And.intro @Bool.or_false <|
  And.intro @Bool.and_true <|
  And.intro @Bool.false_and <|
  And.intro @Bool.and_false <|
  And.intro @Bool.not_true @Bool.not_false
end Go.Proofs.YtdjjlbjagaadaaaGreatDoor.A
