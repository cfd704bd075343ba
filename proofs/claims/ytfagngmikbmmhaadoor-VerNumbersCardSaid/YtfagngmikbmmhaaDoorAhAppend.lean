/- Appending to a row of the call's own; slices' first token. -/
import Derived.Test.YtfagngmikbmmhaaDoorAhDraw
import Derived.OwnWalk
namespace Go.Proofs.YtfagngmikbmmhaaDoor.A
open Go Go.RowKit
set_option linter.unusedVariables false
set_option linter.unusedSimpArgs false

section
variable {P : Program} {σ : List AE} {fr : List V} {Q : APost}

/-- A slice type's element: its type, cells, bytes. -/
def elemI (P : Program) (t : TypeId) : Option (TypeId × Nat × Nat) := match P.underlying t with
  | some (.slice e) => match P.info? e with
    | some i => match i.zero with
      | some z => if z.cells.size = i.size then some (e, i.size, i.bytes) else none
      | none => none
    | none => none
  | _ => none
theorem append_cases {w : World} {t ty e : TypeId} {sz bytes : Nat} (he : elemI P t = some (e, sz, bytes)) (hsz : 0 < sz) {v : Value} {n : Nat} {xs : List Value} (hown : w.ownsRow 0 e sz v n xs)
    {a : Addr} {m c : Nat} {news : List Value} (hl : news.length = m * sz) (hnews : ∀ j u, news[j]? = some u → w.cell? (a.add j) = some u) (h1 : ∀ u ∈ news, u.oneCell' = true)
    (h63 : n + m ≤ maxLen) (hbytes : (n + m) * bytes ≤ 140737488355328) :
    ∃ v' w', (Builtin.append_ #[t, t] ty #[v, .slice (some a) m c]).run P w = .ok v' w' ∧ w'.ownsRow 0 e sz v' (n + m) (xs ++ news) ∧ w.grownBy w' v.ownBlock ∧
      (∀ g, v'.ownBlock = some g → v.ownBlock = some g ∨ w.heap.size ≤ g) ∧ (∀ g, v.ownBlock = some g → v'.ownBlock = some g ∨ w'.heap[g]? = w.heap[g]?) := by
  unfold elemI at he
  split at he <;> try cases he
  rename_i e' ht
  split at he <;> try cases he
  rename_i i hi
  split at he <;> try cases he
  rename_i z hz
  split at he <;> try cases he
  rename_i hzs
  obtain ⟨v', w', hr, ho, hg, hn⟩ := run_append_own (P := P) w 0 t ty e i z i.size i.bytes ht hi hz rfl rfl hzs hsz v n xs hown a m c news hl hnews h1 h63 hbytes (Nat.zero_le _)
  refine ⟨v', w', hr, ho, hg, ?_⟩
  have hsmall : n + m ≤ 9223372036854775807 := by simp only [maxLen] at h63; omega
  rcases hown.2 with ⟨rfl, rfl⟩ | ⟨g, cap, cur, rfl, hbg, hgc, hnc, hcm, hcs, htake⟩
  · refine ⟨fun g hg' => ?_, fun g hg' => by cases hg'⟩
    by_cases hm : m = 0
    · obtain rfl := hn.2 ⟨rfl, hm⟩
      cases hg'
    · have hr' := run_append_nil (P := P) w t ty e i z ht hi hz a m c news hl hnews (by omega) (by omega) (by simp only [Nat.zero_add] at hbytes; omega)
      rw [hr'] at hr
      cases hr
      cases hg'
      exact .inr (Nat.le_refl _)
  · by_cases hroom : n + m ≤ cap
    · have hfit : n * i.size + news.length ≤ cur.size := by rw [hl, hcs, ← Nat.add_mul]; exact Nat.mul_le_mul_right _ hroom
      have hr' := run_append_room (P := P) w t ty e i ht hi g n cap cur hgc a m c news hl hnews h1 hroom hfit
      rw [hr'] at hr
      cases hr
      exact ⟨fun g' hg' => .inl hg', fun g' hg' => .inl hg'⟩
    · have holds : ∀ j u, xs[j]? = some u → w.cell? ((⟨g, 0, none⟩ : Addr).add j) = some u := World.ownsRow.cells (w := w) (base := 0) (e := e) (size := i.size) (n := n) ⟨hown.1, .inr ⟨g, cap, cur, rfl, hbg, hgc, hnc, hcm, hcs, htake⟩⟩ (g := g) rfl
      have hr' := run_append_grow (P := P) w t ty e i z ht hi hz ⟨g, 0, none⟩ n cap xs hown.1 holds a m c news hl hnews (by omega) (by omega) (growslice_fits (by omega) hbytes)
      rw [hr'] at hr
      cases hr
      refine ⟨fun g' hg' => ?_, fun g' hg' => .inr ?_⟩
      · cases hg'
        exact .inr (Nat.le_refl _)
      · cases hg'
        exact Below.heap_alloc w.drew _ g (Array.getElem?_eq_some_iff.1 hgc).1

theorem flat_len {sz : Nat} {xs : List (List V)} (h : flat sz xs = true) : xs.flatten.length = xs.length * sz := by
  induction xs with
  | nil => simp
  | cons x xs ih =>
    simp only [flat, List.all_cons, Bool.and_eq_true, beq_iff_eq] at h
    have hx : flat sz xs = true := h.2
    simp only [List.flatten_cons, List.length_append, List.length_cons, ih hx, h.1, Nat.add_mul]
    omega
theorem append_ok {w : World} {en : List CE} (hi : Iv σ en w) {t ty e : TypeId} {sz bytes : Nat} (he : elemI P t = some (e, sz, bytes)) (hsz : 0 < sz) {k ver : Nat} (hk : σ[k]? = some (.tok ver e sz))
    {xs ys : List (List V)} {tg : Tag} {v y : Value} (hv : VR w en (.sl (.own k ver) xs) v) (hy : VR w en (.sl tg ys) y) (hfx : flat sz xs = true) (hfy : flat sz ys = true) (hne : ys ≠ []) (h63 : xs.length + ys.length ≤ maxLen) (hb : (xs.length + ys.length) * bytes ≤ 140737488355328) :
    ∃ v' w' en', (Builtin.append_ #[t, t] ty #[v, y]).run P w = .ok v' w' ∧ VR w' en' (.sl (.own k (ver + 1)) (xs ++ ys)) v' ∧ Iv (σ.set k (.tok (ver + 1) e sz)) en' w' ∧ Ext w en w' en' := by
  simp only [VR] at hv hy
  obtain ⟨A, c, hvv, hc1, hc2, htag, hrow⟩ := hv
  obtain ⟨A', c', hyv, hc1', hc2', _, hrow'⟩ := hy
  obtain ⟨g', o', rfl, hR'⟩ := hrow' hne
  have hkl : k < σ.length := (List.getElem?_eq_some_iff.1 hk).1
  obtain ⟨cur, v0, n0, sz0, hek, hcur, hsame⟩ := htag
  have hok := hi.ok k _ _ hk hek
  simp only [EOk] at hok
  obtain ⟨rfl, rfl, xv, hown⟩ := hok
  obtain ⟨hv0, hn0⟩ := hsame rfl
  rw [hv0, hn0] at hek hown
  obtain ⟨us, hus, hst, hone⟩ := ER_cells (RR_ER hR')
  have hl : us.length = ys.length * sz := by rw [LR_length hus, flat_len hfy]
  have hnews : ∀ j u, us[j]? = some u → w.cell? ((⟨g', o', none⟩ : Addr).add j) = some u := fun j u hu => by rw [Addr_add]; exact (hst j u hu).1
  obtain ⟨v', w', hr, ho, hg, hb1, hb2⟩ := append_cases (ty := ty) (c := c') he hsz hown hl hnews hone h63 hb
  have hkeep : ∀ j u, xv[j]? = some u → ∀ gv, v'.ownBlock = some gv → w'.cell? ⟨gv, j, none⟩ = some u := fun j u hu gv hgv => by
    have := ho.cells hgv j u (by rw [List.getElem?_append_left (List.getElem?_eq_some_iff.1 hu).1]; exact hu)
    rwa [Addr_add, Nat.zero_add] at this
  have hent : ∀ j x, en[j]? = some x → j ≠ k → (en.set k (.tok (ver + 1) v' (xs.length + ys.length) sz))[j]? = some x := fun j x hx hj => by
    rw [List.getElem?_set, if_neg (fun e => hj e.symm)]; exact hx
  have hkn : (en.set k (.tok (ver + 1) v' (xs.length + ys.length) sz))[k]? = some (.tok (ver + 1) v' (xs.length + ys.length) sz) := by
    rw [List.getElem?_set, if_pos rfl, if_pos (by rw [hi.len]; exact hkl)]
  have hset : ∀ x ∈ en.set k (.tok (ver + 1) v' (xs.length + ys.length) sz), x = .tok (ver + 1) v' (xs.length + ys.length) sz ∨ ∃ j, j ≠ k ∧ en[j]? = some x := fun x hx => by
    obtain ⟨j, hj⟩ := List.getElem?_of_mem hx
    rw [List.getElem?_set] at hj
    split at hj
    · split at hj
      · left; cases hj; rfl
      · cases hj
    · rename_i hne; exact .inr ⟨j, fun e => hne e.symm, hj⟩
  have hst' : ∀ gg oo u, St w en gg oo u → St w' (en.set k (.tok (ver + 1) v' (xs.length + ys.length) sz)) gg oo u := fun gg oo u hs => by
    have hlt := World.block_lt_of_cell? w _ hs.1
    have hek' := hs.2 _ (List.mem_of_getElem? hek)
    simp only [okc] at hek'
    by_cases hgv : v.ownBlock = some gg
    · have hoo := hek' hgv
      have hxl : oo < xv.length := by rw [hown.1]; exact hoo
      have hcell := hown.cells hgv oo _ (List.getElem?_eq_getElem hxl)
      rw [Addr_add, Nat.zero_add] at hcell
      rw [hs.1] at hcell
      refine ⟨?_, fun x hx => ?_⟩
      · rcases hb2 gg hgv with h2 | h2
        · exact hkeep oo u (by rw [List.getElem?_eq_getElem hxl, ← hcell]) gg h2
        · exact (World.cell?_of_block h2).trans hs.1
      · rcases hset x hx with rfl | ⟨j, _, hj⟩
        · intro _; exact Nat.lt_of_lt_of_le hoo (Nat.mul_le_mul_right _ (Nat.le_add_right _ _))
        · exact hs.2 x (List.mem_of_getElem? hj)
    · refine ⟨(World.cell?_of_block (hg.block gg hlt (fun e => hgv e.symm))).trans hs.1, fun x hx => ?_⟩
      rcases hset x hx with rfl | ⟨j, _, hj⟩
      · intro hv'
        rcases hb1 gg hv' with h2 | h2
        · exact absurd h2 hgv
        · exact absurd hlt (Nat.not_lt.2 h2)
      · exact hs.2 x (List.mem_of_getElem? hj)
  have hext : Ext w en w' (en.set k (.tok (ver + 1) v' (xs.length + ys.length) sz)) := {
    os := hg.os
    tape := hg.tape
    output := hg.output
    size := hg.size
    block := fun j hj hx => hg.block j hj fun e => hx _ (List.mem_of_getElem? hek) e.symm
    st := hst'
    ent := fun j x hx => by
      by_cases hj : j = k
      · subst hj
        rw [hek] at hx
        cases hx
        exact ⟨_, hkn, ver + 1, v', _, rfl, Nat.le_succ _, fun e => by omega⟩
      · exact ⟨x, hent j x hx hj, Evo.refl x⟩
    fresh := fun x hx gg hgg hlt => by
      rcases hset x hx with rfl | ⟨j, _, hj⟩
      · rcases hb1 gg hgg with h2 | h2
        · exact ⟨_, List.mem_of_getElem? hek, h2⟩
        · exact absurd hlt (Nat.not_lt.2 h2)
      · exact ⟨x, List.mem_of_getElem? hj, hgg⟩ }
  have hoth : ∀ j x, j ≠ k → en[j]? = some x → ∀ gg, ebl x = some gg → w'.heap[gg]? = w.heap[gg]? := fun j x hj hx gg hgg => by
    refine hg.block gg (hi.lt (List.mem_of_getElem? hx) hgg) fun e => hj (hi.dis j k x _ gg hx hek hgg e.symm)
  refine ⟨v', w', _, by rw [hyv]; exact hr, ?_, ⟨by simp [hi.len], fun j a x ha hx => ?_, fun i j x y gg hxi hyj hgx hgy => ?_⟩, hext⟩
  · obtain ⟨hol, hov⟩ := ho
    simp only [VR]
    have hnn : 0 < xs.length + ys.length := by cases ys with
      | nil => exact absurd rfl hne
      | cons _ _ => simp only [List.length_cons]; omega
    rcases hov with ⟨_, h0⟩ | ⟨gv, cap, cur, rfl, _, hgc, hnc, hcm, hcs, htk⟩
    · omega
    refine ⟨some ⟨gv, 0, none⟩, cap, by rw [List.length_append], by rw [List.length_append]; exact hnc, hcm, ⟨ver + 1, _, _, sz, hkn, Nat.le_refl _, fun _ => ⟨rfl, by rw [List.length_append]⟩⟩, fun _ => ⟨gv, 0, rfl, RR_mk ?_⟩⟩
    have hokn : ∀ o, o < (xs.length + ys.length) * sz → ∀ x ∈ en.set k (.tok (ver + 1) (.slice (some ⟨gv, 0, none⟩) (xs.length + ys.length) cap) (xs.length + ys.length) sz), okc x gv o := fun o ho' x hx => by
      rcases hset x hx with rfl | ⟨j, hj, hjx⟩
      · intro _; exact ho'
      · have hno : ebl x ≠ some gv := fun e => by
          rcases hb1 gv rfl with h2 | h2
          · exact hj (hi.dis j k x _ gv hjx hek e h2)
          · exact absurd (hi.lt (List.mem_of_getElem? hjx) e) (Nat.not_lt.2 h2)
        cases x with
        | glob => trivial
        | box g2 => simp only [okc]; intro e; exact hno (by simp [ebl, e])
        | tok _ v2 _ _ => intro e; exact absurd e hno
        | row _ v2 _ _ => exact hno
    have hcellv : ∀ j u, (xv ++ us)[j]? = some u → St w' (en.set k (.tok (ver + 1) (.slice (some ⟨gv, 0, none⟩) (xs.length + ys.length) cap) (xs.length + ys.length) sz)) gv j u := fun j u hu => by
      have := World.ownsRow.cells (w := w') (base := 0) (e := e) (size := sz) (n := xs.length + ys.length) ⟨hol, .inr ⟨gv, cap, cur, rfl, Nat.zero_le _, hgc, hnc, hcm, hcs, htk⟩⟩ (g := gv) rfl j u hu
      rw [Addr_add, Nat.zero_add] at this
      refine ⟨this, hokn j ?_⟩
      have := (List.getElem?_eq_some_iff.1 hu).1
      rw [hol] at this
      exact this
    rw [List.flatten_append]
    refine ER_append (ER_mk fun j x hx => ?_) (ER_mk fun j x hx => ?_)
    · -- the old elements
      have hxn : xs ≠ [] := fun e => by subst e; simp at hx
      obtain ⟨go, oo, hA, hRo⟩ := hrow hxn
      obtain ⟨u, hu1, hu2, hu3⟩ := ER_get (RR_ER hRo) j x hx
      have hj : j < xs.length * sz := by rw [← flat_len hfx]; exact (List.getElem?_eq_some_iff.1 hx).1
      have hjx : j < xv.length := by rw [hown.1]; exact hj
      have hoo : go = go ∧ oo = 0 := by
        rcases hown.2 with ⟨e1, _⟩ | ⟨g2, cap2, cur2, e1, _⟩
        · rw [hvv, hA] at e1; cases e1
        · rw [hvv, hA] at e1; cases e1; exact ⟨rfl, rfl⟩
      obtain ⟨_, rfl⟩ := hoo
      have hcell := hown.cells (g := go) (by rw [hvv, hA]; rfl) j _ (List.getElem?_eq_getElem hjx)
      rw [Addr_add] at hcell
      rw [hu1.1] at hcell
      have hxu : (xv ++ us)[j]? = some u := by rw [List.getElem?_append_left hjx, List.getElem?_eq_getElem hjx, Option.some.inj hcell]
      exact ⟨u, by rw [Nat.zero_add]; exact hcellv j u hxu, hu2, VR_ext hext x u hu3⟩
    · obtain ⟨u, hu1, hu2⟩ := LR_get hus j x hx
      have hxu : (xv ++ us)[xs.flatten.length + j]? = some u := by
        rw [flat_len hfx, ← hown.1, List.getElem?_append_right (Nat.le_add_right _ _), Nat.add_sub_cancel_left]
        exact hu1
      exact ⟨u, by rw [Nat.zero_add]; exact hcellv _ u hxu, hone u (List.mem_of_getElem? hu1), VR_ext hext x u hu2⟩
  · by_cases hj : j = k
    · subst hj
      rw [hkn] at hx
      rw [List.getElem?_set, if_pos rfl, if_pos hkl] at ha
      cases ha; cases hx
      exact ⟨rfl, rfl, _, ho⟩
    · rw [List.getElem?_set, if_neg (fun e => hj e.symm)] at ha hx
      exact (hi.ok j a x ha hx).keep hext (hoth j x hj hx)
  · have key : ∀ i x, (en.set k (.tok (ver + 1) v' (xs.length + ys.length) sz))[i]? = some x → ebl x = some gg → (i = k ∧ v'.ownBlock = some gg) ∨ (i ≠ k ∧ en[i]? = some x) := fun i x hx hgx => by
      by_cases hik : i = k
      · subst hik
        rw [hkn] at hx
        cases hx
        exact .inl ⟨rfl, hgx⟩
      · rw [List.getElem?_set, if_neg (fun e => hik e.symm)] at hx
        exact .inr ⟨hik, hx⟩
    have cross : ∀ i x, i ≠ k → en[i]? = some x → ebl x = some gg → v'.ownBlock = some gg → False := fun i x hik hx hgx hv' => by
      rcases hb1 gg hv' with h2 | h2
      · exact hik (hi.dis i k x _ gg hx hek hgx h2)
      · exact absurd (hi.lt (List.mem_of_getElem? hx) hgx) (Nat.not_lt.2 h2)
    rcases key i x hxi hgx with ⟨e1, e2⟩ | ⟨e1, e2⟩ <;> rcases key j y hyj hgy with ⟨e3, e4⟩ | ⟨e3, e4⟩
    · rw [e1, e3]
    · exact (cross j y e3 e4 hgy e2).elim
    · exact (cross i x e1 e2 hgx e4).elim
    · exact hi.dis i j x y gg e2 e4 hgx hgy
/-- A slice that is nil gets a token. -/
theorem tok_ok {w : World} {en : List CE} (hi : Iv σ en w) (e : TypeId) (sz : Nat) : Iv (σ ++ [.tok 0 e sz]) (en ++ [.tok 0 (.slice none 0 0) 0 sz]) w ∧ Ext w en w (en ++ [.tok 0 (.slice none 0 0) 0 sz]) := by
  have he : Ext w en w (en ++ [.tok 0 (.slice none 0 0) 0 sz]) := {
    os := rfl, tape := rfl, output := rfl, size := Nat.le_refl _, block := fun _ _ _ => rfl
    st := fun g o u hs => ⟨hs.1, fun x hx => by
      rcases List.mem_append.1 hx with hx | hx
      · exact hs.2 x hx
      · rw [List.mem_singleton.1 hx]; intro h; cases h⟩
    ent := fun i x hx => ⟨x, by rw [List.getElem?_append_left (List.getElem?_eq_some_iff.1 hx).1]; exact hx, Evo.refl x⟩
    fresh := fun x hx g hg _ => by
      rcases List.mem_append.1 hx with hx | hx
      · exact ⟨x, hx, hg⟩
      · rw [List.mem_singleton.1 hx] at hg; cases hg }
  refine ⟨⟨by simp [hi.len], fun i a x ha hx => ?_, fun i j x y g hxi hyj hx hy => ?_⟩, he⟩
  · rcases Nat.lt_or_ge i σ.length with hl | hl
    · rw [List.getElem?_append_left hl] at ha
      rw [List.getElem?_append_left (by rw [hi.len]; exact hl)] at hx
      exact (hi.ok i a x ha hx).keep he fun _ _ => rfl
    · rw [List.getElem?_append_right hl] at ha
      rw [List.getElem?_append_right (by rw [hi.len]; exact hl), hi.len] at hx
      have hz : i - σ.length = 0 := by have := (List.getElem?_eq_some_iff.1 ha).1; simp at this; omega
      rw [hz] at ha hx
      simp only [List.getElem?_cons_zero, Option.some.injEq] at ha hx
      subst ha; subst hx
      exact ⟨rfl, rfl, [], World.ownsRow_nil w 0 e sz⟩
  · have key : ∀ (i : Nat) (x : CE), (en ++ [CE.tok 0 (.slice none 0 0) 0 sz])[i]? = some x → ebl x = some g → en[i]? = some x := fun i x hx hgx => by
      rcases Nat.lt_or_ge i en.length with hl | hl
      · rwa [List.getElem?_append_left hl] at hx
      · rw [List.getElem?_append_right hl] at hx
        have hz : i - en.length = 0 := by have := (List.getElem?_eq_some_iff.1 hx).1; simp at this; omega
        rw [hz] at hx
        simp only [List.getElem?_cons_zero, Option.some.injEq] at hx
        subst hx
        cases hgx
    exact hi.dis i j x y g (key i x hxi hx) (key j y hyj hy) hx hy
theorem AWP_tok {c : Code} (t : Nat) (e : TypeId) (sz : Nat) (ht : fr.getD t .junk = .sl .nil []) (h : AWP P c Q (fr.set t (.sl (.own σ.length 0) [])) (σ ++ [.tok 0 e sz])) : AWP P c Q fr σ := fun a w en hi hf {_} hd => by
  obtain ⟨hi', he⟩ := tok_ok hi e sz
  refine Code.wp_mono (fun _ _ _ hq => LQ_ext he hq) (h a w _ hi' ⟨by rw [List.length_set]; exact hf.1, fun u => ?_⟩ hd)
  by_cases hu : t = u
  · subst hu
    have hv := VR_ext he _ _ (hf.2 t)
    rw [ht] at hv
    simp only [VR] at hv
    obtain ⟨A, c', h1, h2, h3, h4, _⟩ := hv
    have hlt : t < fr.length := by
      rcases Nat.lt_or_ge t fr.length with h | h
      · exact h
      · rw [List.getD_eq_getElem?_getD, List.getElem?_eq_none h] at ht; cases ht
    rw [List.getD_eq_getElem?_getD, List.getElem?_set, if_pos rfl, if_pos hlt, Option.getD_some]
    simp only [VR]
    have h4' : a.tmps.getD t undef = .slice none 0 0 := h4
    refine ⟨none, 0, h4', Nat.zero_le _, Nat.zero_le _, ⟨0, .slice none 0 0, 0, sz, ?_, Nat.le_refl _, fun _ => ⟨h4'.symm, rfl⟩⟩, fun h => absurd rfl h⟩
    rw [List.getElem?_append_right (by rw [hi.len]; exact Nat.le_refl _), hi.len, Nat.sub_self]
    rfl
  · rw [List.getD_eq_getElem?_getD, List.getElem?_set, if_neg hu, ← List.getD_eq_getElem?_getD]
    exact VR_ext he _ _ (hf.2 u)
theorem AOps_append {ops : Array Oper} {o : Oper} {rest : List Oper} {s y : Operand} {t e : TypeId} {sz bytes k ver : Nat} {xs ys : List (List V)} {tg : Tag} (hg : o.guard = none) (ho : o.op = .call { callee := .builtin .append, args := #[s, y], argTypes := #[t, t] })
    (hs : gv fr s = .sl (.own k ver) xs) (hy : gv fr y = .sl tg ys) (hk : σ[k]? = some (.tok ver e sz)) (he : elemI P t = some (e, sz, bytes)) (hsz : 0 < sz) (hfx : flat sz xs = true) (hfy : flat sz ys = true) (hne : ys ≠ []) (h63 : xs.length + ys.length ≤ maxLen) (hb : (xs.length + ys.length) * bytes ≤ 140737488355328)
    (hr : AOps P ops Q rest (pt fr o.dst (.sl (.own k (ver + 1)) (xs ++ ys))) (σ.set k (.tok (ver + 1) e sz))) : AOps P ops Q (o :: rest) fr σ :=
  AOps_op hg (OpOk_of fun a w en hi hf => by
    have h1 := hf s (by simp [ho, Op.operands, Call.operands])
    have h2 := hf y (by simp [ho, Op.operands, Call.operands])
    rw [hs] at h1
    rw [hy] at h2
    obtain ⟨v', w', en', h3, h4, h5, h6⟩ := append_ok (ty := o.type) hi he hsz hk h1 h2 hfx hfy hne h63 hb
    unfold Oper.wp
    have : (execOp a.eval o).run P w = .ok (.value v') w' := by simp [execOp, ho, resolve, invoke, builtin, h3]
    rw [this]
    exact ⟨v', en', rfl, h4, h5, h6⟩) hr
end
end Go.Proofs.YtfagngmikbmmhaaDoor.A
