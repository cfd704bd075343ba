/- Slicing, builtins, literals, stores; and all operations in one function. -/
import Derived.Test.YtfagngmikbmmhaaDoorAhEval
namespace Go.Proofs.YtfagngmikbmmhaaDoor.A
open Go Go.RowKit
set_option linter.unusedVariables false

section
variable {P : Program} {σ : List AE} {fr : List V}

/-! ### Slices of strings and slices -/
def bnd (d : Int) : Option V → Option Int
  | none => some d
  | some (.int _ n) => some n
  | _ => none
def tagCut (t : Tag) (full : Bool) : Tag := match t with
  | .nil => .nil
  | .full => if full then .full else .ro
  | _ => .ro
/-- x[lo:hi] of a string. -/
def sliceStr (l : List UInt8) (lo hi : Option V) : Option V := match bnd 0 lo, bnd l.length hi with
  | some a, some b => if 0 ≤ a ∧ a ≤ b ∧ b ≤ l.length then some (.str ((l.take b.toNat).drop a.toNat)) else none
  | _, _ => none
/-- x[lo:hi] of a slice, its elements of sz cells; x[lo:hi:mx] where mx is hi. -/
def sliceSl (sz : Nat) (t : Tag) (xs : List (List V)) (lo hi mx : Option V) : Option V := match bnd 0 lo, bnd xs.length hi with
  | some a, some b => if 0 ≤ a ∧ a ≤ b ∧ b ≤ xs.length ∧ flat sz xs = true then
      match mx with
      | none => some (.sl (tagCut t hi.isNone) ((xs.take b.toNat).drop a.toNat))
      | some (.int _ m) => if m = b ∧ hi.isSome = true then some (.sl .full ((xs.take b.toNat).drop a.toNat)) else none
      | _ => none
    else none
  | _, _ => none
/-- x[lo:hi] of a row's own slice of m elements from cell o on. -/
def sliceRw (sz k ver o m : Nat) (lo hi : Option V) : Option V := match bnd 0 lo, bnd m hi with
  | some a, some b => if 0 ≤ a ∧ a ≤ b ∧ b ≤ m then some (.rs k ver (o + a.toNat * sz) (b.toNat - a.toNat)) else none
  | _, _ => none
def sliceV (P : Program) (t : TypeId) (x : V) (lo hi mx : Option V) : Option V := match P.underlying t, x with
  | some .string, .str l => if mx.isNone then sliceStr l lo hi else none
  | some (.slice e), .sl tg xs => match tySize P e with
    | some sz => sliceSl sz tg xs lo hi mx
    | none => none
  | some (.slice e), .rw k ver m => match tySize P e with
    | some sz => if mx.isNone then sliceRw sz k ver 0 m lo hi else none
    | none => none
  | some (.slice e), .rs k ver o m => match tySize P e with
    | some sz => if mx.isNone then sliceRw sz k ver o m lo hi else none
    | none => none
  | _, _ => none
/-- An operand that may be missing. -/
def VRo (w : World) (en : List CE) : Option V → Option Value → Prop
  | none, none => True
  | some x, some v => VR w en x v
  | _, _ => False
theorem bnd_ok {w : World} {en : List CE} {d : Int} {x : Option V} {v : Option Value} (h : VRo w en x v) {n : Int} (hb : bnd d x = some n) : (v = none ∧ x = none ∧ n = d) ∨ ∃ k, v = some (.int k n) := by
  cases x with
  | none => cases v with
    | none => simp only [bnd, Option.some.injEq] at hb; exact .inl ⟨rfl, rfl, hb.symm⟩
    | some v => exact h.elim
  | some x => cases v with
    | none => exact h.elim
    | some v =>
      cases x <;> simp only [bnd] at hb <;> first | cases hb; done | skip
      simp only [Option.some.injEq] at hb
      subst hb
      simp only [VRo, VR] at h
      exact .inr ⟨_, by rw [h]⟩
theorem run_bound {k : IntKind} {n : Int} {y : Nat} {c : BoundsCode} (h0 : 0 ≤ n) (h1 : n ≤ y) (w : World) : (Instr.sliceBound (.int k n) y c).run P w = .ok n.toNat w := by
  simp [Instr.sliceBound, asIntOf, h0, h1]
theorem run_sliceBounds {isS : Bool} {len cap : Nat} {lo hi mx : Option Value} {a b m : Int} (hlo : (lo = none ∧ a = 0) ∨ ∃ k, lo = some (.int k a)) (hhi : (hi = none ∧ b = len ∧ mx = none) ∨ ∃ k, hi = some (.int k b)) (hmx : (mx = none ∧ m = cap) ∨ ∃ k, mx = some (.int k m))
    (h0 : 0 ≤ a) (h1 : a ≤ b) (h2 : b ≤ m) (h3 : m ≤ cap) (w : World) : (Instr.sliceBounds isS len cap lo hi mx).run P w = .ok (a.toNat, b.toNat, m.toNat) w := by
  have em : (m.toNat : Int) = m := by omega
  have eb : (b.toNat : Int) = b := by omega
  rcases hmx with ⟨rfl, rfl⟩ | ⟨km, rfl⟩ <;> rcases hhi with ⟨rfl, rfl, e⟩ | ⟨kh, rfl⟩ <;> rcases hlo with ⟨rfl, rfl⟩ | ⟨kl, rfl⟩ <;> (try cases e)
  all_goals simp only [Instr.sliceBounds, Sem.run_bind, Sem.run_pure, Result.andThen_ok]
  all_goals (try rw [run_bound (by omega) (by omega)])
  all_goals (try simp only [Result.andThen_ok])
  all_goals (try rw [run_bound (by omega) (by omega)])
  all_goals (try simp only [Result.andThen_ok])
  all_goals (try rw [run_bound (by omega) (by omega)])
  all_goals (try simp only [Result.andThen_ok])
  all_goals simp
theorem sliceRw_ok {w : World} {en : List CE} {t e : TypeId} {sz k ver o m : Nat} {z : V} {lo hi mx : Option V} {ulo uhi umx : Option Value} {A : Option Addr} {c : Nat} (ht : P.underlying t = some (.slice e)) (hsz : tySize P e = some sz) (hlo : VRo w en lo ulo) (hhi : VRo w en hi uhi) (hmx : VRo w en mx umx) (hm : mx.isNone = true)
    (h1 : m ≤ c) (h2 : c ≤ maxLen) {cur n0 sz0 : Nat} {v0 : Value} (h3 : en[k]? = some (.row cur v0 n0 sz0)) (h4 : ver ≤ cur) (h5 : m ≠ 0 → ∃ g, A = some ⟨g, o, none⟩ ∧ (ver = cur → v0.ownBlock = some g)) (h : sliceRw sz k ver o m lo hi = some z) :
    ∃ r, (Instr.sliceAt t (.slice A m c) ulo uhi umx).run P w = .ok r w ∧ VR w en z r := by
  unfold sliceRw at h
  split at h
  · rename_i a b ha hb
    split at h
    · rename_i hn
      obtain ⟨k0, k1, k2⟩ := hn
      cases h
      have hmn : umx = none := by
        cases mx with
        | none => cases umx with
          | none => rfl
          | some _ => exact hmx.elim
        | some _ => cases hm
      subst hmn
      have hlo' : (ulo = none ∧ a = 0) ∨ ∃ k, ulo = some (.int k a) := by rcases bnd_ok hlo ha with ⟨e1, _, e2⟩ | hk; exact .inl ⟨e1, e2⟩; exact .inr hk
      have hhi' : (uhi = none ∧ b = m ∧ (none : Option Value) = none) ∨ ∃ k, uhi = some (.int k b) := by rcases bnd_ok hhi hb with ⟨e1, _, e2⟩ | hk; exact .inl ⟨e1, e2, rfl⟩; exact .inr hk
      have hr := run_sliceBounds (P := P) (isS := true) (len := m) (cap := c) (m := c) hlo' hhi' (.inl ⟨rfl, rfl⟩) k0 k1 (by omega) (Int.le_refl _) w
      refine ⟨.slice (if c = a.toNat then A else A.map (·.add (a.toNat * sz))) (b.toNat - a.toNat) (c - a.toNat), by simp [Instr.sliceAt, Instr.slice, run_underlying ht, hr, run_sizeOf hsz], ?_⟩
      simp only [VR]
      refine ⟨_, _, cur, v0, n0, sz0, rfl, by omega, by omega, h3, h4, fun hne => ?_⟩
      obtain ⟨g, rfl, h6⟩ := h5 (by omega)
      refine ⟨g, ?_, h6⟩
      rw [if_neg (by omega)]
      simp [Addr_add]
    · cases h
  · cases h
theorem slice_ok {w : World} {en : List CE} {t : TypeId} {x z : V} {lo hi mx : Option V} {u : Value} {ulo uhi umx : Option Value} (hx : VR w en x u) (hlo : VRo w en lo ulo) (hhi : VRo w en hi uhi) (hmx : VRo w en mx umx) (h : sliceV P t x lo hi mx = some z) :
    ∃ r, (Instr.sliceAt t u ulo uhi umx).run P w = .ok r w ∧ VR w en z r := by
  unfold sliceV at h
  split at h
  · rename_i l ht
    split at h
    · rename_i hm
      unfold sliceStr at h
      split at h
      · rename_i a b ha hb
        split at h
        · rename_i hn
          obtain ⟨h0, h1, h2⟩ := hn
          cases h
          simp only [VR] at hx
          subst hx
          have hmn : umx = none := by
            cases mx with
            | none => cases umx with
              | none => rfl
              | some _ => exact hmx.elim
            | some _ => cases hm
          subst hmn
          have hr := run_sliceBounds (P := P) (isS := false) (len := l.length) (cap := l.length) (mx := none) (m := l.length)
            (by rcases bnd_ok hlo ha with ⟨e1, _, e2⟩ | hk; exact .inl ⟨e1, e2⟩; exact .inr hk)
            (by rcases bnd_ok hhi hb with ⟨e1, _, e2⟩ | hk; exact .inl ⟨e1, e2, rfl⟩; exact .inr hk) (.inl ⟨rfl, rfl⟩) h0 h1 h2 (Int.le_refl _) w
          have hsz : (⟨l.toArray⟩ : ByteArray).size = l.length := by simp [ByteArray.size]
          refine ⟨.string ((⟨l.toArray⟩ : ByteArray).extract a.toNat b.toNat), ?_, ?_⟩
          · simp [Instr.sliceAt, Instr.slice, run_underlying ht, hsz, hr]
          · simp only [VR]
            congr 1
            apply ByteArray.ext
            apply Array.ext'
            rw [ByteArray.data_extract, Array.toList_extract, List.extract_eq_take_drop]
            rw [List.drop_take]
        · cases h
      · cases h
    · cases h
  · rename_i e tg xs ht
    split at h
    · rename_i sz hsz
      unfold sliceSl at h
      split at h
      · rename_i a b ha hb
        split at h
        · rename_i hn
          obtain ⟨h0, h1, h2, hf⟩ := hn
          simp only [VR] at hx
          obtain ⟨A, c, rfl, h3, h4, h5, h6⟩ := hx
          have hlo' : (ulo = none ∧ a = 0) ∨ ∃ k, ulo = some (.int k a) := by rcases bnd_ok hlo ha with ⟨e1, _, e2⟩ | hk; exact .inl ⟨e1, e2⟩; exact .inr hk
          have hlen : ((xs.take b.toNat).drop a.toNat).length = b.toNat - a.toNat := by rw [List.length_drop, List.length_take]; omega
          have hcell : ∀ m : Nat, b.toNat ≤ m → (xs.take b.toNat).drop a.toNat ≠ [] → ∃ g o, (if m = a.toNat then A else A.map (·.add (a.toNat * sz))) = some ⟨g, o, none⟩ ∧ RR w en ((xs.take b.toNat).drop a.toNat) g o := fun m hm hne => by
            have hne' : 0 < ((xs.take b.toNat).drop a.toNat).length := List.length_pos_iff.2 hne
            obtain ⟨g, o, rfl, hr⟩ := h6 (by intro he; subst he; simp at hne')
            refine ⟨g, o + a.toNat * sz, ?_, ?_⟩
            · rw [if_neg (by omega)]
              simp [Addr_add]
            · refine RR_drop ?_ (RR_take' hr _) _
              simp only [flat, List.all_eq_true] at hf ⊢
              exact fun x hx => hf x (List.mem_of_mem_take hx)
          split at h
          · -- no third index
            cases h
            have hmn : umx = none := by cases umx with
              | none => rfl
              | some _ => exact hmx.elim
            subst hmn
            have hhi' : (uhi = none ∧ b = xs.length ∧ (none : Option Value) = none) ∨ ∃ k, uhi = some (.int k b) := by rcases bnd_ok hhi hb with ⟨e1, _, e2⟩ | hk; exact .inl ⟨e1, e2, rfl⟩; exact .inr hk
            have hr := run_sliceBounds (P := P) (isS := true) (len := xs.length) (cap := c) (m := c) hlo' hhi' (.inl ⟨rfl, rfl⟩) h0 h1 (by omega) (Int.le_refl _) w
            refine ⟨.slice (if c = a.toNat then A else A.map (·.add (a.toNat * sz))) (b.toNat - a.toNat) (c - a.toNat), by simp [Instr.sliceAt, Instr.slice, run_underlying ht, hr, run_sizeOf hsz], ?_⟩
            simp only [VR]
            refine ⟨_, _, by rw [hlen], by rw [hlen]; omega, by omega, ?_, hcell c (by omega)⟩
            cases tg with
            | ro => trivial
            | own _ _ => trivial
            | nil =>
              simp only [tagCut, TagOk] at h5 ⊢
              have : xs.length = 0 ∧ c = 0 ∧ A = none := by injection h5 with e1 e2 e3; exact ⟨e2, e3, e1⟩
              obtain ⟨e1, e2, e3⟩ := this
              subst e3
              have eb : b = 0 := by omega
              have ea : a = 0 := by omega
              subst eb; subst ea; subst e2
              simp
            | full =>
              cases hi with
              | none =>
                simp only [tagCut, Option.isNone_none, if_true, TagOk] at h5 ⊢
                simp only [bnd, Option.some.injEq] at hb
                rw [hlen]; omega
              | some _ => simp [tagCut, TagOk]
          · rename_i km m
            split at h
            · rename_i hmb
              obtain ⟨hmb, hsome⟩ := hmb
              subst hmb
              cases h
              cases umx with
              | none => exact hmx.elim
              | some um =>
                simp only [VRo, VR] at hmx
                subst hmx
                have hhi' : (uhi = none ∧ m = xs.length ∧ some (Value.int km m) = none) ∨ ∃ k, uhi = some (.int k m) := by
                  rcases bnd_ok hhi hb with ⟨_, e1, _⟩ | hk
                  · rw [e1] at hsome; cases hsome
                  · exact .inr hk
                have hr := run_sliceBounds (P := P) (isS := true) (len := xs.length) (cap := c) (m := m) hlo' hhi' (.inr ⟨_, rfl⟩) h0 h1 (Int.le_refl _) (by omega) w
                refine ⟨.slice (if m.toNat = a.toNat then A else A.map (·.add (a.toNat * sz))) (m.toNat - a.toNat) (m.toNat - a.toNat), by simp [Instr.sliceAt, Instr.slice, run_underlying ht, hr, run_sizeOf hsz], ?_⟩
                simp only [VR]
                exact ⟨_, _, by rw [hlen], by rw [hlen]; omega, by omega, by rw [hlen]; rfl, hcell m.toNat (Nat.le_refl _)⟩
            · cases h
          · cases h
        · cases h
      · cases h
    · cases h
  · rename_i e k ver m ht
    split at h
    · rename_i sz hsz
      split at h
      · rename_i hm
        simp only [VR] at hx
        obtain ⟨A, c, cur, v0, n0, sz0, rfl, h1, h2, h3, h4, h5, h6⟩ := hx
        exact sliceRw_ok ht hsz hlo hhi hmx hm h1 h2 h4 h5 (fun hne => by
          obtain ⟨g, rfl⟩ := h3 hne
          exact ⟨g, rfl, fun e => by rw [(h6 e).1]; rfl⟩) h
      · cases h
    · cases h
  · rename_i e k ver o m ht
    split at h
    · rename_i sz hsz
      split at h
      · rename_i hm
        simp only [VR] at hx
        obtain ⟨A, c, cur, v0, n0, sz0, rfl, h1, h2, h4, h5, h6⟩ := hx
        exact sliceRw_ok ht hsz hlo hhi hmx hm h1 h2 h4 h5 h6 h
      · cases h
    · cases h
  · cases h

/-! ### Writing cells -/
def wr : List V → Nat → List V → List V
  | cs, _, [] => cs
  | cs, o, u :: us => wr (cs.set o u) (o + 1) us
theorem wr_length : ∀ (us cs : List V) (o : Nat), (wr cs o us).length = cs.length
  | [], cs, o => rfl
  | u :: us, cs, o => by simp [wr, wr_length us]
theorem set_eq (cs : List Value) (o : Nat) (u : Value) (h : o < cs.length) : cs.set o u = cs.take o ++ [u] ++ cs.drop (o + 1) := by
  simp [List.set_eq_take_append_cons_drop, h]
theorem LR_wr {w : World} {en : List CE} : ∀ {us : List V} {vs : List Value} {cs : List V} {ds : List Value} {o : Nat}, LR w en cs ds → LR w en us vs → o + us.length ≤ cs.length → LR w en (wr cs o us) (ds.take o ++ vs ++ ds.drop (o + vs.length))
  | [], vs, cs, ds, o, h, hu, _ => by
    simp only [LR] at hu
    subst hu
    simpa [wr] using h
  | u :: us, vs, cs, ds, o, h, hu, hl => by
    simp only [LR] at hu
    obtain ⟨v, vs', rfl, h1, h2⟩ := hu
    simp only [List.length_cons] at hl
    have hd := LR_length h
    have := LR_wr (o := o + 1) (LR_set h o h1) h2 (by simp; omega)
    simp only [wr]
    rw [set_eq ds o v (by omega)] at this
    have ht : (List.take o ds ++ [v] ++ List.drop (o + 1) ds).take (o + 1) = ds.take o ++ [v] := by
      rw [List.take_append_of_le_length (by simp; omega)]
      rw [List.take_of_length_le (by simp; omega)]
    have hdr : (List.take o ds ++ [v] ++ List.drop (o + 1) ds).drop (o + 1 + vs'.length) = ds.drop (o + (v :: vs').length) := by
      rw [List.drop_append, List.drop_of_length_le (by simp; omega), List.nil_append, List.drop_drop]
      congr 1
      simp; omega
    rw [ht, hdr] at this
    simpa using this
theorem take_put {α : Type} {cu vs : List α} {o L : Nat} (h : vs.length + o ≤ L) : (cu.take o ++ vs ++ cu.drop (o + vs.length)).take L = (cu.take L).take o ++ vs ++ (cu.take L).drop (o + vs.length) := by
  by_cases hc : o ≤ cu.length
  · have e1 : (cu.take o).length = o := by simp; omega
    rw [List.append_assoc, List.take_append, List.take_append, e1, List.take_of_length_le (by rw [e1]; omega), List.take_of_length_le (by omega : vs.length ≤ L - o), List.take_take, Nat.min_eq_left (by omega), List.drop_take, List.append_assoc]
    congr 3
    omega
  · have e1 : cu.take o = cu := List.take_of_length_le (by omega)
    have e2 : cu.drop (o + vs.length) = [] := List.drop_of_length_le (by omega)
    have e3 : cu.take L = cu := List.take_of_length_le (by omega)
    rw [e3, e1, e2, List.append_nil]
    exact List.take_of_length_le (by simp; omega)
def storeS (P : Program) (σ : List AE) (t : TypeId) (a x : V) : Option (V × List AE) := match a with
  | .ptr b o => match σ[b]?, cellsV x, tySize P t with
    | some (.box cs), some us, some n => if us.length = n ∧ o + n ≤ cs.length then some (.junk, σ.set b (.box (wr cs o us))) else none
    | _, _, _ => none
  | .rp k ver o => match σ[k]?, cellsV x, tySize P t with
    | some (.row cur e sz m cs), some us, some n => if cur = ver ∧ us.length = n ∧ o + n ≤ cs.length then some (.junk, σ.set k (.row cur e sz m (wr cs o us))) else none
    | _, _, _ => none
  | _ => none
theorem setRow_ext {w : World} {en : List CE} {x : CE} {g : Nat} (hm : x ∈ en) (hb : ebl x = some g) (hno : ∀ o, ¬ okc x g o) {vs : Array Value} : Ext w en (w.setRow g vs) en where
  os := rfl
  tape := rfl
  output := rfl
  size := by simp [World.setRow]
  block := fun k _ hk => setRow_other w g k vs (fun e => hk _ hm (by rw [hb, e]))
  st := fun g' o u hs => by
    have hne : g' ≠ g := fun e => hno o (by have := hs.2 _ hm; rwa [e] at this)
    exact ⟨(World.cell?_of_block (setRow_other w g g' vs hne)).trans hs.1, hs.2⟩
  ent := fun i x hx => ⟨x, hx, Evo.refl x⟩
  fresh := fun x hx g hg _ => ⟨x, hx, hg⟩
theorem store_ok {w : World} {en : List CE} (hi : Iv σ en w) {t : TypeId} {a x z : V} {σ' : List AE} {u v : Value} (ha : VR w en a u) (hx : VR w en x v) (h : storeS P σ t a x = some (z, σ')) :
    ∃ w', (Instr.storeAt t u v).run P w = .ok () w' ∧ z = .junk ∧ Iv σ' en w' ∧ Ext w en w' en := by
  unfold storeS at h
  split at h
  · rename_i b o
    split at h
    · rename_i cs us n hb hc hn
      split at h
      · rename_i hl
        obtain ⟨hl1, hl2⟩ := hl
        simp only [Option.some.injEq, Prod.mk.injEq] at h
        obtain ⟨rfl, rfl⟩ := h
        simp only [VR] at ha
        obtain ⟨g, hg, rfl⟩ := ha
        have hk := hi.ok b _ _ hb hg
        simp only [EOk] at hk
        obtain ⟨ds, T, h1, h2, h3⟩ := hk
        obtain ⟨k1, k2⟩ := cells_ok hx hc
        have hvl := LR_length k1
        have hdl := LR_length h2
        have hst := run_storeCells_at P g o T v.cells.toList 0 ds w h1 (by rw [hvl]; simp only [Array.length_toList] at hdl; omega) k2
        simp only [Nat.add_zero] at hst
        have hsz : v.cells.size = n := by rw [← hl1, ← hvl]; simp
        have hlr := LR_wr (o := o) h2 k1 (by omega)
        have hone : ∀ u ∈ ds.toList.take o ++ v.cells.toList ++ ds.toList.drop (o + v.cells.toList.length), u.oneCell' = true := fun u hu => by
          rcases List.mem_append.1 hu with hu | hu
          · rcases List.mem_append.1 hu with hu | hu
            · exact h3 u (List.mem_of_mem_take hu)
            · exact k2 u hu
          · exact h3 u (List.mem_of_mem_drop hu)
        generalize ds.toList.take o ++ v.cells.toList ++ ds.toList.drop (o + v.cells.toList.length) = nl at hst hlr hone
        have he := setRow_ext (w := w) (vs := nl.toArray) (List.mem_of_getElem? hg) rfl (fun o h => h rfl)
        refine ⟨w.setRow g nl.toArray, by simp [Instr.storeAt, Instr.sureAddr, storeVar, run_sizeOf hn, hsz, hst], rfl, ?_, he⟩
        refine ⟨by simp [hi.len], fun i a x ha hx => ?_, hi.dis⟩
        rw [List.getElem?_set] at ha
        split at ha
        · rename_i hbi
          subst hbi
          split at ha
          · cases ha
            rw [hg] at hx
            cases hx
            exact ⟨nl.toArray, T, setRow_heap w g ds _ T (0, 0) h1, LR_ext he _ _ hlr, hone⟩
          · cases ha
        · rename_i hbi
          refine (hi.ok i a x ha hx).keep he (fun g' hg' => setRow_other w g g' _ (fun e => ?_))
          subst e
          exact hbi (hi.dis b i _ x g' hg hx rfl hg')
      · cases h
    · cases h
  · rename_i k ver o
    split at h
    · rename_i cur e sz m cs us n hb hc hn
      split at h
      · rename_i hl
        obtain ⟨hl0, hl1, hl2⟩ := hl
        simp only [Option.some.injEq, Prod.mk.injEq] at h
        obtain ⟨rfl, rfl⟩ := h
        simp only [VR] at ha
        obtain ⟨g, cur', v0, n0, sz0, rfl, hg, hle, hlk⟩ := ha
        have hk := hi.ok k _ _ hb hg
        simp only [EOk] at hk
        obtain ⟨rfl, rfl, rfl, ds, h1, h2, h3⟩ := hk
        have hob := hlk hl0.symm
        have h1' := h1
        rcases h1.2 with ⟨rfl, _⟩ | ⟨g', cap, cu, rfl, _, hgg, hnc, hcm, hcs, htk⟩
        · cases hob
        obtain rfl : g' = g := by simpa [Value.ownBlock] using hob
        obtain ⟨k1, k2⟩ := cells_ok hx hc
        have hvl := LR_length k1
        have hdl := LR_length h2
        have hdn : ds.length = m * sz := h1.1
        have hcl : m * sz ≤ cu.size := by rw [hcs]; exact Nat.mul_le_mul_right _ hnc
        have hst := run_storeCells_at P g' o e v.cells.toList 0 cu w hgg (by omega) k2
        simp only [Nat.add_zero] at hst
        have hsz : v.cells.size = n := by rw [← hl1, ← hvl]; simp
        have hlr := LR_wr (o := o) h2 k1 (by omega)
        have hone : ∀ u ∈ ds.take o ++ v.cells.toList ++ ds.drop (o + v.cells.toList.length), u.oneCell' = true := fun u hu => by
          rcases List.mem_append.1 hu with hu | hu
          · rcases List.mem_append.1 hu with hu | hu
            · exact h3 u (List.mem_of_mem_take hu)
            · exact k2 u hu
          · exact h3 u (List.mem_of_mem_drop hu)
        have htake : (cu.toList.take o ++ v.cells.toList ++ cu.toList.drop (o + v.cells.toList.length)).take (m * sz) = ds.take o ++ v.cells.toList ++ ds.drop (o + v.cells.toList.length) := by
          have hvo : v.cells.toList.length + o ≤ m * sz := by omega
          rw [← htk, take_put hvo]
        have hlen : (cu.toList.take o ++ v.cells.toList ++ cu.toList.drop (o + v.cells.toList.length)).length = cu.size := by
          simp only [List.length_append, List.length_take, List.length_drop, Array.length_toList]
          simp only [Array.length_toList] at hvl
          omega
        generalize cu.toList.take o ++ v.cells.toList ++ cu.toList.drop (o + v.cells.toList.length) = nl at hst htake hlen
        have he := setRow_ext (w := w) (vs := nl.toArray) (List.mem_of_getElem? hg) rfl (fun o h => h rfl)
        refine ⟨w.setRow g' nl.toArray, by simp [Instr.storeAt, Instr.sureAddr, storeVar, run_sizeOf hn, hsz, hst], rfl, ?_, he⟩
        refine ⟨by simp [hi.len], fun i a x ha hx => ?_, hi.dis⟩
        rw [List.getElem?_set] at ha
        split at ha
        · rename_i hbi
          subst hbi
          split at ha
          · cases ha
            rw [hg] at hx
            cases hx
            exact ⟨rfl, rfl, rfl, _, ⟨by rw [LR_length hlr, wr_length, ← hdl, hdn], .inr ⟨g', cap, nl.toArray, rfl, Nat.zero_le _, setRow_heap w g' cu _ e (0, 0) hgg, hnc, hcm, by simpa [hcs] using hlen, htake⟩⟩, LR_ext he _ _ hlr, hone⟩
          · cases ha
        · rename_i hbi
          refine (hi.ok i a x ha hx).keep he (fun g hg' => setRow_other w g' g _ (fun e => ?_))
          subst e
          exact hbi (hi.dis k i _ x g hg hx rfl hg')
      · cases h
    · cases h
  · cases h

/-! ### New variables -/
def tyZero (P : Program) (t : TypeId) : Option Value := (P.info? t).bind (·.zero)
def zerosV (P : Program) (t : TypeId) : Option (List V) := match tyZero P t with
  | some z => if z.cells.all (·.oneCell') = true then some (z.cells.toList.map cv) else none
  | none => none
theorem run_zero {t : TypeId} {z : Value} (h : tyZero P t = some z) (w : World) : (zeroValue t).run P w = .ok z w := by
  unfold tyZero at h
  cases hu : P.info? t with
  | none => rw [hu] at h; cases h
  | some i =>
    rw [hu] at h
    simp only [Option.bind_some] at h
    simp [zeroValue, typeInfo, hu, h]
theorem LR_cv (w : World) (en : List CE) : ∀ vs : List Value, LR w en (vs.map cv) vs
  | [] => by simp [LR]
  | v :: vs => by simp only [List.map_cons, LR]; exact ⟨v, vs, rfl, VR_cv w en v, LR_cv w en vs⟩
def allocS (P : Program) (σ : List AE) (t : TypeId) : Option (V × List AE) := match zerosV P t with
  | some zs => some (.ptr σ.length 0, σ ++ [.box zs])
  | none => none
theorem alloc_ok {w : World} {en : List CE} (hi : Iv σ en w) {t : TypeId} {z : V} {σ' : List AE} (h : allocS P σ t = some (z, σ')) :
    ∃ v w' en', (Instr.alloc t true (.tuple #[])).run P w = .ok v w' ∧ VR w' en' z v ∧ Iv σ' en' w' ∧ Ext w en w' en' := by
  unfold allocS zerosV at h
  split at h
  · rename_i zs hz
    split at hz
    · rename_i z0 h0
      split at hz
      · rename_i hall
        simp only [Option.some.injEq, Prod.mk.injEq] at hz h
        obtain ⟨rfl, rfl⟩ := h
        subst hz
        obtain ⟨h1, h2⟩ := hi.box t (LR_cv w en z0.cells.toList) (fun u hu => by
          rw [Array.all_eq_true_iff_forall_mem] at hall
          exact hall u (by simpa using hu))
        exact ⟨_, _, _, by simp [Instr.alloc, run_zero h0, newVar, newRow]; rfl, by simp only [VR]; exact ⟨w.heap.size, by simp [← hi.len], rfl⟩, h1, h2⟩
      · cases hz
    · cases hz
  · cases h
def boxS (σ : List AE) (x : V) : Option (V × List AE) := match cellsV x with
  | some us => some (.ptr σ.length 0, σ ++ [.box us])
  | none => none
theorem box_ok {w : World} {en : List CE} (hi : Iv σ en w) {t : TypeId} {x z : V} {σ' : List AE} {u : Value} (hx : VR w en x u) (h : boxS σ x = some (z, σ')) :
    ∃ v w' en', (Instr.box t u).run P w = .ok v w' ∧ VR w' en' z v ∧ Iv σ' en' w' ∧ Ext w en w' en' := by
  unfold boxS at h
  split at h
  · rename_i us hc
    simp only [Option.some.injEq, Prod.mk.injEq] at h
    obtain ⟨rfl, rfl⟩ := h
    obtain ⟨k1, k2⟩ := cells_ok hx hc
    obtain ⟨h1, h2⟩ := hi.box t k1 k2
    exact ⟨_, _, _, by simp [Instr.box, newVar, newRow]; rfl, by simp only [VR]; exact ⟨w.heap.size, by simp [← hi.len], rfl⟩, h1, h2⟩
  · cases h

/-! ### Literals -/
def fillA (place : Nat → Option (Nat × Nat)) : List V → List (Nat × V) → Option (List V)
  | cs, [] => some cs
  | cs, (i, x) :: rest => match place i, cellsV x with
    | some (o, n), some us => match decide (us.length = n ∧ o + n ≤ cs.length) with
      | true => fillA place (wr cs o us) rest
      | false => none
    | _, _ => none
def PR (w : World) (en : List CE) : List (Nat × V) → List (Nat × Value) → Prop
  | [], vs => vs = []
  | (i, x) :: ps, vs => ∃ v vs', vs = (i, v) :: vs' ∧ VR w en x v ∧ PR w en ps vs'
theorem foldl_set (o : Nat) : ∀ (vs : List Value) (k : Nat) (cs : Array Value), ((vs.zipIdx k).foldl (fun cs (x : Value × Nat) => cs.setIfInBounds (o + x.2) x.1) cs).toList = (vs.zipIdx k).foldl (fun cs (x : Value × Nat) => cs.set (o + x.2) x.1) cs.toList
  | [], k, cs => rfl
  | v :: vs, k, cs => by
    simp only [List.zipIdx_cons, List.foldl_cons]
    rw [foldl_set o vs (k + 1)]
    simp
theorem LR_foldl {w : World} {en : List CE} (o : Nat) : ∀ {us : List V} {vs : List Value} {cs : List V} {ds : List Value} (k : Nat), LR w en cs ds → LR w en us vs → LR w en (wr cs (o + k) us) ((vs.zipIdx k).foldl (fun cs (x : Value × Nat) => cs.set (o + x.2) x.1) ds)
  | [], vs, cs, ds, k, h, hu => by
    simp only [LR] at hu
    subst hu
    simpa [wr] using h
  | u :: us, vs, cs, ds, k, h, hu => by
    simp only [LR] at hu
    obtain ⟨v, vs', rfl, h1, h2⟩ := hu
    simp only [wr, List.zipIdx_cons, List.foldl_cons]
    exact LR_foldl o (k + 1) (LR_set h (o + k) h1) h2
theorem foldl_one (o : Nat) (p : Value → Prop) : ∀ (vs : List Value) (k : Nat) (cs : List Value), (∀ v ∈ vs, p v) → (∀ c ∈ cs, p c) → ∀ c ∈ (vs.zipIdx k).foldl (fun cs (x : Value × Nat) => cs.set (o + x.2) x.1) cs, p c
  | [], k, cs, _, hc => hc
  | v :: vs, k, cs, hv, hc => by
    simp only [List.zipIdx_cons, List.foldl_cons]
    refine foldl_one o p vs (k + 1) _ (fun x hx => hv x (List.mem_cons_of_mem _ hx)) (fun c hc' => ?_)
    rcases List.mem_or_eq_of_mem_set hc' with h | rfl
    · exact hc c h
    · exact hv _ List.mem_cons_self
theorem fill_ok {w : World} {en : List CE} {place : Nat → Option (Nat × Nat)} : ∀ {ps : List (Nat × V)} {vs : List (Nat × Value)} {cs cs' : List V} {ds : Array Value}, LR w en cs ds.toList → (∀ u ∈ ds.toList, u.oneCell' = true) → PR w en ps vs → fillA place cs ps = some cs' →
    ∃ ds', Instr.fill place ds vs = some ds' ∧ LR w en cs' ds'.toList ∧ ∀ u ∈ ds'.toList, u.oneCell' = true
  | [], vs, cs, cs', ds, hl, h1, hp, h => by
    simp only [PR] at hp
    subst hp
    simp only [fillA, Option.some.injEq] at h
    subst h
    exact ⟨ds, rfl, hl, h1⟩
  | (i, x) :: ps, vs, cs, cs', ds, hl, h1, hp, h => by
    simp only [PR] at hp
    obtain ⟨v, vs', rfl, h2, h3⟩ := hp
    simp only [fillA] at h
    split at h
    · rename_i o n us hpl hc
      split at h
      · rename_i hn0
        have hn := of_decide_eq_true hn0
        obtain ⟨k1, k2⟩ := cells_ok h2 hc
        have hvl := LR_length k1
        have hdl := LR_length hl
        simp only [Array.length_toList] at hvl hdl
        have hlr := LR_foldl o 0 hl k1
        simp only [Nat.add_zero] at hlr
        have hz : (v.cells.zipIdx.foldl (fun cs (x : Value × Nat) => cs.setIfInBounds (o + x.2) x.1) ds).toList = (v.cells.toList.zipIdx 0).foldl (fun cs (x : Value × Nat) => cs.set (o + x.2) x.1) ds.toList := by
          rw [← Array.foldl_toList, Array.toList_zipIdx, foldl_set]
        obtain ⟨ds', h5, h6⟩ := fill_ok (ds := v.cells.zipIdx.foldl (fun cs (x : Value × Nat) => cs.setIfInBounds (o + x.2) x.1) ds) (by rw [hz]; exact hlr) (by rw [hz]; exact foldl_one o _ _ _ _ k2 h1) h3 h
        refine ⟨ds', ?_, h6⟩
        simp only [Instr.fill, hpl]
        rw [if_neg (by simp; omega)]
        exact h5
      · cases h
    · cases h
def places (P : Program) (t : TypeId) : Option (List (Nat × Nat)) := match P.underlying t with
  | some (.struct fs) => fs.toList.mapM fun f => (tySize P f.type).map fun n => (f.offset, n)
  | _ => none
def buildV (P : Program) (t : TypeId) (ps : List (Nat × V)) : Option V := match zerosV P t with
  | some zs => match P.underlying t with
    | some (.array _ e) => match tySize P e with
      | some n => (fillA (fun i => some (i * n, n)) zs ps).map .agg
      | none => none
    | some (.struct _) => match places P t with
      | some pl => (fillA (fun i => pl[i]?) zs ps).map .agg
      | none => none
    | _ => none
  | none => none
theorem run_places {w : World} : ∀ {fs : List Field} {pl : List (Nat × Nat)}, (fs.mapM fun f => (tySize P f.type).map fun n => (f.offset, n)) = some pl → (fs.mapM fun f => (do pure (f.offset, ← sizeOf f.type) : Sem (Nat × Nat))).run P w = .ok pl w
  | [], pl, h => by simp at h; subst h; simp
  | f :: fs, pl, h => by
    rw [List.mapM_cons] at h
    cases hs : tySize P f.type with
    | none => rw [hs] at h; simp at h
    | some n =>
      rw [hs] at h
      cases hr : (fs.mapM fun f => (tySize P f.type).map fun n => (f.offset, n)) with
      | none => rw [hr] at h; simp at h
      | some pl' =>
        rw [hr] at h
        simp at h
        subst h
        have := run_places (w := w) hr
        rw [List.mapM_cons]
        simp only [Sem.run_bind, run_sizeOf hs, Result.andThen_ok, Sem.run_pure, this]
theorem build_ok {w : World} {en : List CE} {t : TypeId} {ps : List (Nat × V)} {vs : Array (Nat × Value)} {z : V} (hp : PR w en ps vs.toList) (h : buildV P t ps = some z) : ∃ r, (Instr.build t vs).run P w = .ok r w ∧ VR w en z r := by
  unfold buildV at h
  split at h
  · rename_i zs hz
    unfold zerosV at hz
    split at hz
    · rename_i z0 h0
      split at hz
      · rename_i hall
        simp only [Option.some.injEq] at hz
        subst hz
        have hone : ∀ u ∈ z0.cells.toList, u.oneCell' = true := fun u hu => by
          rw [Array.all_eq_true_iff_forall_mem] at hall
          exact hall u (by simpa using hu)
        split at h
        · rename_i len e ht
          split at h
          · rename_i n hn
            simp only [Option.map_eq_some_iff] at h
            obtain ⟨cs', h1, rfl⟩ := h
            obtain ⟨ds', h2, h3, h4⟩ := fill_ok (LR_cv w en z0.cells.toList) hone hp h1
            exact ⟨.agg ds', by simp [Instr.build, run_zero h0, run_underlying ht, run_sizeOf hn, h2], by simp only [VR]; exact ⟨ds', rfl, h3, h4⟩⟩
          · cases h
        · rename_i fs ht
          split at h
          · rename_i pl hpl
            simp only [Option.map_eq_some_iff] at h
            obtain ⟨cs', h1, rfl⟩ := h
            unfold places at hpl
            rw [ht] at hpl
            have hrp := run_places (w := w) hpl
            have hrp' : (fs.mapM fun f => (do pure (f.offset, ← sizeOf f.type) : Sem (Nat × Nat))).run P w = .ok pl.toArray w := by
              obtain ⟨l, rfl⟩ : ∃ l : List Field, fs = l.toArray := ⟨fs.toList, by simp⟩
              rw [List.mapM_toArray]
              simp only [Sem.run_map, hrp, Result.andThen_ok]
            obtain ⟨ds', h2, h3, h4⟩ := fill_ok (LR_cv w en z0.cells.toList) hone hp h1
            refine ⟨.agg ds', ?_, by simp only [VR]; exact ⟨ds', rfl, h3, h4⟩⟩
            simp only [Instr.build, Sem.run_bind, run_zero h0, Result.andThen_ok, run_underlying ht, hrp']
            have e1 : (fun (x : Nat) => pl.toArray[x]?) = fun (i : Nat) => pl[i]? := by funext i; simp
            rw [e1, h2]
            simp
          · cases h
        · cases h
      · cases hz
    · cases hz
  · cases h

end
end Go.Proofs.YtfagngmikbmmhaaDoor.A
