/- Texts of the proof, one behind another: AhCore, AhIn, AhRules. -/
import Derived.Laws.AppendOwn
import Derived.KernelRfl
import Derived.Below
import Derived.Carry
import Derived.Deep.LoopGhost
import Derived.Still
import Derived.TacticsIn
import Derived.OrdersIn
/- A Hoare logic on abstract states over the kit's wp: abstract values, their reading in a world, what is kept when the world goes on. -/
namespace Go.Proofs.YtdjjlbjagaadaaaGreatDoor.A
open Go Go.RowKit
set_option linter.unusedVariables false

/-- What is known of a slice's spare room: nothing; it is nil; there is none; token k, version ver: the row is the call's own. -/
inductive Tag where
  | ro | nil | full | own (k ver : Nat)

/-- Abstract values. sl: a slice by its elements (each by its cells). ms: a slice over a box. ep: a pointer to cells that stay. gd: x where b holds, else nothing. -/
inductive V where
  | bool (b : Bool)
  | int (k : IntKind) (n : Int)
  | str (s : List UInt8)
  | sl (t : Tag) (xs : List (List V))
  | ms (b off n c : Nat)
  | agg (cs : List V)
  | tup (cs : List V)
  | ptr (b off : Nat)
  | ep (cs : List V)
  | fn (f : FuncId) (cs : List V)
  | exact (v : Value)
  | gd (b : Bool) (x : V)
  | rw (k ver n : Nat)
  | rs (k ver off n : Nat)
  | rp (k ver off : Nat)
  | junk

/-- Concrete entries: a box's block; a token's version, slice, number of elements, cells an element. -/
inductive CE where
  | glob
  | box (g : Nat)
  | tok (ver : Nat) (v : Value) (n sz : Nat)
  | row (ver : Nat) (v : Value) (n sz : Nat)

/-- Abstract entries. -/
inductive AE where
  | glob (l : List (Nat × Obj))
  | box (cs : List V)
  | tok (ver : Nat) (e : TypeId) (sz : Nat)
  | row (ver : Nat) (e : TypeId) (sz n : Nat) (cs : List V)
  | boxt (T : TypeId) (cs : List V)
  | dead

def ebl : CE → Option Nat
  | .glob => none
  | .box g => some g
  | .tok _ v _ _ => v.ownBlock
  | .row _ v _ _ => v.ownBlock

def okc : CE → Nat → Nat → Prop
  | .glob, _, _ => True
  | .box g', g, _ => g' ≠ g
  | .tok _ v n sz, g, o => v.ownBlock = some g → o < n * sz
  | .row _ v _ _, g, _ => v.ownBlock ≠ some g

/-- A cell that stays: it is there, in no box, in no token's spare room. -/
def St (w : World) (en : List CE) (g o : Nat) (u : Value) : Prop := w.cell? ⟨g, o, none⟩ = some u ∧ ∀ x ∈ en, okc x g o

def TagOk (en : List CE) (v : Value) (n c : Nat) : Tag → Prop
  | .ro => True
  | .nil => v = .slice none 0 0
  | .full => c = n
  | .own k ver => ∃ cur v0 n0 sz, en[k]? = some (.tok cur v0 n0 sz) ∧ ver ≤ cur ∧ (ver = cur → v0 = v ∧ n0 = n)

mutual
def VR (w : World) (en : List CE) : V → Value → Prop
  | .bool b, v => v = .bool b
  | .int k n, v => v = .int k n
  | .str s, v => v = .string ⟨s.toArray⟩
  | .sl t xs, v => ∃ A c, v = .slice A xs.length c ∧ xs.length ≤ c ∧ c ≤ maxLen ∧ TagOk en v xs.length c t ∧ (xs ≠ [] → ∃ g o, A = some ⟨g, o, none⟩ ∧ RR w en xs g o)
  | .ms b off n c, v => ∃ g, en[b]? = some (.box g) ∧ v = .slice (some ⟨g, off, none⟩) n c ∧ n ≤ c ∧ c ≤ maxLen
  | .agg cs, v => ∃ us, v = .agg us ∧ LR w en cs us.toList ∧ ∀ u ∈ us.toList, u.oneCell' = true
  | .tup cs, v => ∃ us, v = .tuple us ∧ LR w en cs us.toList
  | .ptr b off, v => ∃ g, en[b]? = some (.box g) ∧ v = .pointer (some ⟨g, off, none⟩)
  | .ep cs, v => ∃ g o, v = .pointer (some ⟨g, o, none⟩) ∧ ER w en cs g o
  | .fn f cs, v => ∃ us, v = .func (.func f) #[] us ∧ LR w en cs us.toList
  | .exact u, v => v = u
  | .gd b x, v => (b = true → VR w en x v) ∧ (b = false → v = undef)
  | .rw k ver n, v => ∃ A c cur v0 n0 sz, v = .slice A n c ∧ n ≤ c ∧ c ≤ maxLen ∧ (n ≠ 0 → ∃ g, A = some ⟨g, 0, none⟩) ∧ en[k]? = some (.row cur v0 n0 sz) ∧ ver ≤ cur ∧ (ver = cur → v0 = v ∧ n0 = n)
  | .rs k ver off n, v => ∃ A c cur v0 n0 sz, v = .slice A n c ∧ n ≤ c ∧ c ≤ maxLen ∧ en[k]? = some (.row cur v0 n0 sz) ∧ ver ≤ cur ∧ (n ≠ 0 → ∃ g, A = some ⟨g, off, none⟩ ∧ (ver = cur → v0.ownBlock = some g))
  | .rp k ver off, v => ∃ g cur v0 n0 sz, v = .pointer (some ⟨g, off, none⟩) ∧ en[k]? = some (.row cur v0 n0 sz) ∧ ver ≤ cur ∧ (ver = cur → v0.ownBlock = some g)
  | .junk, _ => True
def LR (w : World) (en : List CE) : List V → List Value → Prop
  | [], us => us = []
  | x :: xs, us => ∃ u us', us = u :: us' ∧ VR w en x u ∧ LR w en xs us'
/-- Cells that stay, from (g, o) on. -/
def ER (w : World) (en : List CE) : List V → Nat → Nat → Prop
  | [], _, _ => True
  | x :: xs, g, o => (∃ u, St w en g o u ∧ u.oneCell' = true ∧ VR w en x u) ∧ ER w en xs g (o + 1)
def RR (w : World) (en : List CE) : List (List V) → Nat → Nat → Prop
  | [], _, _ => True
  | x :: xs, g, o => ER w en x g o ∧ RR w en xs g (o + x.length)
end

/-- How an entry may go on. -/
def Evo : CE → CE → Prop
  | .glob, y => y = .glob
  | .box g, y => y = .box g
  | .tok ver v n sz, y => ∃ ver' v' n', y = .tok ver' v' n' sz ∧ ver ≤ ver' ∧ (ver = ver' → v' = v ∧ n' = n)
  | .row ver v n sz, y => ∃ ver' v' n', y = .row ver' v' n' sz ∧ ver ≤ ver' ∧ (ver = ver' → v' = v ∧ n' = n)

theorem Evo.refl (x : CE) : Evo x x := by
  cases x with
  | glob => rfl
  | box g => rfl
  | tok ver v n sz => exact ⟨ver, v, n, rfl, Nat.le_refl _, fun _ => ⟨rfl, rfl⟩⟩
  | row ver v n sz => exact ⟨ver, v, n, rfl, Nat.le_refl _, fun _ => ⟨rfl, rfl⟩⟩
theorem Evo.trans {x y z : CE} (h : Evo x y) (h' : Evo y z) : Evo x z := by
  cases x with
  | glob => simp only [Evo] at h; subst h; exact h'
  | box g => simp only [Evo] at h; subst h; exact h'
  | tok ver v n sz =>
    obtain ⟨a, b, c, rfl, h1, h2⟩ := h
    obtain ⟨a', b', c', rfl, h3, h4⟩ := h'
    refine ⟨a', b', c', rfl, Nat.le_trans h1 h3, fun e => ?_⟩
    have e1 : ver = a := by omega
    have e2 : a = a' := by omega
    obtain ⟨rfl, rfl⟩ := h2 e1
    exact h4 e2
  | row ver v n sz =>
    obtain ⟨a, b, c, rfl, h1, h2⟩ := h
    obtain ⟨a', b', c', rfl, h3, h4⟩ := h'
    refine ⟨a', b', c', rfl, Nat.le_trans h1 h3, fun e => ?_⟩
    have e1 : ver = a := by omega
    have e2 : a = a' := by omega
    obtain ⟨rfl, rfl⟩ := h2 e1
    exact h4 e2

/-- What is kept from a state to a later one. -/
structure Ext (w : World) (en : List CE) (w' : World) (en' : List CE) : Prop where
  os : w'.os = w.os
  tape : w'.tape = w.tape
  output : w'.output = w.output
  size : w.heap.size ≤ w'.heap.size
  block : ∀ k, k < w.heap.size → (∀ x ∈ en, ebl x ≠ some k) → w'.heap[k]? = w.heap[k]?
  st : ∀ g o u, St w en g o u → St w' en' g o u
  ent : ∀ (i : Nat) (x : CE), en[i]? = some x → ∃ x', en'[i]? = some x' ∧ Evo x x'
  fresh : ∀ x' ∈ en', ∀ g, ebl x' = some g → g < w.heap.size → ∃ x ∈ en, ebl x = some g

theorem Ext.refl (w : World) (en : List CE) : Ext w en w en :=
  ⟨rfl, rfl, rfl, Nat.le_refl _, fun _ _ _ => rfl, fun _ _ _ h => h, fun _ x h => ⟨x, h, Evo.refl x⟩, fun x' hx _ hg _ => ⟨x', hx, hg⟩⟩

theorem Ext.trans {w1 w2 w3 : World} {e1 e2 e3 : List CE} (h : Ext w1 e1 w2 e2) (k : Ext w2 e2 w3 e3) : Ext w1 e1 w3 e3 where
  os := k.os.trans h.os
  tape := k.tape.trans h.tape
  output := k.output.trans h.output
  size := Nat.le_trans h.size k.size
  block := fun i hi hx => (k.block i (Nat.lt_of_lt_of_le hi h.size) (fun x' hx' he => by
    obtain ⟨x, hxm, hxe⟩ := h.fresh x' hx' i he hi
    exact hx x hxm hxe)).trans (h.block i hi hx)
  st := fun g o u hs => k.st g o u (h.st g o u hs)
  ent := fun i x hx => by
    obtain ⟨x', h1, h2⟩ := h.ent i x hx
    obtain ⟨x'', h3, h4⟩ := k.ent i x' h1
    exact ⟨x'', h3, h2.trans h4⟩
  fresh := fun x'' hx'' g hg hlt => by
    obtain ⟨x', hx', he'⟩ := k.fresh x'' hx'' g hg (Nat.lt_of_lt_of_le hlt h.size)
    exact h.fresh x' hx' g he' hlt

/-- With no entries: of what was there nothing has turned. -/
theorem Ext.below {w w' : World} {en en' : List CE} (h : Ext w en w' en') (hn : ∀ x ∈ en, ebl x = none) : Below w.heap.size w w' :=
  ⟨h.os, h.tape, h.output, h.size, fun k hk => h.block k hk (fun x hx e => by rw [hn x hx] at e; cases e)⟩

theorem TagOk.ext {w w' : World} {en en' : List CE} (h : Ext w en w' en') {v : Value} {n c : Nat} {t : Tag} (ht : TagOk en v n c t) : TagOk en' v n c t := by
  cases t with
  | ro => trivial
  | nil => exact ht
  | full => exact ht
  | own k ver =>
    obtain ⟨cur, v0, n0, sz, h1, h2, h3⟩ := ht
    obtain ⟨x', h4, h5⟩ := h.ent _ _ h1
    obtain ⟨cur', v', n', rfl, h6, h7⟩ := h5
    refine ⟨cur', v', n', sz, h4, Nat.le_trans h2 h6, fun e => ?_⟩
    have e1 : ver = cur := by omega
    have e2 : cur = cur' := by omega
    obtain ⟨rfl, rfl⟩ := h7 e2
    exact h3 e1

theorem row_ext {w w' : World} {en en' : List CE} (h : Ext w en w' en') {k cur n0 sz : Nat} {v0 : Value} (hb : en[k]? = some (.row cur v0 n0 sz)) : ∃ cur' v' n', en'[k]? = some (.row cur' v' n' sz) ∧ cur ≤ cur' ∧ (cur = cur' → v' = v0 ∧ n' = n0) := by
  obtain ⟨x', h1, h2⟩ := h.ent _ _ hb
  obtain ⟨a, b, c, rfl, h3, h4⟩ := h2
  exact ⟨a, b, c, h1, h3, h4⟩
theorem box_ext {w w' : World} {en en' : List CE} (h : Ext w en w' en') {b g : Nat} (hb : en[b]? = some (.box g)) : en'[b]? = some (.box g) := by
  obtain ⟨x', h1, h2⟩ := h.ent _ _ hb
  simp only [Evo] at h2
  rw [h1, h2]

mutual
theorem VR_ext {w w' : World} {en en' : List CE} (h : Ext w en w' en') : ∀ (x : V) (v : Value), VR w en x v → VR w' en' x v
  | .bool b, v, hv => by simpa [VR] using hv
  | .int k n, v, hv => by simpa [VR] using hv
  | .str s, v, hv => by simpa [VR] using hv
  | .sl t xs, v, hv => by
    simp only [VR] at hv ⊢
    obtain ⟨A, c, h1, h2, h2', h3, h4⟩ := hv
    exact ⟨A, c, h1, h2, h2', h3.ext h, fun hx => by
      obtain ⟨g, o, h5, h6⟩ := h4 hx
      exact ⟨g, o, h5, RR_ext h xs g o h6⟩⟩
  | .ms b off n c, v, hv => by
    simp only [VR] at hv ⊢
    obtain ⟨g, h1, h2⟩ := hv
    exact ⟨g, box_ext h h1, h2⟩
  | .agg cs, v, hv => by
    simp only [VR] at hv ⊢
    obtain ⟨us, h1, h2, h3⟩ := hv
    exact ⟨us, h1, LR_ext h cs _ h2, h3⟩
  | .tup cs, v, hv => by
    simp only [VR] at hv ⊢
    obtain ⟨us, h1, h2⟩ := hv
    exact ⟨us, h1, LR_ext h cs _ h2⟩
  | .ptr b off, v, hv => by
    simp only [VR] at hv ⊢
    obtain ⟨g, h1, h2⟩ := hv
    exact ⟨g, box_ext h h1, h2⟩
  | .ep cs, v, hv => by
    simp only [VR] at hv ⊢
    obtain ⟨g, o, h1, h2⟩ := hv
    exact ⟨g, o, h1, ER_ext h cs g o h2⟩
  | .fn f cs, v, hv => by
    simp only [VR] at hv ⊢
    obtain ⟨us, h1, h2⟩ := hv
    exact ⟨us, h1, LR_ext h cs _ h2⟩
  | .exact u, v, hv => by simpa [VR] using hv
  | .gd b x, v, hv => by
    simp only [VR] at hv ⊢
    exact ⟨fun e => VR_ext h x v (hv.1 e), hv.2⟩
  | .rw k ver n, v, hv => by
    simp only [VR] at hv ⊢
    obtain ⟨A, c, cur, v0, n0, sz, h1, h2, h3, h4, h5, h6, h7⟩ := hv
    obtain ⟨cur', v', n', h8, h9, h10⟩ := row_ext h h5
    refine ⟨A, c, cur', v', n', sz, h1, h2, h3, h4, h8, Nat.le_trans h6 h9, fun e => ?_⟩
    obtain ⟨rfl, rfl⟩ := h10 (by omega)
    exact h7 (by omega)
  | .rs k ver off n, v, hv => by
    simp only [VR] at hv ⊢
    obtain ⟨A, c, cur, v0, n0, sz, h1, h2, h3, h5, h6, h7⟩ := hv
    obtain ⟨cur', v', n', h8, h9, h10⟩ := row_ext h h5
    refine ⟨A, c, cur', v', n', sz, h1, h2, h3, h8, Nat.le_trans h6 h9, fun hn => ?_⟩
    obtain ⟨g, h11, h12⟩ := h7 hn
    refine ⟨g, h11, fun e => ?_⟩
    obtain ⟨rfl, rfl⟩ := h10 (by omega)
    exact h12 (by omega)
  | .rp k ver off, v, hv => by
    simp only [VR] at hv ⊢
    obtain ⟨g, cur, v0, n0, sz, h1, h5, h6, h7⟩ := hv
    obtain ⟨cur', v', n', h8, h9, h10⟩ := row_ext h h5
    refine ⟨g, cur', v', n', sz, h1, h8, Nat.le_trans h6 h9, fun e => ?_⟩
    obtain ⟨rfl, rfl⟩ := h10 (by omega)
    exact h7 (by omega)
  | .junk, v, hv => by simp [VR]
theorem LR_ext {w w' : World} {en en' : List CE} (h : Ext w en w' en') : ∀ (xs : List V) (us : List Value), LR w en xs us → LR w' en' xs us
  | [], us, hu => by simpa [LR] using hu
  | x :: xs, us, hu => by
    simp only [LR] at hu ⊢
    obtain ⟨u, us', h1, h2, h3⟩ := hu
    exact ⟨u, us', h1, VR_ext h x u h2, LR_ext h xs us' h3⟩
theorem ER_ext {w w' : World} {en en' : List CE} (h : Ext w en w' en') : ∀ (xs : List V) (g o : Nat), ER w en xs g o → ER w' en' xs g o
  | [], g, o, _ => by simp [ER]
  | x :: xs, g, o, hu => by
    simp only [ER] at hu ⊢
    obtain ⟨⟨u, h1, h0, h2⟩, h3⟩ := hu
    exact ⟨⟨u, h.st _ _ _ h1, h0, VR_ext h x u h2⟩, ER_ext h xs g (o + 1) h3⟩
theorem RR_ext {w w' : World} {en en' : List CE} (h : Ext w en w' en') : ∀ (xs : List (List V)) (g o : Nat), RR w en xs g o → RR w' en' xs g o
  | [], g, o, _ => by simp [RR]
  | x :: xs, g, o, hu => by
    simp only [RR] at hu ⊢
    exact ⟨ER_ext h x g o hu.1, RR_ext h xs g _ hu.2⟩
end

/-- An entry reads as said. -/
def EOk (w : World) (en : List CE) : AE → CE → Prop
  | .glob l, .glob => ∀ p ∈ l, w.heap[p.1]? = some p.2 ∧ ∀ x ∈ en, ebl x ≠ some p.1
  | .box cs, .box g => ∃ us T, w.heap[g]? = some (.cells us T (0, 0)) ∧ LR w en cs us.toList ∧ ∀ u ∈ us.toList, u.oneCell' = true
  | .boxt T cs, .box g => ∃ us, w.heap[g]? = some (.cells us T (0, 0)) ∧ LR w en cs us.toList ∧ ∀ u ∈ us.toList, u.oneCell' = true
  | .tok ver e sz, .tok ver' v n sz' => ver = ver' ∧ sz = sz' ∧ ∃ xs, w.ownsRow 0 e sz v n xs
  | .dead, .tok _ v _ _ => ∀ g, v.ownBlock = some g → g < w.heap.size
  | .row ver e sz n cs, .row ver' v n' sz' => ver = ver' ∧ sz = sz' ∧ n = n' ∧ ∃ us, w.ownsRow 0 e sz v n us ∧ LR w en cs us ∧ ∀ u ∈ us, u.oneCell' = true
  | _, _ => False

structure Iv (σ : List AE) (en : List CE) (w : World) : Prop where
  len : en.length = σ.length
  ok : ∀ (i : Nat) (a : AE) (x : CE), σ[i]? = some a → en[i]? = some x → EOk w en a x
  dis : ∀ (i j : Nat) (x y : CE) (g : Nat), en[i]? = some x → en[j]? = some y → ebl x = some g → ebl y = some g → i = j

theorem EOk.lt {w : World} {en : List CE} {a : AE} {x : CE} (h : EOk w en a x) {g : Nat} (hg : ebl x = some g) : g < w.heap.size := by
  cases a <;> cases x <;> simp only [EOk] at h
  · cases hg
  · obtain ⟨us, T, h1, _⟩ := h
    simp only [ebl, Option.some.injEq] at hg
    subst hg
    exact (Array.getElem?_eq_some_iff.1 h1).1
  · obtain ⟨_, _, xs, h1⟩ := h
    exact (h1.lt g hg).2
  · obtain ⟨_, _, _, us, h1, _⟩ := h
    exact (h1.lt g hg).2
  · obtain ⟨us, h1, _⟩ := h
    simp only [ebl, Option.some.injEq] at hg
    subst hg
    exact (Array.getElem?_eq_some_iff.1 h1).1
  · exact h g hg

theorem Iv.lt {σ : List AE} {en : List CE} {w : World} (h : Iv σ en w) {x : CE} (hx : x ∈ en) {g : Nat} (hg : ebl x = some g) : g < w.heap.size := by
  obtain ⟨i, hi⟩ := List.getElem?_of_mem hx
  have hl : i < σ.length := by rw [← h.len]; exact (List.getElem?_eq_some_iff.1 hi).1
  exact (h.ok i _ x (List.getElem?_eq_getElem hl) hi).lt hg

/-! ### Lists of values -/
theorem LR_length {w : World} {en : List CE} : ∀ {xs : List V} {us : List Value}, LR w en xs us → us.length = xs.length
  | [], us, h => by simp only [LR] at h; simp [h]
  | x :: xs, us, h => by
    simp only [LR] at h
    obtain ⟨u, us', rfl, _, h2⟩ := h
    simp [LR_length h2]
theorem LR_get {w : World} {en : List CE} : ∀ {xs : List V} {us : List Value}, LR w en xs us → ∀ (i : Nat) (x : V), xs[i]? = some x → ∃ u, us[i]? = some u ∧ VR w en x u
  | [], us, _, i, x, hi => by simp at hi
  | y :: xs, us, h, i, x, hi => by
    simp only [LR] at h
    obtain ⟨u, us', rfl, h1, h2⟩ := h
    cases i with
    | zero => simp only [List.getElem?_cons_zero, Option.some.injEq] at hi; subst hi; exact ⟨u, rfl, h1⟩
    | succ i => simp only [List.getElem?_cons_succ] at hi ⊢; exact LR_get h2 i x hi
theorem LR_mk {w : World} {en : List CE} : ∀ {xs : List V} {us : List Value}, us.length = xs.length → (∀ (i : Nat) (x : V) (u : Value), xs[i]? = some x → us[i]? = some u → VR w en x u) → LR w en xs us
  | [], us, hl, _ => by simp only [LR]; exact List.eq_nil_of_length_eq_zero hl
  | x :: xs, [], hl, _ => by simp at hl
  | x :: xs, u :: us, hl, h => by
    simp only [LR]
    exact ⟨u, us, rfl, h 0 x u rfl rfl, LR_mk (by simpa using hl) (fun i y v hy hv => h (i + 1) y v (by simpa using hy) (by simpa using hv))⟩
theorem LR_append {w : World} {en : List CE} {xs ys : List V} {us vs : List Value} (h : LR w en xs us) (k : LR w en ys vs) : LR w en (xs ++ ys) (us ++ vs) := by
  induction xs generalizing us with
  | nil => simp only [LR] at h; subst h; exact k
  | cons x xs ih =>
    simp only [LR] at h
    obtain ⟨u, us', rfl, h1, h2⟩ := h
    simp only [List.cons_append, LR]
    exact ⟨u, us' ++ vs, rfl, h1, ih h2⟩
theorem LR_drop {w : World} {en : List CE} {xs : List V} {us : List Value} (h : LR w en xs us) (n : Nat) : LR w en (xs.drop n) (us.drop n) :=
  LR_mk (by simp [LR_length h]) (fun i x u hx hu => by
    rw [List.getElem?_drop] at hx hu
    obtain ⟨u', h1, h2⟩ := LR_get h _ x hx
    rw [h1] at hu; cases hu; exact h2)
theorem LR_take {w : World} {en : List CE} {xs : List V} {us : List Value} (h : LR w en xs us) (n : Nat) : LR w en (xs.take n) (us.take n) :=
  LR_mk (by simp [LR_length h]) (fun i x u hx hu => by
    rw [List.getElem?_take] at hx hu
    split at hx
    · rename_i hi
      rw [if_pos hi] at hu
      obtain ⟨u', h1, h2⟩ := LR_get h _ x hx
      rw [h1] at hu; cases hu; exact h2
    · cases hx)
theorem LR_set {w : World} {en : List CE} {xs : List V} {us : List Value} (h : LR w en xs us) (n : Nat) {x : V} {u : Value} (hx : VR w en x u) : LR w en (xs.set n x) (us.set n u) :=
  LR_mk (by simp [LR_length h]) (fun i y v hy hv => by
    rw [List.getElem?_set] at hy hv
    split at hy
    · rename_i hi
      subst hi
      rw [if_pos rfl] at hv
      split at hy
      · split at hv
        · cases hy; cases hv; exact hx
        · cases hv
      · cases hy
    · rename_i hi
      rw [if_neg hi] at hv
      obtain ⟨u', h1, h2⟩ := LR_get h _ y hy
      rw [h1] at hv; cases hv; exact h2)

/-! ### Cells that stay -/
theorem ER_get {w : World} {en : List CE} : ∀ {xs : List V} {g o : Nat}, ER w en xs g o → ∀ (i : Nat) (x : V), xs[i]? = some x → ∃ u, St w en g (o + i) u ∧ u.oneCell' = true ∧ VR w en x u
  | [], g, o, _, i, x, hi => by simp at hi
  | y :: xs, g, o, h, i, x, hi => by
    simp only [ER] at h
    cases i with
    | zero => simp only [List.getElem?_cons_zero, Option.some.injEq] at hi; subst hi; exact h.1
    | succ i =>
      simp only [List.getElem?_cons_succ] at hi
      have := ER_get h.2 i x hi
      rwa [show o + (i + 1) = o + 1 + i from by omega]
theorem ER_mk {w : World} {en : List CE} : ∀ {xs : List V} {g o : Nat}, (∀ (i : Nat) (x : V), xs[i]? = some x → ∃ u, St w en g (o + i) u ∧ u.oneCell' = true ∧ VR w en x u) → ER w en xs g o
  | [], g, o, _ => by simp [ER]
  | y :: xs, g, o, h => by
    simp only [ER]
    exact ⟨h 0 y rfl, ER_mk (fun i x hx => by
      have := h (i + 1) x (by simpa using hx)
      rwa [show o + (i + 1) = o + 1 + i from by omega] at this)⟩
theorem ER_drop {w : World} {en : List CE} {xs : List V} {g o : Nat} (h : ER w en xs g o) (n : Nat) : ER w en (xs.drop n) g (o + n) :=
  ER_mk (fun i x hx => by
    rw [List.getElem?_drop] at hx
    have := ER_get h _ x hx
    rwa [show o + n + i = o + (n + i) from by omega])
theorem ER_take {w : World} {en : List CE} {xs : List V} {g o : Nat} (h : ER w en xs g o) (n : Nat) : ER w en (xs.take n) g o :=
  ER_mk (fun i x hx => by
    rw [List.getElem?_take] at hx
    split at hx
    · exact ER_get h _ x hx
    · cases hx)
theorem ER_append {w : World} {en : List CE} {xs ys : List V} {g o : Nat} (h : ER w en xs g o) (k : ER w en ys g (o + xs.length)) : ER w en (xs ++ ys) g o :=
  ER_mk (fun i x hx => by
    rcases Nat.lt_or_ge i xs.length with hi | hi
    · rw [List.getElem?_append_left hi] at hx
      exact ER_get h i x hx
    · rw [List.getElem?_append_right hi] at hx
      have := ER_get k _ x hx
      rwa [show o + xs.length + (i - xs.length) = o + i from by omega] at this)
theorem RR_ER {w : World} {en : List CE} : ∀ {xs : List (List V)} {g o : Nat}, RR w en xs g o → ER w en xs.flatten g o
  | [], g, o, _ => by simp [ER]
  | x :: xs, g, o, h => by
    simp only [RR] at h
    simp only [List.flatten_cons]
    exact ER_append h.1 (RR_ER h.2)
theorem RR_mk {w : World} {en : List CE} : ∀ {xs : List (List V)} {g o : Nat}, ER w en xs.flatten g o → RR w en xs g o
  | [], g, o, _ => by simp [RR]
  | x :: xs, g, o, h => by
    simp only [RR]
    simp only [List.flatten_cons] at h
    refine ⟨?_, RR_mk ?_⟩
    · have := ER_take h x.length
      rwa [List.take_left] at this
    · have := ER_drop h x.length
      rwa [List.drop_left] at this

/-! ### Entries let go -/
def tbel (n : Nat) : Tag → Prop
  | .own k _ => k < n
  | _ => True
mutual
/-- Nothing of entries from n on. -/
def bel (n : Nat) : V → Prop
  | .sl t xs => tbel n t ∧ bels2 n xs
  | .ms b _ _ _ => b < n
  | .agg cs => bels n cs
  | .tup cs => bels n cs
  | .ptr b _ => b < n
  | .ep cs => bels n cs
  | .fn _ cs => bels n cs
  | .bool _ => True
  | .int _ _ => True
  | .str _ => True
  | .exact _ => True
  | .gd b x => b = true → bel n x
  | .rw k _ _ => k < n
  | .rs k _ _ _ => k < n
  | .rp k _ _ => k < n
  | .junk => True
def bels (n : Nat) : List V → Prop
  | [] => True
  | x :: xs => bel n x ∧ bels n xs
def bels2 (n : Nat) : List (List V) → Prop
  | [] => True
  | x :: xs => bels n x ∧ bels2 n xs
end
def sbel (n : Nat) : List AE → Prop
  | [] => True
  | .box cs :: s => bels n cs ∧ sbel n s
  | .tok _ _ _ :: s => sbel n s
  | .row _ _ _ _ cs :: s => bels n cs ∧ sbel n s
  | .boxt _ cs :: s => bels n cs ∧ sbel n s
  | .glob _ :: s => sbel n s
  | .dead :: s => sbel n s

theorem St.take {w : World} {en : List CE} {g o : Nat} {u : Value} (h : St w en g o u) (n : Nat) : St w (en.take n) g o u := ⟨h.1, fun x hx => h.2 x (List.mem_of_mem_take hx)⟩
theorem TagOk.take {en : List CE} {v : Value} {m c : Nat} {t : Tag} (h : TagOk en v m c t) {n : Nat} (hb : tbel n t) : TagOk (en.take n) v m c t := by
  cases t with
  | ro => trivial
  | nil => exact h
  | full => exact h
  | own k ver =>
    obtain ⟨cur, v0, n0, sz, h1, h2⟩ := h
    exact ⟨cur, v0, n0, sz, by rw [List.getElem?_take, if_pos (show k < n from hb)]; exact h1, h2⟩
mutual
theorem VR_take {w : World} {en : List CE} {n : Nat} : ∀ (x : V) (v : Value), VR w en x v → bel n x → VR w (en.take n) x v
  | .bool b, v, hv, _ => by simpa [VR] using hv
  | .int k m, v, hv, _ => by simpa [VR] using hv
  | .str s, v, hv, _ => by simpa [VR] using hv
  | .sl t xs, v, hv, hb => by
    simp only [VR, bel] at hv hb ⊢
    obtain ⟨A, c, h1, h2, h2', h3, h4⟩ := hv
    exact ⟨A, c, h1, h2, h2', h3.take hb.1, fun hx => by
      obtain ⟨g, o, h5, h6⟩ := h4 hx
      exact ⟨g, o, h5, RR_take xs g o h6 hb.2⟩⟩
  | .ms b off m c, v, hv, hb => by
    simp only [VR, bel] at hv hb ⊢
    obtain ⟨g, h1, h2⟩ := hv
    exact ⟨g, by rw [List.getElem?_take, if_pos hb]; exact h1, h2⟩
  | .agg cs, v, hv, hb => by
    simp only [VR, bel] at hv hb ⊢
    obtain ⟨us, h1, h2, h3⟩ := hv
    exact ⟨us, h1, LR_take' cs _ h2 hb, h3⟩
  | .tup cs, v, hv, hb => by
    simp only [VR, bel] at hv hb ⊢
    obtain ⟨us, h1, h2⟩ := hv
    exact ⟨us, h1, LR_take' cs _ h2 hb⟩
  | .ptr b off, v, hv, hb => by
    simp only [VR, bel] at hv hb ⊢
    obtain ⟨g, h1, h2⟩ := hv
    exact ⟨g, by rw [List.getElem?_take, if_pos hb]; exact h1, h2⟩
  | .ep cs, v, hv, hb => by
    simp only [VR, bel] at hv hb ⊢
    obtain ⟨g, o, h1, h2⟩ := hv
    exact ⟨g, o, h1, ER_take' cs g o h2 hb⟩
  | .fn f cs, v, hv, hb => by
    simp only [VR, bel] at hv hb ⊢
    obtain ⟨us, h1, h2⟩ := hv
    exact ⟨us, h1, LR_take' cs _ h2 hb⟩
  | .exact u, v, hv, _ => by simpa [VR] using hv
  | .gd b x, v, hv, hb => by
    simp only [VR, bel] at hv hb ⊢
    exact ⟨fun e => VR_take x v (hv.1 e) (hb e), hv.2⟩
  | .rw k ver m, v, hv, hb => by
    simp only [VR, bel] at hv hb ⊢
    obtain ⟨A, c, cur, v0, n0, sz, h1, h2, h3, h4, h5, h6⟩ := hv
    exact ⟨A, c, cur, v0, n0, sz, h1, h2, h3, h4, by rw [List.getElem?_take, if_pos hb]; exact h5, h6⟩
  | .rs k ver off m, v, hv, hb => by
    simp only [VR, bel] at hv hb ⊢
    obtain ⟨A, c, cur, v0, n0, sz, h1, h2, h3, h5, h6⟩ := hv
    exact ⟨A, c, cur, v0, n0, sz, h1, h2, h3, by rw [List.getElem?_take, if_pos hb]; exact h5, h6⟩
  | .rp k ver off, v, hv, hb => by
    simp only [VR, bel] at hv hb ⊢
    obtain ⟨g, cur, v0, n0, sz, h1, h5, h6⟩ := hv
    exact ⟨g, cur, v0, n0, sz, h1, by rw [List.getElem?_take, if_pos hb]; exact h5, h6⟩
  | .junk, v, _, _ => by simp [VR]
theorem LR_take' {w : World} {en : List CE} {n : Nat} : ∀ (xs : List V) (us : List Value), LR w en xs us → bels n xs → LR w (en.take n) xs us
  | [], us, hu, _ => by simpa [LR] using hu
  | x :: xs, us, hu, hb => by
    simp only [LR, bels] at hu hb ⊢
    obtain ⟨u, us', h1, h2, h3⟩ := hu
    exact ⟨u, us', h1, VR_take x u h2 hb.1, LR_take' xs us' h3 hb.2⟩
theorem ER_take' {w : World} {en : List CE} {n : Nat} : ∀ (xs : List V) (g o : Nat), ER w en xs g o → bels n xs → ER w (en.take n) xs g o
  | [], g, o, _, _ => by simp [ER]
  | x :: xs, g, o, hu, hb => by
    simp only [ER, bels] at hu hb ⊢
    obtain ⟨⟨u, h1, h0, h2⟩, h3⟩ := hu
    exact ⟨⟨u, h1.take n, h0, VR_take x u h2 hb.1⟩, ER_take' xs g (o + 1) h3 hb.2⟩
theorem RR_take {w : World} {en : List CE} {n : Nat} : ∀ (xs : List (List V)) (g o : Nat), RR w en xs g o → bels2 n xs → RR w (en.take n) xs g o
  | [], g, o, _, _ => by simp [RR]
  | x :: xs, g, o, hu, hb => by
    simp only [RR, bels2] at hu hb ⊢
    exact ⟨ER_take' x g o hu.1 hb.1, RR_take xs g _ hu.2 hb.2⟩
end
theorem sbel_get {n : Nat} : ∀ {s : List AE}, sbel n s → ∀ (i : Nat) (cs : List V), s[i]? = some (.box cs) → bels n cs
  | [], _, i, cs, h => by simp at h
  | .box c :: s, hs, i, cs, h => by
    simp only [sbel] at hs
    cases i with
    | zero => simp only [List.getElem?_cons_zero, Option.some.injEq, AE.box.injEq] at h; subst h; exact hs.1
    | succ i => exact sbel_get hs.2 i cs (by simpa using h)
  | .tok _ _ _ :: s, hs, i, cs, h => by
    simp only [sbel] at hs
    cases i with
    | zero => simp at h
    | succ i => exact sbel_get hs i cs (by simpa using h)
  | .row _ _ _ _ _ :: s, hs, i, cs, h => by
    simp only [sbel] at hs
    cases i with
    | zero => simp at h
    | succ i => exact sbel_get hs.2 i cs (by simpa using h)
  | .boxt _ _ :: s, hs, i, cs, h => by
    simp only [sbel] at hs
    cases i with
    | zero => simp at h
    | succ i => exact sbel_get hs.2 i cs (by simpa using h)
  | .glob _ :: s, hs, i, cs, h => by
    simp only [sbel] at hs
    cases i with
    | zero => simp at h
    | succ i => exact sbel_get hs i cs (by simpa using h)
  | .dead :: s, hs, i, cs, h => by
    simp only [sbel] at hs
    cases i with
    | zero => simp at h
    | succ i => exact sbel_get hs i cs (by simpa using h)
theorem sbel_row {n : Nat} : ∀ {s : List AE}, sbel n s → ∀ (i ver : Nat) (e : TypeId) (sz m : Nat) (cs : List V), s[i]? = some (.row ver e sz m cs) → bels n cs
  | [], _, i, _, _, _, _, cs, h => by simp at h
  | .row _ _ _ _ c :: s, hs, i, ver, e, sz, m, cs, h => by
    simp only [sbel] at hs
    cases i with
    | zero => simp only [List.getElem?_cons_zero, Option.some.injEq, AE.row.injEq] at h; obtain ⟨_, _, _, _, rfl⟩ := h; exact hs.1
    | succ i => exact sbel_row hs.2 i ver e sz m cs (by simpa using h)
  | .tok _ _ _ :: s, hs, i, ver, e, sz, m, cs, h => by
    simp only [sbel] at hs
    cases i with
    | zero => simp at h
    | succ i => exact sbel_row hs i ver e sz m cs (by simpa using h)
  | .box _ :: s, hs, i, ver, e, sz, m, cs, h => by
    simp only [sbel] at hs
    cases i with
    | zero => simp at h
    | succ i => exact sbel_row hs.2 i ver e sz m cs (by simpa using h)
  | .boxt _ _ :: s, hs, i, ver, e, sz, m, cs, h => by
    simp only [sbel] at hs
    cases i with
    | zero => simp at h
    | succ i => exact sbel_row hs.2 i ver e sz m cs (by simpa using h)
  | .glob _ :: s, hs, i, ver, e, sz, m, cs, h => by
    simp only [sbel] at hs
    cases i with
    | zero => simp at h
    | succ i => exact sbel_row hs i ver e sz m cs (by simpa using h)
  | .dead :: s, hs, i, ver, e, sz, m, cs, h => by
    simp only [sbel] at hs
    cases i with
    | zero => simp at h
    | succ i => exact sbel_row hs i ver e sz m cs (by simpa using h)
theorem sbel_boxt {n : Nat} : ∀ {s : List AE}, sbel n s → ∀ (i : Nat) (T : TypeId) (cs : List V), s[i]? = some (.boxt T cs) → bels n cs
  | [], _, i, _, cs, h => by simp at h
  | .boxt _ c :: s, hs, i, T, cs, h => by
    simp only [sbel] at hs
    cases i with
    | zero => simp only [List.getElem?_cons_zero, Option.some.injEq, AE.boxt.injEq] at h; obtain ⟨_, rfl⟩ := h; exact hs.1
    | succ i => exact sbel_boxt hs.2 i T cs (by simpa using h)
  | .row _ _ _ _ _ :: s, hs, i, T, cs, h => by
    simp only [sbel] at hs
    cases i with
    | zero => simp at h
    | succ i => exact sbel_boxt hs.2 i T cs (by simpa using h)
  | .tok _ _ _ :: s, hs, i, T, cs, h => by
    simp only [sbel] at hs
    cases i with
    | zero => simp at h
    | succ i => exact sbel_boxt hs i T cs (by simpa using h)
  | .box _ :: s, hs, i, T, cs, h => by
    simp only [sbel] at hs
    cases i with
    | zero => simp at h
    | succ i => exact sbel_boxt hs.2 i T cs (by simpa using h)
  | .glob _ :: s, hs, i, T, cs, h => by
    simp only [sbel] at hs
    cases i with
    | zero => simp at h
    | succ i => exact sbel_boxt hs i T cs (by simpa using h)
  | .dead :: s, hs, i, T, cs, h => by
    simp only [sbel] at hs
    cases i with
    | zero => simp at h
    | succ i => exact sbel_boxt hs i T cs (by simpa using h)
theorem sbel_mk {n : Nat} : ∀ {s : List AE}, (∀ (i : Nat) (cs : List V), s[i]? = some (.box cs) → bels n cs) → (∀ (i ver : Nat) (e : TypeId) (sz m : Nat) (cs : List V), s[i]? = some (.row ver e sz m cs) → bels n cs) → (∀ (i : Nat) (T : TypeId) (cs : List V), s[i]? = some (.boxt T cs) → bels n cs) → sbel n s
  | [], _, _, _ => trivial
  | x :: s, h, k, l => by
    have ih := sbel_mk (n := n) (s := s) (fun i cs hi => h (i + 1) cs (by simpa using hi)) (fun i v e z m cs hi => k (i + 1) v e z m cs (by simpa using hi)) (fun i T cs hi => l (i + 1) T cs (by simpa using hi))
    cases x with
    | box c => exact ⟨h 0 c rfl, ih⟩
    | boxt T c => exact ⟨l 0 T c rfl, ih⟩
    | row v e z m c => exact ⟨k 0 v e z m c rfl, ih⟩
    | tok _ _ _ => exact ih
    | glob _ => exact ih
    | dead => exact ih
mutual
theorem VR_bel {w : World} {en : List CE} : ∀ (x : V) (v : Value), VR w en x v → bel en.length x
  | .bool _, _, _ => trivial
  | .int _ _, _, _ => trivial
  | .str _, _, _ => trivial
  | .exact _, _, _ => trivial
  | .junk, _, _ => trivial
  | .sl t xs, v, hv => by
    simp only [VR, bel] at hv ⊢
    obtain ⟨A, c, h1, h2, h2', h3, h4⟩ := hv
    refine ⟨?_, ?_⟩
    · cases t with
      | own k ver => obtain ⟨cur, v0, n0, sz, h5, _⟩ := h3; exact (List.getElem?_eq_some_iff.1 h5).1
      | ro => trivial
      | nil => trivial
      | full => trivial
    · cases xs with
      | nil => trivial
      | cons x xs => obtain ⟨g, o, _, h6⟩ := h4 (by simp); exact RR_bel _ g o h6
  | .ms b off n c, v, hv => by
    simp only [VR, bel] at hv ⊢
    obtain ⟨g, h1, _⟩ := hv
    exact (List.getElem?_eq_some_iff.1 h1).1
  | .agg cs, v, hv => by
    simp only [VR, bel] at hv ⊢
    obtain ⟨us, _, h2, _⟩ := hv
    exact LR_bel cs _ h2
  | .tup cs, v, hv => by
    simp only [VR, bel] at hv ⊢
    obtain ⟨us, _, h2⟩ := hv
    exact LR_bel cs _ h2
  | .ptr b off, v, hv => by
    simp only [VR, bel] at hv ⊢
    obtain ⟨g, h1, _⟩ := hv
    exact (List.getElem?_eq_some_iff.1 h1).1
  | .ep cs, v, hv => by
    simp only [VR, bel] at hv ⊢
    obtain ⟨g, o, _, h1⟩ := hv
    exact ER_bel cs g o h1
  | .fn f cs, v, hv => by
    simp only [VR, bel] at hv ⊢
    obtain ⟨us, _, h2⟩ := hv
    exact LR_bel cs _ h2
  | .gd b x, v, hv => by
    simp only [VR, bel] at hv ⊢
    exact fun e => VR_bel x v (hv.1 e)
  | .rw k ver n, v, hv => by
    simp only [VR, bel] at hv ⊢
    obtain ⟨A, c, cur, v0, n0, sz, h1, h2, h3, h4, h5, h6⟩ := hv
    exact (List.getElem?_eq_some_iff.1 h5).1
  | .rs k ver off n, v, hv => by
    simp only [VR, bel] at hv ⊢
    obtain ⟨A, c, cur, v0, n0, sz, h1, h2, h3, h5, h6⟩ := hv
    exact (List.getElem?_eq_some_iff.1 h5).1
  | .rp k ver off, v, hv => by
    simp only [VR, bel] at hv ⊢
    obtain ⟨g, cur, v0, n0, sz, h1, h5, h6⟩ := hv
    exact (List.getElem?_eq_some_iff.1 h5).1
theorem LR_bel {w : World} {en : List CE} : ∀ (xs : List V) (us : List Value), LR w en xs us → bels en.length xs
  | [], _, _ => trivial
  | x :: xs, us, hu => by
    simp only [LR, bels] at hu ⊢
    obtain ⟨u, us', _, h2, h3⟩ := hu
    exact ⟨VR_bel x u h2, LR_bel xs us' h3⟩
theorem ER_bel {w : World} {en : List CE} : ∀ (xs : List V) (g o : Nat), ER w en xs g o → bels en.length xs
  | [], _, _, _ => trivial
  | x :: xs, g, o, hu => by
    simp only [ER, bels] at hu ⊢
    obtain ⟨⟨u, _, _, h2⟩, h3⟩ := hu
    exact ⟨VR_bel x u h2, ER_bel xs g (o + 1) h3⟩
theorem RR_bel {w : World} {en : List CE} : ∀ (xs : List (List V)) (g o : Nat), RR w en xs g o → bels2 en.length xs
  | [], _, _, _ => trivial
  | x :: xs, g, o, hu => by
    simp only [RR, bels2] at hu ⊢
    exact ⟨ER_bel x g o hu.1, RR_bel xs g _ hu.2⟩
end
theorem Iv.sb {σ : List AE} {en : List CE} {w : World} (h : Iv σ en w) : sbel σ.length σ := sbel_mk (fun i cs hi => by
  have hl : i < en.length := by rw [h.len]; exact (List.getElem?_eq_some_iff.1 hi).1
  have := h.ok i _ _ hi (List.getElem?_eq_getElem hl)
  cases hx : en[i] <;> rw [hx] at this <;> simp only [EOk] at this
  obtain ⟨us, T, _, h2, _⟩ := this
  rw [← h.len]
  exact LR_bel cs _ h2) (fun i ver e sz m cs hi => by
  have hl : i < en.length := by rw [h.len]; exact (List.getElem?_eq_some_iff.1 hi).1
  have := h.ok i _ _ hi (List.getElem?_eq_getElem hl)
  cases hx : en[i] <;> rw [hx] at this <;> simp only [EOk] at this
  obtain ⟨_, _, _, us, _, h2, _⟩ := this
  rw [← h.len]
  exact LR_bel cs _ h2) fun i T cs hi => by
  have hl : i < en.length := by rw [h.len]; exact (List.getElem?_eq_some_iff.1 hi).1
  have := h.ok i _ _ hi (List.getElem?_eq_getElem hl)
  cases hx : en[i] <;> rw [hx] at this <;> simp only [EOk] at this
  obtain ⟨us, _, h2, _⟩ := this
  rw [← h.len]
  exact LR_bel cs _ h2
theorem Iv.take {σ : List AE} {en : List CE} {w : World} (h : Iv σ en w) {n : Nat} (hb : sbel n (σ.take n)) : Iv (σ.take n) (en.take n) w where
  len := by simp [h.len]
  ok := fun i a x ha hx => by
    have ha' := ha
    rw [List.getElem?_take] at ha hx
    split at ha
    · rename_i hi
      rw [if_pos hi] at hx
      have := h.ok i a x ha hx
      cases a <;> cases x <;> simp only [EOk] at this ⊢
      · exact fun p hp => ⟨(this p hp).1, fun x hx => (this p hp).2 x (List.mem_of_mem_take hx)⟩
      · obtain ⟨us, T, h1, h2, h3⟩ := this
        exact ⟨us, T, h1, LR_take' _ _ h2 (sbel_get hb i _ ha'), h3⟩
      · exact this
      · obtain ⟨e1, e2, e3, us, h1, h2, h3⟩ := this
        exact ⟨e1, e2, e3, us, h1, LR_take' _ _ h2 (sbel_row hb i _ _ _ _ _ ha'), h3⟩
      · obtain ⟨us, h1, h2, h3⟩ := this
        exact ⟨us, h1, LR_take' _ _ h2 (sbel_boxt hb i _ _ ha'), h3⟩
      · exact this
    · cases ha
  dis := fun i j x y g hi hj hx hy => by
    rw [List.getElem?_take] at hi hj
    split at hi
    · split at hj
      · exact h.dis i j x y g hi hj hx hy
      · cases hj
    · cases hi
theorem Ext.take {w0 w : World} {en0 en : List CE} (h : Ext w0 en0 w en) {n : Nat} (hn : en0.length ≤ n) : Ext w0 en0 w (en.take n) where
  os := h.os
  tape := h.tape
  output := h.output
  size := h.size
  block := h.block
  st := fun g o u hs => (h.st g o u hs).take n
  ent := fun i x hx => by
    obtain ⟨x', h1, h2⟩ := h.ent i x hx
    have hi : i < en0.length := (List.getElem?_eq_some_iff.1 hx).1
    exact ⟨x', by rw [List.getElem?_take, if_pos (by omega)]; exact h1, h2⟩
  fresh := fun x' hx' => h.fresh x' (List.mem_of_mem_take hx')

/-! ### Less is said -/
def Vle (x y : V) : Prop := ∀ w en v, VR w en x v → VR w en y v
theorem Vle.refl (x : V) : Vle x x := fun _ _ _ h => h
theorem Vle.junk (x : V) : Vle x .junk := fun _ _ _ _ => by simp [VR]
theorem Vle.ro (t : Tag) (xs : List (List V)) : Vle (.sl t xs) (.sl .ro xs) := fun _ _ _ h => by
  simp only [VR] at h ⊢
  obtain ⟨A, c, h1, h2, h3, _, h4⟩ := h
  exact ⟨A, c, h1, h2, h3, trivial, h4⟩
def Lle : List V → List V → Prop
  | [], [] => True
  | x :: xs, y :: ys => Vle x y ∧ Lle xs ys
  | _, _ => False
theorem Lle.refl : ∀ xs : List V, Lle xs xs
  | [] => trivial
  | x :: xs => ⟨Vle.refl x, Lle.refl xs⟩
theorem Lle.length : ∀ {xs ys : List V}, Lle xs ys → xs.length = ys.length
  | [], [], _ => rfl
  | x :: xs, y :: ys, h => by simp [Lle.length h.2]
theorem Lle.LR {w : World} {en : List CE} : ∀ {xs ys : List V} {us : List Value}, Lle xs ys → LR w en xs us → LR w en ys us
  | [], [], us, _, h => h
  | x :: xs, y :: ys, us, hl, h => by
    simp only [A.LR] at h ⊢
    obtain ⟨u, us', h1, h2, h3⟩ := h
    exact ⟨u, us', h1, hl.1 _ _ _ h2, Lle.LR hl.2 h3⟩
theorem Vle.tup {xs ys : List V} (h : Lle xs ys) : Vle (.tup xs) (.tup ys) := fun w en v hv => by
  simp only [VR] at hv ⊢
  obtain ⟨us, h1, h2⟩ := hv
  exact ⟨us, h1, h.LR h2⟩
theorem Vle.agg {xs ys : List V} (h : Lle xs ys) : Vle (.agg xs) (.agg ys) := fun w en v hv => by
  simp only [VR] at hv ⊢
  obtain ⟨us, h1, h2, h3⟩ := hv
  exact ⟨us, h1, h.LR h2, h3⟩
theorem Lle.getD {w : World} {en : List CE} : ∀ {xs ys : List V}, Lle xs ys → ∀ (t : Nat) (v : Value), VR w en (xs.getD t .junk) v → VR w en (ys.getD t .junk) v
  | [], [], _, t, v, h => h
  | x :: xs, y :: ys, hl, 0, v, h => hl.1 _ _ _ (by simpa using h)
  | x :: xs, y :: ys, hl, t + 1, v, h => by
    simp only [List.getD_cons_succ] at h ⊢
    exact Lle.getD hl.2 t v h
def Sle : List AE → List AE → Prop
  | [], [] => True
  | .box cs :: s, .box cs' :: s' => Lle cs cs' ∧ Sle s s'
  | .tok a b c :: s, .tok a' b' c' :: s' => (a = a' ∧ b = b' ∧ c = c') ∧ Sle s s'
  | .row a b c d cs :: s, .row a' b' c' d' cs' :: s' => (a = a' ∧ b = b' ∧ c = c' ∧ d = d') ∧ Lle cs cs' ∧ Sle s s'
  | .boxt T cs :: s, .boxt T' cs' :: s' => T = T' ∧ Lle cs cs' ∧ Sle s s'
  | .glob l :: s, .glob l' :: s' => l = l' ∧ Sle s s'
  | .dead :: s, .dead :: s' => Sle s s'
  | _, _ => False
theorem Sle.refl : ∀ s : List AE, Sle s s
  | [] => trivial
  | .box cs :: s => ⟨Lle.refl cs, Sle.refl s⟩
  | .tok _ _ _ :: s => ⟨⟨rfl, rfl, rfl⟩, Sle.refl s⟩
  | .row _ _ _ _ cs :: s => ⟨⟨rfl, rfl, rfl, rfl⟩, Lle.refl cs, Sle.refl s⟩
  | .boxt _ cs :: s => ⟨rfl, Lle.refl cs, Sle.refl s⟩
  | .glob _ :: s => ⟨rfl, Sle.refl s⟩
  | .dead :: s => Sle.refl s
theorem Sle.length : ∀ {s s' : List AE}, Sle s s' → s.length = s'.length
  | [], [], _ => rfl
  | .box _ :: s, .box _ :: s', h => by simp [Sle.length h.2]
  | .tok _ _ _ :: s, .tok _ _ _ :: s', h => by simp [Sle.length h.2]
  | .row _ _ _ _ _ :: s, .row _ _ _ _ _ :: s', h => by simp [Sle.length h.2.2]
  | .boxt _ _ :: s, .boxt _ _ :: s', h => by simp [Sle.length h.2.2]
  | .glob _ :: s, .glob _ :: s', h => by simp [Sle.length h.2]
  | .dead :: s, .dead :: s', h => by simp only [Sle] at h; simp [Sle.length h]
theorem Sle.get {w : World} {en : List CE} : ∀ {s s' : List AE}, Sle s s' → ∀ (i : Nat) (a' : AE) (x : CE), s'[i]? = some a' → (∀ a, s[i]? = some a → EOk w en a x) → EOk w en a' x
  | [], [], _, i, a', x, h, _ => by simp at h
  | .box cs :: s, .box cs' :: s', hl, 0, a', x, h, k => by
    simp only [List.getElem?_cons_zero, Option.some.injEq] at h
    subst h
    have := k _ rfl
    cases x <;> simp only [EOk] at this ⊢
    obtain ⟨us, T, h1, h2, h3⟩ := this
    exact ⟨us, T, h1, hl.1.LR h2, h3⟩
  | .tok _ _ _ :: s, .tok _ _ _ :: s', hl, 0, a', x, h, k => by
    obtain ⟨⟨rfl, rfl, rfl⟩, _⟩ := hl
    exact k a' h
  | .row _ _ _ _ cs :: s, .row _ _ _ _ cs' :: s', hl, 0, a', x, h, k => by
    obtain ⟨⟨rfl, rfl, rfl, rfl⟩, hl2, _⟩ := hl
    simp only [List.getElem?_cons_zero, Option.some.injEq] at h
    subst h
    have := k _ rfl
    cases x <;> simp only [EOk] at this ⊢
    obtain ⟨e1, e2, e3, us, h1, h2, h3⟩ := this
    exact ⟨e1, e2, e3, us, h1, hl2.LR h2, h3⟩
  | .row _ _ _ _ _ :: s, .row _ _ _ _ _ :: s', hl, i + 1, a', x, h, k => Sle.get hl.2.2 i a' x (by simpa using h) (fun a ha => k a (by simpa using ha))
  | .boxt _ cs :: s, .boxt _ cs' :: s', hl, 0, a', x, h, k => by
    obtain ⟨rfl, hl2, _⟩ := hl
    simp only [List.getElem?_cons_zero, Option.some.injEq] at h
    subst h
    have := k _ rfl
    cases x <;> simp only [EOk] at this ⊢
    obtain ⟨us, h1, h2, h3⟩ := this
    exact ⟨us, h1, hl2.LR h2, h3⟩
  | .boxt _ _ :: s, .boxt _ _ :: s', hl, i + 1, a', x, h, k => Sle.get hl.2.2 i a' x (by simpa using h) (fun a ha => k a (by simpa using ha))
  | .glob _ :: s, .glob _ :: s', hl, 0, a', x, h, k => by
    obtain ⟨rfl, _⟩ := hl
    exact k a' h
  | .glob _ :: s, .glob _ :: s', hl, i + 1, a', x, h, k => Sle.get hl.2 i a' x (by simpa using h) (fun a ha => k a (by simpa using ha))
  | .dead :: s, .dead :: s', hl, 0, a', x, h, k => k a' h
  | .dead :: s, .dead :: s', hl, i + 1, a', x, h, k => Sle.get (by simpa only [Sle] using hl) i a' x (by simpa using h) (fun a ha => k a (by simpa using ha))
  | .box _ :: s, .box _ :: s', hl, i + 1, a', x, h, k => Sle.get hl.2 i a' x (by simpa using h) (fun a ha => k a (by simpa using ha))
  | .tok _ _ _ :: s, .tok _ _ _ :: s', hl, i + 1, a', x, h, k => Sle.get hl.2 i a' x (by simpa using h) (fun a ha => k a (by simpa using ha))
theorem Iv.le {σ σ' : List AE} {en : List CE} {w : World} (h : Iv σ en w) (hl : Sle σ σ') : Iv σ' en w where
  len := by rw [h.len, hl.length]
  ok := fun i a' x ha hx => hl.get i a' x ha (fun a hs => h.ok i a x hs hx)
  dis := h.dis

end Go.Proofs.YtdjjlbjagaadaaaGreatDoor.A
/- What holds of operations outside a round holds of them in a round: no operation that defers comes up where the deferred calls must stay. -/
namespace Go.Proofs.YtdjjlbjagaadaaaGreatDoor.A
open Go
set_option linter.unusedVariables false

/-- The fence of all, in a round or in none. -/
def fnc (rd : Option Nat) : Fence := { fn := fun _ => True, depth := none, alive := false, round := rd }
theorem fnc_none : fnc none = Fence.wide := rfl
theorem fnc_wide (l : Nat) : fnc (some l) = Fence.wide.inRound l := rfl
theorem wp_of_in {P : Program} {c : Code} {Q : Exit → Act → World → Prop} {a : Act} {w : World} (h : c.wpIn (fnc none) 0 P Q a w) : c.wp P Q a w := wpIn_wide.1 h
theorem callsIn_fnc {rd : Option Nat} {n : Nat} {P : Program} {f : FuncId} {args : Array Value} {w : World} {R : Ending → World → Prop} (h : Calls P f args w R) : CallsIn (fnc rd) n P f args w R :=
  callsIn_wide (n := n).2 h
theorem rowsIn_fnc {rd : Option Nat} {n : Nat} {P : Program} {row : String} {args : Array Value} {w : World} {R : Value → World → Prop} (h : Rows P row args w R) : RowsIn (fnc rd) n P row args w R :=
  fun c cs _ => let ⟨v, w', r, s⟩ := h c cs; ⟨v, w', r, stepsIn_wide.2 s⟩

/-- A loop whose relation bears a number that falls. -/
theorem wpIn_loopG {F : Fence} {rm : Nat} {P : Program} {Q : Exit → Act → World → Prop} {a : Act} {w : World} {c : Code} (I : Nat → Act → World → Prop) (n₀ : Nat) (h₀ : I n₀ a w)
    (round : ∀ n a w, I n a w → c.wpIn F rm P (Exit.then (fun a' w' => ∃ n', n' < n ∧ I n' a' w') Q) a w) : (Code.loop c).wpIn F rm P Q a w := by
  refine wpIn_loop (fun a w => ∃ n, I n a w) (fun a w => leastOf (fun n => I n a w)) ⟨n₀, h₀⟩ ?_
  intro a w hI
  refine wpIn_mono (round _ a w (leastOf_spec hI).1) ?_
  intro e a' w' hq
  cases e with
  | normal =>
    obtain ⟨n', hlt, hI'⟩ := hq
    exact show (∃ n, I n a' w') ∧ leastOf (fun n => I n a' w') < leastOf (fun n => I n a w) from ⟨⟨n', hI'⟩, Nat.lt_of_le_of_lt ((leastOf_spec ⟨n', hI'⟩).2 n' hI') hlt⟩
  | exit id => exact hq
  | goto l => exact hq
  | ret => exact hq
  | panic ch => exact hq
  | outgrown => exact hq

section
variable {P : Program} {ops : Array Oper} {Q : Exit → Act → World → Prop} {N : Nat}
/-- What Q lets out: no more deferred calls than N, nothing outgrown. -/
def Few (N : Nat) (Q : Exit → Act → World → Prop) : Prop := ∀ e a w, Q e a w → e ≠ .outgrown ∧ a.defers.length ≤ N
theorem Few.out (h : Few N Q) : ¬ LetsOut Q := fun ⟨a, w, hq⟩ => (h _ _ _ hq).1 rfl
theorem put_defers (a : Act) (dst : Option Tmp) (v : Value) : (a.put dst v).defers = a.defers := by cases dst <;> rfl
theorem Oper_no (hQ : Few N Q) {o : Oper} {a : Act} {w : World} {K : Act → World → Prop} (hK : ∀ a w, N < a.defers.length → ¬ K a w) (hd : N < a.defers.length) : ¬ o.wp P a w K Q := by
  intro h
  unfold Oper.wp at h
  generalize (execOp a.eval o).run P w = r at h
  cases r with
  | ok n w' =>
    cases n <;> simp only [Oper.upon] at h
    case value v => exact hK _ _ (by rw [put_defers]; exact hd) h
    case skip => exact hK _ _ (by rw [put_defers]; exact hd) h
    case defer d => exact hK _ _ (by rw [put_defers]; simp; omega) h
    case enter f args =>
      obtain ⟨e, w'', fr, he, _⟩ := h []
      cases e with
      | returned v => exact hK _ _ (by rw [put_defers]; exact hd) he
      | panicked c => have := (hQ _ _ _ he).2; omega
      | outgrown => exact hQ.out he
    case row row args =>
      obtain ⟨v, w'', he, _⟩ := h (Frame.enter P 0 #[] .normal) []
      exact hK _ _ (by rw [put_defers]; exact hd) he
  | halt x w' =>
    cases x <;> simp only [Oper.upon] at h
    case panic v => have := (hQ _ _ _ h).2; omega
theorem list_no (hQ : Few N Q) : ∀ (l : List Oper) (a : Act) (w : World), N < a.defers.length → ¬ wpList P ops Q l a w
  | [], a, w, hd, h => by have := (hQ _ _ _ h).2; omega
  | o :: rest, a, w, hd, h => by
    unfold wpList at h
    split at h
    · rcases h with h | ⟨_, h⟩
      · exact Oper_no hQ (fun a w hd => list_no hQ rest a w hd) hd h
      · exact hQ.out h
    · exact list_no hQ rest _ _ (by rw [put_defers]; exact hd) h
theorem any_no (hQ : Few N Q) {md : Region.Mode} : ∀ (fuel : Nat) (listed : Array Bool) (a : Act) (w : World), N < a.defers.length → ¬ wpAny P md ops Q fuel listed a w
  | 0, _, a, w, hd, h => by have := (hQ _ _ _ h.2).2; omega
  | fuel + 1, listed, a, w, hd, h => by
    cases hr : Region.ready md ops listed with
    | nil => have := (hQ _ _ _ (h.1 hr)).2; omega
    | cons i r =>
      have hi := h.2 i (by rw [hr]; exact List.mem_cons_self)
      unfold wpOp at hi
      split at hi
      · exact any_no hQ fuel _ a w hd hi
      · split at hi
        · rcases hi with hi | ⟨_, hi⟩
          · exact Oper_no hQ (fun a w hd => any_no hQ fuel _ a w hd) hd hi
          · exact hQ.out hi
        · exact any_no hQ fuel _ _ _ (by rw [put_defers]; exact hd) hi
theorem Oper_in (rd : Option Nat) (hQ : Few N Q) {o : Oper} {a : Act} {w : World} {K K' : Act → World → Prop} (hK : ∀ a w, N < a.defers.length → ¬ K a w) (hk : ∀ a w, a.defers.length = N → K a w → K' a w) (hd : a.defers.length = N) (h : o.wp P a w K Q) : o.wpIn (fnc rd) 0 P a w K' Q := by
  refine ⟨fun _ _ => trivial, ?_⟩
  have key : (Oper.semAt (fnc rd).round a.eval o).run P w = (execOp a.eval o).run P w → o.uponIn (fnc rd) 0 P a K' Q ((o.semAt (fnc rd).round a.eval).run P w) := fun e => by
    rw [e]
    unfold Oper.wp at h
    generalize (execOp a.eval o).run P w = r at h
    cases r with
    | ok n w' =>
      cases n <;> simp only [Oper.upon] at h <;> simp only [Oper.uponIn]
      case value v => exact hk _ _ (by rw [put_defers]; exact hd) h
      case skip => exact hk _ _ (by rw [put_defers]; exact hd) h
      case defer d => exact absurd h (hK _ _ (by rw [put_defers]; simp; omega))
      case enter f args =>
        refine ⟨fun h => (by cases h), callsIn_fnc (h.mono fun e w'' he => ?_)⟩
        cases e with
        | returned v => exact hk _ _ (by rw [put_defers]; exact hd) he
        | panicked c => exact he
        | outgrown => exact he
      case row row args => exact ⟨fun h => (by cases h), rowsIn_fnc (h.mono fun v w'' he => hk _ _ (by rw [put_defers]; exact hd) he)⟩
    | halt x w' =>
      cases x <;> simp only [Oper.upon] at h <;> simp only [Oper.uponIn]
      case panic v => exact h
  by_cases hdef : ∃ c, o.op = .defer c
  · obtain ⟨c, ho⟩ := hdef
    cases rd with
    | none => exact key rfl
    | some l =>
      unfold Oper.wp at h
      have e1 : (execOp a.eval o).run P w = ((resolve a.eval c o.type >>= fun d => pure (Next.defer d) : Sem Next)).run P w := by
        unfold execOp
        rw [ho]
      have e2 : (Oper.semAt (fnc (some l)).round a.eval o).run P w = ((resolve a.eval c o.type >>= fun d => (Instr.deferInRound l d >>= fun _ => pure Next.skip) : Sem Next)).run P w := by
        show (Oper.semAt (some l) a.eval o).run P w = _
        unfold Oper.semAt
        rw [ho]
      rw [e1] at h
      rw [e2]
      rw [Sem.run_bind] at h ⊢
      cases hr : (resolve a.eval c o.type).run P w with
      | ok d w' =>
        rw [hr] at h
        simp only [Result.andThen, Sem.run_pure, Oper.upon] at h
        exact absurd h (hK _ _ (by rw [put_defers]; simp; omega))
      | halt x w' =>
        rw [hr] at h
        simp only [Result.andThen] at h ⊢
        cases x <;> simp only [Oper.upon] at h <;> simp only [Oper.uponIn]
        case panic v => exact h
  · exact key (by rw [Oper.semAt_eq _ _ _ fun c hc => hdef ⟨c, hc⟩])
theorem list_in (rd : Option Nat) (hQ : Few N Q) : ∀ (l : List Oper) (a : Act) (w : World), a.defers.length = N → wpList P ops Q l a w → wpListIn (fnc rd) 0 P ops Q l a w
  | [], a, w, hd, h => h
  | o :: rest, a, w, hd, h => by
    unfold wpList at h
    unfold wpListIn
    split
    · rename_i hw
      rw [if_pos hw] at h
      rcases h with h | ⟨_, h⟩
      · exact Oper_in rd hQ (fun a w hd => list_no hQ rest a w hd) (fun a w hd h => list_in rd hQ rest a w hd h) hd h
      · exact absurd h hQ.out
    · rename_i hw
      rw [if_neg hw] at h
      exact ⟨fun _ _ => trivial, list_in rd hQ rest _ _ (by rw [put_defers]; exact hd) h⟩
theorem any_in (rd : Option Nat) (hQ : Few N Q) {md : Region.Mode} : ∀ (fuel : Nat) (listed : Array Bool) (a : Act) (w : World), a.defers.length = N → wpAny P md ops Q fuel listed a w → wpAnyIn (fnc rd) 0 P md ops Q fuel listed a w
  | 0, _, a, w, hd, h => h
  | fuel + 1, listed, a, w, hd, h => by
    refine ⟨h.1, fun i hi => ?_⟩
    have h := h.2 i hi
    unfold wpOp at h
    unfold wpOpIn
    cases ho : ops[i]? with
    | none => simp only [ho] at h; exact any_in rd hQ fuel _ a w hd h
    | some o =>
      simp only [ho] at h
      simp only
      split
      · rename_i hw
        rw [if_pos hw] at h
        rcases h with h | ⟨_, h⟩
        · exact Oper_in rd hQ (fun a w hd => any_no hQ fuel _ a w hd) (fun a w hd h => any_in rd hQ fuel _ a w hd h) hd h
        · exact absurd h hQ.out
      · rename_i hw
        rw [if_neg hw] at h
        exact ⟨fun _ _ => trivial, any_in rd hQ fuel _ _ _ (by rw [put_defers]; exact hd) h⟩
end
end Go.Proofs.YtdjjlbjagaadaaaGreatDoor.A
/- The rules of the logic: frames, operations, code, calls. -/
namespace Go.Proofs.YtdjjlbjagaadaaaGreatDoor.A
open Go Go.RowKit
set_option linter.unusedVariables false

/-! ### Frames -/
def cv : Value → V
  | .bool b => .bool b
  | .int k n => .int k n
  | .string s => .str s.data.toList
  | .slice none 0 0 => .sl .nil []
  | v => .exact v
theorem VR_cv (w : World) (en : List CE) (v : Value) : VR w en (cv v) v := by
  unfold cv
  split <;> first | (simp [VR, TagOk, maxLen]; done) | exact ⟨none, 0, rfl, Nat.le_refl _, Nat.zero_le _, rfl, fun h => absurd rfl h⟩

def gv (fr : List V) : Operand → V
  | .tmp t => fr.getD t .junk
  | .const v => cv v
  | .global g => .exact (.pointer (some ⟨g, 0, none⟩))
  | .func f => .fn f []

def tmpsOf (o : Op) : List Tmp := o.operands.toList.filterMap fun | .tmp t => some t | _ => none
def FRon (w : World) (en : List CE) (fr : List V) (a : Act) (ts : List Tmp) : Prop := ∀ t ∈ ts, VR w en (fr.getD t .junk) (a.tmps.getD t undef)
def FR (w : World) (en : List CE) (fr : List V) (a : Act) : Prop := fr.length = a.tmps.size ∧ ∀ t, VR w en (fr.getD t .junk) (a.tmps.getD t undef)
theorem FR.on {w : World} {en : List CE} {fr : List V} {a : Act} (h : FR w en fr a) (ts : List Tmp) : FRon w en fr a ts := fun t _ => h.2 t
theorem FR.ext {w w' : World} {en en' : List CE} {fr : List V} {a : Act} (h : FR w en fr a) (he : Ext w en w' en') : FR w' en' fr a := ⟨h.1, fun t => VR_ext he _ _ (h.2 t)⟩
theorem FRon.ext {w w' : World} {en en' : List CE} {fr : List V} {a : Act} {ts : List Tmp} (h : FRon w en fr a ts) (he : Ext w en w' en') : FRon w' en' fr a ts := fun t ht => VR_ext he _ _ (h t ht)

def pt (fr : List V) (dst : Option Tmp) (x : V) : List V := match dst with
  | some d => fr.set d x
  | none => fr
theorem FR.put {w : World} {en : List CE} {fr : List V} {a : Act} (h : FR w en fr a) {x : V} {v : Value} (hx : VR w en x v) (dst : Option Tmp) : FR w en (pt fr dst x) (a.put dst v) := by
  cases dst with
  | none => exact h
  | some d =>
    refine ⟨by simp [pt, Act.put, h.1], fun t => ?_⟩
    have ht := h.2 t
    simp only [pt, Act.put]
    by_cases hd : d = t
    · subst hd
      by_cases hl : d < a.tmps.size
      · simp only [List.getD_eq_getElem?_getD, List.getElem?_set, h.1, hl, if_true, Option.getD_some, Array.getD_eq_getD_getElem?, Array.getElem?_setIfInBounds_self_of_lt hl]
        exact hx
      · have h1 : (fr.set d x).getD d V.junk = V.junk := by simp [List.getD_eq_getElem?_getD, h.1, hl]
        rw [h1]
        simp [VR]
    · simp only [List.getD_eq_getElem?_getD, List.getElem?_set, hd, if_false, Array.getD_eq_getD_getElem?, Array.getElem?_setIfInBounds_ne hd] at ht ⊢
      exact ht
theorem gv_ok {w : World} {en : List CE} {fr : List V} {a : Act} {ts : List Tmp} (h : FRon w en fr a ts) (x : Operand) (hx : ∀ t, x = .tmp t → t ∈ ts) : VR w en (gv fr x) (a.eval x) := by
  cases x with
  | tmp t => exact h t (hx t rfl)
  | const v => exact VR_cv w en v
  | global g => simp [gv, VR, Act.eval]
  | func f => simp [gv, VR, Act.eval, LR]
theorem gv_ops {w : World} {en : List CE} {fr : List V} {a : Act} {o : Op} (h : FRon w en fr a (tmpsOf o)) (x : Operand) (hx : x ∈ o.operands) : VR w en (gv fr x) (a.eval x) :=
  gv_ok h x fun t ht => by
    subst ht
    exact List.mem_filterMap.2 ⟨.tmp t, by simpa using hx, rfl⟩

/-! ### What comes out of code -/
inductive AX where
  | normal | ret | exit (id : Nat) | goto (l : Nat) | panic (x : V)
def XR (w : World) (en : List CE) : AX → Exit → Prop
  | .normal, e => e = .normal
  | .ret, e => e = .ret
  | .exit id, e => e = .exit id
  | .goto l, e => e = .goto l
  | .panic x, e => ∃ v, e = .panic [{ v := v, recovered := false }] ∧ VR w en x v
abbrev APost := AX → List V → List AE → Prop

def LQ (ds : List Deferred) (Q : APost) (w : World) (en : List CE) : Exit → Act → World → Prop := fun e a' w' =>
  ∃ ax fr' σ' en', Q ax fr' σ' ∧ XR w' en' ax e ∧ Iv σ' en' w' ∧ FR w' en' fr' a' ∧ a'.defers = ds ∧ Ext w en w' en'
theorem LQ_ext {ds : List Deferred} {Q : APost} {w0 w : World} {en0 en : List CE} (h : Ext w0 en0 w en) {e : Exit} {a' : Act} {w' : World} (hq : LQ ds Q w en e a' w') : LQ ds Q w0 en0 e a' w' := by
  obtain ⟨ax, fr', σ', en', h1, h2, h3, h4, h5, h6⟩ := hq
  exact ⟨ax, fr', σ', en', h1, h2, h3, h4, h5, h.trans h6⟩

theorem LQ_few (ds : List Deferred) (Q : APost) (w : World) (en : List CE) : Few ds.length (LQ ds Q w en) := fun e a' w' hq => by
  obtain ⟨ax, fr', σ', en', h1, h2, h3, h4, h5, h6⟩ := hq
  refine ⟨fun he => ?_, by rw [h5]; exact Nat.le_refl _⟩
  subst he
  cases ax <;> simp [XR] at h2

def AWP (rn : Option Nat) (P : Program) (c : Code) (Q : APost) (fr : List V) (σ : List AE) : Prop :=
  ∀ (a : Act) (w : World) (en : List CE), Iv σ en w → FR w en fr a → ∀ {ds : List Deferred}, a.defers = ds → c.wpIn (fnc rn) 0 P (LQ ds Q w en) a w
def AOps (P : Program) (ops : Array Oper) (Q : APost) (l : List Oper) (fr : List V) (σ : List AE) : Prop :=
  ∀ (a : Act) (w : World) (en : List CE), Iv σ en w → FR w en fr a → ∀ {ds : List Deferred}, a.defers = ds → wpList P ops (LQ ds Q w en) l a w

section
variable {P : Program}
theorem Oper_wpQ {o : Oper} {a : Act} {w : World} {K K' : Act → World → Prop} {Q Q' : Exit → Act → World → Prop} (hk : ∀ a w, K a w → K' a w) (hq : ∀ e a w, Q e a w → Q' e a w) (h : o.wp P a w K Q) : o.wp P a w K' Q' := by
  unfold Oper.wp at *
  generalize (execOp a.eval o).run P w = r at *
  cases r with
  | ok n w' =>
    cases n <;> simp only [Oper.upon] at h ⊢
    case value v => exact hk _ _ h
    case skip => exact hk _ _ h
    case defer d => exact hk _ _ h
    case enter f args =>
      refine Calls.mono h fun e w'' he => ?_
      cases e with
      | returned v => exact hk _ _ he
      | panicked c => exact hq _ _ _ he
      | outgrown => obtain ⟨a0, w0, h0⟩ := he; exact ⟨a0, w0, hq _ _ _ h0⟩
    case row row args => exact Rows.mono h fun _ _ he => hk _ _ he
  | halt x w' =>
    cases x <;> simp only [Oper.upon] at h ⊢
    case panic v => exact hq _ _ _ h
theorem wpList_mono {ops : Array Oper} {Q Q' : Exit → Act → World → Prop} (hq : ∀ e a w, Q e a w → Q' e a w) : ∀ (l : List Oper) (a : Act) (w : World), wpList P ops Q l a w → wpList P ops Q' l a w
  | [], a, w, h => hq _ _ _ h
  | o :: rest, a, w, h => by
    unfold wpList at *
    split
    · rename_i hw
      rw [if_pos hw] at h
      rcases h with h | ⟨h1, a0, w0, h2⟩
      · exact .inl (Oper_wpQ (fun a w h => wpList_mono hq rest a w h) hq h)
      · exact .inr ⟨h1, a0, w0, hq _ _ _ h2⟩
    · rename_i hw
      rw [if_neg hw] at h
      exact wpList_mono hq rest _ _ h
end

section
variable {rn : Option Nat} {P : Program} {Q : APost} {fr : List V} {σ : List AE}

theorem AWP_mono {Q' : APost} {c : Code} (hq : ∀ ax fr σ, Q ax fr σ → Q' ax fr σ) (h : AWP rn P c Q fr σ) : AWP rn P c Q' fr σ := fun a w en hi hf {_} hd =>
  Code.wpIn_mono (fun e a' w' hl => by
    obtain ⟨ax, fr', σ', en', h1, h2⟩ := hl
    exact ⟨ax, fr', σ', en', hq _ _ _ h1, h2⟩) (h a w en hi hf hd)
theorem AWP_skip (h : Q .normal fr σ) : AWP rn P .skip Q fr σ := fun _ w en hi hf {_} hd => wpIn_skip ⟨.normal, fr, σ, en, h, rfl, hi, hf, hd, Ext.refl w en⟩
theorem AWP_ret (h : Q .ret fr σ) : AWP rn P .ret Q fr σ := fun _ w en hi hf {_} hd => wpIn_ret ⟨.ret, fr, σ, en, h, rfl, hi, hf, hd, Ext.refl w en⟩
theorem AWP_exit {id : Nat} (h : Q (.exit id) fr σ) : AWP rn P (.exit id) Q fr σ := fun _ w en hi hf {_} hd => wpIn_exit ⟨.exit id, fr, σ, en, h, rfl, hi, hf, hd, Ext.refl w en⟩

def thenA (next : List V → List AE → Prop) (Q : APost) : APost
  | .normal, fr, σ => next fr σ
  | ax, fr, σ => Q ax fr σ
theorem AWP_seq {x y : Code} (h : AWP rn P x (thenA (AWP rn P y Q) Q) fr σ) : AWP rn P (.seq x y) Q fr σ := fun a w en hi hf {_} hd => by
  refine wpIn_seq (Code.wpIn_mono (fun e a' w' hl => ?_) (h a w en hi hf hd))
  obtain ⟨ax, fr', σ', en', h1, h2, h3, h4, h5, h6⟩ := hl
  cases ax with
  | normal =>
    obtain rfl : e = .normal := h2
    exact Code.wpIn_mono (fun _ _ _ hq => LQ_ext h6 hq) (h1 a' w' en' h3 h4 h5)
  | ret => obtain rfl : e = .ret := h2; exact ⟨.ret, fr', σ', en', h1, rfl, h3, h4, h5, h6⟩
  | exit id => obtain rfl : e = .exit id := h2; exact ⟨.exit id, fr', σ', en', h1, rfl, h3, h4, h5, h6⟩
  | goto l => obtain rfl : e = .goto l := h2; exact ⟨.goto l, fr', σ', en', h1, rfl, h3, h4, h5, h6⟩
  | panic x => obtain ⟨v, rfl, hv⟩ := h2; exact ⟨.panic x, fr', σ', en', h1, ⟨v, rfl, hv⟩, h3, h4, h5, h6⟩

theorem AWP_cond {c : Operand} {x y : Code} {t : Bool} (hc : gv fr c = .bool t) (h1 : t = true → AWP rn P x Q fr σ) (h2 : t = false → AWP rn P y Q fr σ) : AWP rn P (.cond c x y) Q fr σ := fun a w en hi hf {_} hd => by
  have hv := gv_ok (hf.on (match c with | .tmp t => [t] | _ => [])) c (fun t ht => by subst ht; simp)
  rw [hc] at hv
  simp only [VR] at hv
  exact wpIn_cond_split hv (fun e => h1 e a w en hi hf hd) (fun e => h2 e a w en hi hf hd)

def inBlockA (id : Nat) (Q : APost) : APost
  | .exit id', fr, σ => if id' = id then Q .normal fr σ else Q (.exit id') fr σ
  | ax, fr, σ => Q ax fr σ
theorem AWP_block {id : Nat} {c : Code} (h : AWP rn P c (inBlockA id Q) fr σ) : AWP rn P (.block id c) Q fr σ := fun a w en hi hf {_} hd => by
  refine wpIn_block (Code.wpIn_mono (fun e a' w' hl => ?_) (h a w en hi hf hd))
  obtain ⟨ax, fr', σ', en', h1, h2, h3⟩ := hl
  cases ax with
  | normal => obtain rfl : e = .normal := h2; exact ⟨.normal, fr', σ', en', h1, rfl, h3⟩
  | ret => obtain rfl : e = .ret := h2; exact ⟨.ret, fr', σ', en', h1, rfl, h3⟩
  | exit id' =>
    obtain rfl : e = .exit id' := h2
    simp only [inBlockA] at h1
    simp only [Exit.inBlock]
    split
    · rename_i hid; rw [if_pos hid] at h1; exact ⟨.normal, fr', σ', en', h1, rfl, h3⟩
    · rename_i hid; rw [if_neg hid] at h1; exact ⟨.exit id', fr', σ', en', h1, rfl, h3⟩
  | goto l => obtain rfl : e = .goto l := h2; exact ⟨.goto l, fr', σ', en', h1, rfl, h3⟩
  | panic x => obtain ⟨v, rfl, hv⟩ := h2; exact ⟨.panic x, fr', σ', en', h1, ⟨v, rfl, hv⟩, h3⟩

/-- The state (fr, σ) is at least (F, S) ++ entries that are let go. -/
structure Sub (fr : List V) (σ : List AE) (F : List V) (S : List AE) : Prop where
  f : Lle fr F
  s : ∃ S', Sle σ S' ∧ S = S'.take S.length ∧ (S.length < S'.length → bels S.length F ∧ sbel S.length S)
theorem Sub.same {fr : List V} {σ : List AE} {F : List V} (h : Lle fr F) : Sub fr σ F σ := ⟨h, σ, Sle.refl σ, by simp, fun h => absurd h (by omega)⟩
theorem Sub.refl (fr : List V) (σ : List AE) : Sub fr σ fr σ := .same (Lle.refl fr)
theorem Sub.drop {fr F : List V} {S τ : List AE} (h : Lle fr F) (hb : bels S.length F) (hs : sbel S.length S) : Sub fr (S ++ τ) F S :=
  ⟨h, S ++ τ, Sle.refl _, by simp, fun _ => ⟨hb, hs⟩⟩
theorem bels_get {n : Nat} : ∀ {xs : List V}, bels n xs → ∀ t, bel n (xs.getD t .junk)
  | [], _, t => by simp [bel]
  | x :: xs, h, 0 => h.1
  | x :: xs, h, t + 1 => by simpa using bels_get h.2 t
theorem Sub.ok {fr : List V} {σ : List AE} {F : List V} {S : List AE} (h : Sub fr σ F S) {w0 w : World} {en0 en : List CE} {a : Act} (hi : Iv σ en w) (hf : FR w en fr a) (he : Ext w0 en0 w en) (hn : en0.length ≤ S.length) :
    ∃ en', Iv S en' w ∧ FR w en' F a ∧ Ext w0 en0 w en' := by
  obtain ⟨S', h1, h2, h3⟩ := h.s
  have hf' : FR w en F a := ⟨by rw [← hf.1, h.f.length], fun t => h.f.getD t _ (hf.2 t)⟩
  have hi' := hi.le h1
  by_cases hlt : S.length < S'.length
  · obtain ⟨hb, hs⟩ := h3 hlt
    refine ⟨en.take S.length, ?_, ⟨hf'.1, fun t => VR_take _ _ (hf'.2 t) (bels_get hb t)⟩, he.take hn⟩
    have := hi'.take (n := S.length) (by rw [← h2]; exact hs)
    rwa [← h2] at this
  · have : S = S' := by rw [h2]; exact List.take_of_length_le (by omega)
    subst this
    exact ⟨en, hi', hf', he⟩

/-- A sequence, with less said between. -/
theorem AWP_seqW {x y : Code} (h : AWP rn P x (thenA (fun fr' σ' => ∃ F S, σ.length ≤ S.length ∧ Sub fr' σ' F S ∧ AWP rn P y Q F S) Q) fr σ) : AWP rn P (.seq x y) Q fr σ := fun a w en hi hf {_} hd => by
  refine wpIn_seq (Code.wpIn_mono (fun e a' w' hl => ?_) (h a w en hi hf hd))
  obtain ⟨ax, fr', σ', en', h1, h2, h3, h4, h5, h6⟩ := hl
  cases ax with
  | normal =>
    obtain rfl : e = .normal := h2
    obtain ⟨F, S, hn, hs, hy⟩ := h1
    obtain ⟨en'', h3', h4', h6'⟩ := hs.ok h3 h4 h6 (by rw [hi.len]; exact hn)
    exact Code.wpIn_mono (fun _ _ _ hq => LQ_ext h6' hq) (hy a' w' en'' h3' h4' h5)
  | ret => obtain rfl : e = .ret := h2; exact ⟨.ret, fr', σ', en', h1, rfl, h3, h4, h5, h6⟩
  | exit id => obtain rfl : e = .exit id := h2; exact ⟨.exit id, fr', σ', en', h1, rfl, h3, h4, h5, h6⟩
  | goto l => obtain rfl : e = .goto l := h2; exact ⟨.goto l, fr', σ', en', h1, rfl, h3, h4, h5, h6⟩
  | panic x => obtain ⟨v, rfl, hv⟩ := h2; exact ⟨.panic x, fr', σ', en', h1, ⟨v, rfl, hv⟩, h3, h4, h5, h6⟩

/-- Less is said of the frame. -/
theorem AWP_le {c : Code} {F : List V} (hl : Lle fr F) (h : AWP rn P c Q F σ) : AWP rn P c Q fr σ := fun a w en hi hf {_} hd =>
  h a w en hi ⟨by rw [← hf.1, hl.length], fun t => hl.getD t _ (hf.2 t)⟩ hd
theorem AOps_le {ops : Array Oper} {l : List Oper} {F : List V} (hl : Lle fr F) (h : AOps P ops Q l F σ) : AOps P ops Q l fr σ := fun a w en hi hf {_} hd =>
  h a w en hi ⟨by rw [← hf.1, hl.length], fun t => hl.getD t _ (hf.2 t)⟩ hd

/-- A loop by what its heads look like: F, S over a ghost x; m falls. -/
theorem AWP_loop {c : Code} {α : Type} (F : α → List V) (S : α → List AE) (m : α → Nat) (x0 : α) (h0 : Sub fr σ (F x0) (S x0)) (hS : ∀ x, σ.length ≤ (S x).length)
    (round : ∀ x, AWP rn P c (thenA (fun fr' σ' => ∃ x', m x' < m x ∧ Sub fr' σ' (F x') (S x')) Q) (F x) (S x)) : AWP rn P (.loop c) Q fr σ := fun a w en hi hf {ds} hd => by
  refine wpIn_loopG (fun n a1 w1 => ∃ x1 en1, m x1 = n ∧ Iv (S x1) en1 w1 ∧ FR w1 en1 (F x1) a1 ∧ a1.defers = ds ∧ Ext w en w1 en1) (m x0) ?_ ?_
  · obtain ⟨en', h1, h2, h3⟩ := h0.ok hi hf (Ext.refl w en) (by rw [hi.len]; exact hS x0)
    exact ⟨x0, en', rfl, h1, h2, hd, h3⟩
  · rintro n a1 w1 ⟨x1, en1, hm, h1, h2, h3, h4⟩
    refine Code.wpIn_mono (fun e a' w' hl => ?_) (round x1 a1 w1 en1 h1 h2 h3)
    obtain ⟨ax, fr', σ', en', k1, k2, k3, k4, k5, k6⟩ := hl
    cases ax with
    | normal =>
      obtain rfl : e = .normal := k2
      obtain ⟨x', hlt, hs⟩ := k1
      obtain ⟨en'', j1, j2, j3⟩ := hs.ok k3 k4 (h4.trans k6) (by rw [hi.len]; exact hS x')
      exact ⟨m x', by omega, x', en'', rfl, j1, j2, k5, j3⟩
    | ret => obtain rfl : e = .ret := k2; exact ⟨.ret, fr', σ', en', k1, rfl, k3, k4, k5, h4.trans k6⟩
    | exit id => obtain rfl : e = .exit id := k2; exact ⟨.exit id, fr', σ', en', k1, rfl, k3, k4, k5, h4.trans k6⟩
    | goto l => obtain rfl : e = .goto l := k2; exact ⟨.goto l, fr', σ', en', k1, rfl, k3, k4, k5, h4.trans k6⟩
    | panic x => obtain ⟨v, rfl, hv⟩ := k2; exact ⟨.panic x, fr', σ', en', k1, ⟨v, rfl, hv⟩, k3, k4, k5, h4.trans k6⟩

/-! ### Regions in order -/
theorem AWP_region {id : Nat} {l : List Oper} (h : AOps P l.toArray Q l fr σ) : AWP rn P (.region id l.toArray false) Q fr σ := fun a w en hi hf {_} hd => wpIn_region_lit (list_in rn (LQ_few _ _ _ _) _ _ _ (by rw [hd]) (h a w en hi hf hd))
theorem AOps_nil {ops : Array Oper} (h : Q .normal fr σ) : AOps P ops Q [] fr σ := fun _ w en hi hf {_} hd => wpList_nil ⟨.normal, fr, σ, en, h, rfl, hi, hf, hd, Ext.refl w en⟩

/-- An operation that is no call of code: it comes to x, σ'. -/
def OpOk (P : Program) (σ : List AE) (fr : List V) (o : Oper) (x : V) (σ' : List AE) : Prop :=
  ∀ (a : Act) (w : World) (en : List CE), Iv σ en w → FRon w en fr a (tmpsOf o.op) →
    Oper.wp P o a w (fun a' w' => ∃ v en', a' = a.put o.dst v ∧ VR w' en' x v ∧ Iv σ' en' w' ∧ Ext w en w' en') (fun _ _ _ => False)
theorem AOps_op {ops : Array Oper} {o : Oper} {rest : List Oper} {x : V} {σ' : List AE} (hg : o.guard = none) (ho : OpOk P σ fr o x σ') (h : AOps P ops Q rest (pt fr o.dst x) σ') : AOps P ops Q (o :: rest) fr σ := fun a w en hi hf {_} hd => by
  refine wpList_plain hg fun K hK => ?_
  refine Oper_wpQ (fun a' w' hk => ?_) (fun _ _ _ hq => hq.elim) (ho a w en hi (hf.on _))
  obtain ⟨v, en', rfl, h1, h2, h3⟩ := hk
  refine hK _ _ (wpList_mono (fun _ _ _ hq => LQ_ext h3 hq) _ _ _ (h _ w' en' h2 ((hf.ext h3).put h1 _) ?_))
  cases o.dst <;> simpa [Act.put] using hd
/-- The operation's guard: whether it is carried out. -/
def gdB (ops : Array Oper) (fr : List V) (o : Oper) : Option Bool := match o.guard with
  | none => some true
  | some (j, want) => match (ops[j]?).bind (·.dst) with
    | some d => match fr.getD d .junk with
      | .bool b => some (bif want then b else !b)
      | .gd g (.bool b) => some (g && bif want then b else !b)
      | _ => none
    | none => none
theorem yielded_of {ops : Array Oper} {j d : Nat} {tmps : Array Value} (hd : (ops[j]?).bind (·.dst) = some d) {b : Bool} (hv : tmps.getD d undef = .bool b) : yielded ops tmps j = some b := by
  unfold yielded
  rw [hd]
  by_cases hl : d < tmps.size
  · simp only [Array.getD_eq_getD_getElem?, Array.getElem?_eq_getElem hl, Option.getD_some] at hv
    simp [Array.getElem?_eq_getElem hl, hv]
  · simp [undef, hl] at hv
theorem yielded_undef {ops : Array Oper} {j d : Nat} {tmps : Array Value} (hd : (ops[j]?).bind (·.dst) = some d) (hv : tmps.getD d undef = undef) : yielded ops tmps j = none := by
  unfold yielded
  rw [hd]
  by_cases hl : d < tmps.size
  · simp only [Array.getD_eq_getD_getElem?, Array.getElem?_eq_getElem hl, Option.getD_some] at hv
    simp [Array.getElem?_eq_getElem hl, hv, undef]
  · simp [hl]
theorem gdB_ok {ops : Array Oper} {o : Oper} {w : World} {en : List CE} {a : Act} (hf : FR w en fr a) {b : Bool} (h : gdB ops fr o = some b) : Region.wanted o (yielded ops a.tmps) = b := by
  unfold gdB at h
  unfold Region.wanted
  split at h
  · rename_i hg; rw [hg]; simpa using h
  · rename_i j want hg
    rw [hg]
    split at h
    · rename_i d hd
      have hv := hf.2 d
      split at h
      · rename_i b' hb
        rw [hb] at hv
        simp only [VR] at hv
        simp only [yielded_of hd hv]
        simp only [Option.some.injEq] at h
        subst h
        cases b' <;> cases want <;> rfl
      · rename_i g b' hb
        rw [hb] at hv
        simp only [VR] at hv
        simp only [Option.some.injEq] at h
        subst h
        cases g with
        | true =>
          simp only [yielded_of hd (hv.1 rfl)]
          cases b' <;> cases want <;> rfl
        | false =>
          simp only [yielded_undef hd (hv.2 rfl)]
          cases want <;> rfl
      · cases h
    · cases h
theorem AOps_op_g {ops : Array Oper} {o : Oper} {rest : List Oper} {x : V} {σ' : List AE} (hg : gdB ops fr o = some true) (ho : OpOk P σ fr o x σ') (h : AOps P ops Q rest (pt fr o.dst x) σ') : AOps P ops Q (o :: rest) fr σ := fun a w en hi hf {_} hd => by
  unfold wpList
  rw [if_pos (gdB_ok hf hg)]
  refine .inl ?_
  refine Oper_wpQ (fun a' w' hk => ?_) (fun _ _ _ hq => hq.elim) (ho a w en hi (hf.on _))
  obtain ⟨v, en', rfl, h1, h2, h3⟩ := hk
  refine wpList_mono (fun _ _ _ hq => LQ_ext h3 hq) _ _ _ (h _ w' en' h2 ((hf.ext h3).put h1 _) ?_)
  cases o.dst <;> simpa [Act.put] using hd
theorem AOps_skip {ops : Array Oper} {o : Oper} {rest : List Oper} (hg : gdB ops fr o = some false) (h : AOps P ops Q rest (pt fr o.dst .junk) σ) : AOps P ops Q (o :: rest) fr σ := fun a w en hi hf {_} hd => by
  unfold wpList
  rw [if_neg (by rw [gdB_ok hf hg]; simp)]
  refine h _ w en hi (hf.put (by simp [VR]) _) ?_
  cases o.dst <;> simpa [Act.put] using hd

/-! ### Calls -/
inductive Out where
  | ret (x : V) | pan (x : V)
def OR (w : World) (en : List CE) : Out → Ending → Prop
  | .ret x, e => ∃ v, e = .returned v ∧ VR w en x v
  | .pan x, e => ∃ v, e = .panicked [{ v := v, recovered := false }] ∧ VR w en x v
/-- Function f is one of code. -/
def Ent (P : Program) (f : FuncId) : Prop := ∃ fn, P.funcs[f]? = some fn ∧ (fn.name == "runtime.NumGoroutine") = false ∧ fn.body.isNone = false
structure ACalls (P : Program) (f : FuncId) (args : List V) (σ : List AE) (R : Out → List AE → Prop) : Prop where
  ent : Ent P f
  go : ∀ (w : World) (en : List CE) (vals : Array Value), Iv σ en w → LR w en args vals.toList →
    Calls P f vals w (fun e w' => ∃ r σ' en', R r σ' ∧ OR w' en' r e ∧ Iv σ' en' w' ∧ Ext w en w' en')
theorem ACalls.mono {f : FuncId} {args : List V} {R R' : Out → List AE → Prop} (h : ACalls P f args σ R) (hr : ∀ r σ', R r σ' → R' r σ') : ACalls P f args σ R' :=
  ⟨h.ent, fun w en vals hi hl => (h.go w en vals hi hl).mono fun _ _ ⟨r, σ', en', h1, h2⟩ => ⟨r, σ', en', hr _ _ h1, h2⟩⟩
/-- The function gives x, and leaves the entries as they were. -/
abbrev Gives (P : Program) (f : FuncId) (args : List V) (σ : List AE) (x : V) : Prop := ACalls P f args σ (fun r σ' => r = .ret x ∧ σ' = σ)

theorem run_callFunc {f : FuncId} (h : Ent P f) (args : Array Value) (w : World) : (callFunc f args).run P w = .ok (.enter f args) w := by
  obtain ⟨fn, h1, h2, h3⟩ := h
  have h2' : ¬ fn.name = "runtime.NumGoroutine" := by simpa using h2
  have h3' : ¬ fn.body = none := fun e => by rw [e] at h3; cases h3
  simp [callFunc, program, h1, h2', h3', Sem.run, bind, Sem.bind, pure]
theorem args_ok {w : World} {en : List CE} {fr : List V} {a : Act} {o : Op} (h : FRon w en fr a (tmpsOf o)) : ∀ (xs : List Operand), (∀ x ∈ xs, x ∈ o.operands) → LR w en (xs.map (gv fr)) (xs.map a.eval)
  | [], _ => by simp [LR]
  | x :: xs, hx => by
    simp only [List.map_cons, LR]
    exact ⟨_, _, rfl, gv_ops h x (hx x List.mem_cons_self), args_ok h xs (fun y hy => hx y (List.mem_cons_of_mem _ hy))⟩
theorem call_wp {o : Oper} {c : Call} {f : Operand} {g : FuncId} {caps : List V} {R : Out → List AE → Prop} (ho : o.op = .call c) (hc : c.callee = .value f) (hf : gv fr f = .fn g caps) (h : ACalls P g (c.args.toList.map (gv fr) ++ caps) σ R)
    (a : Act) (w : World) (en : List CE) (hi : Iv σ en w) (hfr : FRon w en fr a (tmpsOf o.op)) :
    Oper.wp P o a w (fun a' w' => ∃ v x σ' en', a' = a.put o.dst v ∧ R (.ret x) σ' ∧ VR w' en' x v ∧ Iv σ' en' w' ∧ Ext w en w' en')
      (fun e a' w' => ∃ v x σ' en', e = .panic [{ v := v, recovered := false }] ∧ a' = a ∧ R (.pan x) σ' ∧ VR w' en' x v ∧ Iv σ' en' w' ∧ Ext w en w' en') := by
  have hv := gv_ops hfr f (by simp [ho, Op.operands, Call.operands, hc])
  rw [hf] at hv
  simp only [VR] at hv
  obtain ⟨us, he, hcaps⟩ := hv
  have hargs := args_ok hfr c.args.toList (fun x hx => by simp [ho, Op.operands, Call.operands, hc]; right; simpa using hx)
  have hrun : (execOp a.eval o).run P w = .ok (.enter g (c.args.map a.eval ++ us)) w := by
    have := run_callFunc h.ent (c.args.map a.eval ++ us) w
    simp [execOp, ho, resolve, hc, he, Deferred.ofValue, invoke, this]
  unfold Oper.wp
  rw [hrun]
  simp only [Oper.upon]
  refine (h.go w en (c.args.map a.eval ++ us) hi ?_).mono fun e w' hk => ?_
  · simpa using LR_append hargs hcaps
  · obtain ⟨r, σ', en', h1, h2, h3, h4⟩ := hk
    cases r with
    | ret x => obtain ⟨v, rfl, hx⟩ := h2; exact ⟨v, x, σ', en', rfl, h1, hx, h3, h4⟩
    | pan x => obtain ⟨v, rfl, hx⟩ := h2; exact ⟨v, x, σ', en', by simp, by simp, h1, hx, h3, h4⟩
theorem AOps_call_g {ops : Array Oper} {o : Oper} {rest : List Oper} {c : Call} {f : Operand} {g : FuncId} {caps : List V} {R : Out → List AE → Prop} (hg : gdB ops fr o = some true) (ho : o.op = .call c) (hc : c.callee = .value f) (hf : gv fr f = .fn g caps)
    (h : ACalls P g (c.args.toList.map (gv fr) ++ caps) σ R) (hr : ∀ x σ', R (.ret x) σ' → AOps P ops Q rest (pt fr o.dst x) σ') (hp : ∀ x σ', R (.pan x) σ' → Q (.panic x) fr σ') : AOps P ops Q (o :: rest) fr σ := fun a w en hi hfr {_} hd => by
  unfold wpList
  rw [if_pos (gdB_ok hfr hg)]
  refine .inl (Oper_wpQ (fun a' w' hk => ?_) (fun e a' w' hk => ?_) (call_wp ho hc hf h a w en hi (hfr.on _)))
  · obtain ⟨v, x, σ', en', rfl, h1, h2, h3, h4⟩ := hk
    refine wpList_mono (fun _ _ _ hq => LQ_ext h4 hq) _ _ _ (hr x σ' h1 _ w' en' h3 ((hfr.ext h4).put h2 _) ?_)
    cases o.dst <;> simpa [Act.put] using hd
  · obtain ⟨v, x, σ', en', rfl, rfl, h1, h2, h3, h4⟩ := hk
    exact ⟨.panic x, fr, σ', en', hp x σ' h1, ⟨v, rfl, h2⟩, h3, hfr.ext h4, hd, h4⟩
/-- A call that gives one value and turns no entry. -/
theorem OpOk_call {o : Oper} {c : Call} {f : Operand} {g : FuncId} {caps : List V} {x : V} (ho : o.op = .call c) (hc : c.callee = .value f) (hf : gv fr f = .fn g caps) (h : Gives P g (c.args.toList.map (gv fr) ++ caps) σ x) : OpOk P σ fr o x σ := fun a w en hi hfr => by
  refine Oper_wpQ (fun a' w' hk => ?_) (fun e a' w' hk => ?_) (call_wp ho hc hf h a w en hi hfr)
  · obtain ⟨v, x', σ', en', rfl, h1, h2, h3, h4⟩ := hk
    obtain ⟨h5, rfl⟩ := h1
    cases h5
    exact ⟨v, en', rfl, h2, h3, h4⟩
  · obtain ⟨v, x', σ', en', rfl, rfl, h1, _⟩ := hk
    cases h1.1

/-! ### A function's body -/
/-- What is read of a variable of type t at cells cs, from off on. -/
def tyAgg (P : Program) (t : TypeId) : Option Bool := (P.underlying t).map fun | .struct _ => true | .array _ _ => true | _ => false
def tySize (P : Program) (t : TypeId) : Option Nat := (P.info? t).map (·.size)
def readT (P : Program) (t : TypeId) (cs : List V) (off : Nat) : Option V := match tyAgg P t with
  | some true => match tySize P t with
    | some n => if off + n ≤ cs.length then some (.agg ((cs.drop off).take n)) else none
    | none => none
  | some false => cs[off]?
  | none => none
theorem run_isAgg {t : TypeId} {b : Bool} (h : tyAgg P t = some b) (w : World) : (isAgg t).run P w = .ok b w := by
  unfold tyAgg at h
  cases hu : P.underlying t with
  | none => rw [hu] at h; cases h
  | some d =>
    rw [hu] at h
    simp only [Option.map_some, Option.some.injEq] at h
    simp only [isAgg, underlying, program, bind, Sem.bind, pure, Sem.run, hu]
    split at h <;> simp_all [Sem.run]
theorem run_sizeOf {t : TypeId} {n : Nat} (h : tySize P t = some n) (w : World) : (sizeOf t).run P w = .ok n w := by
  unfold tySize at h
  cases hu : P.info? t with
  | none => rw [hu] at h; cases h
  | some d =>
    rw [hu] at h
    simp only [Option.map_some, Option.some.injEq] at h
    subst h
    simp [sizeOf, typeInfo, program, bind, Sem.bind, pure, Sem.run, hu]
end

end Go.Proofs.YtdjjlbjagaadaaaGreatDoor.A
