/- A Hoare logic on abstract states over the kit's wp: abstract values, their reading in a world, what is kept when the world goes on. -/
import Derived.Below
import Derived.Still
import Derived.Deep.LoopGhost
import Derived.Laws.AppendOwn
import Derived.Carry
import Derived.KernelRfl
namespace Go.Proofs.YtfagngmikbmmhaaDoor.A
open Go Go.RowKit
set_option linter.unusedVariables false

/-- What is known of a slice's spare room: nothing; it is nil; there is none; token k, version ver: the row is the call's own. -/
inductive Tag where
  | ro | nil | full | own (k ver : Nat)

/-- Abstract values. sl: a slice by its elements (each by its cells). ms: a slice over a box. ep: a pointer to cells that stay. gd: x where b holds, else nothing. -/
inductive V where
  | bool (b : Bool)
  | int (k : IntKind) (n : Int)
  | str (s : List UInt8)
  | sl (t : Tag) (xs : List (List V))
  | ms (b off n c : Nat)
  | agg (cs : List V)
  | tup (cs : List V)
  | ptr (b off : Nat)
  | ep (cs : List V)
  | fn (f : FuncId) (cs : List V)
  | exact (v : Value)
  | gd (b : Bool) (x : V)
  | rw (k ver n : Nat)
  | rs (k ver off n : Nat)
  | rp (k ver off : Nat)
  | junk

/-- Concrete entries: a box's block; a token's version, slice, number of elements, cells an element. -/
inductive CE where
  | glob
  | box (g : Nat)
  | tok (ver : Nat) (v : Value) (n sz : Nat)
  | row (ver : Nat) (v : Value) (n sz : Nat)

/-- Abstract entries. -/
inductive AE where
  | glob (l : List (Nat × Obj))
  | box (cs : List V)
  | tok (ver : Nat) (e : TypeId) (sz : Nat)
  | row (ver : Nat) (e : TypeId) (sz n : Nat) (cs : List V)

def ebl : CE → Option Nat
  | .glob => none
  | .box g => some g
  | .tok _ v _ _ => v.ownBlock
  | .row _ v _ _ => v.ownBlock

def okc : CE → Nat → Nat → Prop
  | .glob, _, _ => True
  | .box g', g, _ => g' ≠ g
  | .tok _ v n sz, g, o => v.ownBlock = some g → o < n * sz
  | .row _ v _ _, g, _ => v.ownBlock ≠ some g

/-- A cell that stays: it is there, in no box, in no token's spare room. -/
def St (w : World) (en : List CE) (g o : Nat) (u : Value) : Prop := w.cell? ⟨g, o, none⟩ = some u ∧ ∀ x ∈ en, okc x g o

def TagOk (en : List CE) (v : Value) (n c : Nat) : Tag → Prop
  | .ro => True
  | .nil => v = .slice none 0 0
  | .full => c = n
  | .own k ver => ∃ cur v0 n0 sz, en[k]? = some (.tok cur v0 n0 sz) ∧ ver ≤ cur ∧ (ver = cur → v0 = v ∧ n0 = n)

mutual
def VR (w : World) (en : List CE) : V → Value → Prop
  | .bool b, v => v = .bool b
  | .int k n, v => v = .int k n
  | .str s, v => v = .string ⟨s.toArray⟩
  | .sl t xs, v => ∃ A c, v = .slice A xs.length c ∧ xs.length ≤ c ∧ c ≤ maxLen ∧ TagOk en v xs.length c t ∧ (xs ≠ [] → ∃ g o, A = some ⟨g, o, none⟩ ∧ RR w en xs g o)
  | .ms b off n c, v => ∃ g, en[b]? = some (.box g) ∧ v = .slice (some ⟨g, off, none⟩) n c ∧ n ≤ c ∧ c ≤ maxLen
  | .agg cs, v => ∃ us, v = .agg us ∧ LR w en cs us.toList ∧ ∀ u ∈ us.toList, u.oneCell' = true
  | .tup cs, v => ∃ us, v = .tuple us ∧ LR w en cs us.toList
  | .ptr b off, v => ∃ g, en[b]? = some (.box g) ∧ v = .pointer (some ⟨g, off, none⟩)
  | .ep cs, v => ∃ g o, v = .pointer (some ⟨g, o, none⟩) ∧ ER w en cs g o
  | .fn f cs, v => ∃ us, v = .func (.func f) #[] us ∧ LR w en cs us.toList
  | .exact u, v => v = u
  | .gd b x, v => (b = true → VR w en x v) ∧ (b = false → v = undef)
  | .rw k ver n, v => ∃ A c cur v0 n0 sz, v = .slice A n c ∧ n ≤ c ∧ c ≤ maxLen ∧ (n ≠ 0 → ∃ g, A = some ⟨g, 0, none⟩) ∧ en[k]? = some (.row cur v0 n0 sz) ∧ ver ≤ cur ∧ (ver = cur → v0 = v ∧ n0 = n)
  | .rs k ver off n, v => ∃ A c cur v0 n0 sz, v = .slice A n c ∧ n ≤ c ∧ c ≤ maxLen ∧ en[k]? = some (.row cur v0 n0 sz) ∧ ver ≤ cur ∧ (n ≠ 0 → ∃ g, A = some ⟨g, off, none⟩ ∧ (ver = cur → v0.ownBlock = some g))
  | .rp k ver off, v => ∃ g cur v0 n0 sz, v = .pointer (some ⟨g, off, none⟩) ∧ en[k]? = some (.row cur v0 n0 sz) ∧ ver ≤ cur ∧ (ver = cur → v0.ownBlock = some g)
  | .junk, _ => True
def LR (w : World) (en : List CE) : List V → List Value → Prop
  | [], us => us = []
  | x :: xs, us => ∃ u us', us = u :: us' ∧ VR w en x u ∧ LR w en xs us'
/-- Cells that stay, from (g, o) on. -/
def ER (w : World) (en : List CE) : List V → Nat → Nat → Prop
  | [], _, _ => True
  | x :: xs, g, o => (∃ u, St w en g o u ∧ u.oneCell' = true ∧ VR w en x u) ∧ ER w en xs g (o + 1)
def RR (w : World) (en : List CE) : List (List V) → Nat → Nat → Prop
  | [], _, _ => True
  | x :: xs, g, o => ER w en x g o ∧ RR w en xs g (o + x.length)
end

/-- How an entry may go on. -/
def Evo : CE → CE → Prop
  | .glob, y => y = .glob
  | .box g, y => y = .box g
  | .tok ver v n sz, y => ∃ ver' v' n', y = .tok ver' v' n' sz ∧ ver ≤ ver' ∧ (ver = ver' → v' = v ∧ n' = n)
  | .row ver v n sz, y => ∃ ver' v' n', y = .row ver' v' n' sz ∧ ver ≤ ver' ∧ (ver = ver' → v' = v ∧ n' = n)

theorem Evo.refl (x : CE) : Evo x x := by
  cases x with
  | glob => rfl
  | box g => rfl
  | tok ver v n sz => exact ⟨ver, v, n, rfl, Nat.le_refl _, fun _ => ⟨rfl, rfl⟩⟩
  | row ver v n sz => exact ⟨ver, v, n, rfl, Nat.le_refl _, fun _ => ⟨rfl, rfl⟩⟩
theorem Evo.trans {x y z : CE} (h : Evo x y) (h' : Evo y z) : Evo x z := by
  cases x with
  | glob => simp only [Evo] at h; subst h; exact h'
  | box g => simp only [Evo] at h; subst h; exact h'
  | tok ver v n sz =>
    obtain ⟨a, b, c, rfl, h1, h2⟩ := h
    obtain ⟨a', b', c', rfl, h3, h4⟩ := h'
    refine ⟨a', b', c', rfl, Nat.le_trans h1 h3, fun e => ?_⟩
    have e1 : ver = a := by omega
    have e2 : a = a' := by omega
    obtain ⟨rfl, rfl⟩ := h2 e1
    exact h4 e2
  | row ver v n sz =>
    obtain ⟨a, b, c, rfl, h1, h2⟩ := h
    obtain ⟨a', b', c', rfl, h3, h4⟩ := h'
    refine ⟨a', b', c', rfl, Nat.le_trans h1 h3, fun e => ?_⟩
    have e1 : ver = a := by omega
    have e2 : a = a' := by omega
    obtain ⟨rfl, rfl⟩ := h2 e1
    exact h4 e2

/-- What is kept from a state to a later one. -/
structure Ext (w : World) (en : List CE) (w' : World) (en' : List CE) : Prop where
  os : w'.os = w.os
  tape : w'.tape = w.tape
  output : w'.output = w.output
  size : w.heap.size ≤ w'.heap.size
  block : ∀ k, k < w.heap.size → (∀ x ∈ en, ebl x ≠ some k) → w'.heap[k]? = w.heap[k]?
  st : ∀ g o u, St w en g o u → St w' en' g o u
  ent : ∀ (i : Nat) (x : CE), en[i]? = some x → ∃ x', en'[i]? = some x' ∧ Evo x x'
  fresh : ∀ x' ∈ en', ∀ g, ebl x' = some g → g < w.heap.size → ∃ x ∈ en, ebl x = some g

theorem Ext.refl (w : World) (en : List CE) : Ext w en w en :=
  ⟨rfl, rfl, rfl, Nat.le_refl _, fun _ _ _ => rfl, fun _ _ _ h => h, fun _ x h => ⟨x, h, Evo.refl x⟩, fun x' hx _ hg _ => ⟨x', hx, hg⟩⟩

theorem Ext.trans {w1 w2 w3 : World} {e1 e2 e3 : List CE} (h : Ext w1 e1 w2 e2) (k : Ext w2 e2 w3 e3) : Ext w1 e1 w3 e3 where
  os := k.os.trans h.os
  tape := k.tape.trans h.tape
  output := k.output.trans h.output
  size := Nat.le_trans h.size k.size
  block := fun i hi hx => (k.block i (Nat.lt_of_lt_of_le hi h.size) (fun x' hx' he => by
    obtain ⟨x, hxm, hxe⟩ := h.fresh x' hx' i he hi
    exact hx x hxm hxe)).trans (h.block i hi hx)
  st := fun g o u hs => k.st g o u (h.st g o u hs)
  ent := fun i x hx => by
    obtain ⟨x', h1, h2⟩ := h.ent i x hx
    obtain ⟨x'', h3, h4⟩ := k.ent i x' h1
    exact ⟨x'', h3, h2.trans h4⟩
  fresh := fun x'' hx'' g hg hlt => by
    obtain ⟨x', hx', he'⟩ := k.fresh x'' hx'' g hg (Nat.lt_of_lt_of_le hlt h.size)
    exact h.fresh x' hx' g he' hlt

/-- With no entries: of what was there nothing has turned. -/
theorem Ext.below {w w' : World} {en en' : List CE} (h : Ext w en w' en') (hn : ∀ x ∈ en, ebl x = none) : Below w.heap.size w w' :=
  ⟨h.os, h.tape, h.output, h.size, fun k hk => h.block k hk (fun x hx e => by rw [hn x hx] at e; cases e)⟩

theorem TagOk.ext {w w' : World} {en en' : List CE} (h : Ext w en w' en') {v : Value} {n c : Nat} {t : Tag} (ht : TagOk en v n c t) : TagOk en' v n c t := by
  cases t with
  | ro => trivial
  | nil => exact ht
  | full => exact ht
  | own k ver =>
    obtain ⟨cur, v0, n0, sz, h1, h2, h3⟩ := ht
    obtain ⟨x', h4, h5⟩ := h.ent _ _ h1
    obtain ⟨cur', v', n', rfl, h6, h7⟩ := h5
    refine ⟨cur', v', n', sz, h4, Nat.le_trans h2 h6, fun e => ?_⟩
    have e1 : ver = cur := by omega
    have e2 : cur = cur' := by omega
    obtain ⟨rfl, rfl⟩ := h7 e2
    exact h3 e1

theorem row_ext {w w' : World} {en en' : List CE} (h : Ext w en w' en') {k cur n0 sz : Nat} {v0 : Value} (hb : en[k]? = some (.row cur v0 n0 sz)) : ∃ cur' v' n', en'[k]? = some (.row cur' v' n' sz) ∧ cur ≤ cur' ∧ (cur = cur' → v' = v0 ∧ n' = n0) := by
  obtain ⟨x', h1, h2⟩ := h.ent _ _ hb
  obtain ⟨a, b, c, rfl, h3, h4⟩ := h2
  exact ⟨a, b, c, h1, h3, h4⟩
theorem box_ext {w w' : World} {en en' : List CE} (h : Ext w en w' en') {b g : Nat} (hb : en[b]? = some (.box g)) : en'[b]? = some (.box g) := by
  obtain ⟨x', h1, h2⟩ := h.ent _ _ hb
  simp only [Evo] at h2
  rw [h1, h2]

mutual
theorem VR_ext {w w' : World} {en en' : List CE} (h : Ext w en w' en') : ∀ (x : V) (v : Value), VR w en x v → VR w' en' x v
  | .bool b, v, hv => by simpa [VR] using hv
  | .int k n, v, hv => by simpa [VR] using hv
  | .str s, v, hv => by simpa [VR] using hv
  | .sl t xs, v, hv => by
    simp only [VR] at hv ⊢
    obtain ⟨A, c, h1, h2, h2', h3, h4⟩ := hv
    exact ⟨A, c, h1, h2, h2', h3.ext h, fun hx => by
      obtain ⟨g, o, h5, h6⟩ := h4 hx
      exact ⟨g, o, h5, RR_ext h xs g o h6⟩⟩
  | .ms b off n c, v, hv => by
    simp only [VR] at hv ⊢
    obtain ⟨g, h1, h2⟩ := hv
    exact ⟨g, box_ext h h1, h2⟩
  | .agg cs, v, hv => by
    simp only [VR] at hv ⊢
    obtain ⟨us, h1, h2, h3⟩ := hv
    exact ⟨us, h1, LR_ext h cs _ h2, h3⟩
  | .tup cs, v, hv => by
    simp only [VR] at hv ⊢
    obtain ⟨us, h1, h2⟩ := hv
    exact ⟨us, h1, LR_ext h cs _ h2⟩
  | .ptr b off, v, hv => by
    simp only [VR] at hv ⊢
    obtain ⟨g, h1, h2⟩ := hv
    exact ⟨g, box_ext h h1, h2⟩
  | .ep cs, v, hv => by
    simp only [VR] at hv ⊢
    obtain ⟨g, o, h1, h2⟩ := hv
    exact ⟨g, o, h1, ER_ext h cs g o h2⟩
  | .fn f cs, v, hv => by
    simp only [VR] at hv ⊢
    obtain ⟨us, h1, h2⟩ := hv
    exact ⟨us, h1, LR_ext h cs _ h2⟩
  | .exact u, v, hv => by simpa [VR] using hv
  | .gd b x, v, hv => by
    simp only [VR] at hv ⊢
    exact ⟨fun e => VR_ext h x v (hv.1 e), hv.2⟩
  | .rw k ver n, v, hv => by
    simp only [VR] at hv ⊢
    obtain ⟨A, c, cur, v0, n0, sz, h1, h2, h3, h4, h5, h6, h7⟩ := hv
    obtain ⟨cur', v', n', h8, h9, h10⟩ := row_ext h h5
    refine ⟨A, c, cur', v', n', sz, h1, h2, h3, h4, h8, Nat.le_trans h6 h9, fun e => ?_⟩
    obtain ⟨rfl, rfl⟩ := h10 (by omega)
    exact h7 (by omega)
  | .rs k ver off n, v, hv => by
    simp only [VR] at hv ⊢
    obtain ⟨A, c, cur, v0, n0, sz, h1, h2, h3, h5, h6, h7⟩ := hv
    obtain ⟨cur', v', n', h8, h9, h10⟩ := row_ext h h5
    refine ⟨A, c, cur', v', n', sz, h1, h2, h3, h8, Nat.le_trans h6 h9, fun hn => ?_⟩
    obtain ⟨g, h11, h12⟩ := h7 hn
    refine ⟨g, h11, fun e => ?_⟩
    obtain ⟨rfl, rfl⟩ := h10 (by omega)
    exact h12 (by omega)
  | .rp k ver off, v, hv => by
    simp only [VR] at hv ⊢
    obtain ⟨g, cur, v0, n0, sz, h1, h5, h6, h7⟩ := hv
    obtain ⟨cur', v', n', h8, h9, h10⟩ := row_ext h h5
    refine ⟨g, cur', v', n', sz, h1, h8, Nat.le_trans h6 h9, fun e => ?_⟩
    obtain ⟨rfl, rfl⟩ := h10 (by omega)
    exact h7 (by omega)
  | .junk, v, hv => by simp [VR]
theorem LR_ext {w w' : World} {en en' : List CE} (h : Ext w en w' en') : ∀ (xs : List V) (us : List Value), LR w en xs us → LR w' en' xs us
  | [], us, hu => by simpa [LR] using hu
  | x :: xs, us, hu => by
    simp only [LR] at hu ⊢
    obtain ⟨u, us', h1, h2, h3⟩ := hu
    exact ⟨u, us', h1, VR_ext h x u h2, LR_ext h xs us' h3⟩
theorem ER_ext {w w' : World} {en en' : List CE} (h : Ext w en w' en') : ∀ (xs : List V) (g o : Nat), ER w en xs g o → ER w' en' xs g o
  | [], g, o, _ => by simp [ER]
  | x :: xs, g, o, hu => by
    simp only [ER] at hu ⊢
    obtain ⟨⟨u, h1, h0, h2⟩, h3⟩ := hu
    exact ⟨⟨u, h.st _ _ _ h1, h0, VR_ext h x u h2⟩, ER_ext h xs g (o + 1) h3⟩
theorem RR_ext {w w' : World} {en en' : List CE} (h : Ext w en w' en') : ∀ (xs : List (List V)) (g o : Nat), RR w en xs g o → RR w' en' xs g o
  | [], g, o, _ => by simp [RR]
  | x :: xs, g, o, hu => by
    simp only [RR] at hu ⊢
    exact ⟨ER_ext h x g o hu.1, RR_ext h xs g _ hu.2⟩
end

/-- An entry reads as said. -/
def EOk (w : World) (en : List CE) : AE → CE → Prop
  | .glob l, .glob => ∀ p ∈ l, w.heap[p.1]? = some p.2 ∧ ∀ x ∈ en, ebl x ≠ some p.1
  | .box cs, .box g => ∃ us T, w.heap[g]? = some (.cells us T (0, 0)) ∧ LR w en cs us.toList ∧ ∀ u ∈ us.toList, u.oneCell' = true
  | .tok ver e sz, .tok ver' v n sz' => ver = ver' ∧ sz = sz' ∧ ∃ xs, w.ownsRow 0 e sz v n xs
  | .row ver e sz n cs, .row ver' v n' sz' => ver = ver' ∧ sz = sz' ∧ n = n' ∧ ∃ us, w.ownsRow 0 e sz v n us ∧ LR w en cs us ∧ ∀ u ∈ us, u.oneCell' = true
  | _, _ => False

structure Iv (σ : List AE) (en : List CE) (w : World) : Prop where
  len : en.length = σ.length
  ok : ∀ (i : Nat) (a : AE) (x : CE), σ[i]? = some a → en[i]? = some x → EOk w en a x
  dis : ∀ (i j : Nat) (x y : CE) (g : Nat), en[i]? = some x → en[j]? = some y → ebl x = some g → ebl y = some g → i = j

theorem EOk.lt {w : World} {en : List CE} {a : AE} {x : CE} (h : EOk w en a x) {g : Nat} (hg : ebl x = some g) : g < w.heap.size := by
  cases a <;> cases x <;> simp only [EOk] at h
  · cases hg
  · obtain ⟨us, T, h1, _⟩ := h
    simp only [ebl, Option.some.injEq] at hg
    subst hg
    exact (Array.getElem?_eq_some_iff.1 h1).1
  · obtain ⟨_, _, xs, h1⟩ := h
    exact (h1.lt g hg).2
  · obtain ⟨_, _, _, us, h1, _⟩ := h
    exact (h1.lt g hg).2

theorem Iv.lt {σ : List AE} {en : List CE} {w : World} (h : Iv σ en w) {x : CE} (hx : x ∈ en) {g : Nat} (hg : ebl x = some g) : g < w.heap.size := by
  obtain ⟨i, hi⟩ := List.getElem?_of_mem hx
  have hl : i < σ.length := by rw [← h.len]; exact (List.getElem?_eq_some_iff.1 hi).1
  exact (h.ok i _ x (List.getElem?_eq_getElem hl) hi).lt hg

/-! ### Lists of values -/
theorem LR_length {w : World} {en : List CE} : ∀ {xs : List V} {us : List Value}, LR w en xs us → us.length = xs.length
  | [], us, h => by simp only [LR] at h; simp [h]
  | x :: xs, us, h => by
    simp only [LR] at h
    obtain ⟨u, us', rfl, _, h2⟩ := h
    simp [LR_length h2]
theorem LR_get {w : World} {en : List CE} : ∀ {xs : List V} {us : List Value}, LR w en xs us → ∀ (i : Nat) (x : V), xs[i]? = some x → ∃ u, us[i]? = some u ∧ VR w en x u
  | [], us, _, i, x, hi => by simp at hi
  | y :: xs, us, h, i, x, hi => by
    simp only [LR] at h
    obtain ⟨u, us', rfl, h1, h2⟩ := h
    cases i with
    | zero => simp only [List.getElem?_cons_zero, Option.some.injEq] at hi; subst hi; exact ⟨u, rfl, h1⟩
    | succ i => simp only [List.getElem?_cons_succ] at hi ⊢; exact LR_get h2 i x hi
theorem LR_mk {w : World} {en : List CE} : ∀ {xs : List V} {us : List Value}, us.length = xs.length → (∀ (i : Nat) (x : V) (u : Value), xs[i]? = some x → us[i]? = some u → VR w en x u) → LR w en xs us
  | [], us, hl, _ => by simp only [LR]; exact List.eq_nil_of_length_eq_zero hl
  | x :: xs, [], hl, _ => by simp at hl
  | x :: xs, u :: us, hl, h => by
    simp only [LR]
    exact ⟨u, us, rfl, h 0 x u rfl rfl, LR_mk (by simpa using hl) (fun i y v hy hv => h (i + 1) y v (by simpa using hy) (by simpa using hv))⟩
theorem LR_append {w : World} {en : List CE} {xs ys : List V} {us vs : List Value} (h : LR w en xs us) (k : LR w en ys vs) : LR w en (xs ++ ys) (us ++ vs) := by
  induction xs generalizing us with
  | nil => simp only [LR] at h; subst h; exact k
  | cons x xs ih =>
    simp only [LR] at h
    obtain ⟨u, us', rfl, h1, h2⟩ := h
    simp only [List.cons_append, LR]
    exact ⟨u, us' ++ vs, rfl, h1, ih h2⟩
theorem LR_drop {w : World} {en : List CE} {xs : List V} {us : List Value} (h : LR w en xs us) (n : Nat) : LR w en (xs.drop n) (us.drop n) :=
  LR_mk (by simp [LR_length h]) (fun i x u hx hu => by
    rw [List.getElem?_drop] at hx hu
    obtain ⟨u', h1, h2⟩ := LR_get h _ x hx
    rw [h1] at hu; cases hu; exact h2)
theorem LR_take {w : World} {en : List CE} {xs : List V} {us : List Value} (h : LR w en xs us) (n : Nat) : LR w en (xs.take n) (us.take n) :=
  LR_mk (by simp [LR_length h]) (fun i x u hx hu => by
    rw [List.getElem?_take] at hx hu
    split at hx
    · rename_i hi
      rw [if_pos hi] at hu
      obtain ⟨u', h1, h2⟩ := LR_get h _ x hx
      rw [h1] at hu; cases hu; exact h2
    · cases hx)
theorem LR_set {w : World} {en : List CE} {xs : List V} {us : List Value} (h : LR w en xs us) (n : Nat) {x : V} {u : Value} (hx : VR w en x u) : LR w en (xs.set n x) (us.set n u) :=
  LR_mk (by simp [LR_length h]) (fun i y v hy hv => by
    rw [List.getElem?_set] at hy hv
    split at hy
    · rename_i hi
      subst hi
      rw [if_pos rfl] at hv
      split at hy
      · split at hv
        · cases hy; cases hv; exact hx
        · cases hv
      · cases hy
    · rename_i hi
      rw [if_neg hi] at hv
      obtain ⟨u', h1, h2⟩ := LR_get h _ y hy
      rw [h1] at hv; cases hv; exact h2)

/-! ### Cells that stay -/
theorem ER_get {w : World} {en : List CE} : ∀ {xs : List V} {g o : Nat}, ER w en xs g o → ∀ (i : Nat) (x : V), xs[i]? = some x → ∃ u, St w en g (o + i) u ∧ u.oneCell' = true ∧ VR w en x u
  | [], g, o, _, i, x, hi => by simp at hi
  | y :: xs, g, o, h, i, x, hi => by
    simp only [ER] at h
    cases i with
    | zero => simp only [List.getElem?_cons_zero, Option.some.injEq] at hi; subst hi; exact h.1
    | succ i =>
      simp only [List.getElem?_cons_succ] at hi
      have := ER_get h.2 i x hi
      rwa [show o + (i + 1) = o + 1 + i from by omega]
theorem ER_mk {w : World} {en : List CE} : ∀ {xs : List V} {g o : Nat}, (∀ (i : Nat) (x : V), xs[i]? = some x → ∃ u, St w en g (o + i) u ∧ u.oneCell' = true ∧ VR w en x u) → ER w en xs g o
  | [], g, o, _ => by simp [ER]
  | y :: xs, g, o, h => by
    simp only [ER]
    exact ⟨h 0 y rfl, ER_mk (fun i x hx => by
      have := h (i + 1) x (by simpa using hx)
      rwa [show o + (i + 1) = o + 1 + i from by omega] at this)⟩
theorem ER_drop {w : World} {en : List CE} {xs : List V} {g o : Nat} (h : ER w en xs g o) (n : Nat) : ER w en (xs.drop n) g (o + n) :=
  ER_mk (fun i x hx => by
    rw [List.getElem?_drop] at hx
    have := ER_get h _ x hx
    rwa [show o + n + i = o + (n + i) from by omega])
theorem ER_take {w : World} {en : List CE} {xs : List V} {g o : Nat} (h : ER w en xs g o) (n : Nat) : ER w en (xs.take n) g o :=
  ER_mk (fun i x hx => by
    rw [List.getElem?_take] at hx
    split at hx
    · exact ER_get h _ x hx
    · cases hx)
theorem ER_append {w : World} {en : List CE} {xs ys : List V} {g o : Nat} (h : ER w en xs g o) (k : ER w en ys g (o + xs.length)) : ER w en (xs ++ ys) g o :=
  ER_mk (fun i x hx => by
    rcases Nat.lt_or_ge i xs.length with hi | hi
    · rw [List.getElem?_append_left hi] at hx
      exact ER_get h i x hx
    · rw [List.getElem?_append_right hi] at hx
      have := ER_get k _ x hx
      rwa [show o + xs.length + (i - xs.length) = o + i from by omega] at this)
theorem RR_ER {w : World} {en : List CE} : ∀ {xs : List (List V)} {g o : Nat}, RR w en xs g o → ER w en xs.flatten g o
  | [], g, o, _ => by simp [ER]
  | x :: xs, g, o, h => by
    simp only [RR] at h
    simp only [List.flatten_cons]
    exact ER_append h.1 (RR_ER h.2)
theorem RR_mk {w : World} {en : List CE} : ∀ {xs : List (List V)} {g o : Nat}, ER w en xs.flatten g o → RR w en xs g o
  | [], g, o, _ => by simp [RR]
  | x :: xs, g, o, h => by
    simp only [RR]
    simp only [List.flatten_cons] at h
    refine ⟨?_, RR_mk ?_⟩
    · have := ER_take h x.length
      rwa [List.take_left] at this
    · have := ER_drop h x.length
      rwa [List.drop_left] at this

/-! ### Entries let go -/
def tbel (n : Nat) : Tag → Prop
  | .own k _ => k < n
  | _ => True
mutual
/-- Nothing of entries from n on. -/
def bel (n : Nat) : V → Prop
  | .sl t xs => tbel n t ∧ bels2 n xs
  | .ms b _ _ _ => b < n
  | .agg cs => bels n cs
  | .tup cs => bels n cs
  | .ptr b _ => b < n
  | .ep cs => bels n cs
  | .fn _ cs => bels n cs
  | .bool _ => True
  | .int _ _ => True
  | .str _ => True
  | .exact _ => True
  | .gd b x => b = true → bel n x
  | .rw k _ _ => k < n
  | .rs k _ _ _ => k < n
  | .rp k _ _ => k < n
  | .junk => True
def bels (n : Nat) : List V → Prop
  | [] => True
  | x :: xs => bel n x ∧ bels n xs
def bels2 (n : Nat) : List (List V) → Prop
  | [] => True
  | x :: xs => bels n x ∧ bels2 n xs
end
def sbel (n : Nat) : List AE → Prop
  | [] => True
  | .box cs :: s => bels n cs ∧ sbel n s
  | .tok _ _ _ :: s => sbel n s
  | .row _ _ _ _ cs :: s => bels n cs ∧ sbel n s
  | .glob _ :: s => sbel n s

theorem St.take {w : World} {en : List CE} {g o : Nat} {u : Value} (h : St w en g o u) (n : Nat) : St w (en.take n) g o u := ⟨h.1, fun x hx => h.2 x (List.mem_of_mem_take hx)⟩
theorem TagOk.take {en : List CE} {v : Value} {m c : Nat} {t : Tag} (h : TagOk en v m c t) {n : Nat} (hb : tbel n t) : TagOk (en.take n) v m c t := by
  cases t with
  | ro => trivial
  | nil => exact h
  | full => exact h
  | own k ver =>
    obtain ⟨cur, v0, n0, sz, h1, h2⟩ := h
    exact ⟨cur, v0, n0, sz, by rw [List.getElem?_take, if_pos (show k < n from hb)]; exact h1, h2⟩
mutual
theorem VR_take {w : World} {en : List CE} {n : Nat} : ∀ (x : V) (v : Value), VR w en x v → bel n x → VR w (en.take n) x v
  | .bool b, v, hv, _ => by simpa [VR] using hv
  | .int k m, v, hv, _ => by simpa [VR] using hv
  | .str s, v, hv, _ => by simpa [VR] using hv
  | .sl t xs, v, hv, hb => by
    simp only [VR, bel] at hv hb ⊢
    obtain ⟨A, c, h1, h2, h2', h3, h4⟩ := hv
    exact ⟨A, c, h1, h2, h2', h3.take hb.1, fun hx => by
      obtain ⟨g, o, h5, h6⟩ := h4 hx
      exact ⟨g, o, h5, RR_take xs g o h6 hb.2⟩⟩
  | .ms b off m c, v, hv, hb => by
    simp only [VR, bel] at hv hb ⊢
    obtain ⟨g, h1, h2⟩ := hv
    exact ⟨g, by rw [List.getElem?_take, if_pos hb]; exact h1, h2⟩
  | .agg cs, v, hv, hb => by
    simp only [VR, bel] at hv hb ⊢
    obtain ⟨us, h1, h2, h3⟩ := hv
    exact ⟨us, h1, LR_take' cs _ h2 hb, h3⟩
  | .tup cs, v, hv, hb => by
    simp only [VR, bel] at hv hb ⊢
    obtain ⟨us, h1, h2⟩ := hv
    exact ⟨us, h1, LR_take' cs _ h2 hb⟩
  | .ptr b off, v, hv, hb => by
    simp only [VR, bel] at hv hb ⊢
    obtain ⟨g, h1, h2⟩ := hv
    exact ⟨g, by rw [List.getElem?_take, if_pos hb]; exact h1, h2⟩
  | .ep cs, v, hv, hb => by
    simp only [VR, bel] at hv hb ⊢
    obtain ⟨g, o, h1, h2⟩ := hv
    exact ⟨g, o, h1, ER_take' cs g o h2 hb⟩
  | .fn f cs, v, hv, hb => by
    simp only [VR, bel] at hv hb ⊢
    obtain ⟨us, h1, h2⟩ := hv
    exact ⟨us, h1, LR_take' cs _ h2 hb⟩
  | .exact u, v, hv, _ => by simpa [VR] using hv
  | .gd b x, v, hv, hb => by
    simp only [VR, bel] at hv hb ⊢
    exact ⟨fun e => VR_take x v (hv.1 e) (hb e), hv.2⟩
  | .rw k ver m, v, hv, hb => by
    simp only [VR, bel] at hv hb ⊢
    obtain ⟨A, c, cur, v0, n0, sz, h1, h2, h3, h4, h5, h6⟩ := hv
    exact ⟨A, c, cur, v0, n0, sz, h1, h2, h3, h4, by rw [List.getElem?_take, if_pos hb]; exact h5, h6⟩
  | .rs k ver off m, v, hv, hb => by
    simp only [VR, bel] at hv hb ⊢
    obtain ⟨A, c, cur, v0, n0, sz, h1, h2, h3, h5, h6⟩ := hv
    exact ⟨A, c, cur, v0, n0, sz, h1, h2, h3, by rw [List.getElem?_take, if_pos hb]; exact h5, h6⟩
  | .rp k ver off, v, hv, hb => by
    simp only [VR, bel] at hv hb ⊢
    obtain ⟨g, cur, v0, n0, sz, h1, h5, h6⟩ := hv
    exact ⟨g, cur, v0, n0, sz, h1, by rw [List.getElem?_take, if_pos hb]; exact h5, h6⟩
  | .junk, v, _, _ => by simp [VR]
theorem LR_take' {w : World} {en : List CE} {n : Nat} : ∀ (xs : List V) (us : List Value), LR w en xs us → bels n xs → LR w (en.take n) xs us
  | [], us, hu, _ => by simpa [LR] using hu
  | x :: xs, us, hu, hb => by
    simp only [LR, bels] at hu hb ⊢
    obtain ⟨u, us', h1, h2, h3⟩ := hu
    exact ⟨u, us', h1, VR_take x u h2 hb.1, LR_take' xs us' h3 hb.2⟩
theorem ER_take' {w : World} {en : List CE} {n : Nat} : ∀ (xs : List V) (g o : Nat), ER w en xs g o → bels n xs → ER w (en.take n) xs g o
  | [], g, o, _, _ => by simp [ER]
  | x :: xs, g, o, hu, hb => by
    simp only [ER, bels] at hu hb ⊢
    obtain ⟨⟨u, h1, h0, h2⟩, h3⟩ := hu
    exact ⟨⟨u, h1.take n, h0, VR_take x u h2 hb.1⟩, ER_take' xs g (o + 1) h3 hb.2⟩
theorem RR_take {w : World} {en : List CE} {n : Nat} : ∀ (xs : List (List V)) (g o : Nat), RR w en xs g o → bels2 n xs → RR w (en.take n) xs g o
  | [], g, o, _, _ => by simp [RR]
  | x :: xs, g, o, hu, hb => by
    simp only [RR, bels2] at hu hb ⊢
    exact ⟨ER_take' x g o hu.1 hb.1, RR_take xs g _ hu.2 hb.2⟩
end
theorem sbel_get {n : Nat} : ∀ {s : List AE}, sbel n s → ∀ (i : Nat) (cs : List V), s[i]? = some (.box cs) → bels n cs
  | [], _, i, cs, h => by simp at h
  | .box c :: s, hs, i, cs, h => by
    simp only [sbel] at hs
    cases i with
    | zero => simp only [List.getElem?_cons_zero, Option.some.injEq, AE.box.injEq] at h; subst h; exact hs.1
    | succ i => exact sbel_get hs.2 i cs (by simpa using h)
  | .tok _ _ _ :: s, hs, i, cs, h => by
    simp only [sbel] at hs
    cases i with
    | zero => simp at h
    | succ i => exact sbel_get hs i cs (by simpa using h)
  | .row _ _ _ _ _ :: s, hs, i, cs, h => by
    simp only [sbel] at hs
    cases i with
    | zero => simp at h
    | succ i => exact sbel_get hs.2 i cs (by simpa using h)
  | .glob _ :: s, hs, i, cs, h => by
    simp only [sbel] at hs
    cases i with
    | zero => simp at h
    | succ i => exact sbel_get hs i cs (by simpa using h)
theorem sbel_row {n : Nat} : ∀ {s : List AE}, sbel n s → ∀ (i ver : Nat) (e : TypeId) (sz m : Nat) (cs : List V), s[i]? = some (.row ver e sz m cs) → bels n cs
  | [], _, i, _, _, _, _, cs, h => by simp at h
  | .row _ _ _ _ c :: s, hs, i, ver, e, sz, m, cs, h => by
    simp only [sbel] at hs
    cases i with
    | zero => simp only [List.getElem?_cons_zero, Option.some.injEq, AE.row.injEq] at h; obtain ⟨_, _, _, _, rfl⟩ := h; exact hs.1
    | succ i => exact sbel_row hs.2 i ver e sz m cs (by simpa using h)
  | .tok _ _ _ :: s, hs, i, ver, e, sz, m, cs, h => by
    simp only [sbel] at hs
    cases i with
    | zero => simp at h
    | succ i => exact sbel_row hs i ver e sz m cs (by simpa using h)
  | .box _ :: s, hs, i, ver, e, sz, m, cs, h => by
    simp only [sbel] at hs
    cases i with
    | zero => simp at h
    | succ i => exact sbel_row hs.2 i ver e sz m cs (by simpa using h)
  | .glob _ :: s, hs, i, ver, e, sz, m, cs, h => by
    simp only [sbel] at hs
    cases i with
    | zero => simp at h
    | succ i => exact sbel_row hs i ver e sz m cs (by simpa using h)
theorem sbel_mk {n : Nat} : ∀ {s : List AE}, (∀ (i : Nat) (cs : List V), s[i]? = some (.box cs) → bels n cs) → (∀ (i ver : Nat) (e : TypeId) (sz m : Nat) (cs : List V), s[i]? = some (.row ver e sz m cs) → bels n cs) → sbel n s
  | [], _, _ => trivial
  | .box c :: s, h, k => ⟨h 0 c rfl, sbel_mk (fun i cs hi => h (i + 1) cs (by simpa using hi)) fun i v e z m cs hi => k (i + 1) v e z m cs (by simpa using hi)⟩
  | .row v e z m c :: s, h, k => ⟨k 0 v e z m c rfl, sbel_mk (fun i cs hi => h (i + 1) cs (by simpa using hi)) fun i v e z m cs hi => k (i + 1) v e z m cs (by simpa using hi)⟩
  | .tok _ _ _ :: s, h, k => sbel_mk (s := s) (fun i cs hi => h (i + 1) cs (by simpa using hi)) fun i v e z m cs hi => k (i + 1) v e z m cs (by simpa using hi)
  | .glob _ :: s, h, k => sbel_mk (s := s) (fun i cs hi => h (i + 1) cs (by simpa using hi)) fun i v e z m cs hi => k (i + 1) v e z m cs (by simpa using hi)
mutual
theorem VR_bel {w : World} {en : List CE} : ∀ (x : V) (v : Value), VR w en x v → bel en.length x
  | .bool _, _, _ => trivial
  | .int _ _, _, _ => trivial
  | .str _, _, _ => trivial
  | .exact _, _, _ => trivial
  | .junk, _, _ => trivial
  | .sl t xs, v, hv => by
    simp only [VR, bel] at hv ⊢
    obtain ⟨A, c, h1, h2, h2', h3, h4⟩ := hv
    refine ⟨?_, ?_⟩
    · cases t with
      | own k ver => obtain ⟨cur, v0, n0, sz, h5, _⟩ := h3; exact (List.getElem?_eq_some_iff.1 h5).1
      | ro => trivial
      | nil => trivial
      | full => trivial
    · cases xs with
      | nil => trivial
      | cons x xs => obtain ⟨g, o, _, h6⟩ := h4 (by simp); exact RR_bel _ g o h6
  | .ms b off n c, v, hv => by
    simp only [VR, bel] at hv ⊢
    obtain ⟨g, h1, _⟩ := hv
    exact (List.getElem?_eq_some_iff.1 h1).1
  | .agg cs, v, hv => by
    simp only [VR, bel] at hv ⊢
    obtain ⟨us, _, h2, _⟩ := hv
    exact LR_bel cs _ h2
  | .tup cs, v, hv => by
    simp only [VR, bel] at hv ⊢
    obtain ⟨us, _, h2⟩ := hv
    exact LR_bel cs _ h2
  | .ptr b off, v, hv => by
    simp only [VR, bel] at hv ⊢
    obtain ⟨g, h1, _⟩ := hv
    exact (List.getElem?_eq_some_iff.1 h1).1
  | .ep cs, v, hv => by
    simp only [VR, bel] at hv ⊢
    obtain ⟨g, o, _, h1⟩ := hv
    exact ER_bel cs g o h1
  | .fn f cs, v, hv => by
    simp only [VR, bel] at hv ⊢
    obtain ⟨us, _, h2⟩ := hv
    exact LR_bel cs _ h2
  | .gd b x, v, hv => by
    simp only [VR, bel] at hv ⊢
    exact fun e => VR_bel x v (hv.1 e)
  | .rw k ver n, v, hv => by
    simp only [VR, bel] at hv ⊢
    obtain ⟨A, c, cur, v0, n0, sz, h1, h2, h3, h4, h5, h6⟩ := hv
    exact (List.getElem?_eq_some_iff.1 h5).1
  | .rs k ver off n, v, hv => by
    simp only [VR, bel] at hv ⊢
    obtain ⟨A, c, cur, v0, n0, sz, h1, h2, h3, h5, h6⟩ := hv
    exact (List.getElem?_eq_some_iff.1 h5).1
  | .rp k ver off, v, hv => by
    simp only [VR, bel] at hv ⊢
    obtain ⟨g, cur, v0, n0, sz, h1, h5, h6⟩ := hv
    exact (List.getElem?_eq_some_iff.1 h5).1
theorem LR_bel {w : World} {en : List CE} : ∀ (xs : List V) (us : List Value), LR w en xs us → bels en.length xs
  | [], _, _ => trivial
  | x :: xs, us, hu => by
    simp only [LR, bels] at hu ⊢
    obtain ⟨u, us', _, h2, h3⟩ := hu
    exact ⟨VR_bel x u h2, LR_bel xs us' h3⟩
theorem ER_bel {w : World} {en : List CE} : ∀ (xs : List V) (g o : Nat), ER w en xs g o → bels en.length xs
  | [], _, _, _ => trivial
  | x :: xs, g, o, hu => by
    simp only [ER, bels] at hu ⊢
    obtain ⟨⟨u, _, _, h2⟩, h3⟩ := hu
    exact ⟨VR_bel x u h2, ER_bel xs g (o + 1) h3⟩
theorem RR_bel {w : World} {en : List CE} : ∀ (xs : List (List V)) (g o : Nat), RR w en xs g o → bels2 en.length xs
  | [], _, _, _ => trivial
  | x :: xs, g, o, hu => by
    simp only [RR, bels2] at hu ⊢
    exact ⟨ER_bel x g o hu.1, RR_bel xs g _ hu.2⟩
end
theorem Iv.sb {σ : List AE} {en : List CE} {w : World} (h : Iv σ en w) : sbel σ.length σ := sbel_mk (fun i cs hi => by
  have hl : i < en.length := by rw [h.len]; exact (List.getElem?_eq_some_iff.1 hi).1
  have := h.ok i _ _ hi (List.getElem?_eq_getElem hl)
  cases hx : en[i] <;> rw [hx] at this <;> simp only [EOk] at this
  obtain ⟨us, T, _, h2, _⟩ := this
  rw [← h.len]
  exact LR_bel cs _ h2) fun i ver e sz m cs hi => by
  have hl : i < en.length := by rw [h.len]; exact (List.getElem?_eq_some_iff.1 hi).1
  have := h.ok i _ _ hi (List.getElem?_eq_getElem hl)
  cases hx : en[i] <;> rw [hx] at this <;> simp only [EOk] at this
  obtain ⟨_, _, _, us, _, h2, _⟩ := this
  rw [← h.len]
  exact LR_bel cs _ h2
theorem Iv.take {σ : List AE} {en : List CE} {w : World} (h : Iv σ en w) {n : Nat} (hb : sbel n (σ.take n)) : Iv (σ.take n) (en.take n) w where
  len := by simp [h.len]
  ok := fun i a x ha hx => by
    have ha' := ha
    rw [List.getElem?_take] at ha hx
    split at ha
    · rename_i hi
      rw [if_pos hi] at hx
      have := h.ok i a x ha hx
      cases a <;> cases x <;> simp only [EOk] at this ⊢
      · exact fun p hp => ⟨(this p hp).1, fun x hx => (this p hp).2 x (List.mem_of_mem_take hx)⟩
      · obtain ⟨us, T, h1, h2, h3⟩ := this
        exact ⟨us, T, h1, LR_take' _ _ h2 (sbel_get hb i _ ha'), h3⟩
      · exact this
      · obtain ⟨e1, e2, e3, us, h1, h2, h3⟩ := this
        exact ⟨e1, e2, e3, us, h1, LR_take' _ _ h2 (sbel_row hb i _ _ _ _ _ ha'), h3⟩
    · cases ha
  dis := fun i j x y g hi hj hx hy => by
    rw [List.getElem?_take] at hi hj
    split at hi
    · split at hj
      · exact h.dis i j x y g hi hj hx hy
      · cases hj
    · cases hi
theorem Ext.take {w0 w : World} {en0 en : List CE} (h : Ext w0 en0 w en) {n : Nat} (hn : en0.length ≤ n) : Ext w0 en0 w (en.take n) where
  os := h.os
  tape := h.tape
  output := h.output
  size := h.size
  block := h.block
  st := fun g o u hs => (h.st g o u hs).take n
  ent := fun i x hx => by
    obtain ⟨x', h1, h2⟩ := h.ent i x hx
    have hi : i < en0.length := (List.getElem?_eq_some_iff.1 hx).1
    exact ⟨x', by rw [List.getElem?_take, if_pos (by omega)]; exact h1, h2⟩
  fresh := fun x' hx' => h.fresh x' (List.mem_of_mem_take hx')

/-! ### Less is said -/
def Vle (x y : V) : Prop := ∀ w en v, VR w en x v → VR w en y v
theorem Vle.refl (x : V) : Vle x x := fun _ _ _ h => h
theorem Vle.junk (x : V) : Vle x .junk := fun _ _ _ _ => by simp [VR]
theorem Vle.ro (t : Tag) (xs : List (List V)) : Vle (.sl t xs) (.sl .ro xs) := fun _ _ _ h => by
  simp only [VR] at h ⊢
  obtain ⟨A, c, h1, h2, h3, _, h4⟩ := h
  exact ⟨A, c, h1, h2, h3, trivial, h4⟩
def Lle : List V → List V → Prop
  | [], [] => True
  | x :: xs, y :: ys => Vle x y ∧ Lle xs ys
  | _, _ => False
theorem Lle.refl : ∀ xs : List V, Lle xs xs
  | [] => trivial
  | x :: xs => ⟨Vle.refl x, Lle.refl xs⟩
theorem Lle.length : ∀ {xs ys : List V}, Lle xs ys → xs.length = ys.length
  | [], [], _ => rfl
  | x :: xs, y :: ys, h => by simp [Lle.length h.2]
theorem Lle.LR {w : World} {en : List CE} : ∀ {xs ys : List V} {us : List Value}, Lle xs ys → LR w en xs us → LR w en ys us
  | [], [], us, _, h => h
  | x :: xs, y :: ys, us, hl, h => by
    simp only [A.LR] at h ⊢
    obtain ⟨u, us', h1, h2, h3⟩ := h
    exact ⟨u, us', h1, hl.1 _ _ _ h2, Lle.LR hl.2 h3⟩
theorem Vle.tup {xs ys : List V} (h : Lle xs ys) : Vle (.tup xs) (.tup ys) := fun w en v hv => by
  simp only [VR] at hv ⊢
  obtain ⟨us, h1, h2⟩ := hv
  exact ⟨us, h1, h.LR h2⟩
theorem Vle.agg {xs ys : List V} (h : Lle xs ys) : Vle (.agg xs) (.agg ys) := fun w en v hv => by
  simp only [VR] at hv ⊢
  obtain ⟨us, h1, h2, h3⟩ := hv
  exact ⟨us, h1, h.LR h2, h3⟩
theorem Lle.getD {w : World} {en : List CE} : ∀ {xs ys : List V}, Lle xs ys → ∀ (t : Nat) (v : Value), VR w en (xs.getD t .junk) v → VR w en (ys.getD t .junk) v
  | [], [], _, t, v, h => h
  | x :: xs, y :: ys, hl, 0, v, h => hl.1 _ _ _ (by simpa using h)
  | x :: xs, y :: ys, hl, t + 1, v, h => by
    simp only [List.getD_cons_succ] at h ⊢
    exact Lle.getD hl.2 t v h
def Sle : List AE → List AE → Prop
  | [], [] => True
  | .box cs :: s, .box cs' :: s' => Lle cs cs' ∧ Sle s s'
  | .tok a b c :: s, .tok a' b' c' :: s' => (a = a' ∧ b = b' ∧ c = c') ∧ Sle s s'
  | .row a b c d cs :: s, .row a' b' c' d' cs' :: s' => (a = a' ∧ b = b' ∧ c = c' ∧ d = d') ∧ Lle cs cs' ∧ Sle s s'
  | .glob l :: s, .glob l' :: s' => l = l' ∧ Sle s s'
  | _, _ => False
theorem Sle.refl : ∀ s : List AE, Sle s s
  | [] => trivial
  | .box cs :: s => ⟨Lle.refl cs, Sle.refl s⟩
  | .tok _ _ _ :: s => ⟨⟨rfl, rfl, rfl⟩, Sle.refl s⟩
  | .row _ _ _ _ cs :: s => ⟨⟨rfl, rfl, rfl, rfl⟩, Lle.refl cs, Sle.refl s⟩
  | .glob _ :: s => ⟨rfl, Sle.refl s⟩
theorem Sle.length : ∀ {s s' : List AE}, Sle s s' → s.length = s'.length
  | [], [], _ => rfl
  | .box _ :: s, .box _ :: s', h => by simp [Sle.length h.2]
  | .tok _ _ _ :: s, .tok _ _ _ :: s', h => by simp [Sle.length h.2]
  | .row _ _ _ _ _ :: s, .row _ _ _ _ _ :: s', h => by simp [Sle.length h.2.2]
  | .glob _ :: s, .glob _ :: s', h => by simp [Sle.length h.2]
theorem Sle.get {w : World} {en : List CE} : ∀ {s s' : List AE}, Sle s s' → ∀ (i : Nat) (a' : AE) (x : CE), s'[i]? = some a' → (∀ a, s[i]? = some a → EOk w en a x) → EOk w en a' x
  | [], [], _, i, a', x, h, _ => by simp at h
  | .box cs :: s, .box cs' :: s', hl, 0, a', x, h, k => by
    simp only [List.getElem?_cons_zero, Option.some.injEq] at h
    subst h
    have := k _ rfl
    cases x <;> simp only [EOk] at this ⊢
    obtain ⟨us, T, h1, h2, h3⟩ := this
    exact ⟨us, T, h1, hl.1.LR h2, h3⟩
  | .tok _ _ _ :: s, .tok _ _ _ :: s', hl, 0, a', x, h, k => by
    obtain ⟨⟨rfl, rfl, rfl⟩, _⟩ := hl
    exact k a' h
  | .row _ _ _ _ cs :: s, .row _ _ _ _ cs' :: s', hl, 0, a', x, h, k => by
    obtain ⟨⟨rfl, rfl, rfl, rfl⟩, hl2, _⟩ := hl
    simp only [List.getElem?_cons_zero, Option.some.injEq] at h
    subst h
    have := k _ rfl
    cases x <;> simp only [EOk] at this ⊢
    obtain ⟨e1, e2, e3, us, h1, h2, h3⟩ := this
    exact ⟨e1, e2, e3, us, h1, hl2.LR h2, h3⟩
  | .row _ _ _ _ _ :: s, .row _ _ _ _ _ :: s', hl, i + 1, a', x, h, k => Sle.get hl.2.2 i a' x (by simpa using h) (fun a ha => k a (by simpa using ha))
  | .glob _ :: s, .glob _ :: s', hl, 0, a', x, h, k => by
    obtain ⟨rfl, _⟩ := hl
    exact k a' h
  | .glob _ :: s, .glob _ :: s', hl, i + 1, a', x, h, k => Sle.get hl.2 i a' x (by simpa using h) (fun a ha => k a (by simpa using ha))
  | .box _ :: s, .box _ :: s', hl, i + 1, a', x, h, k => Sle.get hl.2 i a' x (by simpa using h) (fun a ha => k a (by simpa using ha))
  | .tok _ _ _ :: s, .tok _ _ _ :: s', hl, i + 1, a', x, h, k => Sle.get hl.2 i a' x (by simpa using h) (fun a ha => k a (by simpa using ha))
theorem Iv.le {σ σ' : List AE} {en : List CE} {w : World} (h : Iv σ en w) (hl : Sle σ σ') : Iv σ' en w where
  len := by rw [h.len, hl.length]
  ok := fun i a' x ha hx => hl.get i a' x ha (fun a hs => h.ok i a x hs hx)
  dis := h.dis

end Go.Proofs.YtfagngmikbmmhaaDoor.A
