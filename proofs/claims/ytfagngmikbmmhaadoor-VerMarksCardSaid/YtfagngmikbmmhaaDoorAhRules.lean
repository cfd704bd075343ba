/- The rules of the logic: frames, operations, code, calls. -/
import Derived.Test.YtfagngmikbmmhaaDoorAhCore
namespace Go.Proofs.YtfagngmikbmmhaaDoor.A
open Go Go.RowKit
set_option linter.unusedVariables false

/-! ### Frames -/
def cv : Value → V
  | .bool b => .bool b
  | .int k n => .int k n
  | .string s => .str s.data.toList
  | .slice none 0 0 => .sl .nil []
  | v => .exact v
theorem VR_cv (w : World) (en : List CE) (v : Value) : VR w en (cv v) v := by
  unfold cv
  split <;> first | (simp [VR, TagOk, maxLen]; done) | exact ⟨none, 0, rfl, Nat.le_refl _, Nat.zero_le _, rfl, fun h => absurd rfl h⟩

def gv (fr : List V) : Operand → V
  | .tmp t => fr.getD t .junk
  | .const v => cv v
  | .global g => .exact (.pointer (some ⟨g, 0, none⟩))
  | .func f => .fn f []

def tmpsOf (o : Op) : List Tmp := o.operands.toList.filterMap fun | .tmp t => some t | _ => none
def FRon (w : World) (en : List CE) (fr : List V) (a : Act) (ts : List Tmp) : Prop := ∀ t ∈ ts, VR w en (fr.getD t .junk) (a.tmps.getD t undef)
def FR (w : World) (en : List CE) (fr : List V) (a : Act) : Prop := fr.length = a.tmps.size ∧ ∀ t, VR w en (fr.getD t .junk) (a.tmps.getD t undef)
theorem FR.on {w : World} {en : List CE} {fr : List V} {a : Act} (h : FR w en fr a) (ts : List Tmp) : FRon w en fr a ts := fun t _ => h.2 t
theorem FR.ext {w w' : World} {en en' : List CE} {fr : List V} {a : Act} (h : FR w en fr a) (he : Ext w en w' en') : FR w' en' fr a := ⟨h.1, fun t => VR_ext he _ _ (h.2 t)⟩
theorem FRon.ext {w w' : World} {en en' : List CE} {fr : List V} {a : Act} {ts : List Tmp} (h : FRon w en fr a ts) (he : Ext w en w' en') : FRon w' en' fr a ts := fun t ht => VR_ext he _ _ (h t ht)

def pt (fr : List V) (dst : Option Tmp) (x : V) : List V := match dst with
  | some d => fr.set d x
  | none => fr
theorem FR.put {w : World} {en : List CE} {fr : List V} {a : Act} (h : FR w en fr a) {x : V} {v : Value} (hx : VR w en x v) (dst : Option Tmp) : FR w en (pt fr dst x) (a.put dst v) := by
  cases dst with
  | none => exact h
  | some d =>
    refine ⟨by simp [pt, Act.put, h.1], fun t => ?_⟩
    have ht := h.2 t
    simp only [pt, Act.put]
    by_cases hd : d = t
    · subst hd
      by_cases hl : d < a.tmps.size
      · simp only [List.getD_eq_getElem?_getD, List.getElem?_set, h.1, hl, if_true, Option.getD_some, Array.getD_eq_getD_getElem?, Array.getElem?_setIfInBounds_self_of_lt hl]
        exact hx
      · have h1 : (fr.set d x).getD d V.junk = V.junk := by simp [List.getD_eq_getElem?_getD, h.1, hl]
        rw [h1]
        simp [VR]
    · simp only [List.getD_eq_getElem?_getD, List.getElem?_set, hd, if_false, Array.getD_eq_getD_getElem?, Array.getElem?_setIfInBounds_ne hd] at ht ⊢
      exact ht
theorem gv_ok {w : World} {en : List CE} {fr : List V} {a : Act} {ts : List Tmp} (h : FRon w en fr a ts) (x : Operand) (hx : ∀ t, x = .tmp t → t ∈ ts) : VR w en (gv fr x) (a.eval x) := by
  cases x with
  | tmp t => exact h t (hx t rfl)
  | const v => exact VR_cv w en v
  | global g => simp [gv, VR, Act.eval]
  | func f => simp [gv, VR, Act.eval, LR]
theorem gv_ops {w : World} {en : List CE} {fr : List V} {a : Act} {o : Op} (h : FRon w en fr a (tmpsOf o)) (x : Operand) (hx : x ∈ o.operands) : VR w en (gv fr x) (a.eval x) :=
  gv_ok h x fun t ht => by
    subst ht
    exact List.mem_filterMap.2 ⟨.tmp t, by simpa using hx, rfl⟩

/-! ### What comes out of code -/
inductive AX where
  | normal | ret | exit (id : Nat) | goto (l : Nat) | panic (x : V)
def XR (w : World) (en : List CE) : AX → Exit → Prop
  | .normal, e => e = .normal
  | .ret, e => e = .ret
  | .exit id, e => e = .exit id
  | .goto l, e => e = .goto l
  | .panic x, e => ∃ v, e = .panic [{ v := v, recovered := false }] ∧ VR w en x v
abbrev APost := AX → List V → List AE → Prop

def LQ (ds : List Deferred) (Q : APost) (w : World) (en : List CE) : Exit → Act → World → Prop := fun e a' w' =>
  ∃ ax fr' σ' en', Q ax fr' σ' ∧ XR w' en' ax e ∧ Iv σ' en' w' ∧ FR w' en' fr' a' ∧ a'.defers = ds ∧ Ext w en w' en'
theorem LQ_ext {ds : List Deferred} {Q : APost} {w0 w : World} {en0 en : List CE} (h : Ext w0 en0 w en) {e : Exit} {a' : Act} {w' : World} (hq : LQ ds Q w en e a' w') : LQ ds Q w0 en0 e a' w' := by
  obtain ⟨ax, fr', σ', en', h1, h2, h3, h4, h5, h6⟩ := hq
  exact ⟨ax, fr', σ', en', h1, h2, h3, h4, h5, h.trans h6⟩

def AWP (P : Program) (c : Code) (Q : APost) (fr : List V) (σ : List AE) : Prop :=
  ∀ (a : Act) (w : World) (en : List CE), Iv σ en w → FR w en fr a → ∀ {ds : List Deferred}, a.defers = ds → c.wp P (LQ ds Q w en) a w
def AOps (P : Program) (ops : Array Oper) (Q : APost) (l : List Oper) (fr : List V) (σ : List AE) : Prop :=
  ∀ (a : Act) (w : World) (en : List CE), Iv σ en w → FR w en fr a → ∀ {ds : List Deferred}, a.defers = ds → wpList P ops (LQ ds Q w en) l a w

section
variable {P : Program}
theorem Oper_wpQ {o : Oper} {a : Act} {w : World} {K K' : Act → World → Prop} {Q Q' : Exit → Act → World → Prop} (hk : ∀ a w, K a w → K' a w) (hq : ∀ e a w, Q e a w → Q' e a w) (h : o.wp P a w K Q) : o.wp P a w K' Q' := by
  unfold Oper.wp at *
  generalize (execOp a.eval o).run P w = r at *
  cases r with
  | ok n w' =>
    cases n <;> simp only [Oper.upon] at h ⊢
    case value v => exact hk _ _ h
    case skip => exact hk _ _ h
    case defer d => exact hk _ _ h
    case enter f args =>
      refine Calls.mono h fun e w'' he => ?_
      cases e with
      | returned v => exact hk _ _ he
      | panicked c => exact hq _ _ _ he
      | outgrown => obtain ⟨a0, w0, h0⟩ := he; exact ⟨a0, w0, hq _ _ _ h0⟩
    case row row args => exact Rows.mono h fun _ _ he => hk _ _ he
  | halt x w' =>
    cases x <;> simp only [Oper.upon] at h ⊢
    case panic v => exact hq _ _ _ h
theorem wpList_mono {ops : Array Oper} {Q Q' : Exit → Act → World → Prop} (hq : ∀ e a w, Q e a w → Q' e a w) : ∀ (l : List Oper) (a : Act) (w : World), wpList P ops Q l a w → wpList P ops Q' l a w
  | [], a, w, h => hq _ _ _ h
  | o :: rest, a, w, h => by
    unfold wpList at *
    split
    · rename_i hw
      rw [if_pos hw] at h
      rcases h with h | ⟨h1, a0, w0, h2⟩
      · exact .inl (Oper_wpQ (fun a w h => wpList_mono hq rest a w h) hq h)
      · exact .inr ⟨h1, a0, w0, hq _ _ _ h2⟩
    · rename_i hw
      rw [if_neg hw] at h
      exact wpList_mono hq rest _ _ h
end

section
variable {P : Program} {Q : APost} {fr : List V} {σ : List AE}

theorem AWP_mono {Q' : APost} {c : Code} (hq : ∀ ax fr σ, Q ax fr σ → Q' ax fr σ) (h : AWP P c Q fr σ) : AWP P c Q' fr σ := fun a w en hi hf {_} hd =>
  Code.wp_mono (fun e a' w' hl => by
    obtain ⟨ax, fr', σ', en', h1, h2⟩ := hl
    exact ⟨ax, fr', σ', en', hq _ _ _ h1, h2⟩) (h a w en hi hf hd)
theorem AWP_skip (h : Q .normal fr σ) : AWP P .skip Q fr σ := fun _ w en hi hf {_} hd => wp_skip ⟨.normal, fr, σ, en, h, rfl, hi, hf, hd, Ext.refl w en⟩
theorem AWP_ret (h : Q .ret fr σ) : AWP P .ret Q fr σ := fun _ w en hi hf {_} hd => wp_ret ⟨.ret, fr, σ, en, h, rfl, hi, hf, hd, Ext.refl w en⟩
theorem AWP_exit {id : Nat} (h : Q (.exit id) fr σ) : AWP P (.exit id) Q fr σ := fun _ w en hi hf {_} hd => wp_exit ⟨.exit id, fr, σ, en, h, rfl, hi, hf, hd, Ext.refl w en⟩

def thenA (next : List V → List AE → Prop) (Q : APost) : APost
  | .normal, fr, σ => next fr σ
  | ax, fr, σ => Q ax fr σ
theorem AWP_seq {x y : Code} (h : AWP P x (thenA (AWP P y Q) Q) fr σ) : AWP P (.seq x y) Q fr σ := fun a w en hi hf {_} hd => by
  refine wp_seq (Code.wp_mono (fun e a' w' hl => ?_) (h a w en hi hf hd))
  obtain ⟨ax, fr', σ', en', h1, h2, h3, h4, h5, h6⟩ := hl
  cases ax with
  | normal =>
    obtain rfl : e = .normal := h2
    exact Code.wp_mono (fun _ _ _ hq => LQ_ext h6 hq) (h1 a' w' en' h3 h4 h5)
  | ret => obtain rfl : e = .ret := h2; exact ⟨.ret, fr', σ', en', h1, rfl, h3, h4, h5, h6⟩
  | exit id => obtain rfl : e = .exit id := h2; exact ⟨.exit id, fr', σ', en', h1, rfl, h3, h4, h5, h6⟩
  | goto l => obtain rfl : e = .goto l := h2; exact ⟨.goto l, fr', σ', en', h1, rfl, h3, h4, h5, h6⟩
  | panic x => obtain ⟨v, rfl, hv⟩ := h2; exact ⟨.panic x, fr', σ', en', h1, ⟨v, rfl, hv⟩, h3, h4, h5, h6⟩

theorem AWP_cond {c : Operand} {x y : Code} {t : Bool} (hc : gv fr c = .bool t) (h1 : t = true → AWP P x Q fr σ) (h2 : t = false → AWP P y Q fr σ) : AWP P (.cond c x y) Q fr σ := fun a w en hi hf {_} hd => by
  have hv := gv_ok (hf.on (match c with | .tmp t => [t] | _ => [])) c (fun t ht => by subst ht; simp)
  rw [hc] at hv
  simp only [VR] at hv
  exact wp_cond_split hv (fun e => h1 e a w en hi hf hd) (fun e => h2 e a w en hi hf hd)

def inBlockA (id : Nat) (Q : APost) : APost
  | .exit id', fr, σ => if id' = id then Q .normal fr σ else Q (.exit id') fr σ
  | ax, fr, σ => Q ax fr σ
theorem AWP_block {id : Nat} {c : Code} (h : AWP P c (inBlockA id Q) fr σ) : AWP P (.block id c) Q fr σ := fun a w en hi hf {_} hd => by
  refine wp_block (Code.wp_mono (fun e a' w' hl => ?_) (h a w en hi hf hd))
  obtain ⟨ax, fr', σ', en', h1, h2, h3⟩ := hl
  cases ax with
  | normal => obtain rfl : e = .normal := h2; exact ⟨.normal, fr', σ', en', h1, rfl, h3⟩
  | ret => obtain rfl : e = .ret := h2; exact ⟨.ret, fr', σ', en', h1, rfl, h3⟩
  | exit id' =>
    obtain rfl : e = .exit id' := h2
    simp only [inBlockA] at h1
    simp only [Exit.inBlock]
    split
    · rename_i hid; rw [if_pos hid] at h1; exact ⟨.normal, fr', σ', en', h1, rfl, h3⟩
    · rename_i hid; rw [if_neg hid] at h1; exact ⟨.exit id', fr', σ', en', h1, rfl, h3⟩
  | goto l => obtain rfl : e = .goto l := h2; exact ⟨.goto l, fr', σ', en', h1, rfl, h3⟩
  | panic x => obtain ⟨v, rfl, hv⟩ := h2; exact ⟨.panic x, fr', σ', en', h1, ⟨v, rfl, hv⟩, h3⟩

/-- The state (fr, σ) is at least (F, S) ++ entries that are let go. -/
structure Sub (fr : List V) (σ : List AE) (F : List V) (S : List AE) : Prop where
  f : Lle fr F
  s : ∃ S', Sle σ S' ∧ S = S'.take S.length ∧ (S.length < S'.length → bels S.length F ∧ sbel S.length S)
theorem Sub.same {fr : List V} {σ : List AE} {F : List V} (h : Lle fr F) : Sub fr σ F σ := ⟨h, σ, Sle.refl σ, by simp, fun h => absurd h (by omega)⟩
theorem Sub.refl (fr : List V) (σ : List AE) : Sub fr σ fr σ := .same (Lle.refl fr)
theorem Sub.drop {fr F : List V} {S τ : List AE} (h : Lle fr F) (hb : bels S.length F) (hs : sbel S.length S) : Sub fr (S ++ τ) F S :=
  ⟨h, S ++ τ, Sle.refl _, by simp, fun _ => ⟨hb, hs⟩⟩
theorem bels_get {n : Nat} : ∀ {xs : List V}, bels n xs → ∀ t, bel n (xs.getD t .junk)
  | [], _, t => by simp [bel]
  | x :: xs, h, 0 => h.1
  | x :: xs, h, t + 1 => by simpa using bels_get h.2 t
theorem Sub.ok {fr : List V} {σ : List AE} {F : List V} {S : List AE} (h : Sub fr σ F S) {w0 w : World} {en0 en : List CE} {a : Act} (hi : Iv σ en w) (hf : FR w en fr a) (he : Ext w0 en0 w en) (hn : en0.length ≤ S.length) :
    ∃ en', Iv S en' w ∧ FR w en' F a ∧ Ext w0 en0 w en' := by
  obtain ⟨S', h1, h2, h3⟩ := h.s
  have hf' : FR w en F a := ⟨by rw [← hf.1, h.f.length], fun t => h.f.getD t _ (hf.2 t)⟩
  have hi' := hi.le h1
  by_cases hlt : S.length < S'.length
  · obtain ⟨hb, hs⟩ := h3 hlt
    refine ⟨en.take S.length, ?_, ⟨hf'.1, fun t => VR_take _ _ (hf'.2 t) (bels_get hb t)⟩, he.take hn⟩
    have := hi'.take (n := S.length) (by rw [← h2]; exact hs)
    rwa [← h2] at this
  · have : S = S' := by rw [h2]; exact List.take_of_length_le (by omega)
    subst this
    exact ⟨en, hi', hf', he⟩

/-- A sequence, with less said between. -/
theorem AWP_seqW {x y : Code} (h : AWP P x (thenA (fun fr' σ' => ∃ F S, σ.length ≤ S.length ∧ Sub fr' σ' F S ∧ AWP P y Q F S) Q) fr σ) : AWP P (.seq x y) Q fr σ := fun a w en hi hf {_} hd => by
  refine wp_seq (Code.wp_mono (fun e a' w' hl => ?_) (h a w en hi hf hd))
  obtain ⟨ax, fr', σ', en', h1, h2, h3, h4, h5, h6⟩ := hl
  cases ax with
  | normal =>
    obtain rfl : e = .normal := h2
    obtain ⟨F, S, hn, hs, hy⟩ := h1
    obtain ⟨en'', h3', h4', h6'⟩ := hs.ok h3 h4 h6 (by rw [hi.len]; exact hn)
    exact Code.wp_mono (fun _ _ _ hq => LQ_ext h6' hq) (hy a' w' en'' h3' h4' h5)
  | ret => obtain rfl : e = .ret := h2; exact ⟨.ret, fr', σ', en', h1, rfl, h3, h4, h5, h6⟩
  | exit id => obtain rfl : e = .exit id := h2; exact ⟨.exit id, fr', σ', en', h1, rfl, h3, h4, h5, h6⟩
  | goto l => obtain rfl : e = .goto l := h2; exact ⟨.goto l, fr', σ', en', h1, rfl, h3, h4, h5, h6⟩
  | panic x => obtain ⟨v, rfl, hv⟩ := h2; exact ⟨.panic x, fr', σ', en', h1, ⟨v, rfl, hv⟩, h3, h4, h5, h6⟩

/-- Less is said of the frame. -/
theorem AWP_le {c : Code} {F : List V} (hl : Lle fr F) (h : AWP P c Q F σ) : AWP P c Q fr σ := fun a w en hi hf {_} hd =>
  h a w en hi ⟨by rw [← hf.1, hl.length], fun t => hl.getD t _ (hf.2 t)⟩ hd
theorem AOps_le {ops : Array Oper} {l : List Oper} {F : List V} (hl : Lle fr F) (h : AOps P ops Q l F σ) : AOps P ops Q l fr σ := fun a w en hi hf {_} hd =>
  h a w en hi ⟨by rw [← hf.1, hl.length], fun t => hl.getD t _ (hf.2 t)⟩ hd

/-- A loop by what its heads look like: F, S over a ghost x; m falls. -/
theorem AWP_loop {c : Code} {α : Type} (F : α → List V) (S : α → List AE) (m : α → Nat) (x0 : α) (h0 : Sub fr σ (F x0) (S x0)) (hS : ∀ x, σ.length ≤ (S x).length)
    (round : ∀ x, AWP P c (thenA (fun fr' σ' => ∃ x', m x' < m x ∧ Sub fr' σ' (F x') (S x')) Q) (F x) (S x)) : AWP P (.loop c) Q fr σ := fun a w en hi hf {ds} hd => by
  refine wp_loop_ghost (fun n a1 w1 => ∃ x1 en1, m x1 = n ∧ Iv (S x1) en1 w1 ∧ FR w1 en1 (F x1) a1 ∧ a1.defers = ds ∧ Ext w en w1 en1) (m x0) ?_ ?_
  · obtain ⟨en', h1, h2, h3⟩ := h0.ok hi hf (Ext.refl w en) (by rw [hi.len]; exact hS x0)
    exact ⟨x0, en', rfl, h1, h2, hd, h3⟩
  · rintro n a1 w1 ⟨x1, en1, hm, h1, h2, h3, h4⟩
    refine Code.wp_mono (fun e a' w' hl => ?_) (round x1 a1 w1 en1 h1 h2 h3)
    obtain ⟨ax, fr', σ', en', k1, k2, k3, k4, k5, k6⟩ := hl
    cases ax with
    | normal =>
      obtain rfl : e = .normal := k2
      obtain ⟨x', hlt, hs⟩ := k1
      obtain ⟨en'', j1, j2, j3⟩ := hs.ok k3 k4 (h4.trans k6) (by rw [hi.len]; exact hS x')
      exact ⟨m x', by omega, x', en'', rfl, j1, j2, k5, j3⟩
    | ret => obtain rfl : e = .ret := k2; exact ⟨.ret, fr', σ', en', k1, rfl, k3, k4, k5, h4.trans k6⟩
    | exit id => obtain rfl : e = .exit id := k2; exact ⟨.exit id, fr', σ', en', k1, rfl, k3, k4, k5, h4.trans k6⟩
    | goto l => obtain rfl : e = .goto l := k2; exact ⟨.goto l, fr', σ', en', k1, rfl, k3, k4, k5, h4.trans k6⟩
    | panic x => obtain ⟨v, rfl, hv⟩ := k2; exact ⟨.panic x, fr', σ', en', k1, ⟨v, rfl, hv⟩, k3, k4, k5, h4.trans k6⟩

/-! ### Regions in order -/
theorem AWP_region {id : Nat} {l : List Oper} (h : AOps P l.toArray Q l fr σ) : AWP P (.region id l.toArray false) Q fr σ := fun a w en hi hf {_} hd => wp_region_lit (h a w en hi hf hd)
theorem AOps_nil {ops : Array Oper} (h : Q .normal fr σ) : AOps P ops Q [] fr σ := fun _ w en hi hf {_} hd => wpList_nil ⟨.normal, fr, σ, en, h, rfl, hi, hf, hd, Ext.refl w en⟩

/-- An operation that is no call of code: it comes to x, σ'. -/
def OpOk (P : Program) (σ : List AE) (fr : List V) (o : Oper) (x : V) (σ' : List AE) : Prop :=
  ∀ (a : Act) (w : World) (en : List CE), Iv σ en w → FRon w en fr a (tmpsOf o.op) →
    Oper.wp P o a w (fun a' w' => ∃ v en', a' = a.put o.dst v ∧ VR w' en' x v ∧ Iv σ' en' w' ∧ Ext w en w' en') (fun _ _ _ => False)
theorem AOps_op {ops : Array Oper} {o : Oper} {rest : List Oper} {x : V} {σ' : List AE} (hg : o.guard = none) (ho : OpOk P σ fr o x σ') (h : AOps P ops Q rest (pt fr o.dst x) σ') : AOps P ops Q (o :: rest) fr σ := fun a w en hi hf {_} hd => by
  refine wpList_plain hg fun K hK => ?_
  refine Oper_wpQ (fun a' w' hk => ?_) (fun _ _ _ hq => hq.elim) (ho a w en hi (hf.on _))
  obtain ⟨v, en', rfl, h1, h2, h3⟩ := hk
  refine hK _ _ (wpList_mono (fun _ _ _ hq => LQ_ext h3 hq) _ _ _ (h _ w' en' h2 ((hf.ext h3).put h1 _) ?_))
  cases o.dst <;> simpa [Act.put] using hd
/-- The operation's guard: whether it is carried out. -/
def gdB (ops : Array Oper) (fr : List V) (o : Oper) : Option Bool := match o.guard with
  | none => some true
  | some (j, want) => match (ops[j]?).bind (·.dst) with
    | some d => match fr.getD d .junk with
      | .bool b => some (bif want then b else !b)
      | .gd g (.bool b) => some (g && bif want then b else !b)
      | _ => none
    | none => none
theorem yielded_of {ops : Array Oper} {j d : Nat} {tmps : Array Value} (hd : (ops[j]?).bind (·.dst) = some d) {b : Bool} (hv : tmps.getD d undef = .bool b) : yielded ops tmps j = some b := by
  unfold yielded
  rw [hd]
  by_cases hl : d < tmps.size
  · simp only [Array.getD_eq_getD_getElem?, Array.getElem?_eq_getElem hl, Option.getD_some] at hv
    simp [Array.getElem?_eq_getElem hl, hv]
  · simp [undef, hl] at hv
theorem yielded_undef {ops : Array Oper} {j d : Nat} {tmps : Array Value} (hd : (ops[j]?).bind (·.dst) = some d) (hv : tmps.getD d undef = undef) : yielded ops tmps j = none := by
  unfold yielded
  rw [hd]
  by_cases hl : d < tmps.size
  · simp only [Array.getD_eq_getD_getElem?, Array.getElem?_eq_getElem hl, Option.getD_some] at hv
    simp [Array.getElem?_eq_getElem hl, hv, undef]
  · simp [hl]
theorem gdB_ok {ops : Array Oper} {o : Oper} {w : World} {en : List CE} {a : Act} (hf : FR w en fr a) {b : Bool} (h : gdB ops fr o = some b) : Region.wanted o (yielded ops a.tmps) = b := by
  unfold gdB at h
  unfold Region.wanted
  split at h
  · rename_i hg; rw [hg]; simpa using h
  · rename_i j want hg
    rw [hg]
    split at h
    · rename_i d hd
      have hv := hf.2 d
      split at h
      · rename_i b' hb
        rw [hb] at hv
        simp only [VR] at hv
        simp only [yielded_of hd hv]
        simp only [Option.some.injEq] at h
        subst h
        cases b' <;> cases want <;> rfl
      · rename_i g b' hb
        rw [hb] at hv
        simp only [VR] at hv
        simp only [Option.some.injEq] at h
        subst h
        cases g with
        | true =>
          simp only [yielded_of hd (hv.1 rfl)]
          cases b' <;> cases want <;> rfl
        | false =>
          simp only [yielded_undef hd (hv.2 rfl)]
          cases want <;> rfl
      · cases h
    · cases h
theorem AOps_op_g {ops : Array Oper} {o : Oper} {rest : List Oper} {x : V} {σ' : List AE} (hg : gdB ops fr o = some true) (ho : OpOk P σ fr o x σ') (h : AOps P ops Q rest (pt fr o.dst x) σ') : AOps P ops Q (o :: rest) fr σ := fun a w en hi hf {_} hd => by
  unfold wpList
  rw [if_pos (gdB_ok hf hg)]
  refine .inl ?_
  refine Oper_wpQ (fun a' w' hk => ?_) (fun _ _ _ hq => hq.elim) (ho a w en hi (hf.on _))
  obtain ⟨v, en', rfl, h1, h2, h3⟩ := hk
  refine wpList_mono (fun _ _ _ hq => LQ_ext h3 hq) _ _ _ (h _ w' en' h2 ((hf.ext h3).put h1 _) ?_)
  cases o.dst <;> simpa [Act.put] using hd
theorem AOps_skip {ops : Array Oper} {o : Oper} {rest : List Oper} (hg : gdB ops fr o = some false) (h : AOps P ops Q rest (pt fr o.dst .junk) σ) : AOps P ops Q (o :: rest) fr σ := fun a w en hi hf {_} hd => by
  unfold wpList
  rw [if_neg (by rw [gdB_ok hf hg]; simp)]
  refine h _ w en hi (hf.put (by simp [VR]) _) ?_
  cases o.dst <;> simpa [Act.put] using hd

/-! ### Calls -/
inductive Out where
  | ret (x : V) | pan (x : V)
def OR (w : World) (en : List CE) : Out → Ending → Prop
  | .ret x, e => ∃ v, e = .returned v ∧ VR w en x v
  | .pan x, e => ∃ v, e = .panicked [{ v := v, recovered := false }] ∧ VR w en x v
/-- Function f is one of code. -/
def Ent (P : Program) (f : FuncId) : Prop := ∃ fn, P.funcs[f]? = some fn ∧ (fn.name == "runtime.NumGoroutine") = false ∧ fn.body.isNone = false
structure ACalls (P : Program) (f : FuncId) (args : List V) (σ : List AE) (R : Out → List AE → Prop) : Prop where
  ent : Ent P f
  go : ∀ (w : World) (en : List CE) (vals : Array Value), Iv σ en w → LR w en args vals.toList →
    Calls P f vals w (fun e w' => ∃ r σ' en', R r σ' ∧ OR w' en' r e ∧ Iv σ' en' w' ∧ Ext w en w' en')
theorem ACalls.mono {f : FuncId} {args : List V} {R R' : Out → List AE → Prop} (h : ACalls P f args σ R) (hr : ∀ r σ', R r σ' → R' r σ') : ACalls P f args σ R' :=
  ⟨h.ent, fun w en vals hi hl => (h.go w en vals hi hl).mono fun _ _ ⟨r, σ', en', h1, h2⟩ => ⟨r, σ', en', hr _ _ h1, h2⟩⟩
/-- The function gives x, and leaves the entries as they were. -/
abbrev Gives (P : Program) (f : FuncId) (args : List V) (σ : List AE) (x : V) : Prop := ACalls P f args σ (fun r σ' => r = .ret x ∧ σ' = σ)

theorem run_callFunc {f : FuncId} (h : Ent P f) (args : Array Value) (w : World) : (callFunc f args).run P w = .ok (.enter f args) w := by
  obtain ⟨fn, h1, h2, h3⟩ := h
  have h2' : ¬ fn.name = "runtime.NumGoroutine" := by simpa using h2
  have h3' : ¬ fn.body = none := fun e => by rw [e] at h3; cases h3
  simp [callFunc, program, h1, h2', h3', Sem.run, bind, Sem.bind, pure]
theorem args_ok {w : World} {en : List CE} {fr : List V} {a : Act} {o : Op} (h : FRon w en fr a (tmpsOf o)) : ∀ (xs : List Operand), (∀ x ∈ xs, x ∈ o.operands) → LR w en (xs.map (gv fr)) (xs.map a.eval)
  | [], _ => by simp [LR]
  | x :: xs, hx => by
    simp only [List.map_cons, LR]
    exact ⟨_, _, rfl, gv_ops h x (hx x List.mem_cons_self), args_ok h xs (fun y hy => hx y (List.mem_cons_of_mem _ hy))⟩
theorem call_wp {o : Oper} {c : Call} {f : Operand} {g : FuncId} {caps : List V} {R : Out → List AE → Prop} (ho : o.op = .call c) (hc : c.callee = .value f) (hf : gv fr f = .fn g caps) (h : ACalls P g (c.args.toList.map (gv fr) ++ caps) σ R)
    (a : Act) (w : World) (en : List CE) (hi : Iv σ en w) (hfr : FRon w en fr a (tmpsOf o.op)) :
    Oper.wp P o a w (fun a' w' => ∃ v x σ' en', a' = a.put o.dst v ∧ R (.ret x) σ' ∧ VR w' en' x v ∧ Iv σ' en' w' ∧ Ext w en w' en')
      (fun e a' w' => ∃ v x σ' en', e = .panic [{ v := v, recovered := false }] ∧ a' = a ∧ R (.pan x) σ' ∧ VR w' en' x v ∧ Iv σ' en' w' ∧ Ext w en w' en') := by
  have hv := gv_ops hfr f (by simp [ho, Op.operands, Call.operands, hc])
  rw [hf] at hv
  simp only [VR] at hv
  obtain ⟨us, he, hcaps⟩ := hv
  have hargs := args_ok hfr c.args.toList (fun x hx => by simp [ho, Op.operands, Call.operands, hc]; right; simpa using hx)
  have hrun : (execOp a.eval o).run P w = .ok (.enter g (c.args.map a.eval ++ us)) w := by
    have := run_callFunc h.ent (c.args.map a.eval ++ us) w
    simp [execOp, ho, resolve, hc, he, Deferred.ofValue, invoke, this]
  unfold Oper.wp
  rw [hrun]
  simp only [Oper.upon]
  refine (h.go w en (c.args.map a.eval ++ us) hi ?_).mono fun e w' hk => ?_
  · simpa using LR_append hargs hcaps
  · obtain ⟨r, σ', en', h1, h2, h3, h4⟩ := hk
    cases r with
    | ret x => obtain ⟨v, rfl, hx⟩ := h2; exact ⟨v, x, σ', en', rfl, h1, hx, h3, h4⟩
    | pan x => obtain ⟨v, rfl, hx⟩ := h2; exact ⟨v, x, σ', en', by simp, by simp, h1, hx, h3, h4⟩
theorem AOps_call_g {ops : Array Oper} {o : Oper} {rest : List Oper} {c : Call} {f : Operand} {g : FuncId} {caps : List V} {R : Out → List AE → Prop} (hg : gdB ops fr o = some true) (ho : o.op = .call c) (hc : c.callee = .value f) (hf : gv fr f = .fn g caps)
    (h : ACalls P g (c.args.toList.map (gv fr) ++ caps) σ R) (hr : ∀ x σ', R (.ret x) σ' → AOps P ops Q rest (pt fr o.dst x) σ') (hp : ∀ x σ', R (.pan x) σ' → Q (.panic x) fr σ') : AOps P ops Q (o :: rest) fr σ := fun a w en hi hfr {_} hd => by
  unfold wpList
  rw [if_pos (gdB_ok hfr hg)]
  refine .inl (Oper_wpQ (fun a' w' hk => ?_) (fun e a' w' hk => ?_) (call_wp ho hc hf h a w en hi (hfr.on _)))
  · obtain ⟨v, x, σ', en', rfl, h1, h2, h3, h4⟩ := hk
    refine wpList_mono (fun _ _ _ hq => LQ_ext h4 hq) _ _ _ (hr x σ' h1 _ w' en' h3 ((hfr.ext h4).put h2 _) ?_)
    cases o.dst <;> simpa [Act.put] using hd
  · obtain ⟨v, x, σ', en', rfl, rfl, h1, h2, h3, h4⟩ := hk
    exact ⟨.panic x, fr, σ', en', hp x σ' h1, ⟨v, rfl, h2⟩, h3, hfr.ext h4, hd, h4⟩
/-- A call that gives one value and turns no entry. -/
theorem OpOk_call {o : Oper} {c : Call} {f : Operand} {g : FuncId} {caps : List V} {x : V} (ho : o.op = .call c) (hc : c.callee = .value f) (hf : gv fr f = .fn g caps) (h : Gives P g (c.args.toList.map (gv fr) ++ caps) σ x) : OpOk P σ fr o x σ := fun a w en hi hfr => by
  refine Oper_wpQ (fun a' w' hk => ?_) (fun e a' w' hk => ?_) (call_wp ho hc hf h a w en hi hfr)
  · obtain ⟨v, x', σ', en', rfl, h1, h2, h3, h4⟩ := hk
    obtain ⟨h5, rfl⟩ := h1
    cases h5
    exact ⟨v, en', rfl, h2, h3, h4⟩
  · obtain ⟨v, x', σ', en', rfl, rfl, h1, _⟩ := hk
    cases h1.1

/-! ### A function's body -/
/-- What is read of a variable of type t at cells cs, from off on. -/
def tyAgg (P : Program) (t : TypeId) : Option Bool := (P.underlying t).map fun | .struct _ => true | .array _ _ => true | _ => false
def tySize (P : Program) (t : TypeId) : Option Nat := (P.info? t).map (·.size)
def readT (P : Program) (t : TypeId) (cs : List V) (off : Nat) : Option V := match tyAgg P t with
  | some true => match tySize P t with
    | some n => if off + n ≤ cs.length then some (.agg ((cs.drop off).take n)) else none
    | none => none
  | some false => cs[off]?
  | none => none
theorem run_isAgg {t : TypeId} {b : Bool} (h : tyAgg P t = some b) (w : World) : (isAgg t).run P w = .ok b w := by
  unfold tyAgg at h
  cases hu : P.underlying t with
  | none => rw [hu] at h; cases h
  | some d =>
    rw [hu] at h
    simp only [Option.map_some, Option.some.injEq] at h
    simp only [isAgg, underlying, program, bind, Sem.bind, pure, Sem.run, hu]
    split at h <;> simp_all [Sem.run]
theorem run_sizeOf {t : TypeId} {n : Nat} (h : tySize P t = some n) (w : World) : (sizeOf t).run P w = .ok n w := by
  unfold tySize at h
  cases hu : P.info? t with
  | none => rw [hu] at h; cases h
  | some d =>
    rw [hu] at h
    simp only [Option.map_some, Option.some.injEq] at h
    subst h
    simp [sizeOf, typeInfo, program, bind, Sem.bind, pure, Sem.run, hu]
end

end Go.Proofs.YtfagngmikbmmhaaDoor.A
