/- Operations evaluated on abstract states, and that the machine's come to just that. -/
import Derived.Test.YtfagngmikbmmhaaDoorAhOps
import Derived.Laws.Small
import Derived.WalkKit
import Derived.WalkSpells
import Derived.WalkLawsBesides
import Derived.Stop.BytesEq
namespace Go.Proofs.YtfagngmikbmmhaaDoor.A
open Go Go.RowKit
set_option linter.unusedVariables false

section
variable {P : Program} {σ : List AE} {fr : List V}

/-! ### Plain operators -/
def intBo (op : BinOp) (k : IntKind) (a b : Int) : Option V := match op with
  | .add => some (.int k (k.wrap (a + b)))
  | .sub => some (.int k (k.wrap (a - b)))
  | .mul => some (.int k (k.wrap (a * b)))
  | .quo => if b = 0 then none else some (.int k (k.wrap (a.tdiv b)))
  | .rem => if b = 0 then none else some (.int k (a.tmod b))
  | .eql => some (.bool (a == b))
  | .neq => some (.bool (a != b))
  | .lss => some (.bool (decide (a < b)))
  | .leq => some (.bool (decide (a ≤ b)))
  | .gtr => some (.bool (decide (b < a)))
  | .geq => some (.bool (decide (b ≤ a)))
  | .and => some (.int k (k.wrap (BitVec.ofInt k.bits a &&& BitVec.ofInt k.bits b).toNat))
  | .or => some (.int k (k.wrap (BitVec.ofInt k.bits a ||| BitVec.ofInt k.bits b).toNat))
  | .xor => some (.int k (k.wrap (BitVec.ofInt k.bits a ^^^ BitVec.ofInt k.bits b).toNat))
  | _ => none
def strBo (op : BinOp) (a b : List UInt8) : Option V := match op with
  | .add => if a.length + b.length ≤ 9223372036854775807 then some (.str (a ++ b)) else none
  | .eql => some (.bool (a == b))
  | .neq => some (.bool (!(a == b)))
  | .lss => some (.bool (Op.bytesLess a b))
  | .leq => some (.bool (Op.bytesLess a b || a == b))
  | .gtr => some (.bool (!(Op.bytesLess a b || a == b)))
  | .geq => some (.bool (!Op.bytesLess a b))
  | _ => none
def shBo (op : BinOp) (k : IntKind) (a n : Int) : Option V := match op with
  | .shl => if 0 ≤ n then some (.int k (k.wrap (a * 2 ^ (min n.toNat k.bits)))) else none
  | .shr => if 0 ≤ n then some (.int k (a.fdiv (2 ^ (min n.toNat k.bits)))) else none
  | _ => none
def isSh : BinOp → Bool
  | .shl => true
  | .shr => true
  | _ => false
def boolBo (op : BinOp) (a b : Bool) : Option V := match op with
  | .eql => some (.bool (a == b))
  | .neq => some (.bool (a != b))
  | _ => none
def bo (op : BinOp) (x y : V) : Option V := match x, y with
  | .int k a, .int k' b => if isSh op then shBo op k a b else if k = k' then intBo op k a b else none
  | .str a, .str b => strBo op a b
  | _, _ => none
/-- Bytes of an array. -/
def decK : List V → Option (List UInt8)
  | [] => some []
  | .int .u8 n :: xs => if 0 ≤ n ∧ n ≤ 255 then (decK xs).map (UInt8.ofNat n.toNat :: ·) else none
  | _ => none
def isKey (P : Program) (t : TypeId) : Option (Nat × TypeId) := match P.underlying t with
  | some (.array n e) => match P.underlying e with
    | some (.int .u8) => match tySize P e with
      | some 1 => if P.eqGuardType P.depth t = false then some (n, e) else none
      | _ => none
    | _ => none
  | _ => none
def keyC (l : List UInt8) : List V := l.map fun b => .int .u8 (b.toNat : Int)
theorem keyC_len (l : List UInt8) : (keyC l).length = l.length := by simp [keyC]
theorem decK_keyC : ∀ l : List UInt8, decK (keyC l) = some l
  | [] => rfl
  | b :: l => by
    have ih := decK_keyC l
    have hb := b.toNat_lt
    have e : keyC (b :: l) = .int .u8 (b.toNat : Int) :: keyC l := rfl
    rw [e, decK, if_pos (by omega), ih]
    simp
theorem decK_ok {w : World} {en : List CE} : ∀ {a : List V} {us : List Value} {l : List UInt8}, LR w en a us → decK a = some l → us = l.map Extern.Stop.cell
  | [], us, l, hl, h => by
    simp only [decK, Option.some.injEq] at h
    simp only [LR] at hl
    subst h; subst hl; rfl
  | x :: a, us, l, hl, h => by
    unfold decK at h
    split at h
    · rename_i he; cases he
    · rename_i n xs he
      cases he
      split at h
      · rename_i hn
        simp only [Option.map_eq_some_iff] at h
        obtain ⟨l', h1, rfl⟩ := h
        simp only [LR, VR] at hl
        obtain ⟨u, us', rfl, rfl, h2⟩ := hl
        rw [List.map_cons, ← decK_ok h2 h1]
        congr 1
        simp only [Extern.Stop.cell, UInt8.toNat_ofNat']
        congr 1
        show n = ((n.toNat % 2 ^ 8 : Nat) : Int)
        omega
      · cases h
    · cases h
def keyBo (op : BinOp) (n : Nat) (a b : List V) : Option V := match decK a, decK b with
  | some l, some m => if l.length = n ∧ m.length = n then (match op with
    | .eql => some (.bool (l == m))
    | .neq => some (.bool (!(l == m)))
    | _ => none) else none
  | _, _ => none
def boT (P : Program) (t : TypeId) (op : BinOp) (x y : V) : Option V := match x, y with
  | .agg a, .agg b => match isKey P t with
    | some (n, _) => keyBo op n a b
    | none => none
  | .bool a, .bool b => match P.underlying t with
    | some .bool => boolBo op a b
    | _ => none
  | x, y => bo op x y
def uo (op : UnOp) (x : V) : Option V := match op, x with
  | .not, .bool b => some (.bool (!b))
  | .neg, .int k n => some (.int k (k.wrap (0 - n)))
  | _, _ => none

theorem str_toList (s : List UInt8) : (⟨s.toArray⟩ : ByteArray).toList = s := by
  rw [ByteArray.toList_eq]
theorem bo_ok {w : World} {en : List CE} {op : BinOp} {x y z : V} {u v : Value} (hx : VR w en x u) (hy : VR w en y v) (h : bo op x y = some z) (t : TypeId) (p q : Operand) :
    ∃ r, (do eqGuard op t p q u v; binOp op t u v : Sem Value).run P w = .ok r w ∧ VR w en z r := by
  unfold bo at h
  split at h
  · rename_i k a k' b
    simp only [VR] at hx hy
    subst hx; subst hy
    split at h
    · rename_i hs
      cases op <;> first
        | (cases hs; done)
        | (simp only [shBo] at h
           split at h
           · cases h
             rename_i h0
             have h0' : ¬ b < 0 := by omega
             simp [eqGuard, binOp, Op.shift, h0', VR]
           · cases h)
    · split at h
      · rename_i hs hk
        subst hk
        cases op <;> simp only [intBo] at h <;> first
          | (cases h; simp [eqGuard, binOp, Op.intArith, Op.intCmp, Op.intBits, VR]; done)
          | (split at h <;> cases h; rename_i h0; simp [eqGuard, binOp, Op.intDiv, h0, VR]; done)
          | (cases h; done)
      · cases h
  · rename_i a b
    simp only [VR] at hx hy
    subst hx; subst hy
    cases op <;> simp only [strBo] at h
    case add =>
      split at h
      · rename_i h0
        simp only [Option.some.injEq] at h
        subst h
        have h0' : ¬ (9223372036854775807 : Int) < (a.length : Int) + (b.length : Int) := by omega
        have hk : IntKind.i64.max = 9223372036854775807 := rfl
        refine ⟨.string (⟨a.toArray⟩ ++ ⟨b.toArray⟩), ?_, ?_⟩
        · simp only [eqGuard, binOp, Op.stringOp]
          simp [hk, ByteArray.size, h0']
        · simp only [VR]
          congr 1
      · cases h
    all_goals first
      | (cases h; done)
      | (cases h; simp [eqGuard, binOp, Op.stringOp, VR]; done)
  · cases h
theorem boT_ok {w : World} {en : List CE} {op : BinOp} {x y z : V} {u v : Value} (hx : VR w en x u) (hy : VR w en y v) (t : TypeId) (h : boT P t op x y = some z) (p q : Operand) :
    ∃ r, (do eqGuard op t p q u v; binOp op t u v : Sem Value).run P w = .ok r w ∧ VR w en z r := by
  unfold boT at h
  split at h
  · rename_i a b
    split at h
    · rename_i n e hk
      unfold keyBo at h
      split at h
      · rename_i l m hl hm
        split at h
        · rename_i hlm
          unfold isKey at hk
          split at hk
          · rename_i n' e' ht
            split at hk
            · rename_i he
              split at hk
              · rename_i hs
                split at hk
                · rename_i hq
                  simp only [Option.some.injEq, Prod.mk.injEq] at hk
                  obtain ⟨rfl, rfl⟩ := hk
                  simp only [VR] at hx hy
                  obtain ⟨us, rfl, h2, _⟩ := hx
                  obtain ⟨vs, rfl, h3, _⟩ := hy
                  have e1 := decK_ok h2 hl
                  have e2 := decK_ok h3 hm
                  obtain rfl : us = (l.map Extern.Stop.cell).toArray := by rw [← e1]
                  obtain rfl : vs = (m.map Extern.Stop.cell).toArray := by rw [← e2]
                  have hr := run_equalIn_bytes w 9998 t e' n' ht he (fun w => run_sizeOf hs w) l m hlm.1 hlm.2
                  have hr' : (Op.equal t (.agg (l.map Extern.Stop.cell).toArray) (.agg (m.map Extern.Stop.cell).toArray)).run P w = .ok (l == m) w := hr
                  generalize (l.map Extern.Stop.cell).toArray = us at hr' ⊢
                  generalize (m.map Extern.Stop.cell).toArray = vs at hr' ⊢
                  have hg : ∀ op, (eqGuard op t p q (.agg us) (.agg vs)).run P w = .ok () w := fun op => by
                    unfold eqGuard
                    cases op <;> simp [hq]
                  cases op <;> simp only at h <;> try (cases h; done)
                  · cases h
                    exact ⟨.bool (l == m), by simp only [Sem.run_bind, hg, Result.andThen_ok]; simp [binOp, hr'], by simp [VR]⟩
                  · cases h
                    exact ⟨.bool (!(l == m)), by simp only [Sem.run_bind, hg, Result.andThen_ok]; simp [binOp, hr'], by simp [VR]⟩
                · cases hk
              · cases hk
            · cases hk
          · cases hk
        · cases h
      · cases h
    · cases h
  · rename_i a b
    split at h
    · rename_i ht
      simp only [VR] at hx hy
      subst hx; subst hy
      cases op <;> simp only [boolBo] at h <;> first
        | (cases h; done)
        | (cases h; simp [eqGuard, binOp, VR, run_equal_bool _ t a b ht, bne]; done)
    · cases h
  · exact bo_ok hx hy h t p q
theorem uo_ok {w : World} {en : List CE} {op : UnOp} {x z : V} {u : Value} (hx : VR w en x u) (h : uo op x = some z) : ∃ r, (Op.unary op u).run P w = .ok r w ∧ VR w en z r := by
  unfold uo at h
  split at h
  · cases h
    simp only [VR] at hx
    subst hx
    simp [Op.unary, VR]
  · cases h
    simp only [VR] at hx
    subst hx
    simp [Op.unary, Op.intArith, VR]
  · cases h

/-- Bytes as elements. -/
def encB (l : List UInt8) : List (List V) := l.map fun b => [.int .u8 (b.toNat : Int)]
/-- Elements as bytes. -/
def decB : List (List V) → Option (List UInt8)
  | [] => some []
  | [.int .u8 n] :: xs => (decB xs).map (UInt8.ofNat n.toNat :: ·)
  | _ => none
theorem decB_encB (l : List UInt8) : decB (encB l) = some l := by
  induction l with
  | nil => rfl
  | cons b l ih =>
    have h : decB (encB (b :: l)) = (decB (encB l)).map (UInt8.ofNat ((b.toNat : Int)).toNat :: ·) := rfl
    rw [h, ih]
    simp

def isStr (P : Program) (t : TypeId) : Bool := match P.underlying t with
  | some .string => true
  | _ => false
def isBytes (P : Program) (t : TypeId) : Bool := match P.underlying t with
  | some (.slice e) => match P.underlying e with
    | some (.int .u8) => true
    | _ => false
  | _ => false
def cvt (P : Program) (s d : TypeId) (x : V) : Option V := match P.underlying s, P.underlying d, x with
  | some _, some (.int k), .int _ n => some (.int k (k.wrap n))
  | some _, some .string, .str l => some (.str l)
  | some (.slice e), some .string, .sl _ xs => match P.underlying e with
    | some (.int .u8) => (decB xs).map .str
    | _ => none
  | _, _, _ => none

theorem run_bytes {w : World} {en : List CE} : ∀ {xs : List (List V)} {l : List UInt8} {g o : Nat}, decB xs = some l → RR w en xs g o → ∃ ns : List Int, (ns.map fun n => UInt8.ofNat n.toNat) = l ∧ ∀ i, i < ns.length → w.cell? ⟨g, o + i, none⟩ = some (.int .u8 (ns.getD i 0))
  | [], l, g, o, h, _ => by
    simp only [decB, Option.some.injEq] at h
    subst h
    exact ⟨[], rfl, fun i hi => by simp at hi⟩
  | x :: xs, l, g, o, h, hr => by
    unfold decB at h
    split at h
    · rename_i he; cases he
    · rename_i n xs' he
      cases he
      simp only [Option.map_eq_some_iff] at h
      obtain ⟨l', h1, rfl⟩ := h
      simp only [RR, ER] at hr
      obtain ⟨⟨⟨u, h2, _, h3⟩, _⟩, h4⟩ := hr
      simp only [VR] at h3
      subst h3
      obtain ⟨ns, h5, h6⟩ := run_bytes h1 h4
      refine ⟨n :: ns, by simp [h5], fun i hi => ?_⟩
      cases i with
      | zero => simpa using h2.1
      | succ i =>
        have := h6 i (by simpa using hi)
        simp only [List.length_cons, List.length_nil, Nat.zero_add] at this
        rw [show o + (i + 1) = o + 1 + i from by omega, this]
        simp
    · cases h
theorem decB_length : ∀ {xs : List (List V)} {l : List UInt8}, decB xs = some l → l.length = xs.length
  | [], l, h => by simp only [decB, Option.some.injEq] at h; subst h; rfl
  | x :: xs, l, h => by
    unfold decB at h
    split at h
    · rename_i he; cases he
    · rename_i n xs' he
      cases he
      simp only [Option.map_eq_some_iff] at h
      obtain ⟨l', h1, rfl⟩ := h
      simp [decB_length h1]
    · cases h
theorem cvt_ok {w : World} {en : List CE} {s d : TypeId} {x z : V} {u : Value} (hx : VR w en x u) (h : cvt P s d x = some z) : ∃ r, (convert s d u).run P w = .ok r w ∧ VR w en z r := by
  unfold cvt at h
  split at h
  · rename_i h1 h2
    cases h
    simp only [VR] at hx
    subst hx
    simp [convert, run_underlying h1, run_underlying h2, Conv.intToInt, VR]
  · rename_i h1 h2
    cases h
    simp only [VR] at hx
    subst hx
    simp [convert, run_underlying h1, run_underlying h2, VR]
  · rename_i e t xs h1 h2
    split at h
    · rename_i h3
      simp only [Option.map_eq_some_iff] at h
      obtain ⟨l, h4, rfl⟩ := h
      simp only [VR] at hx
      obtain ⟨A, c, rfl, h5, h6, h7, h8⟩ := hx
      have hl := decB_length h4
      cases xs with
      | nil =>
        simp only [decB, Option.some.injEq] at h4
        subst h4
        cases A with
        | none => exact ⟨.string ByteArray.empty, run_convert_bytes_nil w s e h1 h3 _ _ d h2, by simp only [VR]; rfl⟩
        | some a =>
          refine ⟨.string ByteArray.empty, ?_, by simp only [VR]; rfl⟩
          show (convert s d (.slice (some a) 0 c)).run P w = _
          rw [run_convert_bytes_string w s d e a 0 c h1 h3 h2, run_bytesToString w a 0 c [] (by simp [loadCells, loadCellsFrom])]
          rfl
      | cons x xs =>
        obtain ⟨g, o, rfl, h9⟩ := h8 (by simp)
        obtain ⟨ns, h10, h11⟩ := run_bytes h4 h9
        have hn : ns.length = (x :: xs).length := by rw [← hl, ← h10]; simp
        refine ⟨_, run_convert_bytes_arg w s e h1 h3 g o _ c ns hn (fun i hi => h11 i (by omega)) d h2, ?_⟩
        simp only [VR, strOfNums, h10]
    · cases h
  · cases h

/-! ### Places -/
/-- Field f of a struct of type s: where it begins, its type. -/
def fld (P : Program) (s : TypeId) (f : Nat) : Option (Nat × TypeId) := match P.underlying s with
  | some (.struct fs) => (fs[f]?).map fun x => (x.offset, x.type)
  | _ => none
def ofs (n : Nat) : V → Option V
  | .ptr b o => some (.ptr b (o + n))
  | .rp k ver o => some (.rp k ver (o + n))
  | .ep cs => some (.ep (cs.drop n))
  | _ => none
theorem ofs_ok {w : World} {en : List CE} {n : Nat} {x z : V} {u : Value} (hx : VR w en x u) (h : ofs n x = some z) : ∃ a : Addr, u = .pointer (some a) ∧ a.spot = none ∧ VR w en z (.pointer (some (a.add n))) := by
  unfold ofs at h
  split at h
  · cases h
    simp only [VR] at hx ⊢
    obtain ⟨g, h1, rfl⟩ := hx
    exact ⟨_, rfl, rfl, g, h1, by rw [Addr_add]⟩
  · cases h
    simp only [VR] at hx ⊢
    obtain ⟨g, cur, v0, n0, sz0, rfl, h1⟩ := hx
    exact ⟨_, rfl, rfl, g, cur, v0, n0, sz0, by rw [Addr_add], h1⟩
  · cases h
    simp only [VR] at hx ⊢
    obtain ⟨g, o, rfl, h1⟩ := hx
    exact ⟨_, rfl, rfl, g, o + n, by rw [Addr_add], ER_drop h1 n⟩
  · cases h
def fieldAddrV (P : Program) (s : TypeId) (f : Nat) (x : V) : Option V := match fld P s f with
  | some (o, t) => match tySize P t with
    | some (_ + 1) => ofs o x
    | _ => none
  | none => none
theorem fieldAddr_ok {w : World} {en : List CE} {s : TypeId} {f : Nat} {x z : V} {u : Value} (hx : VR w en x u) (h : fieldAddrV P s f x = some z) : ∃ r, (Instr.fieldAt s u f).run P w = .ok r w ∧ VR w en z r := by
  unfold fieldAddrV at h
  split at h
  · rename_i o t hf
    split at h
    · rename_i m hm
      unfold fld at hf
      split at hf
      · rename_i fs hs
        simp only [Option.map_eq_some_iff, Prod.mk.injEq] at hf
        obtain ⟨y, h1, rfl, rfl⟩ := hf
        obtain ⟨a, rfl, _, h2⟩ := ofs_ok hx h
        refine ⟨_, ?_, h2⟩
        simp [Instr.fieldAt, run_underlying hs, h1, Instr.sureAddr, fieldPlace, run_sizeOf hm]
      · cases hf
    · cases h
  · cases h
def fieldV (P : Program) (s : TypeId) (f : Nat) (x : V) : Option V := match fld P s f, x with
  | some (o, t), .agg cs => readT P t cs o
  | _, _ => none
theorem run_part {w : World} {en : List CE} {cs : List V} {us : Array Value} (hl : LR w en cs us.toList) (h1 : ∀ u ∈ us.toList, u.oneCell' = true) {t : TypeId} {off : Nat} {x : V} (h : readT P t cs off = some x) :
    ∃ v, (part t us off).run P w = .ok v w ∧ VR w en x v := by
  unfold readT at h
  split at h
  · rename_i ha
    split at h
    · rename_i n hn
      split at h
      · rename_i hle
        simp only [Option.some.injEq] at h
        subst h
        refine ⟨.agg (us.extract off (off + n)), by simp [part, run_isAgg ha, run_sizeOf hn], ?_⟩
        simp only [VR]
        have he : (us.extract off (off + n)).toList = (us.toList.drop off).take n := by
          rw [Array.toList_extract, List.extract_eq_take_drop]
          congr 1; omega
        refine ⟨_, rfl, by rw [he]; exact LR_take (LR_drop hl off) n, fun u hu => ?_⟩
        rw [he] at hu
        exact h1 u (List.mem_of_mem_drop (List.mem_of_mem_take hu))
      · cases h
    · cases h
  · rename_i ha
    obtain ⟨u, hu, hx⟩ := LR_get hl off x h
    rw [Array.getElem?_toList] at hu
    exact ⟨u, by simp [part, run_isAgg ha, hu], hx⟩
  · cases h
theorem field_ok {w : World} {en : List CE} {s : TypeId} {f : Nat} {x z : V} {u : Value} (hx : VR w en x u) (h : fieldV P s f x = some z) : ∃ r, (Instr.field s u f).run P w = .ok r w ∧ VR w en z r := by
  unfold fieldV at h
  split at h
  · rename_i o t cs hf
    unfold fld at hf
    split at hf
    · rename_i fs hs
      simp only [Option.map_eq_some_iff, Prod.mk.injEq] at hf
      obtain ⟨y, h1, rfl, rfl⟩ := hf
      simp only [VR] at hx
      obtain ⟨us, rfl, h2, h3⟩ := hx
      obtain ⟨v, h4, h5⟩ := run_part h2 h3 h
      exact ⟨v, by simp [Instr.field, run_underlying hs, h1, asAgg, h4], h5⟩
    · cases hf
  · cases h

def loadV (P : Program) (σ : List AE) (t : TypeId) (x : V) : Option V := match ptrCells σ x with
  | some (cs, o) => readT P t cs o
  | none => none
theorem load_ok {w : World} {en : List CE} (hi : Iv σ en w) {t : TypeId} {x z : V} {u : Value} (hx : VR w en x u) (h : loadV P σ t x = some z) : ∃ r, (Instr.loadAt t u).run P w = .ok r w ∧ VR w en z r := by
  unfold loadV at h
  split at h
  · rename_i cs o hp
    obtain ⟨g, o', us, rfl, h1, h2, h3⟩ := ptr_ok hi hx hp
    obtain ⟨v, h4, h5⟩ := run_loadVar_at h1 h2 h3 h
    exact ⟨v, by simp [Instr.loadAt, Instr.sureAddr, h4], h5⟩
  · cases h

/-! ### Indexes -/
def indexV (P : Program) (t : TypeId) (x : V) (n : Int) : Option V := match P.underlying t, x with
  | some .string, .str l => if 0 ≤ n ∧ n.toNat < l.length then some (.int .u8 ((l.getD n.toNat 0).toNat : Int)) else none
  | some (.array len e), .agg cs => match tySize P e with
    | some sz => if 0 ≤ n ∧ n < len then readT P e cs (n.toNat * sz) else none
    | none => none
  | _, _ => none
theorem index_ok {w : World} {en : List CE} {t : TypeId} {x z : V} {n : Int} {k : IntKind} {u : Value} (hx : VR w en x u) (h : indexV P t x n = some z) : ∃ r, (Instr.index t u (.int k n)).run P w = .ok r w ∧ VR w en z r := by
  unfold indexV at h
  split at h
  · rename_i l ht
    split at h
    · rename_i hn
      cases h
      simp only [VR] at hx
      subst hx
      refine ⟨.int .u8 ((l.getD n.toNat 0).toNat : Int), ?_, by simp [VR]⟩
      have hb : (⟨l.toArray⟩ : ByteArray)[n.toNat]? = some (l.getD n.toNat 0) := by
        have hlt : n.toNat < (⟨l.toArray⟩ : ByteArray).size := by simpa [ByteArray.size] using hn.2
        have e1 : (⟨l.toArray⟩ : ByteArray)[n.toNat]? = some ((⟨l.toArray⟩ : ByteArray)[n.toNat]'hlt) := by
          simp only [getElem?, decidableGetElem?]
          rw [dif_pos hlt]
        rw [e1, List.getD_eq_getElem?_getD, List.getElem?_eq_getElem hn.2]
        rfl
      simp [Instr.index, asIntOf, run_underlying ht, hn.1, hb]
    · cases h
  · rename_i len e cs ht
    split at h
    · rename_i sz hsz
      split at h
      · rename_i hn
        simp only [VR] at hx
        obtain ⟨us, rfl, h2, h3⟩ := hx
        obtain ⟨v, h4, h5⟩ := run_part h2 h3 h
        exact ⟨v, by simp [Instr.index, asIntOf, run_underlying ht, hn.1, hn.2, run_sizeOf hsz, h4], h5⟩
      · cases h
    · cases h
  · cases h

/-- Elements all of sz cells. -/
def flat (sz : Nat) (xs : List (List V)) : Bool := xs.all fun x => x.length == sz
theorem RR_at {w : World} {en : List CE} {sz : Nat} : ∀ {xs : List (List V)} {g o : Nat}, flat sz xs = true → RR w en xs g o → ∀ i (h : i < xs.length), ER w en xs[i] g (o + i * sz)
  | [], g, o, _, _, i, hi => absurd hi (by simp)
  | x :: xs, g, o, hf, hr, i, hi => by
    simp only [flat, List.all_cons, Bool.and_eq_true, beq_iff_eq] at hf
    simp only [RR] at hr
    cases i with
    | zero => simpa using hr.1
    | succ i =>
      have := RR_at (xs := xs) (sz := sz) (by simpa [flat] using hf.2) hr.2 i (by simpa using hi)
      simp only [List.getElem_cons_succ]
      rwa [show o + (i + 1) * sz = o + x.length + i * sz from by rw [hf.1, Nat.add_mul]; omega]
theorem RR_drop {w : World} {en : List CE} {sz : Nat} {xs : List (List V)} {g o : Nat} (hf : flat sz xs = true) (hr : RR w en xs g o) (n : Nat) : RR w en (xs.drop n) g (o + n * sz) := by
  induction n generalizing xs o with
  | zero => simpa using hr
  | succ n ih =>
    cases xs with
    | nil => simp [RR]
    | cons x xs =>
      simp only [flat, List.all_cons, Bool.and_eq_true, beq_iff_eq] at hf
      simp only [RR] at hr
      have := ih (xs := xs) (by simpa [flat] using hf.2) hr.2
      simp only [List.drop_succ_cons]
      rwa [show o + (n + 1) * sz = o + x.length + n * sz from by rw [hf.1, Nat.add_mul]; omega]
theorem RR_take' {w : World} {en : List CE} : ∀ {xs : List (List V)} {g o : Nat}, RR w en xs g o → ∀ n, RR w en (xs.take n) g o
  | _, _, _, _, 0 => by simp [RR]
  | [], _, _, _, _ + 1 => by simp [RR]
  | x :: xs, g, o, h, n + 1 => by
    simp only [RR, List.take_succ_cons] at h ⊢
    exact ⟨h.1, RR_take' h.2 n⟩
def indexAddrV (P : Program) (t : TypeId) (x : V) (n : Int) : Option V := match P.underlying t, x with
  | some (.slice e), .sl _ xs => match tySize P e with
    | some sz => if 0 ≤ n ∧ n.toNat < xs.length ∧ flat sz xs = true then some (.ep (xs.getD n.toNat [])) else none
    | none => none
  | some (.slice e), .ms b o m _ => match tySize P e with
    | some sz => if 0 ≤ n ∧ n < m then some (.ptr b (o + n.toNat * sz)) else none
    | none => none
  | some (.slice e), .rw k ver m => match tySize P e with
    | some sz => if 0 ≤ n ∧ n < m then some (.rp k ver (n.toNat * sz)) else none
    | none => none
  | some (.slice e), .rs k ver o m => match tySize P e with
    | some sz => if 0 ≤ n ∧ n < m then some (.rp k ver (o + n.toNat * sz)) else none
    | none => none
  | some (.array len e), x => match tySize P e with
    | some sz => if 0 ≤ n ∧ n < len then ofs (n.toNat * sz) x else none
    | none => none
  | _, _ => none
theorem indexAddr_ok {w : World} {en : List CE} {t : TypeId} {x z : V} {n : Int} {k : IntKind} {u : Value} (hx : VR w en x u) (h : indexAddrV P t x n = some z) : ∃ r, (Instr.indexAt t u (.int k n)).run P w = .ok r w ∧ VR w en z r := by
  unfold indexAddrV at h
  split at h
  · rename_i e tg xs ht
    split at h
    · rename_i sz hsz
      split at h
      · rename_i hn
        obtain ⟨h0, h1, hf⟩ := hn
        cases h
        simp only [VR] at hx ⊢
        obtain ⟨A, c, rfl, _, _, _, h4⟩ := hx
        obtain ⟨g, o, rfl, hr⟩ := h4 (by intro he; subst he; simp at h1)
        have hlt : n < (xs.length : Int) := by omega
        refine ⟨_, by simp [Instr.indexAt, asIntOf, run_underlying ht, h0, hlt, run_sizeOf hsz, Addr_add], g, o + n.toNat * sz, rfl, ?_⟩
        rw [List.getD_eq_getElem?_getD, List.getElem?_eq_getElem h1]
        exact RR_at hf hr _ h1
      · cases h
    · cases h
  · rename_i e b o m c ht
    split at h
    · rename_i sz hsz
      split at h
      · rename_i hn
        cases h
        simp only [VR] at hx ⊢
        obtain ⟨g, h1, rfl, _⟩ := hx
        exact ⟨_, by simp [Instr.indexAt, asIntOf, run_underlying ht, hn.1, hn.2, run_sizeOf hsz, Addr_add], g, h1, rfl⟩
      · cases h
    · cases h
  · rename_i e k ver m ht
    split at h
    · rename_i sz hsz
      split at h
      · rename_i hn
        cases h
        simp only [VR] at hx ⊢
        obtain ⟨A, c, cur, v0, n0, sz0, rfl, h1, h2, h3, h4, h5, h6⟩ := hx
        obtain ⟨g, rfl⟩ := h3 (by omega)
        refine ⟨_, by simp [Instr.indexAt, asIntOf, run_underlying ht, hn.1, hn.2, run_sizeOf hsz, Addr_add], g, cur, v0, n0, sz0, rfl, h4, h5, fun e => ?_⟩
        rw [(h6 e).1]
        rfl
      · cases h
    · cases h
  · rename_i e k ver o m ht
    split at h
    · rename_i sz hsz
      split at h
      · rename_i hn
        cases h
        simp only [VR] at hx ⊢
        obtain ⟨A, c, cur, v0, n0, sz0, rfl, h1, h2, h4, h5, h6⟩ := hx
        obtain ⟨g, rfl, h7⟩ := h6 (by omega)
        exact ⟨_, by simp [Instr.indexAt, asIntOf, run_underlying ht, hn.1, hn.2, run_sizeOf hsz, Addr_add], g, cur, v0, n0, sz0, rfl, h4, h5, h7⟩
      · cases h
    · cases h
  · rename_i len e x ht
    split at h
    · rename_i sz hsz
      split at h
      · rename_i hn
        obtain ⟨a, rfl, _, h2⟩ := ofs_ok hx h
        exact ⟨_, by simp [Instr.indexAt, asIntOf, run_underlying ht, Instr.sureAddr, hn.1, hn.2, run_sizeOf hsz], h2⟩
      · cases h
    · cases h
  · cases h

end
end Go.Proofs.YtfagngmikbmmhaaDoor.A
