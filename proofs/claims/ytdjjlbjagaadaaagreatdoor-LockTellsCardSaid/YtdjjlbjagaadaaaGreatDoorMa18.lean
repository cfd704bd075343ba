/- Texts of the proof, one behind another: LkV, LkW, LkX. -/
import Derived.Test.YtdjjlbjagaadaaaGreatDoorMa16
import Derived.Test.YtdjjlbjagaadaaaGreatDoorMa10
import Derived.Test.YtdjjlbjagaadaaaGreatDoorMa17
/- An empty slice may be nil or not. -/
namespace Go.Proofs.YtdjjlbjagaadaaaGreatDoor.A
open Go Go.RowKit
set_option linter.unusedSimpArgs false
set_option linter.unusedVariables false

section
variable {P : Program} {σ : List AE} {fr : List V} {Q : APost}
theorem AOps_eqNil {ops : Array Oper} {o : Oper} {rest : List Oper} {x : Operand} {t e T : TypeId} {tg : Tag} {xs : List (List V)} (hg : o.guard = none) (ho : o.op = .binOp .eql t x (.const (.slice none 0 0)) T) (ht : P.underlying t = some (.slice e)) (hx : gv fr x = .sl tg xs)
    (hr : ∀ b : Bool, AOps P ops Q rest (pt fr o.dst (.bool b)) σ) : AOps P ops Q (o :: rest) fr σ := fun a w en hi hf {_} hd => by
  have h1 := gv_ops (hf.on _) x (by simp [ho, Op.operands]) (o := o.op)
  rw [hx] at h1
  simp only [VR] at h1
  obtain ⟨A, c, hA, _⟩ := h1
  have hev : a.eval (.const (.slice none 0 0)) = .slice none 0 0 := rfl
  have hq : (Op.equal t (.slice A xs.length c) (.slice none 0 0)).run P w = .ok A.isNone w := run_eq_of fun d => by cases A <;> simp [Op.equalIn, run_underlying ht]
  have hrun : (execOp a.eval o).run P w = .ok (.value (.bool A.isNone)) w := by
    simp [execOp, ho, hA, hev, eqGuard, binOp, hq, Result.andThen]
  refine wpList_plain hg fun K hK => ?_
  unfold Oper.wp
  rw [hrun]
  simp only [Oper.upon]
  refine hK _ _ (hr A.isNone _ w en hi (hf.put (by simp [VR]) _) ?_)
  cases o.dst <;> simpa [Act.put] using hd
end
end Go.Proofs.YtdjjlbjagaadaaaGreatDoor.A
/- Locks: a text that is read is its pins' text; good pins' text is read as them: plain. -/
namespace Go.Proofs.YtdjjlbjagaadaaaGreatDoor.A
open Go
set_option maxRecDepth 100000
set_option linter.unusedSimpArgs false
set_option linter.unusedVariables false

/-! ### Sums -/
def pairB (s : List UInt8) (j : Nat) : UInt8 := nib (s.getD (2 * j) 0) <<< 4 ||| nib (s.getD (2 * j + 1) 0)
theorem zor (b : UInt8) : (0 : UInt8) <<< 4 ||| b = b := by
  have h : (0 : UInt8) <<< 4 = 0 := by decide
  rw [h]
  exact UInt8.zero_or
theorem getD_set_self {l : List UInt8} {j : Nat} {x : UInt8} (h : j < l.length) : (l.set j x).getD j 0 = x := by
  simp [List.getD_eq_getElem?_getD, h]
theorem kst_pairs (s : List UInt8) : ∀ j, j ≤ 32 → kst s (2 * j) = (List.range j).map (pairB s) ++ List.replicate (32 - j) 0
  | 0, _ => by simp [kst_zero, z32]
  | j + 1, h => by
    have ih := kst_pairs s j (by omega)
    have hl := kst_len s (2 * j)
    have e1 : 2 * (j + 1) = 2 * j + 1 + 1 := by omega
    have hrl : ((List.range j).map (pairB s)).length = j := by simp
    have e2 : List.replicate (32 - j) (0 : UInt8) = 0 :: List.replicate (32 - (j + 1)) 0 := by
      rw [show 32 - j = (32 - (j + 1)) + 1 by omega]
      rfl
    rw [e1, kst_succ, kst_succ, show 2 * j / 2 = j by omega, show (2 * j + 1) / 2 = j by omega]
    rw [getD_set_self (by omega), List.set_set, ih, e2]
    have hg : (((List.range j).map (pairB s)) ++ (0 : UInt8) :: List.replicate (32 - (j + 1)) 0).getD j 0 = 0 := by
      simp [List.getD_eq_getElem?_getD]
    rw [hg, zor, List.set_append_right (h := by rw [hrl]; exact Nat.le_refl _), hrl, Nat.sub_self, List.set_cons_zero]
    rw [show List.range (j + 1) = List.range j ++ [j] from List.range_succ]
    rw [List.map_append]
    simp [pairB]
theorem kst_64 (s : List UInt8) : kst s 64 = (List.range 32).map (pairB s) := by
  have := kst_pairs s 32 (Nat.le_refl _)
  simpa using this
theorem nib_or : ∀ a : Fin 16, ∀ b : Fin 16, (UInt8.ofNat a.1 <<< 4 ||| UInt8.ofNat b.1) >>> 4 = UInt8.ofNat a.1 ∧ (UInt8.ofNat a.1 <<< 4 ||| UInt8.ofNat b.1) &&& 15 = UInt8.ofNat b.1 := by decide
theorem nib_or' {a b : UInt8} (ha : a.toNat < 16) (hb : b.toNat < 16) : (a <<< 4 ||| b) >>> 4 = a ∧ (a <<< 4 ||| b) &&& 15 = b := by
  have h := nib_or ⟨a.toNat, ha⟩ ⟨b.toNat, hb⟩
  simpa using h
theorem hex_nib : ∀ c : UInt8, isHx c = true → hexS.getD (nib c).toNat 0 = c := all256 (by decide)
theorem hexL_range (s : List UInt8) (h : s.all isHx = true) : ∀ j, 2 * j ≤ s.length → hexL ((List.range j).map (pairB s)) = s.take (2 * j)
  | 0, _ => rfl
  | j + 1, hj => by
    have ih := hexL_range s h j (by omega)
    have hx : ∀ i, i < s.length → isHx (s.getD i 0) = true := fun i hi => by
      rw [List.getD_eq_getElem?_getD, List.getElem?_eq_getElem hi, Option.getD_some]
      exact List.all_eq_true.1 h _ (List.getElem_mem hi)
    have h1 := hx (2 * j) (by omega)
    have h2 := hx (2 * j + 1) (by omega)
    have e : s.take (2 * (j + 1)) = s.take (2 * j) ++ [s.getD (2 * j) 0, s.getD (2 * j + 1) 0] := by
      rw [show 2 * (j + 1) = 2 * j + 1 + 1 by omega, List.take_add_one, List.take_add_one, List.append_assoc]
      congr 1
      simp [List.getD_eq_getElem?_getD, show 2 * j < s.length by omega, show 2 * j + 1 < s.length by omega]
    have ho := nib_or' (nib_lt _ h1) (nib_lt _ h2)
    rw [e, ← ih, List.range_succ, List.map_append]
    unfold hexL
    rw [List.flatMap_append]
    congr 1
    simp only [List.map_cons, List.map_nil, List.flatMap_cons, List.flatMap_nil, List.append_nil, pairB]
    rw [ho.1, ho.2, hex_nib _ h1, hex_nib _ h2]
theorem hexL_keyP {s : List UInt8} (h : (keyP s).2 = true) : hexL (keyP s).1 = s := by
  unfold keyP at h ⊢
  split at h
  · rename_i hc
    rw [if_pos hc]
    have := hexL_range s hc.2 32 (by rw [hc.1]; exact Nat.le_refl _)
    rw [kst_64, this, List.take_of_length_le (by rw [hc.1]; exact Nat.le_refl _)]
  · cases h
theorem hx16 : ∀ n : Fin 16, isHx (hexS.getD n.1 0) = true ∧ nib (hexS.getD n.1 0) = UInt8.ofNat n.1 := by decide
theorem hx16' {b : UInt8} (h : b.toNat < 16) : isHx (hexS.getD b.toNat 0) = true ∧ nib (hexS.getD b.toNat 0) = b := by
  have := hx16 ⟨b.toNat, h⟩
  simpa using this
theorem hexL_hx : ∀ k : List UInt8, (hexL k).all isHx = true
  | [] => rfl
  | b :: k => by
    have ih := hexL_hx k
    unfold hexL at ih ⊢
    rw [List.flatMap_cons, List.all_append, ih, Bool.and_true]
    simp only [List.all_cons, List.all_nil, Bool.and_true, (hx16' (shr4_lt b)).1, (hx16' (and15_lt b)).1]
theorem hexL_get : ∀ (k : List UInt8) (j : Nat), j < k.length → (hexL k).getD (2 * j) 0 = hexS.getD (k.getD j 0 >>> 4).toNat 0 ∧ (hexL k).getD (2 * j + 1) 0 = hexS.getD (k.getD j 0 &&& 15).toNat 0
  | [], j, h => absurd h (by simp)
  | b :: k, 0, _ => ⟨rfl, rfl⟩
  | b :: k, j + 1, h => by
    have ih := hexL_get k j (by simpa using h)
    have e : hexL (b :: k) = hexS.getD (b >>> 4).toNat 0 :: hexS.getD (b &&& 15).toNat 0 :: hexL k := by simp [hexL]
    rw [e, show 2 * (j + 1) = 2 * j + 1 + 1 by omega]
    simpa using ih
theorem split_nib : ∀ b : UInt8, (b >>> 4) <<< 4 ||| (b &&& 15) = b := all256 (by decide)
theorem pairB_hexL (k : List UInt8) (j : Nat) (h : j < k.length) : pairB (hexL k) j = k.getD j 0 := by
  obtain ⟨h1, h2⟩ := hexL_get k j h
  unfold pairB
  rw [h1, h2, (hx16' (shr4_lt _)).2, (hx16' (and15_lt _)).2, split_nib]
theorem keyP_hexL {k : List UInt8} (h : k.length = 32) : keyP (hexL k) = (k, true) := by
  rw [keyP_yes (by rw [hexL_len, h]) (hexL_hx k), kst_64]
  congr 1
  refine List.ext_getElem (by simp [h]) fun i h1 h2 => ?_
  simp only [List.getElem_map, List.getElem_range]
  rw [pairB_hexL k i h2, List.getD_eq_getElem?_getD, List.getElem?_eq_getElem h2, Option.getD_some]

/-! ### Lines -/
structure Good (p : Pin) : Prop where
  n : isName p.n = true
  v : VGood p.v
  k : p.k.length = 32
theorem pinOf_text {x : List UInt8} {p : Pin} (h : pinOf x = some p) : lineL p = x ++ [10] ∧ Good p := by
  unfold pinOf at h
  split at h
  · rename_i hok
    cases h
    simp only [pinOk, Bool.and_eq_true, decide_eq_true_eq] at hok
    obtain ⟨⟨h3, hn⟩, hv, hk⟩ := hok
    obtain ⟨a, b, c, he⟩ := three h3
    have hj := spl_join 32 x
    rw [he] at hj hn hv hk ⊢
    simp only [pinAt, List.getD_cons_zero, List.getD_cons_succ] at hn hv hk ⊢
    have hp : ∃ v, parse b = some v ∧ (vOf b).1 = v := by
      unfold vOf at hv ⊢
      cases hp : parse b with
      | some v => exact ⟨v, rfl, rfl⟩
      | none => rw [hp] at hv; simp at hv
    obtain ⟨v, hpv, hvv⟩ := hp
    refine ⟨?_, hn, ?_, keyP_len _⟩
    · unfold lineL
      simp only
      rw [hvv, parse_text hpv, hexL_keyP hk, ← hj]
      rw [Lib.join_cons]
      simp [Lib.joinTail]
    · rw [hvv]; exact parse_good hpv
  · cases h
theorem nch_no {c : UInt8} : nch c = true → c ≠ 32 ∧ c ≠ 10 := all256 (p := fun c => nch c = true → c ≠ 32 ∧ c ≠ 10) (by decide) c
theorem name_no {s : List UInt8} (h : isName s = true) : ∀ c ∈ s, c ≠ 32 ∧ c ≠ 10 := fun c hc => by
  simp only [isName, Bool.and_eq_true] at h
  exact nch_no (List.all_eq_true.1 h.2 c hc)
theorem hx_no {c : UInt8} : isHx c = true → c ≠ 32 ∧ c ≠ 10 := all256 (p := fun c => isHx c = true → c ≠ 32 ∧ c ≠ 10) (by decide) c
theorem hexL_no (k : List UInt8) : ∀ c ∈ hexL k, c ≠ 32 ∧ c ≠ 10 := fun c hc => hx_no (List.all_eq_true.1 (hexL_hx k) c hc)
theorem dig10 {c : UInt8} : dig c = true → c ≠ 32 ∧ c ≠ 10 := all256 (p := fun c => dig c = true → c ≠ 32 ∧ c ≠ 10) (by decide) c
theorem sgn10 {c : UInt8} : sgn c = true → c ≠ 32 ∧ c ≠ 10 := all256 (p := fun c => sgn c = true → c ≠ 32 ∧ c ≠ 10) (by decide) c
theorem pfx_no : ∀ {l : List (List UInt8)}, l.all mark = true → ∀ c ∈ pfx l, c ≠ 32 ∧ c ≠ 10 := fun {l} h c hc => by
  by_cases hl : l = []
  · subst hl; simp [pfx] at hc
  · rw [pfx_join hl] at hc
    have key : ∀ l : List (List UInt8), l.all mark = true → ∀ c ∈ Lib.joinTail [46] l, c ≠ 32 ∧ c ≠ 10 := by
      intro l h c hc
      simp only [Lib.joinTail, List.mem_flatten, List.mem_map] at hc
      obtain ⟨y, ⟨x, hx, rfl⟩, hy⟩ := hc
      have hm := List.all_eq_true.1 h x hx
      simp only [mark, Bool.and_eq_true] at hm
      rcases List.mem_append.1 hy with hy | hy
      · rw [List.mem_singleton] at hy; subst hy; decide
      · exact sgn10 (List.all_eq_true.1 hm.2 c hy)
    rcases List.mem_cons.1 hc with rfl | hc
    · decide
    · cases l with
      | nil => exact absurd rfl hl
      | cons x r =>
        rw [Lib.join_cons] at hc
        simp only [List.all_cons, Bool.and_eq_true] at h
        rcases List.mem_append.1 hc with hc | hc
        · have hm := h.1
          simp only [mark, Bool.and_eq_true] at hm
          exact sgn10 (List.all_eq_true.1 hm.2 c hc)
        · exact key r h.2 c hc
theorem textV_no {v : Ver} (h : VGood v) : ∀ c ∈ textV v, c ≠ 32 ∧ c ≠ 10 := fun c hc => by
  obtain ⟨_, _, a3⟩ := dec_num h.a.1 h.a.2
  obtain ⟨_, _, b3⟩ := dec_num h.b.1 h.b.2
  obtain ⟨_, _, c3⟩ := dec_num h.c.1 h.c.2
  simp only [textV, List.append_assoc, List.mem_append, List.mem_singleton] at hc
  rcases hc with hc | hc | hc | hc | hc | hc
  · exact dig10 (a3 c hc)
  · subst hc; decide
  · exact dig10 (b3 c hc)
  · subst hc; decide
  · exact dig10 (c3 c hc)
  · exact pfx_no h.p c hc
/-- A line without its end. -/
def lin0 (p : Pin) : List UInt8 := p.n ++ 32 :: (textV p.v ++ 32 :: hexL p.k)
theorem lineL_0 (p : Pin) : lineL p = lin0 p ++ [10] := by simp [lineL, lin0]
theorem spl_lin0 {p : Pin} (h : Good p) : spl 32 (lin0 p) = [p.n, textV p.v, hexL p.k] := by
  unfold lin0
  rw [spl_at fun c hc => (name_no h.n c hc).1, spl_at fun c hc => (textV_no h.v c hc).1, spl_none fun c hc => (hexL_no p.k c hc).1]
theorem lin0_no {p : Pin} (h : Good p) : ∀ c ∈ lin0 p, c ≠ 10 := fun c hc => by
  unfold lin0 at hc
  rcases List.mem_append.1 hc with hc | hc
  · exact (name_no h.n c hc).2
  · rcases List.mem_cons.1 hc with rfl | hc
    · decide
    · rcases List.mem_append.1 hc with hc | hc
      · exact (textV_no h.v c hc).2
      · rcases List.mem_cons.1 hc with rfl | hc
        · decide
        · exact (hexL_no p.k c hc).2
theorem pinOf_lin0 {p : Pin} (h : Good p) : pinOf (lin0 p) = some p := by
  unfold pinOf pinOk pinAt
  rw [spl_lin0 h]
  simp only [List.getD_cons_zero, List.getD_cons_succ, h.n, vOf_textV h.v, keyP_hexL h.k, List.length_cons, List.length_nil]
  simp

/-! ### Texts -/
theorem fold_back : ∀ {r : List (List UInt8)} {acc : List Pin} {i : Nat} {l : List Pin} {k : Nat}, foldP acc i r = (l, k, 0) → (∀ p ∈ acc, Good p) → (∀ p ∈ l, Good p) ∧ ∃ m, l = acc ++ m ∧ k = 0 ∧ m.flatMap lineL = r.flatMap (· ++ [10])
  | [], acc, i, l, k, h, ha => by
    simp only [foldP, Prod.mk.injEq] at h
    obtain ⟨rfl, rfl, _⟩ := h
    exact ⟨ha, [], by simp, rfl, rfl⟩
  | x :: r, acc, i, l, k, h, ha => by
    simp only [foldP] at h
    cases hp : pinOf x with
    | none => rw [hp] at h; simp at h
    | some p =>
      rw [hp] at h
      simp only at h
      split at h
      · obtain ⟨h1, h2⟩ := pinOf_text hp
        obtain ⟨g, m, rfl, hk, hm⟩ := fold_back h fun q hq => by
          rcases List.mem_append.1 hq with hq | hq
          · exact ha q hq
          · rw [List.mem_singleton.1 hq]; exact h2
        exact ⟨g, p :: m, by simp, hk, by rw [List.flatMap_cons, List.flatMap_cons, hm, h1]⟩
      · simp at h
/-- Each name above the one ahead of it. -/
def Nxt : List Pin → Prop
  | [] => True
  | [_] => True
  | p :: q :: l => ltB p.n q.n = true ∧ Nxt (q :: l)
theorem lt_trans {a b c : List UInt8} (h1 : ltB a b = true) (h2 : ltB b c = true) : ltB a c = true := by
  rw [lt_cmp, decide_eq_true_eq] at h1 h2 ⊢
  exact isC_bytes.lt h1 (Int.le_of_lt h2)
theorem Nxt.srt : ∀ {l : List Pin}, Nxt l → Srt l
  | [], _ => trivial
  | [p], _ => ⟨fun q hq => (by cases hq), trivial⟩
  | p :: q :: l, h => by
    have ih := Nxt.srt h.2
    refine ⟨fun x hx => ?_, ih⟩
    rcases List.mem_cons.1 hx with rfl | hx
    · exact h.1
    · exact lt_trans h.1 (ih.1 x hx)
theorem Srt.app : ∀ {l : List Pin} {p : Pin}, Srt l → (∀ q ∈ l, ltB q.n p.n = true) → Srt (l ++ [p])
  | [], p, _, _ => ⟨fun q hq => (by cases hq), trivial⟩
  | x :: l, p, h, hp => ⟨fun q hq => by
      rcases List.mem_append.1 hq with hq | hq
      · exact h.1 q hq
      · rw [List.mem_singleton.1 hq]; exact hp x List.mem_cons_self, Srt.app h.2 fun q hq => hp q (List.mem_cons_of_mem _ hq)⟩
theorem Srt.last {l : List Pin} (h : Srt l) {p : Pin} (hp : ltB (l.getD (l.length - 1) p0).n p.n = true) : ∀ q ∈ l, ltB q.n p.n = true := fun q hq => by
  obtain ⟨i, hi, rfl⟩ := List.getElem_of_mem hq
  have e : l[i] = l.getD i p0 := by rw [List.getD_eq_getElem?_getD, List.getElem?_eq_getElem hi, Option.getD_some]
  rw [e]
  by_cases hj : i = l.length - 1
  · rw [hj]; exact hp
  · exact lt_trans (h.lt (by omega) (by omega)) hp
theorem okNext_srt {acc : List Pin} {p : Pin} (h : Srt acc) (ho : okNext acc p.n = true) : Srt (acc ++ [p]) ∧ acc.length < 200 := by
  simp only [okNext, Bool.and_eq_true, decide_eq_true_eq, Bool.or_eq_true] at ho
  refine ⟨?_, ho.1⟩
  rcases ho.2 with he | he
  · have : acc = [] := by simpa using he
    subst this
    exact ⟨fun q hq => (by cases hq), trivial⟩
  · exact h.app (h.last he)
theorem fold_srt : ∀ {r : List (List UInt8)} {acc : List Pin} {i : Nat} {l : List Pin} {k : Nat}, foldP acc i r = (l, k, 0) → Srt acc → acc.length ≤ 200 → Srt l ∧ l.length ≤ 200
  | [], acc, i, l, k, h, ha, hn => by
    simp only [foldP, Prod.mk.injEq] at h
    obtain ⟨rfl, _⟩ := h
    exact ⟨ha, hn⟩
  | x :: r, acc, i, l, k, h, ha, hn => by
    simp only [foldP] at h
    cases hp : pinOf x with
    | none => rw [hp] at h; simp at h
    | some p =>
      rw [hp] at h
      simp only at h
      split at h
      · rename_i ho
        obtain ⟨h1, h2⟩ := okNext_srt ha ho
        exact fold_srt h h1 (by simp; omega)
      · simp at h
theorem join_flat : ∀ (x : List UInt8) (r : List (List UInt8)), Lib.join (x :: r) [10] ++ [10] = (x :: r).flatMap (· ++ [10])
  | x, [] => by simp [Lib.join_one]
  | x, y :: r => by
    have ih := join_flat y r
    have e : Lib.join (x :: y :: r) [10] = x ++ 10 :: Lib.join (y :: r) [10] := by
      rw [Lib.join_cons, Lib.join_cons]
      simp [Lib.joinTail]
    rw [e, List.flatMap_cons, ← ih]
    simp
theorem lockOf_cases (s : List UInt8) : lockOf s = ([], 0, 63) ∨ (lockOf s = foldP [] 1 (lines1 s) ∧ s = lockHead ++ 10 :: (lines1 s).flatMap (· ++ [10])) := by
  by_cases h : (decide (s.length ≤ 65536) && Lib.hasSuffix s [10]) = true
  · simp only [Bool.and_eq_true, decide_eq_true_eq] at h
    by_cases h2 : (spl 10 s.dropLast).getD 0 [] = lockHead
    · refine .inr ⟨lockOf_3 h.1 h.2 h2, ?_⟩
      have hl := last10 h.2
      have hj := spl_join 10 s.dropLast
      cases hs : spl 10 s.dropLast with
      | nil => exact absurd hs (spl_ne 10 _)
      | cons a r =>
        rw [hs] at hj h2
        have ha : a = lockHead := by simpa using h2
        have e1 : lines1 s = r := by unfold lines1; rw [hs]; rfl
        have hf := join_flat a r
        rw [hj, ← hl] at hf
        rw [e1, hf, List.flatMap_cons, ha]
        simp
    · exact .inl (lockOf_2 h.2 h2)
  · exact .inl (lockOf_1 (by simpa using h))
/-- What is read has its text. -/
theorem lock_text {s : List UInt8} {l : List Pin} {k : Nat} (h : lockOf s = (l, k, 0)) : textS l = s ∧ Srt l ∧ l.length ≤ 200 ∧ (∀ p ∈ l, Good p) ∧ k = 0 := by
  rcases lockOf_cases s with h1 | ⟨h1, h2⟩
  · rw [h1] at h; simp at h
  · rw [h1] at h
    obtain ⟨g, m, hl, hk, hm⟩ := fold_back h fun p hp => by cases hp
    obtain ⟨hs, hn⟩ := fold_srt h trivial (by simp)
    refine ⟨?_, hs, hn, g, hk⟩
    rw [List.nil_append] at hl
    subst hl
    unfold textS
    rw [hm, ← h2]
theorem fold_good : ∀ (m acc : List Pin) (i : Nat), (∀ p ∈ m, Good p) → Srt (acc ++ m) → (acc ++ m).length ≤ 200 → foldP acc i (m.map lin0) = (acc ++ m, 0, 0)
  | [], acc, i, _, _, _ => by simp [foldP]
  | p :: m, acc, i, hg, hs, hl => by
    have hp := hg p List.mem_cons_self
    have ho : okNext acc p.n = true := by
      simp only [okNext, Bool.and_eq_true, decide_eq_true_eq, Bool.or_eq_true]
      refine ⟨by simp at hl; omega, ?_⟩
      by_cases hn : acc = []
      · exact .inl (by rw [hn]; rfl)
      · right
        have hpos : 0 < acc.length := List.length_pos_iff.2 hn
        have := hs.lt (i := acc.length - 1) (j := acc.length) (by omega) (by simp)
        simpa [List.getD_eq_getElem?_getD, List.getElem?_append_left (show acc.length - 1 < acc.length by omega)] using this
    rw [List.map_cons, foldP, pinOf_lin0 hp]
    simp only [ho, if_true]
    rw [fold_good m (acc ++ [p]) (i + 1) (fun q hq => hg q (List.mem_cons_of_mem _ hq)) (by simpa using hs) (by simpa using hl)]
    simp
theorem textS_flat (l : List Pin) : textS l = (lockHead :: l.map lin0).flatMap (· ++ [10]) := by
  unfold textS
  rw [List.flatMap_cons, List.flatMap_map]
  have : (fun p => lineL p) = fun p => lin0 p ++ [10] := by funext p; exact lineL_0 p
  rw [show l.flatMap lineL = l.flatMap (fun p => lin0 p ++ [10]) from congrArg (fun f => List.flatMap f l) this]
  simp
/-- A text of lines: what its lines are. -/
theorem lines_of {r : List (List UInt8)} (h : ∀ x ∈ r, ∀ c ∈ x, c ≠ 10) : spl 10 ((lockHead :: r).flatMap (· ++ [10])).dropLast = lockHead :: r ∧ Lib.hasSuffix ((lockHead :: r).flatMap (· ++ [10])) [10] = true := by
  have e := join_flat lockHead r
  rw [← e]
  refine ⟨?_, ?_⟩
  · rw [List.dropLast_concat]
    refine spl_joined (by simp) fun x hx b hb => ?_
    rcases List.mem_cons.1 hx with rfl | hx
    · exact lock_no10 b hb
    · exact h x hx b hb
  · simp [Lib.hasSuffix]
theorem lockOf_lines {r : List (List UInt8)} (h : ∀ x ∈ r, ∀ c ∈ x, c ≠ 10) (hl : ((lockHead :: r).flatMap (· ++ [10])).length ≤ 65536) : lockOf ((lockHead :: r).flatMap (· ++ [10])) = foldP [] 1 r := by
  obtain ⟨h1, h2⟩ := lines_of h
  rw [lockOf_3 hl h2 (by rw [h1]; rfl)]
  unfold lines1
  rw [h1]
  rfl
/-- Good pins, sorted, are read back. -/
theorem lockOf_textS {l : List Pin} (hg : ∀ p ∈ l, Good p) (hs : Srt l) (hn : l.length ≤ 200) (hl : (textS l).length ≤ 65536) : lockOf (textS l) = (l, 0, 0) := by
  rw [textS_flat] at hl ⊢
  rw [lockOf_lines (fun x hx c hc => by
    obtain ⟨p, hp, rfl⟩ := List.mem_map.1 hx
    exact lin0_no (hg p hp) c hc) hl]
  rw [fold_good l [] 1 hg (by simpa using hs) (by simpa using hn)]
  simp

/-! ### Sorting pins of different names -/
theorem insP_mem' {p q : Pin} {l : List Pin} : q ∈ insP p l ↔ q = p ∨ q ∈ l := by
  unfold insP
  constructor
  · exact insP_mem
  · intro h
    rcases h with rfl | h
    · simp
    · rw [← List.take_append_drop (insAt p.n l l.length) l] at h
      rcases List.mem_append.1 h with h | h
      · exact List.mem_append_left _ h
      · exact List.mem_append_right _ (List.mem_cons_of_mem _ h)
theorem sortP_mem' {q : Pin} {l : List Pin} : q ∈ sortP l ↔ q ∈ l := by
  rcases List.eq_nil_or_concat l with rfl | ⟨m, p, rfl⟩
  · simp [sortP]
  · rw [List.concat_eq_append, sortP_snoc, insP_mem', sortP_mem' (l := m)]
    simp
    exact ⟨fun h => h.symm, fun h => h.symm⟩
termination_by l.length
decreasing_by simp_all
theorem Srt.of {l : List Pin} (h : ∀ i j, i < j → j < l.length → ltB (l.getD i p0).n (l.getD j p0).n = true) : Srt l := by
  induction l with
  | nil => trivial
  | cons p l ih =>
    refine ⟨fun q hq => ?_, ih fun i j hij hj => by simpa using h (i + 1) (j + 1) (by omega) (by simpa using hj)⟩
    obtain ⟨j, hj, rfl⟩ := List.getElem_of_mem hq
    have := h 0 (j + 1) (by omega) (by simpa using hj)
    simpa [List.getD_eq_getElem?_getD, hj] using this
theorem lt_total {a b : List UInt8} (h : a ≠ b) (h2 : ltB a b = false) : ltB b a = true := by
  rw [lt_cmp] at h2 ⊢
  have := isC_bytes.anti a b
  have hz : cmpB a b ≠ 0 := fun e => h (cmpB_zero e)
  simp only [decide_eq_false_iff_not] at h2
  simp only [decide_eq_true_eq]
  omega
theorem insAt_spec {n : List UInt8} {l : List Pin} (hs : Srt l) (hd : ∀ q ∈ l, q.n ≠ n) : ∀ k, k ≤ l.length → (∀ i, i < insAt n l k → ltB (l.getD i p0).n n = true) ∧ ∀ i, insAt n l k ≤ i → i < k → ltB n (l.getD i p0).n = true
  | 0, _ => ⟨fun i hi => by simp [insAt] at hi, fun i _ hi => by omega⟩
  | k + 1, hk => by
    unfold insAt
    have hgk : l.getD k p0 ∈ l := getD_mem (by omega)
    split
    · rename_i hc
      obtain ⟨h1, h2⟩ := insAt_spec hs hd k (by omega)
      refine ⟨h1, fun i hi hik => ?_⟩
      by_cases e : i = k
      · rw [e]; exact hc
      · exact h2 i hi (by omega)
    · rename_i hc
      have hlt := lt_total (hd _ hgk).symm (by simpa using hc)
      refine ⟨fun i hi => ?_, fun i hi hik => by omega⟩
      by_cases e : i = k
      · rw [e]; exact hlt
      · exact lt_trans (hs.lt (i := i) (j := k) (by omega) (by omega)) hlt
theorem insP_srt {p : Pin} {l : List Pin} (hs : Srt l) (hd : ∀ q ∈ l, q.n ≠ p.n) : Srt (insP p l) := by
  obtain ⟨h1, h2⟩ := insAt_spec hs hd l.length (Nat.le_refl _)
  have hle := insAt_le p.n l l.length
  unfold insP
  obtain ⟨K, hK⟩ : ∃ K, K = insAt p.n l l.length := ⟨_, rfl⟩
  rw [← hK] at h1 h2 hle ⊢
  have hg : ∀ i, i < l.length + 1 → (l.take K ++ p :: l.drop K).getD i p0 = if i < K then l.getD i p0 else if i = K then p else l.getD (i - 1) p0 := fun i hi => by
    simp only [List.getD_eq_getElem?_getD]
    by_cases ha : i < K
    · rw [if_pos ha, List.getElem?_append_left (by simp; omega), List.getElem?_take, if_pos ha]
    · rw [if_neg ha, List.getElem?_append_right (by simp; omega)]
      simp only [List.length_take, Nat.min_eq_left hle]
      by_cases hb : i = K
      · rw [if_pos hb, hb, Nat.sub_self]; rfl
      · rw [if_neg hb, show i - K = (i - K - 1) + 1 by omega, List.getElem?_cons_succ, List.getElem?_drop, show K + (i - K - 1) = i - 1 by omega]
  have hlen : (l.take K ++ p :: l.drop K).length = l.length + 1 := by simp; omega
  refine Srt.of fun i j hij hj => ?_
  rw [hlen] at hj
  rw [hg i (by omega), hg j hj]
  by_cases a : i < K
  · rw [if_pos a]
    by_cases b : j < K
    · rw [if_pos b]; exact hs.lt hij (by omega)
    · rw [if_neg b]
      by_cases c : j = K
      · rw [if_pos c]; exact h1 i a
      · rw [if_neg c]; exact hs.lt (by omega) (by omega)
  · rw [if_neg a, if_neg (by omega : ¬ j < K), if_neg (by omega : ¬ j = K)]
    by_cases c : i = K
    · rw [if_pos c]; exact h2 (j - 1) (by omega) (by omega)
    · rw [if_neg c]; exact hs.lt (by omega) (by omega)
/-- Names all different. -/
def Dif : List Pin → Prop
  | [] => True
  | p :: l => (∀ q ∈ l, q.n ≠ p.n) ∧ Dif l
theorem Dif.snoc : ∀ {l : List Pin} {p : Pin}, Dif l → (∀ q ∈ l, q.n ≠ p.n) → Dif (l ++ [p])
  | [], p, _, _ => ⟨fun q hq => (by cases hq), trivial⟩
  | x :: l, p, h, hp => ⟨fun q hq => by
      rcases List.mem_append.1 hq with hq | hq
      · exact h.1 q hq
      · rw [List.mem_singleton.1 hq]; exact (hp x List.mem_cons_self).symm, Dif.snoc h.2 fun q hq => hp q (List.mem_cons_of_mem _ hq)⟩
theorem Dif.of_snoc : ∀ {l : List Pin} {p : Pin}, Dif (l ++ [p]) → Dif l ∧ ∀ q ∈ l, q.n ≠ p.n
  | [], p, _ => ⟨trivial, fun q hq => by cases hq⟩
  | x :: l, p, h => by
    obtain ⟨h1, h2⟩ := Dif.of_snoc h.2
    refine ⟨⟨fun q hq => h.1 q (List.mem_append_left _ hq), h1⟩, fun q hq => ?_⟩
    rcases List.mem_cons.1 hq with rfl | hq
    · exact (h.1 p (by simp)).symm
    · exact h2 q hq
theorem sortP_srt {l : List Pin} (h : Dif l) : Srt (sortP l) := by
  rcases List.eq_nil_or_concat l with rfl | ⟨m, p, rfl⟩
  · trivial
  · rw [List.concat_eq_append] at h ⊢
    obtain ⟨h1, h2⟩ := h.of_snoc
    rw [sortP_snoc]
    exact insP_srt (sortP_srt h1) fun q hq => h2 q (sortP_mem'.1 hq)
termination_by l.length
decreasing_by simp_all
theorem lt_irr (a : List UInt8) : ltB a a = false := by
  cases h : ltB a a with
  | false => rfl
  | true => have := lt_anti h; rw [h] at this; cases this
theorem Srt.ext : ∀ {l m : List Pin}, Srt l → Srt m → (∀ q, q ∈ l ↔ q ∈ m) → l = m
  | [], [], _, _, _ => rfl
  | [], q :: m, _, _, h => by have := (h q).2 List.mem_cons_self; cases this
  | p :: l, [], _, _, h => by have := (h p).1 List.mem_cons_self; cases this
  | p :: l, q :: m, hl, hm, h => by
    have hpq : p = q := by
      rcases List.mem_cons.1 ((h p).1 List.mem_cons_self) with e | e
      · exact e
      · rcases List.mem_cons.1 ((h q).2 List.mem_cons_self) with e2 | e2
        · exact e2.symm
        · have a := hm.1 p e
          have b := hl.1 q e2
          rw [lt_anti a] at b
          cases b
    subst hpq
    congr 1
    refine Srt.ext hl.2 hm.2 fun x => ⟨fun hx => ?_, fun hx => ?_⟩
    · rcases List.mem_cons.1 ((h x).1 (List.mem_cons_of_mem _ hx)) with e | e
      · have := hl.1 x hx
        rw [e, lt_irr] at this
        cases this
      · exact e
    · rcases List.mem_cons.1 ((h x).2 (List.mem_cons_of_mem _ hx)) with e | e
      · have := hm.1 x hx
        rw [e, lt_irr] at this
        cases this
      · exact e
theorem Srt.dif : ∀ {l : List Pin}, Srt l → Dif l
  | [], _ => trivial
  | p :: l, h => ⟨fun q hq e => by have := h.1 q hq; rw [e, lt_irr] at this; (cases this), h.2.dif⟩
theorem sortP_same {l : List Pin} (h : Srt l) : sortP l = l := Srt.ext (sortP_srt h.dif) h fun _ => sortP_mem'
theorem sortP_perm {l m : List Pin} (hl : Dif l) (hm : Dif m) (h : ∀ q, q ∈ l ↔ q ∈ m) : sortP l = sortP m :=
  Srt.ext (sortP_srt hl) (sortP_srt hm) fun q => by rw [sortP_mem', sortP_mem', h q]
theorem samePs_refl : ∀ l : List Pin, samePs l l = true
  | [] => rfl
  | p :: l => by simp [samePs, alikeP, samePs_refl l]
end Go.Proofs.YtdjjlbjagaadaaaGreatDoor.A
/- symMerge over a row of pins that is sorted: it stays. -/
namespace Go.Proofs.YtdjjlbjagaadaaaGreatDoor.A
open Go Go.RowKit
set_option maxRecDepth 100000
set_option linter.unusedSimpArgs false
set_option linter.unusedVariables false

def GLkX167 := PLift.up <| And.intro F3 <| And.intro F5 <| And.intro F9 <| And.intro F23 <| And.intro F33 <| And.intro F35 <| And.intro F37 <| And.intro F39 <| And.intro F118 <| F165
theorem cmp_gt {l : List Pin} (hs : Srt l) {i j : Nat} (h : i < j) (hj : j < l.length) : decide (cmpB (l.getD j p0).n (l.getD i p0).n < 0) = false := by
  have := lt_anti (hs.lt h hj)
  rwa [lt_cmp] at this
theorem wrapS {x : Int} {n : Nat} (h : x = (n : Int)) (hn : n ≤ 9223372036854775807) : IntKind.i64.wrap x = (n : Int) := by
  rw [h]
  exact wrap_in (by omega) (by omega)
theorem wrapU {n : Nat} (hn : n ≤ 9223372036854775807) : IntKind.u64.wrap (n : Int) = (n : Int) := by
  show ((n : Int) % 18446744073709551616) = n
  omega
theorem halfU (n : Nat) : (n : Int).fdiv (2 ^ (min 1 IntKind.u64.bits)) = ((n / 2 : Nat) : Int) := by
  have : (2 : Int) ^ (min 1 IntKind.u64.bits) = 2 := rfl
  rw [this, Int.fdiv_eq_ediv_of_nonneg _ (by omega)]
  omega
abbrev symF : FuncId := 167
/-- What one probe of the binary searches needs: where it looks, what it finds there. -/
def Prb (l : List Pin) (n x y H Q : Nat) : Prop := IntKind.i64.wrap ((x : Int) + (y : Int)) = ((x + y : Nat) : Int) ∧ IntKind.u64.wrap ((x + y : Nat) : Int) = ((x + y : Nat) : Int) ∧ ((x + y : Nat) : Int).fdiv (2 ^ (min 1 IntKind.u64.bits)) = (H : Int) ∧ IntKind.i64.wrap (H : Int) = (H : Int) ∧ IntKind.i64.wrap ((H : Int) + 1) = ((H + 1 : Nat) : Int) ∧
  ((flatP l).drop (H * 37)).take 37 = pinC (l.getD H p0) ∧ ((flatP l).drop (Q * 37)).take 37 = pinC (l.getD Q p0)
theorem prb {l : List Pin} {n : Nat} (hn : l.length = n) (hK : K32 l) (hn1 : n ≤ 1000000) {x y H Q : Nat} (hH : H = (x + y) / 2) (hx : x ≤ n) (hy : y ≤ n) (h1 : H < n) (h2 : Q < n) : Prb l n x y H Q :=
  ⟨wrapS (by omega) (by omega), wrapU (by omega), by rw [halfU, hH], wrapS rfl (by omega), wrapS (by omega) (by omega), flatP_get hK (by omega), flatP_get hK (by omega)⟩
theorem half_b {x y H : Nat} (hH : H = (x + y) / 2) : 2 * H ≤ x + y ∧ x + y ≤ 2 * H + 1 := by omega
set_option maxHeartbeats 4000000 in
theorem symMerge_srt (k ver n : Nat) (l : List Pin) (hn : l.length = n) (hK : K32 l) (hs : Srt l) (hn1 : n ≤ 1000000) : ∀ (N a m b : Nat) (σ : List AE), b - a ≤ N → a < m → m < b → b ≤ n → σ[k]? = some (rowP ver n l) →
    Gives Tryz.prog symF [.rw k ver n, .int .i64 (a : Int), .int .i64 (m : Int), .int .i64 (b : Int), .fn byNameF []] σ (.tup []) := by
    intro N
    induction N with
    | zero => exact fun a m b σ h1 h2 h3 _ _ => absurd h1 (by omega)
    | succ N ih =>
    intro a m b σ h1 h2 h3 hb hk
    have hbN : b ≤ a + (N + 1) := by omega
    clear h1
    have fx : Bx ((flatP l).length = n * 37 ∧ σ[k]? = some (rowP ver n l)) := ⟨by rw [← hn]; exact flatP_len hK, hk⟩
    unfold symF
    refine ent Tryz.func167 Tryz.ntmps167 Tryz.results167 ?_
    obtain ⟨D, hD⟩ : ∃ D, m = a + D := ⟨m - a, by omega⟩
    obtain ⟨E, hE⟩ : ∃ E, b = m + E := ⟨b - m, by omega⟩
    have e1 : Bx (IntKind.i64.wrap ((m : Int) - (a : Int)) = (D : Int)) := ⟨wrapS (by omega) (by omega)⟩
    have e2 : Bx (IntKind.i64.wrap ((b : Int) - (m : Int)) = (E : Int)) := ⟨wrapS (by omega) (by omega)⟩
    refine wlk (And.intro e1.out GLkX167.down) ?_
    refine AWP_cond rfl (fun h => ?_) (fun h => ?_)
    · have hma : D = 1 := by simp at h; omega
      refine wlk GLkX167.down ?_
      refine AWP_loop (α := { j : Nat // m ≤ j ∧ j ≤ b }) (fun j => [.rw k ver n, .int .i64 (a : Int), .int .i64 (m : Int), .int .i64 (b : Int), .fn byNameF [], .junk, .junk, .junk, .junk, .junk, .int .i64 (m : Int), .int .i64 (j.1 : Int), .junk, .junk, .junk, .junk, .junk, .junk, .junk, .junk, .junk, .junk, .junk, .junk, .junk, .junk, .junk, .junk, .junk, .junk, .junk, .junk, .junk, .junk, .junk, .junk, .junk, .junk, .junk, .junk, .junk, .junk, .junk, .junk, .junk, .junk, .junk, .junk, .junk, .junk, .junk, .junk, .junk, .junk, .junk, .junk, .junk, .junk, .junk, .junk, .junk, .junk, .junk, .junk, .junk, .junk, .junk, .junk, .junk, .junk, .junk, .junk, .junk, .junk, .junk, .junk, .junk, .junk, .junk, .junk, .junk, .junk, .junk, .junk, .junk, .junk, .junk, .junk, .junk, .junk, .junk, .junk, .junk, .junk, .junk, .junk, .junk, .junk, .junk, .junk, .junk, .junk, .junk, .junk, .junk, .junk, .junk, .junk, .junk, .junk, .junk, .junk, .junk, .junk, .junk, .junk, .junk, .junk, .junk, .junk, .junk, .junk, .junk, .junk, .junk, .junk, .junk, .junk, .junk, .junk, .junk, .junk, .junk, .junk, .junk, .junk, .junk, .junk, .junk, .junk, .junk, .junk, .junk, .junk, .junk, .junk, .junk, .junk, .junk, .junk, .junk, .junk, .junk, .junk, .junk, .junk, .junk, .junk, .junk, .junk, .junk, .junk, .junk, .junk, .junk, .junk, .junk, .junk, .junk, .junk, .junk, .junk, .junk, .junk, .junk, .junk, .junk, .junk, .junk, .junk, .junk, .junk, .junk, .junk, .junk, .junk, .junk, .junk, .junk, .junk, .junk, .junk, .junk, .junk, .junk, .junk, .junk, .junk, .junk, .junk, .junk, .junk, .junk, .junk, .junk, .junk, .junk, .junk, .junk, .junk, .junk, .junk, .junk, .junk, .junk, .junk, .junk, .junk, .junk, .junk]) (fun _ => _) (fun j => j.1) ⟨b, by omega⟩ (.same ?_) (fun _ => Nat.le_refl _) ?_
      · exact lle
      · rintro ⟨j, hj1, hj2⟩
        refine wlk GLkX167.down ?_
        refine AWP_cond rfl (fun h => ?_) (fun h => ?_)
        · have hmj : m < j := by simp at h; omega
          obtain ⟨H, hH⟩ : ∃ H, H = (m + j) / 2 := ⟨_, rfl⟩
          have hb2 := half_b hH
          have hHn : H < n := by omega
          have an : a < n := by omega
          have f : Bx (Prb l n m j H a) := ⟨prb hn hK hn1 hH (by omega) (by omega) hHn an⟩
          have hc : Bx (decide (cmpB (l.getD H p0).n (l.getD a p0).n < 0) = false) := ⟨cmp_gt hs (i := a) (j := H) (by omega) (by omega)⟩
          clear hH
          unfold Prb at f
          refine wlk (And.intro f.out (And.intro fx.out (And.intro hHn (And.intro an GLkX167.down)))) ?_
          refine cll (byName_ok (l.getD H p0) (l.getD a p0) _ (getD_K hK) (getD_K hK)) ?_
          refine wlk (And.intro hc.out GLkX167.down) ?_
          refine ⟨⟨H, by omega⟩, by simp; omega, .same (by exact lle)⟩
        · have hmj : j = m := by simp at h; omega
          have f1 : Bx (IntKind.i64.wrap ((m : Int) - 1) = (a : Int) ∧ decide ((a : Int) < (a : Int)) = false) := ⟨wrapS (by omega) (by omega), decide_eq_false (by omega)⟩
          refine wlk GLkX167.down ?_
          refine AWP_loop (α := Unit) (fun _ => [.junk, .int .i64 (a : Int), .junk, .junk, .junk, .junk, .junk, .junk, .junk, .junk, .int .i64 (m : Int), .junk, .junk, .int .i64 (a : Int), .junk, .junk, .junk, .junk, .junk, .junk, .junk, .junk, .junk, .junk, .junk, .junk, .junk, .junk, .junk, .junk, .junk, .junk, .junk, .junk, .junk, .junk, .junk, .junk, .junk, .junk, .junk, .junk, .junk, .junk, .junk, .junk, .junk, .junk, .junk, .junk, .junk, .junk, .junk, .junk, .junk, .junk, .junk, .junk, .junk, .junk, .junk, .junk, .junk, .junk, .junk, .junk, .junk, .junk, .junk, .junk, .junk, .junk, .junk, .junk, .junk, .junk, .junk, .junk, .junk, .junk, .junk, .junk, .junk, .junk, .junk, .junk, .junk, .junk, .junk, .junk, .junk, .junk, .junk, .junk, .junk, .junk, .junk, .junk, .junk, .junk, .junk, .junk, .junk, .junk, .junk, .junk, .junk, .junk, .junk, .junk, .junk, .junk, .junk, .junk, .junk, .junk, .junk, .junk, .junk, .junk, .junk, .junk, .junk, .junk, .junk, .junk, .junk, .junk, .junk, .junk, .junk, .junk, .junk, .junk, .junk, .junk, .junk, .junk, .junk, .junk, .junk, .junk, .junk, .junk, .junk, .junk, .junk, .junk, .junk, .junk, .junk, .junk, .junk, .junk, .junk, .junk, .junk, .junk, .junk, .junk, .junk, .junk, .junk, .junk, .junk, .junk, .junk, .junk, .junk, .junk, .junk, .junk, .junk, .junk, .junk, .junk, .junk, .junk, .junk, .junk, .junk, .junk, .junk, .junk, .junk, .junk, .junk, .junk, .junk, .junk, .junk, .junk, .junk, .junk, .junk, .junk, .junk, .junk, .junk, .junk, .junk, .junk, .junk, .junk, .junk, .junk, .junk, .junk, .junk, .junk, .junk, .junk, .junk, .junk, .junk, .junk, .junk, .junk, .junk, .junk]) (fun _ => _) (fun _ => 0) () (.same ?_) (fun _ => Nat.le_refl _) ?_
          · exact lle
          · intro _
            refine wlk (And.intro f1.out GLkX167.down) ?_
            refine rtr GLkX167.down ?_
            exact ⟨rfl, rfl⟩
    · have hma : 1 < D := by simp at h; omega
      refine wlk (And.intro e2.out GLkX167.down) ?_
      refine AWP_cond rfl (fun h => ?_) (fun h => ?_)
      · have hbm : E = 1 := by simp at h; omega
        refine wlk GLkX167.down ?_
        refine AWP_loop (α := { i : Nat // a ≤ i ∧ i ≤ m }) (fun i => [.rw k ver n, .int .i64 (a : Int), .int .i64 (m : Int), .int .i64 (b : Int), .fn byNameF [], .junk, .junk, .junk, .junk, .junk, .junk, .junk, .junk, .junk, .int .i64 (i.1 : Int), .int .i64 (m : Int), .junk, .junk, .junk, .junk, .junk, .junk, .junk, .junk, .junk, .junk, .junk, .junk, .junk, .junk, .junk, .junk, .junk, .junk, .junk, .junk, .junk, .junk, .junk, .junk, .junk, .junk, .junk, .junk, .junk, .junk, .junk, .junk, .junk, .junk, .junk, .junk, .junk, .junk, .junk, .junk, .junk, .junk, .junk, .junk, .junk, .junk, .junk, .junk, .junk, .junk, .junk, .junk, .junk, .junk, .junk, .junk, .junk, .junk, .junk, .junk, .junk, .junk, .junk, .junk, .junk, .junk, .junk, .junk, .junk, .junk, .junk, .junk, .junk, .junk, .junk, .junk, .junk, .junk, .junk, .junk, .junk, .junk, .junk, .junk, .junk, .junk, .junk, .junk, .junk, .junk, .junk, .junk, .junk, .junk, .junk, .junk, .junk, .junk, .junk, .junk, .junk, .junk, .junk, .junk, .junk, .junk, .junk, .junk, .junk, .junk, .junk, .junk, .junk, .junk, .junk, .junk, .junk, .junk, .junk, .junk, .junk, .junk, .junk, .junk, .junk, .junk, .junk, .junk, .junk, .junk, .junk, .junk, .junk, .junk, .junk, .junk, .junk, .junk, .junk, .junk, .junk, .junk, .junk, .junk, .junk, .junk, .junk, .junk, .junk, .junk, .junk, .junk, .junk, .junk, .junk, .junk, .junk, .junk, .junk, .junk, .junk, .junk, .junk, .junk, .junk, .junk, .junk, .junk, .junk, .junk, .junk, .junk, .junk, .junk, .junk, .junk, .junk, .junk, .junk, .junk, .junk, .junk, .junk, .junk, .junk, .junk, .junk, .junk, .junk, .junk, .junk, .junk, .junk, .junk, .junk, .junk, .junk, .junk, .junk, .junk, .junk, .junk, .junk, .junk]) (fun _ => _) (fun i => m - i.1) ⟨a, by omega⟩ (.same ?_) (fun _ => Nat.le_refl _) ?_
        · exact lle
        · rintro ⟨i, hi1, hi2⟩
          refine wlk GLkX167.down ?_
          refine AWP_cond rfl (fun h => ?_) (fun h => ?_)
          · have him : i < m := by simp at h; omega
            obtain ⟨H, hH⟩ : ∃ H, H = (i + m) / 2 := ⟨_, rfl⟩
            have hb2 := half_b hH
            have hHn : H < n := by omega
            have mn : m < n := by omega
            have f : Bx (Prb l n i m H m) := ⟨prb hn hK hn1 hH (by omega) (by omega) hHn mn⟩
            have hc : Bx (decide (cmpB (l.getD m p0).n (l.getD H p0).n < 0) = false) := ⟨cmp_gt hs (i := H) (j := m) (by omega) (by omega)⟩
            clear hH
            unfold Prb at f
            refine wlk (And.intro f.out (And.intro fx.out (And.intro hHn (And.intro mn GLkX167.down)))) ?_
            refine cll (byName_ok (l.getD m p0) (l.getD H p0) _ (getD_K hK) (getD_K hK)) ?_
            refine wlk (And.intro hc.out (And.intro f.out GLkX167.down)) ?_
            refine ⟨⟨H + 1, by omega⟩, by simp; omega, .same (by exact lle)⟩
          · have him : i = m := by simp at h; omega
            have f1 : Bx (decide ((m : Int) < (m : Int)) = false) := ⟨decide_eq_false (by omega)⟩
            subst him
            refine wlk GLkX167.down ?_
            refine AWP_loop (α := Unit) (fun _ => [.junk, .junk, .junk, .junk, .junk, .junk, .junk, .junk, .junk, .junk, .junk, .junk, .junk, .junk, .int .i64 (i : Int), .junk, .junk, .int .i64 (i : Int), .junk, .junk, .junk, .junk, .junk, .junk, .junk, .junk, .junk, .junk, .junk, .junk, .junk, .junk, .junk, .junk, .junk, .junk, .junk, .junk, .junk, .junk, .junk, .junk, .junk, .junk, .junk, .junk, .junk, .junk, .junk, .junk, .junk, .junk, .junk, .junk, .junk, .junk, .junk, .junk, .junk, .junk, .junk, .junk, .junk, .junk, .junk, .junk, .junk, .junk, .junk, .junk, .junk, .junk, .junk, .junk, .junk, .junk, .junk, .junk, .junk, .junk, .junk, .junk, .junk, .junk, .junk, .junk, .junk, .junk, .junk, .junk, .junk, .junk, .junk, .junk, .junk, .junk, .junk, .junk, .junk, .junk, .junk, .junk, .junk, .junk, .junk, .junk, .junk, .junk, .junk, .junk, .junk, .junk, .junk, .junk, .junk, .junk, .junk, .junk, .junk, .junk, .junk, .junk, .junk, .junk, .junk, .junk, .junk, .junk, .junk, .junk, .junk, .junk, .junk, .junk, .junk, .junk, .junk, .junk, .junk, .junk, .junk, .junk, .junk, .junk, .junk, .junk, .junk, .junk, .junk, .junk, .junk, .junk, .junk, .junk, .junk, .junk, .junk, .junk, .junk, .junk, .junk, .junk, .junk, .junk, .junk, .junk, .junk, .junk, .junk, .junk, .junk, .junk, .junk, .junk, .junk, .junk, .junk, .junk, .junk, .junk, .junk, .junk, .junk, .junk, .junk, .junk, .junk, .junk, .junk, .junk, .junk, .junk, .junk, .junk, .junk, .junk, .junk, .junk, .junk, .junk, .junk, .junk, .junk, .junk, .junk, .junk, .junk, .junk, .junk, .junk, .junk, .junk, .junk, .junk, .junk, .junk, .junk, .junk, .junk, .junk]) (fun _ => _) (fun _ => 0) () (.same ?_) (fun _ => Nat.le_refl _) ?_
            · exact lle
            · intro _
              refine wlk (And.intro f1.out GLkX167.down) ?_
              refine rtr GLkX167.down ?_
              exact ⟨rfl, rfl⟩
      · have hbm : 1 < E := by simp at h; omega
        clear e1 e2
        obtain ⟨M, hM⟩ : ∃ M, M = (a + b) / 2 := ⟨_, rfl⟩
        have hM2 := half_b hM
        have f1 : Bx (IntKind.i64.wrap ((a : Int) + (b : Int)) = ((a + b : Nat) : Int) ∧ IntKind.u64.wrap ((a + b : Nat) : Int) = ((a + b : Nat) : Int) ∧ ((a + b : Nat) : Int).fdiv (2 ^ (min 1 IntKind.u64.bits)) = (M : Int) ∧ IntKind.i64.wrap (M : Int) = (M : Int) ∧ IntKind.i64.wrap ((M : Int) + (m : Int)) = ((M + m : Nat) : Int)) :=
          ⟨wrapS (by omega) (by omega), wrapU (by omega), by rw [halfU, hM], wrapS rfl (by omega), wrapS (by omega) (by omega)⟩
        clear hM
        obtain ⟨q, hq⟩ : ∃ q, M + m = q + 1 := ⟨M + m - 1, by omega⟩
        have f6 : Bx (IntKind.i64.wrap (((M + m : Nat) : Int) - 1) = (q : Int)) := ⟨wrapS (by omega) (by omega)⟩
        refine wlk (And.intro f1.out GLkX167.down) ?_
        refine AWP_cond rfl (fun h => ?_) (fun h => ?_)
        · have hmM : M < m := by simp at h; omega
          obtain ⟨S, hS⟩ : ∃ S, M + m = b + S := ⟨M + m - b, by omega⟩
          have f7 : Bx (IntKind.i64.wrap (((M + m : Nat) : Int) - (b : Int)) = (S : Int)) := ⟨wrapS (by omega) (by omega)⟩
          refine wlk (And.intro f6.out (And.intro f7.out GLkX167.down)) ?_
          refine AWP_loop (α := { i : Nat // S ≤ i ∧ i ≤ M }) (fun i => [.rw k ver n, .int .i64 (a : Int), .int .i64 (m : Int), .int .i64 (b : Int), .fn byNameF [], .junk, .junk, .junk, .junk, .junk, .junk, .junk, .junk, .junk, .junk, .junk, .junk, .junk, .int .i64 (M : Int), .int .i64 ((M + m : Nat) : Int), .int .i64 (i.1 : Int), .int .i64 (M : Int), .int .i64 (q : Int), .junk, .junk, .junk, .junk, .junk, .junk, .junk, .junk, .junk, .junk, .junk, .junk, .junk, .junk, .junk, .junk, .junk, .junk, .junk, .junk, .junk, .junk, .junk, .junk, .junk, .junk, .junk, .junk, .junk, .junk, .junk, .junk, .junk, .junk, .junk, .junk, .junk, .junk, .junk, .junk, .junk, .junk, .junk, .junk, .junk, .junk, .junk, .junk, .junk, .junk, .junk, .junk, .junk, .junk, .junk, .junk, .junk, .junk, .junk, .junk, .junk, .junk, .junk, .junk, .junk, .junk, .junk, .junk, .junk, .junk, .junk, .junk, .junk, .junk, .junk, .junk, .junk, .junk, .junk, .junk, .junk, .junk, .junk, .junk, .junk, .junk, .junk, .junk, .junk, .junk, .junk, .junk, .junk, .junk, .junk, .junk, .junk, .junk, .junk, .junk, .junk, .junk, .junk, .junk, .junk, .junk, .junk, .junk, .junk, .junk, .junk, .junk, .junk, .junk, .junk, .junk, .junk, .junk, .junk, .junk, .junk, .junk, .junk, .junk, .junk, .junk, .junk, .junk, .junk, .junk, .junk, .junk, .junk, .junk, .junk, .junk, .junk, .junk, .junk, .junk, .junk, .junk, .junk, .junk, .junk, .junk, .junk, .junk, .junk, .junk, .junk, .junk, .junk, .junk, .junk, .junk, .junk, .junk, .junk, .junk, .junk, .junk, .junk, .junk, .junk, .junk, .junk, .junk, .junk, .junk, .junk, .junk, .junk, .junk, .junk, .junk, .junk, .junk, .junk, .junk, .junk, .junk, .junk, .junk, .junk, .junk, .junk, .junk, .junk, .junk, .junk, .junk, .junk, .junk, .junk, .junk, .junk]) (fun _ => _) (fun i => M - i.1) ⟨S, by omega⟩ (.same ?_) (fun _ => Nat.le_refl _) ?_
          · exact lle
          · rintro ⟨i, hi1, hi2⟩
            refine wlk GLkX167.down ?_
            refine AWP_cond rfl (fun h => ?_) (fun h => ?_)
            · have him : i < M := by simp at h; omega
              obtain ⟨H, hH⟩ : ∃ H, H = (i + M) / 2 := ⟨_, rfl⟩
              have hb2 := half_b hH
              obtain ⟨G, hG⟩ : ∃ G, q = H + G := ⟨q - H, by omega⟩
              have hHn : H < n := by omega
              have hGn : G < n := by omega
              have f : Bx (Prb l n i M H G ∧ IntKind.i64.wrap ((q : Int) - (H : Int)) = (G : Int)) := ⟨prb hn hK hn1 hH (by omega) (by omega) hHn hGn, wrapS (by omega) (by omega)⟩
              have hc : Bx (decide (cmpB (l.getD G p0).n (l.getD H p0).n < 0) = false) := ⟨cmp_gt hs (i := H) (j := G) (by omega) (by omega)⟩
              clear hH
              unfold Prb at f
              refine wlk (And.intro f.out (And.intro fx.out (And.intro hHn (And.intro hGn GLkX167.down)))) ?_
              refine cll (byName_ok (l.getD G p0) (l.getD H p0) _ (getD_K hK) (getD_K hK)) ?_
              refine wlk (And.intro hc.out (And.intro f.out GLkX167.down)) ?_
              refine ⟨⟨H + 1, by omega⟩, by simp; omega, .same (by exact lle)⟩
            · have him : i = M := by simp at h; omega
              subst him
              have g : Bx (IntKind.i64.wrap (((i + m : Nat) : Int) - (i : Int)) = (m : Int) ∧ decide ((m : Int) < (m : Int)) = false ∧ decide ((i : Int) < (i : Int)) = false ∧ decide ((i : Int) < (m : Int)) = true ∧ decide ((m : Int) < (b : Int)) = true ∧ decide ((a : Int) < (i : Int)) = true) :=
                ⟨wrapS (by omega) (by omega), decide_eq_false (by omega), decide_eq_false (by omega), decide_eq_true (by omega), decide_eq_true (by omega), decide_eq_true (by omega)⟩
              refine wlk (And.intro g.out GLkX167.down) ?_
              refine cll (ih i m b σ (by omega) (by omega) (by omega) hb hk) ?_
              refine wlk GLkX167.down ?_
              refine rtn GLkX167.down ?_
              exact ⟨rfl, rfl⟩
        · have hmM : m ≤ M := by simp at h; omega
          refine wlk (And.intro f6.out GLkX167.down) ?_
          refine AWP_loop (α := { i : Nat // a ≤ i ∧ i ≤ m }) (fun i => [.rw k ver n, .int .i64 (a : Int), .int .i64 (m : Int), .int .i64 (b : Int), .fn byNameF [], .junk, .junk, .junk, .junk, .junk, .junk, .junk, .junk, .junk, .junk, .junk, .junk, .junk, .int .i64 (M : Int), .int .i64 ((M + m : Nat) : Int), .int .i64 (i.1 : Int), .int .i64 (m : Int), .int .i64 (q : Int), .junk, .junk, .junk, .junk, .junk, .junk, .junk, .junk, .junk, .junk, .junk, .junk, .junk, .junk, .junk, .junk, .junk, .junk, .junk, .junk, .junk, .junk, .junk, .junk, .junk, .junk, .junk, .junk, .junk, .junk, .junk, .junk, .junk, .junk, .junk, .junk, .junk, .junk, .junk, .junk, .junk, .junk, .junk, .junk, .junk, .junk, .junk, .junk, .junk, .junk, .junk, .junk, .junk, .junk, .junk, .junk, .junk, .junk, .junk, .junk, .junk, .junk, .junk, .junk, .junk, .junk, .junk, .junk, .junk, .junk, .junk, .junk, .junk, .junk, .junk, .junk, .junk, .junk, .junk, .junk, .junk, .junk, .junk, .junk, .junk, .junk, .junk, .junk, .junk, .junk, .junk, .junk, .junk, .junk, .junk, .junk, .junk, .junk, .junk, .junk, .junk, .junk, .junk, .junk, .junk, .junk, .junk, .junk, .junk, .junk, .junk, .junk, .junk, .junk, .junk, .junk, .junk, .junk, .junk, .junk, .junk, .junk, .junk, .junk, .junk, .junk, .junk, .junk, .junk, .junk, .junk, .junk, .junk, .junk, .junk, .junk, .junk, .junk, .junk, .junk, .junk, .junk, .junk, .junk, .junk, .junk, .junk, .junk, .junk, .junk, .junk, .junk, .junk, .junk, .junk, .junk, .junk, .junk, .junk, .junk, .junk, .junk, .junk, .junk, .junk, .junk, .junk, .junk, .junk, .junk, .junk, .junk, .junk, .junk, .junk, .junk, .junk, .junk, .junk, .junk, .junk, .junk, .junk, .junk, .junk, .junk, .junk, .junk, .junk, .junk, .junk, .junk, .junk, .junk, .junk, .junk, .junk]) (fun _ => _) (fun i => m - i.1) ⟨a, by omega⟩ (.same ?_) (fun _ => Nat.le_refl _) ?_
          · exact lle
          · rintro ⟨i, hi1, hi2⟩
            refine wlk GLkX167.down ?_
            refine AWP_cond rfl (fun h => ?_) (fun h => ?_)
            · have him : i < m := by simp at h; omega
              obtain ⟨H, hH⟩ : ∃ H, H = (i + m) / 2 := ⟨_, rfl⟩
              have hb2 := half_b hH
              obtain ⟨G, hG⟩ : ∃ G, q = H + G := ⟨q - H, by omega⟩
              have hHn : H < n := by omega
              have hGn : G < n := by omega
              have f : Bx (Prb l n i m H G ∧ IntKind.i64.wrap ((q : Int) - (H : Int)) = (G : Int)) := ⟨prb hn hK hn1 hH (by omega) (by omega) hHn hGn, wrapS (by omega) (by omega)⟩
              have hc : Bx (decide (cmpB (l.getD G p0).n (l.getD H p0).n < 0) = false) := ⟨cmp_gt hs (i := H) (j := G) (by omega) (by omega)⟩
              clear hH
              unfold Prb at f
              refine wlk (And.intro f.out (And.intro fx.out (And.intro hHn (And.intro hGn GLkX167.down)))) ?_
              refine cll (byName_ok (l.getD G p0) (l.getD H p0) _ (getD_K hK) (getD_K hK)) ?_
              refine wlk (And.intro hc.out (And.intro f.out GLkX167.down)) ?_
              refine ⟨⟨H + 1, by omega⟩, by simp; omega, .same (by exact lle)⟩
            · have him : i = m := by simp at h; omega
              subst him
              have g : Bx (IntKind.i64.wrap (((M + i : Nat) : Int) - (i : Int)) = (M : Int) ∧ decide ((i : Int) < (i : Int)) = false ∧ decide ((M : Int) < (M : Int)) = false ∧ decide ((a : Int) < (i : Int)) = true) :=
                ⟨wrapS (by omega) (by omega), decide_eq_false (by omega), decide_eq_false (by omega), decide_eq_true (by omega)⟩
              by_cases hlt : i < M
              · have d4 : Bx (decide ((i : Int) < (M : Int)) = true) := ⟨decide_eq_true (by omega)⟩
                refine wlk (And.intro g.out (And.intro d4.out GLkX167.down)) ?_
                refine cll (ih a i M σ (by omega) (by omega) (by omega) (by omega) hk) ?_
                refine wlk (And.intro g.out (And.intro d4.out GLkX167.down)) ?_
                refine rtn GLkX167.down ?_
                exact ⟨rfl, rfl⟩
              · have d4 : Bx (decide ((i : Int) < (M : Int)) = false) := ⟨decide_eq_false (by omega)⟩
                refine wlk (And.intro g.out (And.intro d4.out GLkX167.down)) ?_
                refine rtn GLkX167.down ?_
                exact ⟨rfl, rfl⟩
end Go.Proofs.YtdjjlbjagaadaaaGreatDoor.A
