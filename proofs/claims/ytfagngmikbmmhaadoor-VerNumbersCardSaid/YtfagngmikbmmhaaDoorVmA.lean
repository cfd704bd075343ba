/- A version's text is read as that version; the order of marks by their table: plain. -/
import Derived.Test.YtfagngmikbmmhaaDoorVoA
namespace Go.Proofs.YtfagngmikbmmhaaDoor.A
open Go
set_option linter.unusedSimpArgs false
set_option linter.unusedVariables false

theorem ofNat48 {m : Nat} (h : m < 10) : (UInt8.ofNat (48 + m)).toNat = 48 + m := by
  rw [UInt8.toNat_ofNat']
  omega
theorem dig48 {m : Nat} (h : m < 10) : dig (UInt8.ofNat (48 + m)) = true := by
  simp [dig, UInt8.le_iff_toNat_le, ofNat48 h]
  omega
/-- A number's text: digits, no nought ahead, its value. -/
theorem dec_spec : ∀ (k n : Nat), n ≤ k → (∀ c ∈ dec (n : Int), dig c = true) ∧ dec (n : Int) ≠ [] ∧ val (dec (n : Int)) = n ∧ (0 < n → (dec (n : Int)).getD 0 0 ≠ 48) ∧ (n < 10 → (dec (n : Int)).length = 1)
  | k, n, hk => by
    by_cases hs : n < 10
    · have e : dec (n : Int) = [UInt8.ofNat (48 + n)] := by
        rw [dec_small (by omega)]
        congr 3
        omega
      rw [e]
      refine ⟨fun c hc => ?_, by simp, ?_, fun h => ?_, fun _ => rfl⟩
      · rw [List.mem_singleton.1 hc]; exact dig48 hs
      · simp only [valF, List.foldl_cons, List.foldl_nil, ofNat48 hs]
        omega
      · simp only [List.getD_cons_zero]
        intro e
        have := congrArg UInt8.toNat e
        rw [ofNat48 hs] at this
        simp at this
        omega
    · have e : dec (n : Int) = dec ((n / 10 : Nat) : Int) ++ [UInt8.ofNat (48 + n % 10)] := by
        rw [dec_big (by omega)]
        have e1 : (n : Int) / 10 = ((n / 10 : Nat) : Int) := by omega
        have e2 : ((n : Int) % 10).toNat = n % 10 := by omega
        rw [e1, e2]
      match k with
      | 0 => omega
      | k + 1 =>
      obtain ⟨i1, i2, i3, i4, _⟩ := dec_spec k (n / 10) (by omega)
      have hm : n % 10 < 10 := by omega
      rw [e]
      refine ⟨fun c hc => ?_, by simp, ?_, fun h => ?_, fun h => absurd h hs⟩
      · rcases List.mem_append.1 hc with hc | hc
        · exact i1 c hc
        · rw [List.mem_singleton.1 hc]; exact dig48 hm
      · rw [val_snoc, i3, ofNat48 hm]
        omega
      · have := i4 (by omega)
        cases hd : dec ((n / 10 : Nat) : Int) with
        | nil => exact absurd hd i2
        | cons a l => rw [hd] at this; simpa using this
theorem digits_of {s : List UInt8} (h : ∀ c ∈ s, dig c = true) (hn : s ≠ []) : digits s = true := by
  unfold digits
  rw [List.all_eq_true.2 h]
  cases s with
  | nil => exact absurd rfl hn
  | cons _ _ => rfl
theorem dec_num {n : Int} (h0 : 0 ≤ n) (h1 : n ≤ 999999999) : numV (dec n) = true ∧ (val (dec n) : Int) = n ∧ ∀ c ∈ dec n, dig c = true := by
  obtain ⟨m, rfl⟩ : ∃ m : Nat, n = m := ⟨n.toNat, by omega⟩
  obtain ⟨i1, i2, i3, i4, i5⟩ := dec_spec m m (Nat.le_refl _)
  refine ⟨?_, by rw [i3], i1⟩
  have hl := dec_len 8 (m : Int) (by omega)
  have hp : plain (dec (m : Int)) = true := by
    unfold plain
    by_cases hm : 0 < m
    · have := i4 hm
      have : ((dec (m : Int)).getD 0 0 != 48) = true := by simpa using this
      rw [this]; simp
    · rw [i5 (by omega)]; rfl
  unfold numV
  rw [digits_of i1 i2, hp]
  simpa using hl
theorem dig_no {c : UInt8} (h : dig c = true) : c ≠ 45 ∧ c ≠ 46 ∧ c ≠ 32 := by
  have := dig_nat h
  refine ⟨?_, ?_, ?_⟩ <;> intro e <;> subst e <;> simp at this
theorem sgn_no {c : UInt8} (h : sgn c = true) : c ≠ 46 ∧ c ≠ 32 := by
  refine ⟨?_, ?_⟩ <;> intro e <;> subst e <;> exact absurd h (by decide)
theorem mark_no {x : List UInt8} (h : mark x = true) : ∀ c ∈ x, c ≠ 46 ∧ c ≠ 32 := by
  simp only [mark, Bool.and_eq_true] at h
  exact fun c hc => sgn_no (List.all_eq_true.1 h.2 c hc)
theorem spl_joined {c : UInt8} : ∀ {l : List (List UInt8)}, l ≠ [] → (∀ x ∈ l, ∀ b ∈ x, b ≠ c) → spl c (Lib.join l [c]) = l
  | [], h, _ => absurd rfl h
  | [x], _, h => by rw [Lib.join_one]; exact spl_none (h x List.mem_cons_self)
  | x :: y :: r, _, h => by
    have ih := spl_joined (c := c) (l := y :: r) (by simp) fun z hz => h z (List.mem_cons_of_mem _ hz)
    have e : Lib.join (x :: y :: r) [c] = x ++ c :: Lib.join (y :: r) [c] := by
      rw [Lib.join_cons, Lib.join_cons]
      simp [Lib.joinTail]
    rw [e, spl_at (h x List.mem_cons_self), ih]
/-- A version as it can be read. -/
structure VGood (v : Ver) : Prop where
  a : 0 ≤ v.major ∧ v.major ≤ 999999999
  b : 0 ≤ v.minor ∧ v.minor ≤ 999999999
  c : 0 ≤ v.patch ∧ v.patch ≤ 999999999
  n : v.pre.length ≤ 5
  p : v.pre.all mark = true
theorem parse_good {s : List UInt8} {v : Ver} (h : parse s = some v) : VGood v := by
  obtain ⟨h1, h2, h3, h4, _⟩ := parse_ok9 h
  refine ⟨h1, h2, h3, h4, ?_⟩
  unfold parse at h
  split at h
  · split at h
    · split at h
      · split at h
        · rename_i hm; cases h; exact hm.2
        · cases h
      · cases h; rfl
    · cases h
  · cases h
theorem parse_textV {v : Ver} (h : VGood v) : parse (textV v) = some v := by
  obtain ⟨a1, a2, a3⟩ := dec_num h.a.1 h.a.2
  obtain ⟨b1, b2, b3⟩ := dec_num h.b.1 h.b.2
  obtain ⟨c1, c2, c3⟩ := dec_num h.c.1 h.c.2
  have hcore : ∀ b ∈ dec v.major ++ [46] ++ dec v.minor ++ [46] ++ dec v.patch, b ≠ 45 := by
    intro b hb
    simp only [List.append_assoc, List.mem_append, List.mem_singleton] at hb
    rcases hb with hb | hb | hb | hb | hb
    · exact (dig_no (a3 b hb)).1
    · subst hb; decide
    · exact (dig_no (b3 b hb)).1
    · subst hb; decide
    · exact (dig_no (c3 b hb)).1
  have hspl : spl 46 (dec v.major ++ [46] ++ dec v.minor ++ [46] ++ dec v.patch) = [dec v.major, dec v.minor, dec v.patch] := by
    have e : dec v.major ++ [46] ++ dec v.minor ++ [46] ++ dec v.patch = dec v.major ++ 46 :: (dec v.minor ++ 46 :: dec v.patch) := by simp
    rw [e, spl_at fun b hb => (dig_no (a3 b hb)).2.1, spl_at fun b hb => (dig_no (b3 b hb)).2.1, spl_none fun b hb => (dig_no (c3 b hb)).2.1]
  cases hp : v.pre with
  | nil =>
    have e : textV v = dec v.major ++ [46] ++ dec v.minor ++ [46] ++ dec v.patch := by simp [textV, hp, pfx]
    unfold parse
    rw [e, cutAt_none hcore]
    simp only [hspl, a1, b1, c1, Bool.and_self, if_true, Bool.false_eq_true, if_false]
    rw [a2, b2, c2, ← hp]
  | cons x r =>
    have hne : v.pre ≠ [] := by rw [hp]; simp
    have e : textV v = (dec v.major ++ [46] ++ dec v.minor ++ [46] ++ dec v.patch) ++ 45 :: Lib.join v.pre [46] := by simp only [textV, pfx_join hne]
    have hj : spl 46 (Lib.join v.pre [46]) = v.pre := spl_joined hne fun y hy b hb => (mark_no (List.all_eq_true.1 h.p y hy) b hb).1
    unfold parse
    rw [e, cutAt_at hcore]
    simp only [hspl, a1, b1, c1, Bool.and_self, if_true, hj]
    rw [if_pos ⟨h.n, h.p⟩, a2, b2, c2]
theorem vOf_textV {v : Ver} (h : VGood v) : vOf (textV v) = (v, 0) := by
  unfold vOf
  rw [parse_textV h]
theorem VGood.ok {v : Ver} (h : VGood v) : VOk v := by
  have := vOf_ok (textV v)
  rwa [vOf_textV h] at this

/-! ### The table of marks -/
def tabL : List (List UInt8) := [[48], [57], [49, 48], [49, 48, 48, 48, 48, 48, 48, 48, 48, 48, 48, 48, 48, 48, 48, 48], [45], [65], [97], [97, 49]]
def tab (c : UInt8) : List UInt8 := tabL.getD (c.toNat % 8) []
def mkV (l : List UInt8) : Ver := ⟨1, 2, 3, l.map tab⟩
theorem tab_at : ∀ n, n < 8 → mark (tabL.getD n []) = true := by decide
theorem tab_ord : ∀ n, n < 8 → ∀ m, m < 8 → marksV (tabL.getD n []) (tabL.getD m []) = Lib.compareInt n m := by decide
theorem tab_mark (c : UInt8) : mark (tab c) = true := tab_at _ (Nat.mod_lt _ (by omega))
theorem tab_len (c : UInt8) : (tab c).length ≤ 16 := by
  have h := tab_mark c
  simp only [mark, Bool.and_eq_true, decide_eq_true_eq] at h
  exact h.1.1.2
theorem mkV_good {l : List UInt8} (h : l.length ≤ 5) : VGood (mkV l) :=
  ⟨by simp [mkV], by simp [mkV], by simp [mkV], by simpa [mkV] using h, List.all_eq_true.2 fun x hx => by
    simp only [mkV, List.mem_map] at hx
    obtain ⟨c, _, rfl⟩ := hx
    exact tab_mark c⟩
/-- In the order of the table. -/
def cmpT : List UInt8 → List UInt8 → Int
  | [], [] => 0
  | [], _ :: _ => -1
  | _ :: _, [] => 1
  | x :: a, y :: b => if Lib.compareInt (x.toNat % 8 : Nat) (y.toNat % 8 : Nat) ≠ 0 then Lib.compareInt (x.toNat % 8 : Nat) (y.toNat % 8 : Nat) else cmpT a b
theorem cmpL_tab : ∀ a b : List UInt8, cmpL marksV (a.map tab) (b.map tab) = cmpT a b
  | [], [] => rfl
  | [], _ :: _ => rfl
  | _ :: _, [] => rfl
  | x :: a, y :: b => by
    have e : marksV (tab x) (tab y) = Lib.compareInt (x.toNat % 8 : Nat) (y.toNat % 8 : Nat) := tab_ord _ (Nat.mod_lt _ (by omega)) _ (Nat.mod_lt _ (by omega))
    simp only [List.map_cons, cmpL, cmpT, e, cmpL_tab a b]
def sgnI (n : Int) : Int := if n < 0 then -1 else if 0 < n then 1 else 0
theorem cI_sgn (a b : Int) : Lib.compareInt a b = sgnI (a - b) := by
  unfold Lib.compareInt sgnI
  (repeat' split) <;> omega
theorem cmpV_mk (a b : List UInt8) : cmpV (mkV a) (mkV b) = if a.length = 0 ∨ b.length = 0 then sgnI (b.length - a.length) else cmpT a b := by
  rw [cmpN_0 (by simp [mkV, Lib.compareInt]) (by simp [mkV, Lib.compareInt]) (by simp [mkV, Lib.compareInt])]
  simp only [mkV, List.length_map, cmpL_tab]
  split
  · rename_i h
    rw [cI_sgn, cI_sgn]
    unfold sgnI
    (repeat' split) <;> omega
  · rfl
theorem cmpT_drop {a b : List UInt8} {k : Nat} (ha : k < a.length) (hb : k < b.length) : cmpT (a.drop k) (b.drop k) = if (a.getD k 0).toNat % 8 ≠ (b.getD k 0).toNat % 8 then sgnI (((a.getD k 0).toNat % 8 : Nat) - ((b.getD k 0).toNat % 8 : Nat)) else cmpT (a.drop (k + 1)) (b.drop (k + 1)) := by
  rw [List.drop_eq_getElem_cons ha, List.drop_eq_getElem_cons hb]
  simp only [cmpT, List.getD_eq_getElem?_getD, List.getElem?_eq_getElem ha, List.getElem?_eq_getElem hb, Option.getD_some, cI_sgn]
  generalize (a[k].toNat % 8) = x
  generalize (b[k].toNat % 8) = y
  by_cases h : x = y
  · subst h; simp [sgnI]
  · rw [if_pos h, if_pos]
    unfold sgnI
    split <;> (try split) <;> omega
theorem cmpT_end {a b : List UInt8} (h : a = [] ∨ b = []) : cmpT a b = sgnI (a.length - b.length) := by
  cases a with
  | nil => cases b with
    | nil => rfl
    | cons y b => simp only [cmpT, sgnI, List.length_cons, List.length_nil]; (repeat' split) <;> omega
  | cons x a => cases b with
    | nil => simp only [cmpT, sgnI, List.length_cons, List.length_nil]; (repeat' split) <;> omega
    | cons y b => simp at h
theorem textV_mk0 : textV (mkV []) = [49, 46, 50, 46, 51] := by
  simp only [textV, mkV]
  rw [dec_small (by omega), dec_small (by omega), dec_small (by omega)]
  rfl
theorem textV_mk (l : List UInt8) : textV (mkV l) = [49, 46, 50, 46, 51] ++ pfx (l.map tab) := by
  rw [← textV_mk0]
  simp [textV, mkV, pfx]
theorem textV_snoc (l : List UInt8) (c : UInt8) : textV (mkV (l ++ [c])) = textV (mkV l) ++ [if l = [] then 45 else 46] ++ tab c := by
  rw [textV_mk, textV_mk, List.map_append, List.map_cons, List.map_nil, pfx_snoc]
  simp
theorem textV_mk_len {l : List UInt8} (h : l.length ≤ 5) : (textV (mkV l)).length ≤ 90 := by
  rw [textV_mk, List.length_append, pfx_len]
  have := lens_le (l.map tab) 16 fun x hx => by
    obtain ⟨c, _, rfl⟩ := List.mem_map.1 hx
    exact tab_len c
  rw [List.length_map] at this
  simp
  omega
end Go.Proofs.YtfagngmikbmmhaaDoor.A
