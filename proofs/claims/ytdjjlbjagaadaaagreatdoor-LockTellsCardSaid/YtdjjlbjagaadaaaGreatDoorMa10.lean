/- Texts of the proof, one behind another: VaK, VoA, VmA. -/
import Derived.Test.YtdjjlbjagaadaaaGreatDoorMa9
/- The text that a version is told by is the text that spells it. -/
namespace Go.Proofs.YtdjjlbjagaadaaaGreatDoor.A
open Go Go.RowKit
set_option maxRecDepth 100000
set_option linter.unusedSimpArgs false
set_option linter.unusedVariables false

theorem spl_join (c : UInt8) : ∀ s : List UInt8, Lib.join (spl c s) [c] = s
  | [] => by simp [spl, Lib.join_one]
  | b :: s => by
    have ih := spl_join c s
    have hne := spl_ne c s
    unfold spl
    by_cases h : b = c
    · rw [if_pos h]
      cases hs : spl c s with
      | nil => exact absurd hs hne
      | cons x xs =>
        rw [hs] at ih
        rw [Lib.join_cons] at ih ⊢
        rw [← ih, h]
        simp [Lib.joinTail]
    · rw [if_neg h]
      cases hs : spl c s with
      | nil => exact absurd hs hne
      | cons x xs =>
        rw [hs] at ih
        simp only
        rw [Lib.join_cons] at ih ⊢
        rw [← ih]
        simp
theorem cutAt_spec (c : UInt8) : ∀ s : List UInt8, s = (cutAt c s).1 ++ (if (cutAt c s).2.2 then c :: (cutAt c s).2.1 else [])
  | [] => rfl
  | b :: s => by
    have ih := cutAt_spec c s
    unfold cutAt
    by_cases h : b = c
    · subst h; simp
    · rw [if_neg h]
      simp only [List.cons_append]
      rw [← ih]
theorem val_snoc (l : List UInt8) (c : UInt8) : val (l ++ [c]) = 10 * val l + (c.toNat - 48) := by simp [valF, List.foldl_append]
theorem dec_val : ∀ (k : Nat) (s : List UInt8), s.length = k → digits s = true → plain s = true → dec (val s) = s
  | 0, s, hk, hd, _ => by
    have := digits_pos hd
    omega
  | k + 1, s, hk, hd, hp => by
    have hne : s ≠ [] := by intro e; subst e; simp at hk
    obtain ⟨l, c, rfl⟩ : ∃ l c, s = l ++ [c] := ⟨s.dropLast, s.getLast hne, (List.dropLast_concat_getLast hne).symm⟩
    have hall := digits_all hd
    have hc := dig_nat (hall c (by simp))
    have hcc : UInt8.ofNat (48 + (c.toNat - 48)) = c := by
      rw [show 48 + (c.toNat - 48) = c.toNat from by omega]
      simp
    rw [val_snoc]
    cases l with
    | nil =>
      have e : val ([] : List UInt8) = 0 := rfl
      rw [e, dec_small (by omega)]
      simp only [List.nil_append]
      congr 1
      rw [show (max ((10 * 0 + (c.toNat - 48) : Nat) : Int) 0).toNat = c.toNat - 48 from by omega]
      exact hcc
    | cons d l =>
      have hdd := dig_nat (hall d (by simp))
      have hd0 : d.toNat ≠ 48 := by
        have : ¬ (d == 48) = true := by
          unfold plain at hp
          intro e
          simp at e
          simp [e] at hp
        intro e
        exact this (by simp [← UInt8.toNat_inj, e])
      have hdl : digits (d :: l) = true := by
        simp only [digits, List.isEmpty_cons, Bool.not_false, Bool.true_and]
        exact List.all_eq_true.2 fun x hx => hall x (by simp only [List.cons_append]; rcases List.mem_cons.1 hx with rfl | hx; exact List.mem_cons_self; exact List.mem_cons_of_mem _ (List.mem_append_left _ hx))
      have hpl : plain (d :: l) = true := by
        unfold plain
        have : ((d :: l).getD 0 0 != 48) = true := by simp [← UInt8.toNat_inj, hd0]
        rw [this]; simp
      have ih := dec_val k (d :: l) (by simpa using hk) hdl hpl
      have hge : 1 ≤ val (d :: l) := by
        have hg : ∀ (l : List UInt8) (n : Nat), n ≤ valF n l := by
          intro l
          induction l with
          | nil => intro n; simp [valF]
          | cons e l ih => intro n; have := ih (10 * n + (e.toNat - 48)); simp only [valF, List.foldl_cons] at this ⊢; omega
        have := hg l (d.toNat - 48)
        have e : val (d :: l) = valF (d.toNat - 48) l := by simp [valF]
        rw [e]
        omega
      rw [dec_big (by omega)]
      rw [show (((10 * val (d :: l) + (c.toNat - 48) : Nat) : Int)) / 10 = (val (d :: l) : Int) from by omega, ih]
      rw [show ((((10 * val (d :: l) + (c.toNat - 48) : Nat) : Int)) % 10).toNat = c.toNat - 48 from by omega, hcc]
theorem parse_text {s : List UInt8} {v : Ver} (h : parse s = some v) : textV v = s := by
  unfold parse at h
  split at h
  · rename_i a b c habc
    split at h
    · rename_i hn
      simp only [Bool.and_eq_true] at hn
      have key : ∀ x, numV x = true → dec (val x) = x := fun x hx => by
        simp only [numV, Bool.and_eq_true] at hx
        exact dec_val _ x rfl hx.1.1 hx.2
      have hj := spl_join 46 (cutAt 45 s).1
      rw [habc, Lib.join_cons] at hj
      have hsp := cutAt_spec 45 s
      split at h
      · rename_i hhas
        split at h
        · cases h
          rw [hhas, if_pos rfl] at hsp
          have hpj : pfx (spl 46 (cutAt 45 s).2.1) = 45 :: (cutAt 45 s).2.1 := by rw [pfx_join (spl_ne _ _), spl_join]
          conv => rhs; rw [hsp]
          rw [← hj]
          simp [textV, key a hn.1.1, key b hn.1.2, key c hn.2, hpj, Lib.joinTail]
        · cases h
      · rename_i hhas
        cases h
        have hhas' : (cutAt 45 s).2.2 = false := by simpa using hhas
        rw [hhas'] at hsp
        simp only [Bool.false_eq_true, if_false, List.append_nil] at hsp
        conv => rhs; rw [hsp]
        rw [← hj]
        simp [textV, key a hn.1.1, key b hn.1.2, key c hn.2, pfx, Lib.joinTail]
    · cases h
  · cases h
theorem parse_ok9 {s : List UInt8} {v : Ver} (h : parse s = some v) : (0 ≤ v.major ∧ v.major ≤ 999999999) ∧ (0 ≤ v.minor ∧ v.minor ≤ 999999999) ∧ (0 ≤ v.patch ∧ v.patch ≤ 999999999) ∧ v.pre.length ≤ 5 ∧ ∀ x ∈ v.pre, x.length ≤ 16 := by
  unfold parse at h
  split at h
  · rename_i a b c habc
    split at h
    · rename_i hn
      simp only [Bool.and_eq_true] at hn
      have ha := numV_lt hn.1.1
      have hb := numV_lt hn.1.2
      have hc := numV_lt hn.2
      split at h
      · split at h
        · rename_i hm
          cases h
          refine ⟨⟨by simp only []; omega, by simp only []; omega⟩, ⟨by simp only []; omega, by simp only []; omega⟩, ⟨by simp only []; omega, by simp only []; omega⟩, hm.1, fun x hx => ?_⟩
          have := List.all_eq_true.1 hm.2 x hx
          simp only [mark, Bool.and_eq_true, decide_eq_true_eq] at this
          exact this.1.1.2
        · cases h
      · cases h
        exact ⟨⟨by simp only []; omega, by simp only []; omega⟩, ⟨by simp only []; omega, by simp only []; omega⟩, ⟨by simp only []; omega, by simp only []; omega⟩, by simp, by simp⟩
    · cases h
  · cases h
theorem lens_le (l : List (List UInt8)) (m : Nat) (h : ∀ x ∈ l, x.length ≤ m) : lens l ≤ l.length * (m + 1) := by
  induction l with
  | nil => simp [lens]
  | cons x l ih =>
    have h1 := ih fun y hy => h y (List.mem_cons_of_mem _ hy)
    have h2 := h x List.mem_cons_self
    simp only [lens, List.map_cons, List.sum_cons, List.length_cons, Nat.add_mul] at h1 ⊢
    omega
theorem vOf_ok (s : List UInt8) : VOk (vOf s).1 := by
  unfold vOf
  cases h : parse s with
  | none => exact ⟨⟨by simp, by simp⟩, ⟨by simp, by simp⟩, ⟨by simp, by simp⟩, by simp [lens]⟩
  | some v =>
    obtain ⟨h1, h2, h3, h4, h5⟩ := parse_ok9 h
    have := lens_le v.pre 16 h5
    exact ⟨⟨by simp only []; omega, by simp only []; omega⟩, ⟨by simp only []; omega, by simp only []; omega⟩, ⟨by simp only []; omega, by simp only []; omega⟩, by simp only []; omega⟩
theorem eqV_refl (v : Ver) : eqV v v = true := by simp [eqV]
theorem light_ok {v : Ver} (h : lightV v = true) : lens v.pre ≤ 1099511627776 := by
  simp [lightV] at h
  have := lens_le v.pre 30 h.2
  omega
end Go.Proofs.YtdjjlbjagaadaaaGreatDoor.A
/- The order of versions is an order: plain. -/
namespace Go.Proofs.YtdjjlbjagaadaaaGreatDoor.A
open Go
set_option linter.unusedSimpArgs false
set_option linter.unusedVariables false

/-- A comparison that puts things in order. -/
structure IsC {α : Type} (c : α → α → Int) : Prop where
  anti : ∀ x y, c y x = - c x y
  cong : ∀ x y, c x y = 0 → ∀ z, c x z = c y z
  tr : ∀ x y z, c x y ≤ 0 → c y z ≤ 0 → c x z ≤ 0
theorem IsC.refl {α : Type} {c : α → α → Int} (h : IsC c) (x : α) : c x x = 0 := by have := h.anti x x; omega
theorem IsC.lt {α : Type} {c : α → α → Int} (h : IsC c) {x y z : α} (h1 : c x y < 0) (h2 : c y z ≤ 0) : c x z < 0 := by
  have h3 := h.tr x y z (by omega) h2
  by_cases h4 : c x z = 0
  · have h5 := h.cong x z h4 y
    have h6 := h.anti z y
    omega
  · omega
theorem isC_int : IsC Lib.compareInt where
  anti := fun x y => by unfold Lib.compareInt; (repeat' split) <;> omega
  cong := fun x y h z => by
    have : x = y := by unfold Lib.compareInt at h; (repeat' split at h) <;> omega
    rw [this]
  tr := fun x y z h1 h2 => by unfold Lib.compareInt at *; (repeat' split at h1) <;> (repeat' split at h2) <;> (repeat' split) <;> omega
theorem IsC.pull {α β : Type} {c : α → α → Int} (h : IsC c) (f : β → α) : IsC (fun x y => c (f x) (f y)) :=
  ⟨fun x y => h.anti _ _, fun x y e z => h.cong _ _ e _, fun x y z => h.tr _ _ _⟩
theorem IsC.lex {α : Type} {c d : α → α → Int} (h : IsC c) (k : IsC d) : IsC (fun x y => if c x y ≠ 0 then c x y else d x y) where
  anti := fun x y => by
    have := h.anti x y
    have := k.anti x y
    split <;> split <;> omega
  cong := fun x y e z => by
    split at e
    · omega
    · rename_i h0
      have h1 := h.cong x y (by omega) z
      have h2 := k.cong x y e z
      rw [h1, h2]
  tr := fun x y z e1 e2 => by
    by_cases h1 : c x y = 0
    · have h2 := h.cong x y h1 z
      rw [if_neg (by omega)] at e1
      rw [h2]
      split
      · rename_i h3
        rw [if_pos h3] at e2
        exact e2
      · rename_i h3
        rw [if_neg h3] at e2
        exact k.tr x y z e1 e2
    · rw [if_pos h1] at e1
      have h2 : c y z ≤ 0 := by
        split at e2
        · exact e2
        · omega
      have h3 := h.lt (show c x y < 0 by omega) h2
      rw [if_pos (by omega)]
      omega
/-- Rows. -/
def cmpG {α : Type} (c : α → α → Int) : List α → List α → Int
  | [], [] => 0
  | [], _ :: _ => -1
  | _ :: _, [] => 1
  | x :: a, y :: b => if c x y ≠ 0 then c x y else cmpG c a b
theorem isC_list {α : Type} {c : α → α → Int} (h : IsC c) : IsC (cmpG c) where
  anti := fun x => by
    induction x with
    | nil => intro y; cases y <;> rfl
    | cons a x ih =>
      intro y
      cases y with
      | nil => rfl
      | cons b y =>
        have := h.anti a b
        have := ih y
        simp only [cmpG]
        split <;> split <;> omega
  cong := fun x => by
    induction x with
    | nil => intro y e z; cases y with
      | nil => rfl
      | cons b y => simp [cmpG] at e
    | cons a x ih =>
      intro y e z
      cases y with
      | nil => simp [cmpG] at e
      | cons b y =>
        simp only [cmpG] at e
        split at e
        · omega
        · rename_i h0
          cases z with
          | nil => rfl
          | cons d z =>
            have h1 := h.cong a b (by omega) d
            have h2 := ih y e z
            simp only [cmpG]
            rw [h1, h2]
  tr := fun x => by
    induction x with
    | nil => intro y z _ _; cases z <;> simp [cmpG]
    | cons a x ih =>
      intro y z e1 e2
      cases y with
      | nil => simp [cmpG] at e1
      | cons b y =>
        cases z with
        | nil => simp [cmpG] at e2
        | cons d z =>
          simp only [cmpG] at e1 e2 ⊢
          by_cases h1 : c a b = 0
          · have h2 := h.cong a b h1 d
            rw [if_neg (by omega)] at e1
            rw [h2]
            split
            · rename_i h3
              rw [if_pos h3] at e2
              exact e2
            · rename_i h3
              rw [if_neg h3] at e2
              exact ih y z e1 e2
          · rw [if_pos h1] at e1
            have h2 : c b d ≤ 0 := by
              split at e2
              · exact e2
              · omega
            have h3 := h.lt (show c a b < 0 by omega) h2
            rw [if_pos (by omega)]
            omega
theorem cmpL_eq (c : List UInt8 → List UInt8 → Int) : ∀ a b, cmpL c a b = cmpG c a b
  | [], [] => rfl
  | [], _ :: _ => rfl
  | _ :: _, [] => rfl
  | x :: a, y :: b => by simp only [cmpL, cmpG]; rw [cmpL_eq c a b]
theorem cmpB_eq : ∀ a b : List UInt8, cmpB a b = cmpG (fun x y : UInt8 => Lib.compareInt x.toNat y.toNat) a b
  | [], [] => by simp [cmpB, ltB, Op.bytesLess, cmpG]
  | [], _ :: _ => by simp [cmpB, ltB, Op.bytesLess, cmpG]
  | _ :: _, [] => by simp [cmpB, ltB, Op.bytesLess, cmpG]
  | x :: a, y :: b => by
    have ih := cmpB_eq a b
    simp only [cmpG]
    rw [← ih]
    simp only [cmpB, ltB, Op.bytesLess]
    by_cases h1 : x < y
    · have h2 : (x.toNat : Int) < y.toNat := by have := UInt8.lt_iff_toNat_lt.1 h1; omega
      simp [h1, Lib.compareInt, h2]
    · by_cases h3 : x = y
      · subst h3
        have h4 : ¬ x < x := h1
        simp [h4, Lib.compareInt]
      · have h2 : ¬ (x.toNat : Int) < y.toNat := by
          intro e; exact h1 (UInt8.lt_iff_toNat_lt.2 (by omega))
        have h4 : (x.toNat : Int) > y.toNat := by
          have : x.toNat ≠ y.toNat := fun e => h3 (UInt8.toNat_inj.1 e)
          omega
        simp [h1, h3, Lib.compareInt, h2, h4]
theorem isC_bytes : IsC cmpB := by
  have : cmpB = cmpG (fun x y : UInt8 => Lib.compareInt x.toNat y.toNat) := by funext a b; exact cmpB_eq a b
  rw [this]
  exact isC_list (isC_int.pull fun x : UInt8 => (x.toNat : Int))
def nd (s : List UInt8) : Int := if digits s then 0 else 1
def ln (s : List UInt8) : Int := if digits s then s.length else 0
theorem marksV_eq (a b : List UInt8) : marksV a b = if Lib.compareInt (nd a) (nd b) ≠ 0 then Lib.compareInt (nd a) (nd b) else (if Lib.compareInt (ln a) (ln b) ≠ 0 then Lib.compareInt (ln a) (ln b) else cmpB a b) := by
  unfold marksV nd ln
  cases h1 : digits a <;> cases h2 : digits b
  · simp [Lib.compareInt]
  · simp [Lib.compareInt]
  · simp [Lib.compareInt]
  · simp only [Bool.and_self, if_true, orI]
    have : Lib.compareInt 0 0 = 0 := by simp [Lib.compareInt]
    rw [this]
    simp only [ne_eq, not_true, if_false]
    split
    · rfl
    · split
      · rfl
      · rename_i h; simp at h; exact h.symm
theorem isC_marks : IsC marksV := by
  have : marksV = fun a b => if Lib.compareInt (nd a) (nd b) ≠ 0 then Lib.compareInt (nd a) (nd b) else (if Lib.compareInt (ln a) (ln b) ≠ 0 then Lib.compareInt (ln a) (ln b) else cmpB a b) := by funext a b; exact marksV_eq a b
  rw [this]
  exact (isC_int.pull nd).lex ((isC_int.pull ln).lex isC_bytes)
def em (v : Ver) : Int := if v.pre.length = 0 then 1 else 0
theorem cmpV_eq (a b : Ver) : cmpV a b = if Lib.compareInt a.major b.major ≠ 0 then Lib.compareInt a.major b.major else (if Lib.compareInt a.minor b.minor ≠ 0 then Lib.compareInt a.minor b.minor else (if Lib.compareInt a.patch b.patch ≠ 0 then Lib.compareInt a.patch b.patch else
    (if Lib.compareInt (em a) (em b) ≠ 0 then Lib.compareInt (em a) (em b) else cmpG marksV a.pre b.pre))) := by
  by_cases h1 : Lib.compareInt a.major b.major = 0
  · by_cases h2 : Lib.compareInt a.minor b.minor = 0
    · by_cases h3 : Lib.compareInt a.patch b.patch = 0
      · rw [cmpN_0 h1 h2 h3]
        simp only [h1, h2, h3, ne_eq, not_true_eq_false, if_false]
        cases ha : a.pre with
        | nil => cases hb : b.pre with
          | nil => simp [em, ha, hb, Lib.compareInt, cmpG]
          | cons y r => simp [em, ha, hb, Lib.compareInt]; omega
        | cons x l => cases hb : b.pre with
          | nil => simp [em, ha, hb, Lib.compareInt]; omega
          | cons y r => simp [em, ha, hb, Lib.compareInt, cmpL_eq]
      · rw [cmpN_3 h1 h2 h3]
        simp only [h1, h2, ne_eq, not_true_eq_false, if_false, h3, not_false_eq_true, if_true]
    · rw [cmpN_2 h1 h2]
      simp only [h1, ne_eq, not_true_eq_false, if_false, h2, not_false_eq_true, if_true]
  · rw [cmpN_1 h1, if_pos h1]
theorem isC_ver : IsC cmpV := by
  have : cmpV = fun a b : Ver => if Lib.compareInt a.major b.major ≠ 0 then Lib.compareInt a.major b.major else (if Lib.compareInt a.minor b.minor ≠ 0 then Lib.compareInt a.minor b.minor else (if Lib.compareInt a.patch b.patch ≠ 0 then Lib.compareInt a.patch b.patch else
    (if Lib.compareInt (em a) (em b) ≠ 0 then Lib.compareInt (em a) (em b) else cmpG marksV a.pre b.pre))) := by funext a b; exact cmpV_eq a b
  rw [this]
  exact (isC_int.pull Ver.major).lex ((isC_int.pull Ver.minor).lex ((isC_int.pull Ver.patch).lex ((isC_int.pull em).lex ((isC_list isC_marks).pull Ver.pre))))
theorem cI_eq {x y : Int} (h : Lib.compareInt x y = 0) : x = y := by unfold Lib.compareInt at h; (repeat' split at h) <;> omega
theorem cmpG_zero {α : Type} {c : α → α → Int} (h : ∀ x y, c x y = 0 → x = y) : ∀ a b, cmpG c a b = 0 → a = b
  | [], [], _ => rfl
  | [], _ :: _, e => by simp [cmpG] at e
  | _ :: _, [], e => by simp [cmpG] at e
  | x :: a, y :: b, e => by
    simp only [cmpG] at e
    split at e
    · omega
    · rw [h x y (by omega), cmpG_zero h a b e]
theorem cmpB_zero {a b : List UInt8} (h : cmpB a b = 0) : a = b := by
  rw [cmpB_eq] at h
  exact cmpG_zero (fun x y e => UInt8.toNat_inj.1 (by have := cI_eq e; omega)) a b h
theorem marksV_zero {a b : List UInt8} (h : marksV a b = 0) : a = b := by
  rw [marksV_eq] at h
  split at h
  · omega
  · split at h
    · omega
    · exact cmpB_zero h
theorem cmpV_zero {a b : Ver} (h : cmpV a b = 0) : a = b := by
  rw [cmpV_eq] at h
  split at h
  · omega
  · split at h
    · omega
    · split at h
      · omega
      · split at h
        · omega
        · rename_i h1 h2 h3 _
          have e1 := cI_eq (x := a.major) (y := b.major) (by omega)
          have e2 := cI_eq (x := a.minor) (y := b.minor) (by omega)
          have e3 := cI_eq (x := a.patch) (y := b.patch) (by omega)
          have e4 := cmpG_zero (fun x y => marksV_zero) _ _ h
          cases a; cases b
          simp_all
end Go.Proofs.YtdjjlbjagaadaaaGreatDoor.A
/- A version's text is read as that version; the order of marks by their table: plain. -/
namespace Go.Proofs.YtdjjlbjagaadaaaGreatDoor.A
open Go
set_option linter.unusedSimpArgs false
set_option linter.unusedVariables false

theorem ofNat48 {m : Nat} (h : m < 10) : (UInt8.ofNat (48 + m)).toNat = 48 + m := by
  rw [UInt8.toNat_ofNat']
  omega
theorem dig48 {m : Nat} (h : m < 10) : dig (UInt8.ofNat (48 + m)) = true := by
  simp [dig, UInt8.le_iff_toNat_le, ofNat48 h]
  omega
/-- A number's text: digits, no nought ahead, its value. -/
theorem dec_spec : ∀ (k n : Nat), n ≤ k → (∀ c ∈ dec (n : Int), dig c = true) ∧ dec (n : Int) ≠ [] ∧ val (dec (n : Int)) = n ∧ (0 < n → (dec (n : Int)).getD 0 0 ≠ 48) ∧ (n < 10 → (dec (n : Int)).length = 1)
  | k, n, hk => by
    by_cases hs : n < 10
    · have e : dec (n : Int) = [UInt8.ofNat (48 + n)] := by
        rw [dec_small (by omega)]
        congr 3
        omega
      rw [e]
      refine ⟨fun c hc => ?_, by simp, ?_, fun h => ?_, fun _ => rfl⟩
      · rw [List.mem_singleton.1 hc]; exact dig48 hs
      · simp only [valF, List.foldl_cons, List.foldl_nil, ofNat48 hs]
        omega
      · simp only [List.getD_cons_zero]
        intro e
        have := congrArg UInt8.toNat e
        rw [ofNat48 hs] at this
        simp at this
        omega
    · have e : dec (n : Int) = dec ((n / 10 : Nat) : Int) ++ [UInt8.ofNat (48 + n % 10)] := by
        rw [dec_big (by omega)]
        have e1 : (n : Int) / 10 = ((n / 10 : Nat) : Int) := by omega
        have e2 : ((n : Int) % 10).toNat = n % 10 := by omega
        rw [e1, e2]
      match k with
      | 0 => omega
      | k + 1 =>
      obtain ⟨i1, i2, i3, i4, _⟩ := dec_spec k (n / 10) (by omega)
      have hm : n % 10 < 10 := by omega
      rw [e]
      refine ⟨fun c hc => ?_, by simp, ?_, fun h => ?_, fun h => absurd h hs⟩
      · rcases List.mem_append.1 hc with hc | hc
        · exact i1 c hc
        · rw [List.mem_singleton.1 hc]; exact dig48 hm
      · rw [val_snoc, i3, ofNat48 hm]
        omega
      · have := i4 (by omega)
        cases hd : dec ((n / 10 : Nat) : Int) with
        | nil => exact absurd hd i2
        | cons a l => rw [hd] at this; simpa using this
theorem digits_of {s : List UInt8} (h : ∀ c ∈ s, dig c = true) (hn : s ≠ []) : digits s = true := by
  unfold digits
  rw [List.all_eq_true.2 h]
  cases s with
  | nil => exact absurd rfl hn
  | cons _ _ => rfl
theorem dec_num {n : Int} (h0 : 0 ≤ n) (h1 : n ≤ 999999999) : numV (dec n) = true ∧ (val (dec n) : Int) = n ∧ ∀ c ∈ dec n, dig c = true := by
  obtain ⟨m, rfl⟩ : ∃ m : Nat, n = m := ⟨n.toNat, by omega⟩
  obtain ⟨i1, i2, i3, i4, i5⟩ := dec_spec m m (Nat.le_refl _)
  refine ⟨?_, by rw [i3], i1⟩
  have hl := dec_len 8 (m : Int) (by omega)
  have hp : plain (dec (m : Int)) = true := by
    unfold plain
    by_cases hm : 0 < m
    · have := i4 hm
      have : ((dec (m : Int)).getD 0 0 != 48) = true := by simpa using this
      rw [this]; simp
    · rw [i5 (by omega)]; rfl
  unfold numV
  rw [digits_of i1 i2, hp]
  simpa using hl
theorem dig_no {c : UInt8} (h : dig c = true) : c ≠ 45 ∧ c ≠ 46 ∧ c ≠ 32 := by
  have := dig_nat h
  refine ⟨?_, ?_, ?_⟩ <;> intro e <;> subst e <;> simp at this
theorem sgn_no {c : UInt8} (h : sgn c = true) : c ≠ 46 ∧ c ≠ 32 := by
  refine ⟨?_, ?_⟩ <;> intro e <;> subst e <;> exact absurd h (by decide)
theorem mark_no {x : List UInt8} (h : mark x = true) : ∀ c ∈ x, c ≠ 46 ∧ c ≠ 32 := by
  simp only [mark, Bool.and_eq_true] at h
  exact fun c hc => sgn_no (List.all_eq_true.1 h.2 c hc)
theorem spl_joined {c : UInt8} : ∀ {l : List (List UInt8)}, l ≠ [] → (∀ x ∈ l, ∀ b ∈ x, b ≠ c) → spl c (Lib.join l [c]) = l
  | [], h, _ => absurd rfl h
  | [x], _, h => by rw [Lib.join_one]; exact spl_none (h x List.mem_cons_self)
  | x :: y :: r, _, h => by
    have ih := spl_joined (c := c) (l := y :: r) (by simp) fun z hz => h z (List.mem_cons_of_mem _ hz)
    have e : Lib.join (x :: y :: r) [c] = x ++ c :: Lib.join (y :: r) [c] := by
      rw [Lib.join_cons, Lib.join_cons]
      simp [Lib.joinTail]
    rw [e, spl_at (h x List.mem_cons_self), ih]
/-- A version as it can be read. -/
structure VGood (v : Ver) : Prop where
  a : 0 ≤ v.major ∧ v.major ≤ 999999999
  b : 0 ≤ v.minor ∧ v.minor ≤ 999999999
  c : 0 ≤ v.patch ∧ v.patch ≤ 999999999
  n : v.pre.length ≤ 5
  p : v.pre.all mark = true
theorem parse_good {s : List UInt8} {v : Ver} (h : parse s = some v) : VGood v := by
  obtain ⟨h1, h2, h3, h4, _⟩ := parse_ok9 h
  refine ⟨h1, h2, h3, h4, ?_⟩
  unfold parse at h
  split at h
  · split at h
    · split at h
      · split at h
        · rename_i hm; cases h; exact hm.2
        · cases h
      · cases h; rfl
    · cases h
  · cases h
theorem parse_textV {v : Ver} (h : VGood v) : parse (textV v) = some v := by
  obtain ⟨a1, a2, a3⟩ := dec_num h.a.1 h.a.2
  obtain ⟨b1, b2, b3⟩ := dec_num h.b.1 h.b.2
  obtain ⟨c1, c2, c3⟩ := dec_num h.c.1 h.c.2
  have hcore : ∀ b ∈ dec v.major ++ [46] ++ dec v.minor ++ [46] ++ dec v.patch, b ≠ 45 := by
    intro b hb
    simp only [List.append_assoc, List.mem_append, List.mem_singleton] at hb
    rcases hb with hb | hb | hb | hb | hb
    · exact (dig_no (a3 b hb)).1
    · subst hb; decide
    · exact (dig_no (b3 b hb)).1
    · subst hb; decide
    · exact (dig_no (c3 b hb)).1
  have hspl : spl 46 (dec v.major ++ [46] ++ dec v.minor ++ [46] ++ dec v.patch) = [dec v.major, dec v.minor, dec v.patch] := by
    have e : dec v.major ++ [46] ++ dec v.minor ++ [46] ++ dec v.patch = dec v.major ++ 46 :: (dec v.minor ++ 46 :: dec v.patch) := by simp
    rw [e, spl_at fun b hb => (dig_no (a3 b hb)).2.1, spl_at fun b hb => (dig_no (b3 b hb)).2.1, spl_none fun b hb => (dig_no (c3 b hb)).2.1]
  cases hp : v.pre with
  | nil =>
    have e : textV v = dec v.major ++ [46] ++ dec v.minor ++ [46] ++ dec v.patch := by simp [textV, hp, pfx]
    unfold parse
    rw [e, cutAt_none hcore]
    simp only [hspl, a1, b1, c1, Bool.and_self, if_true, Bool.false_eq_true, if_false]
    rw [a2, b2, c2, ← hp]
  | cons x r =>
    have hne : v.pre ≠ [] := by rw [hp]; simp
    have e : textV v = (dec v.major ++ [46] ++ dec v.minor ++ [46] ++ dec v.patch) ++ 45 :: Lib.join v.pre [46] := by simp only [textV, pfx_join hne]
    have hj : spl 46 (Lib.join v.pre [46]) = v.pre := spl_joined hne fun y hy b hb => (mark_no (List.all_eq_true.1 h.p y hy) b hb).1
    unfold parse
    rw [e, cutAt_at hcore]
    simp only [hspl, a1, b1, c1, Bool.and_self, if_true, hj]
    rw [if_pos ⟨h.n, h.p⟩, a2, b2, c2]
theorem vOf_textV {v : Ver} (h : VGood v) : vOf (textV v) = (v, 0) := by
  unfold vOf
  rw [parse_textV h]
theorem VGood.ok {v : Ver} (h : VGood v) : VOk v := by
  have := vOf_ok (textV v)
  rwa [vOf_textV h] at this

/-! ### The table of marks -/
def tabL : List (List UInt8) := [[48], [57], [49, 48], [49, 48, 48, 48, 48, 48, 48, 48, 48, 48, 48, 48, 48, 48, 48, 48], [45], [65], [97], [97, 49]]
def tab (c : UInt8) : List UInt8 := tabL.getD (c.toNat % 8) []
def mkV (l : List UInt8) : Ver := ⟨1, 2, 3, l.map tab⟩
theorem tab_at : ∀ n, n < 8 → mark (tabL.getD n []) = true := by decide
theorem tab_ord : ∀ n, n < 8 → ∀ m, m < 8 → marksV (tabL.getD n []) (tabL.getD m []) = Lib.compareInt n m := by decide
theorem tab_mark (c : UInt8) : mark (tab c) = true := tab_at _ (Nat.mod_lt _ (by omega))
theorem tab_len (c : UInt8) : (tab c).length ≤ 16 := by
  have h := tab_mark c
  simp only [mark, Bool.and_eq_true, decide_eq_true_eq] at h
  exact h.1.1.2
theorem mkV_good {l : List UInt8} (h : l.length ≤ 5) : VGood (mkV l) :=
  ⟨by simp [mkV], by simp [mkV], by simp [mkV], by simpa [mkV] using h, List.all_eq_true.2 fun x hx => by
    simp only [mkV, List.mem_map] at hx
    obtain ⟨c, _, rfl⟩ := hx
    exact tab_mark c⟩
/-- In the order of the table. -/
def cmpT : List UInt8 → List UInt8 → Int
  | [], [] => 0
  | [], _ :: _ => -1
  | _ :: _, [] => 1
  | x :: a, y :: b => if Lib.compareInt (x.toNat % 8 : Nat) (y.toNat % 8 : Nat) ≠ 0 then Lib.compareInt (x.toNat % 8 : Nat) (y.toNat % 8 : Nat) else cmpT a b
theorem cmpL_tab : ∀ a b : List UInt8, cmpL marksV (a.map tab) (b.map tab) = cmpT a b
  | [], [] => rfl
  | [], _ :: _ => rfl
  | _ :: _, [] => rfl
  | x :: a, y :: b => by
    have e : marksV (tab x) (tab y) = Lib.compareInt (x.toNat % 8 : Nat) (y.toNat % 8 : Nat) := tab_ord _ (Nat.mod_lt _ (by omega)) _ (Nat.mod_lt _ (by omega))
    simp only [List.map_cons, cmpL, cmpT, e, cmpL_tab a b]
def sgnI (n : Int) : Int := if n < 0 then -1 else if 0 < n then 1 else 0
theorem cI_sgn (a b : Int) : Lib.compareInt a b = sgnI (a - b) := by
  unfold Lib.compareInt sgnI
  (repeat' split) <;> omega
theorem cmpV_mk (a b : List UInt8) : cmpV (mkV a) (mkV b) = if a.length = 0 ∨ b.length = 0 then sgnI (b.length - a.length) else cmpT a b := by
  rw [cmpN_0 (by simp [mkV, Lib.compareInt]) (by simp [mkV, Lib.compareInt]) (by simp [mkV, Lib.compareInt])]
  simp only [mkV, List.length_map, cmpL_tab]
  split
  · rename_i h
    rw [cI_sgn, cI_sgn]
    unfold sgnI
    (repeat' split) <;> omega
  · rfl
theorem cmpT_drop {a b : List UInt8} {k : Nat} (ha : k < a.length) (hb : k < b.length) : cmpT (a.drop k) (b.drop k) = if (a.getD k 0).toNat % 8 ≠ (b.getD k 0).toNat % 8 then sgnI (((a.getD k 0).toNat % 8 : Nat) - ((b.getD k 0).toNat % 8 : Nat)) else cmpT (a.drop (k + 1)) (b.drop (k + 1)) := by
  rw [List.drop_eq_getElem_cons ha, List.drop_eq_getElem_cons hb]
  simp only [cmpT, List.getD_eq_getElem?_getD, List.getElem?_eq_getElem ha, List.getElem?_eq_getElem hb, Option.getD_some, cI_sgn]
  generalize (a[k].toNat % 8) = x
  generalize (b[k].toNat % 8) = y
  by_cases h : x = y
  · subst h; simp [sgnI]
  · rw [if_pos h, if_pos]
    unfold sgnI
    split <;> (try split) <;> omega
theorem cmpT_end {a b : List UInt8} (h : a = [] ∨ b = []) : cmpT a b = sgnI (a.length - b.length) := by
  cases a with
  | nil => cases b with
    | nil => rfl
    | cons y b => simp only [cmpT, sgnI, List.length_cons, List.length_nil]; (repeat' split) <;> omega
  | cons x a => cases b with
    | nil => simp only [cmpT, sgnI, List.length_cons, List.length_nil]; (repeat' split) <;> omega
    | cons y b => simp at h
theorem textV_mk0 : textV (mkV []) = [49, 46, 50, 46, 51] := by
  simp only [textV, mkV]
  rw [dec_small (by omega), dec_small (by omega), dec_small (by omega)]
  rfl
theorem textV_mk (l : List UInt8) : textV (mkV l) = [49, 46, 50, 46, 51] ++ pfx (l.map tab) := by
  rw [← textV_mk0]
  simp [textV, mkV, pfx]
theorem textV_snoc (l : List UInt8) (c : UInt8) : textV (mkV (l ++ [c])) = textV (mkV l) ++ [if l = [] then 45 else 46] ++ tab c := by
  rw [textV_mk, textV_mk, List.map_append, List.map_cons, List.map_nil, pfx_snoc]
  simp
theorem textV_mk_len {l : List UInt8} (h : l.length ≤ 5) : (textV (mkV l)).length ≤ 90 := by
  rw [textV_mk, List.length_append, pfx_len]
  have := lens_le (l.map tab) 16 fun x hx => by
    obtain ⟨c, _, rfl⟩ := List.mem_map.1 hx
    exact tab_len c
  rw [List.length_map] at this
  simp
  omega
end Go.Proofs.YtdjjlbjagaadaaaGreatDoor.A
