/- The order of versions is an order: plain. -/
import Derived.Test.YtfagngmikbmmhaaDoorVaK
namespace Go.Proofs.YtfagngmikbmmhaaDoor.A
open Go
set_option linter.unusedSimpArgs false
set_option linter.unusedVariables false

/-- A comparison that puts things in order. -/
structure IsC {α : Type} (c : α → α → Int) : Prop where
  anti : ∀ x y, c y x = - c x y
  cong : ∀ x y, c x y = 0 → ∀ z, c x z = c y z
  tr : ∀ x y z, c x y ≤ 0 → c y z ≤ 0 → c x z ≤ 0
theorem IsC.refl {α : Type} {c : α → α → Int} (h : IsC c) (x : α) : c x x = 0 := by have := h.anti x x; omega
theorem IsC.lt {α : Type} {c : α → α → Int} (h : IsC c) {x y z : α} (h1 : c x y < 0) (h2 : c y z ≤ 0) : c x z < 0 := by
  have h3 := h.tr x y z (by omega) h2
  by_cases h4 : c x z = 0
  · have h5 := h.cong x z h4 y
    have h6 := h.anti z y
    omega
  · omega
theorem isC_int : IsC Lib.compareInt where
  anti := fun x y => by unfold Lib.compareInt; (repeat' split) <;> omega
  cong := fun x y h z => by
    have : x = y := by unfold Lib.compareInt at h; (repeat' split at h) <;> omega
    rw [this]
  tr := fun x y z h1 h2 => by unfold Lib.compareInt at *; (repeat' split at h1) <;> (repeat' split at h2) <;> (repeat' split) <;> omega
theorem IsC.pull {α β : Type} {c : α → α → Int} (h : IsC c) (f : β → α) : IsC (fun x y => c (f x) (f y)) :=
  ⟨fun x y => h.anti _ _, fun x y e z => h.cong _ _ e _, fun x y z => h.tr _ _ _⟩
theorem IsC.lex {α : Type} {c d : α → α → Int} (h : IsC c) (k : IsC d) : IsC (fun x y => if c x y ≠ 0 then c x y else d x y) where
  anti := fun x y => by
    have := h.anti x y
    have := k.anti x y
    split <;> split <;> omega
  cong := fun x y e z => by
    split at e
    · omega
    · rename_i h0
      have h1 := h.cong x y (by omega) z
      have h2 := k.cong x y e z
      rw [h1, h2]
  tr := fun x y z e1 e2 => by
    by_cases h1 : c x y = 0
    · have h2 := h.cong x y h1 z
      rw [if_neg (by omega)] at e1
      rw [h2]
      split
      · rename_i h3
        rw [if_pos h3] at e2
        exact e2
      · rename_i h3
        rw [if_neg h3] at e2
        exact k.tr x y z e1 e2
    · rw [if_pos h1] at e1
      have h2 : c y z ≤ 0 := by
        split at e2
        · exact e2
        · omega
      have h3 := h.lt (show c x y < 0 by omega) h2
      rw [if_pos (by omega)]
      omega
/-- Rows. -/
def cmpG {α : Type} (c : α → α → Int) : List α → List α → Int
  | [], [] => 0
  | [], _ :: _ => -1
  | _ :: _, [] => 1
  | x :: a, y :: b => if c x y ≠ 0 then c x y else cmpG c a b
theorem isC_list {α : Type} {c : α → α → Int} (h : IsC c) : IsC (cmpG c) where
  anti := fun x => by
    induction x with
    | nil => intro y; cases y <;> rfl
    | cons a x ih =>
      intro y
      cases y with
      | nil => rfl
      | cons b y =>
        have := h.anti a b
        have := ih y
        simp only [cmpG]
        split <;> split <;> omega
  cong := fun x => by
    induction x with
    | nil => intro y e z; cases y with
      | nil => rfl
      | cons b y => simp [cmpG] at e
    | cons a x ih =>
      intro y e z
      cases y with
      | nil => simp [cmpG] at e
      | cons b y =>
        simp only [cmpG] at e
        split at e
        · omega
        · rename_i h0
          cases z with
          | nil => rfl
          | cons d z =>
            have h1 := h.cong a b (by omega) d
            have h2 := ih y e z
            simp only [cmpG]
            rw [h1, h2]
  tr := fun x => by
    induction x with
    | nil => intro y z _ _; cases z <;> simp [cmpG]
    | cons a x ih =>
      intro y z e1 e2
      cases y with
      | nil => simp [cmpG] at e1
      | cons b y =>
        cases z with
        | nil => simp [cmpG] at e2
        | cons d z =>
          simp only [cmpG] at e1 e2 ⊢
          by_cases h1 : c a b = 0
          · have h2 := h.cong a b h1 d
            rw [if_neg (by omega)] at e1
            rw [h2]
            split
            · rename_i h3
              rw [if_pos h3] at e2
              exact e2
            · rename_i h3
              rw [if_neg h3] at e2
              exact ih y z e1 e2
          · rw [if_pos h1] at e1
            have h2 : c b d ≤ 0 := by
              split at e2
              · exact e2
              · omega
            have h3 := h.lt (show c a b < 0 by omega) h2
            rw [if_pos (by omega)]
            omega
theorem cmpL_eq (c : List UInt8 → List UInt8 → Int) : ∀ a b, cmpL c a b = cmpG c a b
  | [], [] => rfl
  | [], _ :: _ => rfl
  | _ :: _, [] => rfl
  | x :: a, y :: b => by simp only [cmpL, cmpG]; rw [cmpL_eq c a b]
theorem cmpB_eq : ∀ a b : List UInt8, cmpB a b = cmpG (fun x y : UInt8 => Lib.compareInt x.toNat y.toNat) a b
  | [], [] => by simp [cmpB, ltB, Op.bytesLess, cmpG]
  | [], _ :: _ => by simp [cmpB, ltB, Op.bytesLess, cmpG]
  | _ :: _, [] => by simp [cmpB, ltB, Op.bytesLess, cmpG]
  | x :: a, y :: b => by
    have ih := cmpB_eq a b
    simp only [cmpG]
    rw [← ih]
    simp only [cmpB, ltB, Op.bytesLess]
    by_cases h1 : x < y
    · have h2 : (x.toNat : Int) < y.toNat := by have := UInt8.lt_iff_toNat_lt.1 h1; omega
      simp [h1, Lib.compareInt, h2]
    · by_cases h3 : x = y
      · subst h3
        have h4 : ¬ x < x := h1
        simp [h4, Lib.compareInt]
      · have h2 : ¬ (x.toNat : Int) < y.toNat := by
          intro e; exact h1 (UInt8.lt_iff_toNat_lt.2 (by omega))
        have h4 : (x.toNat : Int) > y.toNat := by
          have : x.toNat ≠ y.toNat := fun e => h3 (UInt8.toNat_inj.1 e)
          omega
        simp [h1, h3, Lib.compareInt, h2, h4]
theorem isC_bytes : IsC cmpB := by
  have : cmpB = cmpG (fun x y : UInt8 => Lib.compareInt x.toNat y.toNat) := by funext a b; exact cmpB_eq a b
  rw [this]
  exact isC_list (isC_int.pull fun x : UInt8 => (x.toNat : Int))
def nd (s : List UInt8) : Int := if digits s then 0 else 1
def ln (s : List UInt8) : Int := if digits s then s.length else 0
theorem marksV_eq (a b : List UInt8) : marksV a b = if Lib.compareInt (nd a) (nd b) ≠ 0 then Lib.compareInt (nd a) (nd b) else (if Lib.compareInt (ln a) (ln b) ≠ 0 then Lib.compareInt (ln a) (ln b) else cmpB a b) := by
  unfold marksV nd ln
  cases h1 : digits a <;> cases h2 : digits b
  · simp [Lib.compareInt]
  · simp [Lib.compareInt]
  · simp [Lib.compareInt]
  · simp only [Bool.and_self, if_true, orI]
    have : Lib.compareInt 0 0 = 0 := by simp [Lib.compareInt]
    rw [this]
    simp only [ne_eq, not_true, if_false]
    split
    · rfl
    · split
      · rfl
      · rename_i h; simp at h; exact h.symm
theorem isC_marks : IsC marksV := by
  have : marksV = fun a b => if Lib.compareInt (nd a) (nd b) ≠ 0 then Lib.compareInt (nd a) (nd b) else (if Lib.compareInt (ln a) (ln b) ≠ 0 then Lib.compareInt (ln a) (ln b) else cmpB a b) := by funext a b; exact marksV_eq a b
  rw [this]
  exact (isC_int.pull nd).lex ((isC_int.pull ln).lex isC_bytes)
def em (v : Ver) : Int := if v.pre.length = 0 then 1 else 0
theorem cmpV_eq (a b : Ver) : cmpV a b = if Lib.compareInt a.major b.major ≠ 0 then Lib.compareInt a.major b.major else (if Lib.compareInt a.minor b.minor ≠ 0 then Lib.compareInt a.minor b.minor else (if Lib.compareInt a.patch b.patch ≠ 0 then Lib.compareInt a.patch b.patch else
    (if Lib.compareInt (em a) (em b) ≠ 0 then Lib.compareInt (em a) (em b) else cmpG marksV a.pre b.pre))) := by
  by_cases h1 : Lib.compareInt a.major b.major = 0
  · by_cases h2 : Lib.compareInt a.minor b.minor = 0
    · by_cases h3 : Lib.compareInt a.patch b.patch = 0
      · rw [cmpN_0 h1 h2 h3]
        simp only [h1, h2, h3, ne_eq, not_true_eq_false, if_false]
        cases ha : a.pre with
        | nil => cases hb : b.pre with
          | nil => simp [em, ha, hb, Lib.compareInt, cmpG]
          | cons y r => simp [em, ha, hb, Lib.compareInt]; omega
        | cons x l => cases hb : b.pre with
          | nil => simp [em, ha, hb, Lib.compareInt]; omega
          | cons y r => simp [em, ha, hb, Lib.compareInt, cmpL_eq]
      · rw [cmpN_3 h1 h2 h3]
        simp only [h1, h2, ne_eq, not_true_eq_false, if_false, h3, not_false_eq_true, if_true]
    · rw [cmpN_2 h1 h2]
      simp only [h1, ne_eq, not_true_eq_false, if_false, h2, not_false_eq_true, if_true]
  · rw [cmpN_1 h1, if_pos h1]
theorem isC_ver : IsC cmpV := by
  have : cmpV = fun a b : Ver => if Lib.compareInt a.major b.major ≠ 0 then Lib.compareInt a.major b.major else (if Lib.compareInt a.minor b.minor ≠ 0 then Lib.compareInt a.minor b.minor else (if Lib.compareInt a.patch b.patch ≠ 0 then Lib.compareInt a.patch b.patch else
    (if Lib.compareInt (em a) (em b) ≠ 0 then Lib.compareInt (em a) (em b) else cmpG marksV a.pre b.pre))) := by funext a b; exact cmpV_eq a b
  rw [this]
  exact (isC_int.pull Ver.major).lex ((isC_int.pull Ver.minor).lex ((isC_int.pull Ver.patch).lex ((isC_int.pull em).lex ((isC_list isC_marks).pull Ver.pre))))
theorem cI_eq {x y : Int} (h : Lib.compareInt x y = 0) : x = y := by unfold Lib.compareInt at h; (repeat' split at h) <;> omega
theorem cmpG_zero {α : Type} {c : α → α → Int} (h : ∀ x y, c x y = 0 → x = y) : ∀ a b, cmpG c a b = 0 → a = b
  | [], [], _ => rfl
  | [], _ :: _, e => by simp [cmpG] at e
  | _ :: _, [], e => by simp [cmpG] at e
  | x :: a, y :: b, e => by
    simp only [cmpG] at e
    split at e
    · omega
    · rw [h x y (by omega), cmpG_zero h a b e]
theorem cmpB_zero {a b : List UInt8} (h : cmpB a b = 0) : a = b := by
  rw [cmpB_eq] at h
  exact cmpG_zero (fun x y e => UInt8.toNat_inj.1 (by have := cI_eq e; omega)) a b h
theorem marksV_zero {a b : List UInt8} (h : marksV a b = 0) : a = b := by
  rw [marksV_eq] at h
  split at h
  · omega
  · split at h
    · omega
    · exact cmpB_zero h
theorem cmpV_zero {a b : Ver} (h : cmpV a b = 0) : a = b := by
  rw [cmpV_eq] at h
  split at h
  · omega
  · split at h
    · omega
    · split at h
      · omega
      · split at h
        · omega
        · rename_i h1 h2 h3 _
          have e1 := cI_eq (x := a.major) (y := b.major) (by omega)
          have e2 := cI_eq (x := a.minor) (y := b.minor) (by omega)
          have e3 := cI_eq (x := a.patch) (y := b.patch) (by omega)
          have e4 := cmpG_zero (fun x y => marksV_zero) _ _ h
          cases a; cases b
          simp_all
end Go.Proofs.YtfagngmikbmmhaaDoor.A
