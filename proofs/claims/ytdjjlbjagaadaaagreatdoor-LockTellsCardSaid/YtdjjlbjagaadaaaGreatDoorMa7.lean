/- Texts of the proof, one behind another: AhArgs, VaC, VaD. -/
import Derived.ChangeShapes
import Derived.Test.YtdjjlbjagaadaaaGreatDoorMa6
/- A row's arguments: arrays; scalars, slices and structs as arguments. -/
namespace Go.Proofs.YtdjjlbjagaadaaaGreatDoor.A
open Go Go.RowKit
set_option linter.unusedVariables false
set_option linter.unusedSimpArgs false

section
variable {H : Type} {enc : TypeId × Value → H} {P : Program} {W : World} {base : Nat} {spare : Nat → Bool} {held : Bool} {t : TypeId}
theorem arr_open {E : List V → Prop} {c : Nat} : ∀ (n : Nat) (cs : List Value), cs.length = n * c → (∀ i, i < n → ∃ y, E y ∧ (∀ u ∈ (cs.drop (i * c)).take c, u.oneCell' = true) ∧ ∀ en, NB en → LR W en y ((cs.drop (i * c)).take c)) →
    ∃ yss : List (List V), yss.length = n ∧ (∀ y ∈ yss, E y) ∧ (∀ u ∈ cs, u.oneCell' = true) ∧ ∀ en, NB en → LR W en yss.flatten cs
  | 0, cs, hl, _ => by
    have : cs = [] := List.eq_nil_of_length_eq_zero (by omega)
    subst this
    exact ⟨[], rfl, by simp, by simp, fun en _ => by simp [LR]⟩
  | n + 1, cs, hl, h => by
    obtain ⟨y, y1, y2, y3⟩ := h 0 (by omega)
    simp only [Nat.zero_mul, List.drop_zero] at y2 y3
    obtain ⟨yss, z1, z2, z3, z4⟩ := arr_open n (cs.drop c) (show (cs.drop c).length = n * c by rw [List.length_drop, hl, Nat.add_mul]; omega) fun i hi => by
      obtain ⟨z, k⟩ := h (i + 1) (by omega)
      refine ⟨z, ?_⟩
      rw [List.drop_drop, show c + i * c = (i + 1) * c from by rw [Nat.add_mul]; omega]
      exact k
    have e : cs = cs.take c ++ cs.drop c := (List.take_append_drop c cs).symm
    refine ⟨y :: yss, by simp [z1], fun x hx => ?_, fun u hu => ?_, fun en hn => ?_⟩
    · rcases List.mem_cons.1 hx with rfl | hx
      · exact y1
      · exact z2 x hx
    · rw [e] at hu
      rcases List.mem_append.1 hu with hu | hu
      · exact y2 u hu
      · exact z3 u hu
    · rw [List.flatten_cons, e]
      exact LR_append (y3 en hn) (z4 en hn)
theorem Opens_array {n : Nat} {e : TypeId} {E : List V → Prop} (ht : P.underlying t = some (.array n e)) (hc : P.cellsOf t = n * P.cellsOf e) (he : Opens enc P W base spare held e E) :
    Opens enc P W base spare held t (fun xs => ∃ yss : List (List V), xs = yss.flatten ∧ yss.length = n ∧ ∀ y ∈ yss, E y) := fun fuel cs x hx => by
  obtain ⟨xs, m, _, _, hl, hxl, hget⟩ := DataW.trod_array ht hx
  obtain ⟨yss, h1, h2, h3, h4⟩ := arr_open (W := W) (E := E) (c := P.cellsOf e) n cs (by rw [hl, hc]) fun i hi => by
    have := hget i hi
    rw [List.getElem?_eq_getElem (by omega)] at this
    exact he _ _ _ this
  exact ⟨_, ⟨yss, rfl, h1, h2⟩, h3, h4⟩
def isA (P : Program) (t : TypeId) : Bool := match P.underlying t with
  | some (.struct _) => true
  | some (.array _ _) => true
  | _ => false
theorem cells_one {r : Reach} {b : Nat} {v : Value} (hv : Value.okWide P W r b t v) (ht : isA P t = false) : v.cells.toList = [v] := by
  unfold isA at ht
  unfold Value.okWide at hv
  split at hv
  · rename_i h; rw [h] at ht; cases ht
  · rename_i h; rw [h] at ht; cases ht
  · cases v <;> first | rfl | skip
    unfold Cell.okWide at hv
    split at hv <;> first | (rename_i h1 h2; cases h2; done) | skip
    unfold Cell.ok at hv
    split at hv <;> first | (rename_i h1 h2; cases h2; done) | exact hv.elim
theorem agg_arg {r : Reach} {b : Nat} {v : Value} (hv : Value.okWide P W r b t v) (ht : isA P t = true) : ∃ us, v = .agg us := by
  unfold isA at ht
  unfold Value.okWide at hv
  split at hv
  · obtain ⟨us, rfl, _⟩ := hv; exact ⟨us, rfl⟩
  · obtain ⟨us, rfl, _⟩ := hv; exact ⟨us, rfl⟩
  · rename_i h1 h2
    split at ht
    · rename_i h; exact absurd h (h1 _)
    · rename_i h; exact absurd h (h2 _ _)
    · cases ht
/-- An argument of one cell. -/
theorem Opens.arg1 {E : List V → Prop} (h : Opens enc P W base spare held t E) {r : Reach} {b : Nat} {v : Value} {d : DataW H} {ps : List MemPlace} (hd : DataW.Trod enc P W base spare held t v d ps) (hv : Value.okWide P W r b t v) (ht : isA P t = false) :
    ∃ xs, E xs ∧ ∀ en, NB en → LR W en xs [v] := by
  obtain ⟨xs, h1, _, h3⟩ := h.arg hd
  rw [cells_one hv ht] at h3
  exact ⟨xs, h1, h3⟩
/-- A struct or an array as an argument. -/
theorem Opens.argA {E : List V → Prop} (h : Opens enc P W base spare held t E) {r : Reach} {b : Nat} {v : Value} {d : DataW H} {ps : List MemPlace} (hd : DataW.Trod enc P W base spare held t v d ps) (hv : Value.okWide P W r b t v) (ht : isA P t = true) :
    ∃ xs, E xs ∧ ∀ en, NB en → LR W en [.agg xs] [v] := by
  obtain ⟨xs, h1, h2, h3⟩ := h.arg hd
  obtain ⟨us, rfl⟩ := agg_arg hv ht
  refine ⟨xs, h1, fun en hn => ?_⟩
  simp only [LR, VR]
  exact ⟨_, _, rfl, ⟨us, rfl, h3 en hn, h2⟩, rfl⟩
theorem arr3 {k : IntKind} (xs : List V) (h : ∃ yss : List (List V), xs = yss.flatten ∧ yss.length = 3 ∧ ∀ y ∈ yss, ∃ n, y = [.int k n] ∧ (Lit.int k n).wf = true) :
    ∃ a b c, xs = [.int k a, .int k b, .int k c] ∧ (Lit.int k a).wf = true ∧ (Lit.int k b).wf = true ∧ (Lit.int k c).wf = true := by
  obtain ⟨yss, rfl, h1, h2⟩ := h
  match yss, h1 with
  | [x, y, z], _ =>
    obtain ⟨a, rfl, ha⟩ := h2 x (by simp)
    obtain ⟨b, rfl, hb⟩ := h2 y (by simp)
    obtain ⟨c, rfl, hc⟩ := h2 z (by simp)
    exact ⟨a, b, c, rfl, ha, hb, hc⟩
theorem bytes_of : ∀ {yss : List (List V)}, (∀ y ∈ yss, ∃ n, y = [.int .u8 n] ∧ (Lit.int .u8 n).wf = true) → ∃ l : List UInt8, yss = encB l ∧ l.length = yss.length
  | [], _ => ⟨[], rfl, rfl⟩
  | y :: yss, h => by
    obtain ⟨n, rfl, hn⟩ := h y List.mem_cons_self
    obtain ⟨l, rfl, h1⟩ := bytes_of fun z hz => h z (List.mem_cons_of_mem _ hz)
    have hb := bounds_u8 hn
    refine ⟨UInt8.ofNat n.toNat :: l, ?_, by simp [encB]⟩
    simp only [encB, List.map_cons]
    congr 2
    simp only [UInt8.toNat_ofNat']
    congr 1
    show n = ((n.toNat % 2 ^ 8 : Nat) : Int)
    omega
theorem Opens_bytes {e : TypeId} (ht : P.underlying t = some (.slice e)) (he : P.underlying e = some (.int .u8)) (hc : P.cellsOf e = 1) : Opens enc P W base spare held t (fun xs => ∃ tg l, xs = [.sl tg (encB l)] ∧ l.length ≤ maxLen) :=
  (Opens_slice ht (Opens_int he) (by rintro xs ⟨n, rfl, _⟩; rw [hc]; rfl) (by omega)).mono (by
    rintro xs ⟨tg, yss, rfl, h1, h2⟩
    obtain ⟨l, rfl, h3⟩ := bytes_of h1
    exact ⟨tg, l, rfl, by rw [h3]; exact h2⟩)
theorem bounds_of_u8 {n : Int} (h : (Lit.int .u8 n).wf = true) : ∃ b : UInt8, n = (b.toNat : Int) := by
  have := bounds_u8 h
  refine ⟨UInt8.ofNat n.toNat, ?_⟩
  simp only [UInt8.toNat_ofNat']
  show n = ((n.toNat % 2 ^ 8 : Nat) : Int)
  omega
end
end Go.Proofs.YtdjjlbjagaadaaaGreatDoor.A
/- Numbers: ver.number, the reference's number. -/
namespace Go.Proofs.YtdjjlbjagaadaaaGreatDoor.A
open Go Go.RowKit
set_option maxRecDepth 100000
set_option linter.unusedSimpArgs false
set_option linter.unusedVariables false

def GVaC161 := PLift.up <| And.intro F3 <| F9
def GVaC84 := PLift.up <| And.intro F3 <| And.intro F5 <| F9
/-- A row of digits' value. -/
def valF (n : Nat) (l : List UInt8) : Nat := l.foldl (fun n c => 10 * n + (c.toNat - 48)) n
abbrev val (s : List UInt8) : Nat := valF 0 s
def numV (s : List UInt8) : Bool := digits s && decide (s.length ≤ 9) && plain s
theorem dig_nat {c : UInt8} (h : dig c = true) : 48 ≤ c.toNat ∧ c.toNat ≤ 57 := by
  simp [dig, UInt8.le_iff_toNat_le] at h
  exact h
theorem decFrom_eq : ∀ (l : List UInt8) (n : Nat), (∀ c ∈ l, dig c = true) → Lib.decFrom n l = some (valF n l)
  | [], n, _ => rfl
  | c :: l, n, h => by
    have hc := dig_nat (h c List.mem_cons_self)
    have : Lib.digitVal c = some (c.toNat - 48) := by unfold Lib.digitVal; rw [if_pos hc]
    unfold Lib.decFrom
    rw [this]
    simp only []
    rw [decFrom_eq l _ fun d hd => h d (List.mem_cons_of_mem _ hd)]
    simp [valF, Nat.mul_comm]
theorem digits_all {s : List UInt8} (h : digits s = true) : ∀ c ∈ s, dig c = true := by
  simp [digits] at h
  exact h.2
theorem atoi_eq {s : List UInt8} (h : digits s = true) : Lib.atoi s = some (val s : Int) := by
  have ha := digits_all h
  cases s with
  | nil => simp [digits] at h
  | cons b r =>
    have hb := dig_nat (ha b List.mem_cons_self)
    have h1 : (b == 45) = false := by simp [← UInt8.toNat_inj]; omega
    have h2 : (b == 43) = false := by simp [← UInt8.toNat_inj]; omega
    unfold Lib.atoi
    simp only [h1, h2, Bool.false_eq_true, if_false]
    unfold Lib.decNat
    rw [decFrom_eq _ _ ha]
    simp
theorem valF_lt : ∀ (l : List UInt8) (n : Nat), (∀ c ∈ l, dig c = true) → valF n l < (n + 1) * 10 ^ l.length
  | [], n, _ => by simp [valF]
  | c :: l, n, h => by
    have hc := dig_nat (h c List.mem_cons_self)
    have := valF_lt l (10 * n + (c.toNat - 48)) fun d hd => h d (List.mem_cons_of_mem _ hd)
    simp only [valF, List.foldl_cons, List.length_cons, Nat.pow_succ] at this ⊢
    refine Nat.lt_of_lt_of_le this ?_
    rw [show (n + 1) * (10 ^ l.length * 10) = ((n + 1) * 10) * 10 ^ l.length from by rw [Nat.mul_comm (10 ^ l.length) 10, Nat.mul_assoc]]
    exact Nat.mul_le_mul_right _ (by omega)
theorem val_lt {s : List UInt8} (h : digits s = true) : val s < 10 ^ s.length := by
  have := valF_lt s 0 (digits_all h)
  simpa using this
theorem val_take {s : List UInt8} {k : Nat} (h : k < s.length) : val (s.take (k + 1)) = 10 * val (s.take k) + ((s.getD k 0).toNat - 48) := by
  unfold val valF
  rw [List.take_succ_eq_append_getElem h, List.foldl_append, List.getD_eq_getElem?_getD, List.getElem?_eq_getElem h]
  rfl
theorem pow10_le {a b : Nat} (h : a ≤ b) : 10 ^ a ≤ 10 ^ b := Nat.pow_le_pow_right (by omega) h
theorem numV_lt {s : List UInt8} (h : numV s = true) : val s ≤ 999999999 := by
  simp [numV] at h
  have := val_lt h.1.1
  have h2 := pow10_le h.1.2
  omega
def numR (s : List UInt8) : V := .tup [.int .i64 (if numV s then (val s : Int) else 0), .bool (numV s)]
theorem number_ok (s : List UInt8) (σ : List AE) (hs : s.length ≤ 9223372036854775806) : Gives Tryz.prog 161 [.str s] σ (numR s) := by
  refine ent Tryz.func161 Tryz.ntmps161 Tryz.results161 ?_
  refine wlk GVaC161.down ?_
  refine cll (digits_ok s σ hs) ?_
  refine wlk GVaC161.down ?_
  first
    | refine AOps_callU (plain_ok s σ (digits_pos (by simp_all))) rfl rfl rfl rfl (by first | rfl | (simp only [gv, ung, cv, SL]; done) | (simp only [gv, ung, cv, SL]; exact rfl)) ?_
    | refine AOps_callG rfl (fun hg => plain_ok s σ (digits_pos (by simp_all))) rfl rfl rfl (by first | rfl | (simp only [gv, ung, cv, SL]; done) | (simp only [gv, ung, cv, SL]; exact rfl)) ?_
    | refine LexA_callU (plain_ok s σ (digits_pos (by simp_all))) rfl rfl rfl rfl (by first | rfl | (simp only [gv, ung, cv, SL]; done) | (simp only [gv, ung, cv, SL]; exact rfl)) ?_
    | refine LexA_callG rfl (fun hg => plain_ok s σ (digits_pos (by simp_all))) rfl rfl rfl (by first | rfl | (simp only [gv, ung, cv, SL]; done) | (simp only [gv, ung, cv, SL]; exact rfl)) ?_
  simp only [pt, SL]
  refine wlk GVaC161.down ?_
  refine AWP_cond rfl (fun h => ?_) (fun h => ?_)
  · refine wlk GVaC161.down ?_
    refine rtr GVaC161.down ?_
    refine ⟨?_, rfl⟩
    have : numV s = false := by
      unfold numV
      cases h1 : digits s <;> cases h2 : plain s <;> simp_all
      omega
    simp [numR, this]
  · have hn : numV s = true := by
      unfold numV
      cases h1 : digits s <;> cases h2 : plain s <;> simp_all
      omega
    have hd : digits s = true ∧ s.length ≤ 9 := by simp [numV] at hn; exact hn.1
    refine wlk GVaC161.down ?_
    refine cll (atoi_ok s _ σ (by omega) (atoi_eq hd.1)) ?_
    refine wlk GVaC161.down ?_
    refine rtr GVaC161.down ?_
    refine ⟨?_, rfl⟩
    simp [numR, hn]
def rbad (s : List UInt8) : Bool := !digits s || (decide (1 < s.length) && s.getD 0 0 == 48) || decide (10 < s.length)
theorem rbad_of {s : List UInt8} (h : numV s = true) : rbad s = false := by
  simp [numV] at h
  obtain ⟨⟨h1, h2⟩, h3⟩ := h
  unfold plain at h3
  unfold rbad
  have h4 : decide (10 < s.length) = false := by simp; omega
  rw [h1, h4]
  cases h5 : s.getD 0 0 == 48
  · simp
  · have : s.length = 1 := by simp_all
    simp [this]
theorem rbad_eq (s : List UInt8) : rbad s = (!digits s || decide (1 < (s.length : Int)) && ((s.getD 0 0).toNat : Int) == 48 || decide (10 < (s.length : Int))) := by
  unfold rbad
  have h1 : (((s.getD 0 0).toNat : Int) == 48) = (s.getD 0 0 == 48) := by rw [Bool.eq_iff_iff]; simp [← UInt8.toNat_inj]; omega
  have h2 : decide (1 < (s.length : Int)) = decide (1 < s.length) := by rw [Bool.eq_iff_iff]; simp; omega
  have h3 : decide (10 < (s.length : Int)) = decide (10 < s.length) := by rw [Bool.eq_iff_iff]; simp; omega
  rw [h1, h2, h3]
/-- Not bad: the value tells whether it may stand. -/
theorem numV_of {s : List UInt8} (h : rbad s = false) : numV s = decide ((val s : Int) ≤ 999999999) := by
  simp only [rbad, Bool.or_eq_false_iff, Bool.not_eq_false', decide_eq_false_iff_not] at h
  obtain ⟨⟨h1, h2⟩, h3⟩ := h
  have hpl : plain s = true := by
    unfold plain
    have := digits_pos h1
    cases h5 : s.getD 0 0 == 48
    · simp_all
    · simp_all; omega
  unfold numV
  rw [h1, hpl]
  by_cases h9 : s.length ≤ 9
  · have := val_lt h1
    have h6 := pow10_le h9
    simp [h9]
    omega
  · -- ten digits, the first no nought
    have h10 : s.length = 10 := by omega
    cases s with
    | nil => simp at h10
    | cons c l =>
      have hc := dig_nat (digits_all h1 c List.mem_cons_self)
      have h0 : c ≠ 48 := by
        have h8 : l.length = 9 := by simpa using h10
        simpa [h8] using h2
      have h0' : c.toNat ≠ 48 := fun e => h0 (UInt8.toNat_inj.1 (by simpa using e))
      have hge : ∀ (l : List UInt8) (n : Nat), n * 10 ^ l.length ≤ valF n l := by
        intro l
        induction l with
        | nil => intro n; simp [valF]
        | cons d l ih =>
          intro n
          have := ih (10 * n + (d.toNat - 48))
          simp only [valF, List.foldl_cons, List.length_cons, Nat.pow_succ] at this ⊢
          refine Nat.le_trans ?_ this
          rw [show n * (10 ^ l.length * 10) = (n * 10) * 10 ^ l.length from by rw [Nat.mul_comm (10 ^ l.length) 10, Nat.mul_assoc]]
          exact Nat.mul_le_mul_right _ (by omega)
      have h7 := hge l (c.toNat - 48)
      have h8 : l.length = 9 := by simpa using h10
      rw [h8] at h7
      have h9' : val (c :: l) = valF (c.toNat - 48) l := by simp [valF]
      simp only [h8, List.length_cons]
      rw [h9']
      have : 1000000000 ≤ valF (c.toNat - 48) l := by omega
      simp
      omega
theorem rnumber_ok (s : List UInt8) (σ : List AE) (hs : s.length ≤ 9223372036854775806) : Gives Tryz.prog 84 [.str s, .int .i64 999999999] σ (.tup [.int .i64 (if rbad s then 0 else (val s : Int)), .bool (numV s)]) := by
  refine ent Tryz.func84 Tryz.ntmps84 Tryz.results84 ?_
  refine wlk GVaC84.down ?_
  refine cll (rdigits_ok s σ hs) ?_
  by_cases hpos : 0 < s.length
  · refine wlk (And.intro hpos GVaC84.down) ?_
    refine AWP_cond rfl (fun h => ?_) (fun h => ?_)
    · refine wlk GVaC84.down ?_
      refine rtr GVaC84.down ?_
      refine ⟨?_, rfl⟩
      rw [← rbad_eq] at h
      have : numV s = false := by
        cases hn : numV s
        · rfl
        · rw [rbad_of hn] at h; cases h
      rw [h, this]
      rfl
    · rw [← rbad_eq] at h
      have hd : digits s = true ∧ s.length ≤ 10 := by
        simp only [rbad, Bool.or_eq_false_iff, Bool.not_eq_false', decide_eq_false_iff_not] at h
        exact ⟨h.1.1, by omega⟩
      have hall := digits_all hd.1
      have hlt10 : ∀ k, val (s.take k) < 10000000000 := fun k => by
        have := valF_lt (s.take k) 0 fun c hc => hall c (List.mem_of_mem_take hc)
        have h6 := pow10_le (show (s.take k).length ≤ 10 by rw [List.length_take]; omega)
        simp only [Nat.zero_add, Nat.one_mul] at this
        exact Nat.lt_of_lt_of_le this h6
      refine wlk GVaC84.down ?_
      refine AWP_loop (α := { k : Nat // k ≤ s.length }) (fun k => [.str s, .int .i64 999999999, .junk, .junk, .junk, .junk, .int .i64 (val (s.take k.1)), .int .i64 (k.1 : Int), .junk, .junk, .junk, .junk, .junk, .junk, .junk, .junk, .junk, .junk, .junk, .junk, .junk, .junk, .junk, .junk, .junk, .junk, .junk, .junk, .junk, .junk, .junk, .junk, .junk, .junk, .junk, .junk, .junk, .junk, .junk, .junk, .junk, .junk, .junk, .junk]) (fun _ => σ) (fun k => s.length - k.1) ⟨0, by omega⟩ (.same ?_) (fun _ => Nat.le_refl _) ?_
      · exact lle
      · rintro ⟨k, hk⟩
        refine wlk GVaC84.down ?_
        refine AWP_cond rfl (fun h => ?_) (fun h => ?_)
        · have hlt : k < s.length := by simpa using h
          have hdg : dig (s.getD k 0) = true := hall _ (by rw [List.getD_eq_getElem?_getD, List.getElem?_eq_getElem hlt]; exact List.getElem_mem _)
          have hdn := dig_nat hdg
          have hv := val_take hlt
          have h10 := hlt10 k
          have h11 := hlt10 (k + 1)
          refine wlk (And.intro hlt (And.intro @cvt.eq_def GVaC84.down)) ?_
          refine ⟨⟨k + 1, by omega⟩, by simp; omega, .same ?_⟩
          rw [wrap_in (n := (k : Int) + 1) (by omega) (by omega), IntWalk.u8_in _ (by omega), wrap_in (n := ((s.getD k 0).toNat : Int) - 48) (by omega) (by omega), wrap_in (n := 10 * _) (by omega) (by omega), wrap_in (by omega) (by omega)]
          have e : (10 * (val (s.take k) : Int) + (((s.getD k 0).toNat : Int) - 48)) = (val (s.take (k + 1)) : Int) := by omega
          rw [e]
          exact lle
        · have hk' : k = s.length := by have : ¬ k < s.length := by simpa using h
                                        omega
          subst hk'
          refine wlk GVaC84.down ?_
          refine rtr GVaC84.down ?_
          refine ⟨?_, rfl⟩
          rw [List.take_length, numV_of (by assumption)]
          simp_all
  · have : s = [] := by cases s with
      | nil => rfl
      | cons _ _ => simp at hpos
    subst this
    have hd0 : digits [] = false := rfl
    simp only [hd0]
    refine wlv (And.intro @Bool.false_and (And.intro @Nat.lt_irrefl GVaC84.down)) ?_
    refine rtr GVaC84.down ?_
    exact ⟨rfl, rfl⟩
end Go.Proofs.YtdjjlbjagaadaaaGreatDoor.A
/- The reference's Split. -/
namespace Go.Proofs.YtdjjlbjagaadaaaGreatDoor.A
open Go Go.RowKit
set_option maxRecDepth 100000
set_option linter.unusedSimpArgs false
set_option linter.unusedVariables false

def GVaD69 := PLift.up <| And.intro F3 <| And.intro F5 <| And.intro F9 <| F33
theorem spl_none {c : UInt8} : ∀ {l : List UInt8}, (∀ b ∈ l, b ≠ c) → spl c l = [l]
  | [], _ => rfl
  | a :: l, h => by
    unfold spl
    rw [if_neg (h a List.mem_cons_self), spl_none fun b hb => h b (List.mem_cons_of_mem _ hb)]
theorem spl_at {c : UInt8} {r : List UInt8} : ∀ {l : List UInt8}, (∀ b ∈ l, b ≠ c) → spl c (l ++ c :: r) = l :: spl c r
  | [], _ => by simp [spl]
  | a :: l, h => by
    rw [List.cons_append, spl, if_neg (h a List.mem_cons_self), spl_at fun b hb => h b (List.mem_cons_of_mem _ hb)]
/-- In the midst of splitting: xs are done, the piece begins at f, k is looked at. -/
def SplI (c : UInt8) (s : List UInt8) (p : List (List UInt8) × Nat × Nat) : Prop :=
  (p.2.2 ≤ s.length ∧ p.2.1 ≤ p.2.2 ∧ spl c s = p.1 ++ spl c (s.drop p.2.1) ∧ ∀ b ∈ (s.drop p.2.1).take (p.2.2 - p.2.1), b ≠ c) ∨ (p.2.2 = s.length + 1 ∧ p.1 = spl c s ∧ p.2.1 ≤ s.length + 1)
theorem SplI.start (c : UInt8) (s : List UInt8) : SplI c s ([], 0, 0) := .inl ⟨Nat.zero_le _, Nat.le_refl _, by simp, by simp⟩
theorem SplI.len {c : UInt8} {s : List UInt8} {p : List (List UInt8) × Nat × Nat} (h : SplI c s p) : p.1.length ≤ s.length + 1 := by
  have : (spl c s).length ≤ s.length + 1 := by rw [spl_len, Lib.count_one]; have := List.count_le_length (a := c) (l := s); omega
  rcases h with ⟨_, _, h, _⟩ | ⟨_, h, _⟩
  · have := congrArg List.length h; simp at this; omega
  · rw [h]; exact this
theorem SplI.last {c : UInt8} {s : List UInt8} {xs : List (List UInt8)} {f k : Nat} (h : SplI c s (xs, f, k)) (hk : k = s.length) : SplI c s (xs ++ [(s.drop f).take (k - f)], k + 1, k + 1) := by
  rcases h with ⟨_, h1, h2, h3⟩ | ⟨h1, _⟩
  · simp only at h1 h2 h3
    refine .inr ⟨by simp only []; omega, ?_, by simp only []; omega⟩
    simp only
    have e : (s.drop f).take (k - f) = s.drop f := List.take_of_length_le (by rw [List.length_drop]; omega)
    rw [e] at h3 ⊢
    rw [h2, spl_none h3]
  · simp only at h1; omega
theorem SplI.hit {c : UInt8} {s : List UInt8} {xs : List (List UInt8)} {f k : Nat} (h : SplI c s (xs, f, k)) (hk : k < s.length) (hc : s.getD k 0 = c) : SplI c s (xs ++ [(s.drop f).take (k - f)], k + 1, k + 1) := by
  rcases h with ⟨_, h1, h2, h3⟩ | ⟨h1, _⟩
  · simp only at h1 h2 h3
    refine .inl ⟨by simp only []; omega, by simp only []; omega, ?_, by simp⟩
    simp only
    rw [List.getD_eq_getElem?_getD, List.getElem?_eq_getElem hk, Option.getD_some] at hc
    have e : s.drop f = (s.drop f).take (k - f) ++ c :: s.drop (k + 1) := by
      conv => lhs; rw [← List.take_append_drop (k - f) (s.drop f)]
      rw [List.drop_drop, show f + (k - f) = k from by omega, List.drop_eq_getElem_cons hk, hc]
    rw [h2]
    conv => lhs; rw [e]
    rw [spl_at h3]
    simp
  · simp only at h1; omega
theorem SplI.miss {c : UInt8} {s : List UInt8} {xs : List (List UInt8)} {f k : Nat} (h : SplI c s (xs, f, k)) (hk : k < s.length) (hc : s.getD k 0 ≠ c) : SplI c s (xs, f, k + 1) := by
  rcases h with ⟨_, h1, h2, h3⟩ | ⟨h1, _⟩
  · simp only at h1 h2 h3
    refine .inl ⟨by simp only []; omega, by simp only []; omega, h2, ?_⟩
    simp only
    rw [List.getD_eq_getElem?_getD, List.getElem?_eq_getElem hk, Option.getD_some] at hc
    intro b hb
    rw [show k + 1 - f = (k - f) + 1 from by omega, List.take_succ_eq_append_getElem (by rw [List.length_drop]; omega)] at hb
    rcases List.mem_append.1 hb with hb | hb
    · exact h3 b hb
    · rw [List.mem_singleton.1 hb, List.getElem_drop]
      simpa [show f + (k - f) = k from by omega] using hc
  · simp only at h1; omega
theorem SplI.from_le {c : UInt8} {s : List UInt8} {xs : List (List UInt8)} {f k : Nat} (h : SplI c s (xs, f, k)) (hk : k ≤ s.length) : f ≤ k := by
  rcases h with ⟨_, h1, _⟩ | ⟨h1, _⟩
  · exact h1
  · simp only at h1; omega
theorem SplI.end_ {c : UInt8} {s : List UInt8} {xs : List (List UInt8)} {f k : Nat} (h : SplI c s (xs, f, k)) (hk : ¬ k ≤ s.length) : xs = spl c s ∧ k = s.length + 1 := by
  rcases h with ⟨h1, _⟩ | ⟨h1, h2, _⟩
  · exact absurd h1 hk
  · exact ⟨h2, h1⟩

theorem strs_snoc (xs : List (List UInt8)) (p : List UInt8) : strs (xs ++ [p]) = strs xs ++ [[.str p]] := by simp [strs]
theorem rsplit_ok (c : UInt8) (s : List UInt8) (σ : List AE) (hs : s.length < 4294967281) : Gives Tryz.prog 69 [.str s, .int .u8 (c.toNat : Int)] σ (.sl .ro (strs (spl c s))) := by
  refine Gives_drop (hb := fun hb => ⟨trivial, strs_bel _ _⟩) ?_
  refine ent Tryz.func69 Tryz.ntmps69 Tryz.results69 ?_
  refine wlk GVaD69.down ?_
  refine AWP_tok 5 9 1 rfl ?_
  simp only [List.set_cons_succ, List.set_cons_zero]
  refine AWP_loop (α := { p : List (List UInt8) × Nat × Nat // SplI c s p }) (fun p => [.str s, .int .u8 (c.toNat : Int), .junk, .junk, .sl .nil [], .sl (.own σ.length p.1.1.length) (strs p.1.1), .int .i64 (p.1.2.1 : Int), .int .i64 (p.1.2.2 : Int), .junk, .junk, .junk, .junk, .junk, .junk, .junk, .junk, .junk, .junk, .junk, .junk, .junk, .junk, .junk, .junk, .junk, .junk, .junk, .junk, .junk, .junk, .junk, .junk, .junk, .junk, .junk]) (fun p => σ ++ [.tok p.1.1.length 9 1]) (fun p => s.length + 1 - p.1.2.2) ⟨([], 0, 0), .start c s⟩ (.same ?_) (fun p => by simp) ?_
  · exact lle
  · rintro ⟨⟨xs, f, k⟩, hp⟩
    have hlen := hp.len
    simp only at hlen
    refine wlk GVaD69.down ?_
    refine AWP_cond rfl (fun h => ?_) (fun h => ?_)
    · have hle : k ≤ s.length := by simpa using h
      have hf := hp.from_le hle
      by_cases hk : k = s.length
      · subst hk
        have hf' : (f : Int) ≤ (s.length : Int) := by omega
        refine wlk (And.intro @Nat.lt_irrefl (And.intro @Int.le_refl (And.intro @Bool.true_or (And.intro hf' GVaD69.down)))) ?_
        refine AOps_append rfl rfl rfl rfl (by first | rfl | exact (getA0 _ _).trans rfl | exact (getAk _ _ _).trans rfl) eI33 (by decide) (by simp [flat, strs]) (by simp [flat, strs]) (by simp) (by simp [strs, maxLen]; omega) (by simp [strs, maxLen]; omega) ?_
        simp only [pt, SL]
        refine wlk GVaD69.down ?_
        refine ⟨⟨(xs ++ [(s.drop f).take (s.length - f)], s.length + 1, s.length + 1), hp.last rfl⟩, by simp, ?_⟩
        rw [wrap_in (by omega) (by omega)]
        simp only [strs_snoc, List.length_append, List.length_cons, List.length_nil, ← List.drop_take]
        exact .same (by exact lle)
      · have hlt : k < s.length := by omega
        have hf' : (f : Int) ≤ (k : Int) := by omega
        have hle' : (k : Int) ≤ (s.length : Int) := by omega
        refine wlk (And.intro hlt GVaD69.down) ?_
        refine AWP_cond rfl (fun h => ?_) (fun h => ?_)
        · have hc : s.getD k 0 = c := by
            have : ((k : Int) == (s.length : Int)) = false := by simp; omega
            rw [this] at h
            refine UInt8.toNat_inj.1 ?_
            simp at h ⊢
            omega
          refine wlk (And.intro hf' (And.intro hle' GVaD69.down)) ?_
          refine AOps_append rfl rfl rfl rfl (by first | rfl | exact (getA0 _ _).trans rfl | exact (getAk _ _ _).trans rfl) eI33 (by decide) (by simp [flat, strs]) (by simp [flat, strs]) (by simp) (by simp [strs, maxLen]; omega) (by simp [strs, maxLen]; omega) ?_
          simp only [pt, SL]
          refine wlk GVaD69.down ?_
          refine ⟨⟨(xs ++ [(s.drop f).take (k - f)], k + 1, k + 1), hp.hit hlt hc⟩, by simp; omega, ?_⟩
          rw [wrap_in (by omega) (by omega)]
          simp only [strs_snoc, List.length_append, List.length_cons, List.length_nil, ← List.drop_take]
          exact .same (by exact lle)
        · have hc : s.getD k 0 ≠ c := by
            intro e
            rw [e] at h
            simp at h
          refine wlk GVaD69.down ?_
          refine ⟨⟨(xs, f, k + 1), hp.miss hlt hc⟩, by simp; omega, ?_⟩
          rw [wrap_in (by omega) (by omega)]
          exact .same (by exact lle)
    · obtain ⟨rfl, rfl⟩ := hp.end_ (by simpa using h)
      refine wlk GVaD69.down ?_
      refine rtrb GVaD69.down ?_
      exact Vle.ro _ _
end Go.Proofs.YtdjjlbjagaadaaaGreatDoor.A
