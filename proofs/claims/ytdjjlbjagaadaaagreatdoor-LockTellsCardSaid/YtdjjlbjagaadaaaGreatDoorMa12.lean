/- Texts of the proof, one behind another: LkB, LkC, LkD. -/
import Derived.Test.YtdjjlbjagaadaaaGreatDoorMa11
/- Keys: sha.Parse, sha.Hex, the reference's Parse and Hex. -/
namespace Go.Proofs.YtdjjlbjagaadaaaGreatDoor.A
open Go Go.RowKit
set_option maxRecDepth 100000
set_option linter.unusedSimpArgs false
set_option linter.unusedVariables false

def GLkB127 := PLift.up <| And.intro F3 <| And.intro F5 <| And.intro F9 <| F37
def GLkB70 := PLift.up <| And.intro F3 <| And.intro F5 <| And.intro F9 <| F37
def hexS : List UInt8 := [48, 49, 50, 51, 52, 53, 54, 55, 56, 57, 97, 98, 99, 100, 101, 102]
def isHx (c : UInt8) : Bool := dig c || (97 ≤ c && c ≤ 102)
def nib (c : UInt8) : UInt8 := if dig c then c - 48 else c - 97 + 10
def z32 : List UInt8 := List.replicate 32 0
/-- The key's bytes behind i letters. -/
def kst (s : List UInt8) : Nat → List UInt8
  | 0 => z32
  | i + 1 => (kst s i).set (i / 2) (((kst s i).getD (i / 2) 0) <<< 4 ||| nib (s.getD i 0))
def keyP (s : List UInt8) : List UInt8 × Bool := if s.length = 64 ∧ s.all isHx = true then (kst s 64, true) else (z32, false)
def hexL (k : List UInt8) : List UInt8 := k.flatMap fun (b : UInt8) => [hexS.getD (b >>> 4).toNat 0, hexS.getD (b &&& 15).toNat 0]
theorem all256 {p : UInt8 → Prop} (h : ∀ n : Fin 256, p (UInt8.ofNat n.1)) (c : UInt8) : p c := by
  have := h ⟨c.toNat, c.toNat_lt⟩
  simpa using this
theorem hexI_eq : ∀ c : UInt8, Lib.indexByte hexS c = if isHx c = true then ((nib c).toNat : Int) else -1 :=
  all256 (by decide)
theorem nib_lt : ∀ c : UInt8, isHx c = true → (nib c).toNat < 16 := all256 (by decide)
theorem kst_len (s : List UInt8) : ∀ i, (kst s i).length = 32
  | 0 => rfl
  | i + 1 => by simp [kst, kst_len s i]
theorem kst_zero (s : List UInt8) : kst s 0 = z32 := rfl
theorem kst_succ (s : List UInt8) (i : Nat) : kst s (i + 1) = (kst s i).set (i / 2) (((kst s i).getD (i / 2) 0) <<< 4 ||| nib (s.getD i 0)) := rfl
attribute [irreducible] kst
theorem keyP_yes {s : List UInt8} (h : s.length = 64) (h' : s.all isHx = true) : keyP s = (kst s 64, true) := by rw [keyP, if_pos ⟨h, h'⟩]
theorem keyP_len (s : List UInt8) : (keyP s).1.length = 32 := by
  by_cases h : s.length = 64 ∧ s.all isHx = true
  · rw [keyP_yes h.1 h.2]
    exact kst_len s 64
  · rw [keyP, if_neg h]
    rfl
theorem keyC_bel (n : Nat) : ∀ l : List UInt8, bels n (keyC l)
  | [] => trivial
  | b :: l => ⟨trivial, keyC_bel n l⟩
theorem keyC_get (l : List UInt8) (i : Nat) (h : i < l.length) : (keyC l)[i]? = some (.int .u8 ((l.getD i 0).toNat : Int)) := by
  simp [keyC, h]
theorem keyC_set (l : List UInt8) (i : Nat) (c : UInt8) : (keyC l).set i (.int .u8 (c.toNat : Int)) = keyC (l.set i c) := by
  simp [keyC, List.map_set]
theorem keyC_take (l : List UInt8) (n : Nat) (h : l.length = n) : (keyC l).take n = keyC l := by
  rw [List.take_of_length_le (by rw [keyC_len, h]; exact Nat.le_refl _)]
theorem keyC_drop (l : List UInt8) (n : Nat) (h : l.length = n) : (keyC l).drop n = [] := List.drop_of_length_le (by rw [keyC_len, h]; exact Nat.le_refl _)
theorem dz32 : (keyC z32).drop 32 = [] := keyC_drop z32 32 rfl
theorem two0 : ((2 : Int) = 0) = False := by simp
theorem z32_keyC : [V.int .u8 0, .int .u8 0, .int .u8 0, .int .u8 0, .int .u8 0, .int .u8 0, .int .u8 0, .int .u8 0, .int .u8 0, .int .u8 0, .int .u8 0, .int .u8 0, .int .u8 0, .int .u8 0, .int .u8 0, .int .u8 0, .int .u8 0, .int .u8 0, .int .u8 0, .int .u8 0, .int .u8 0, .int .u8 0, .int .u8 0, .int .u8 0, .int .u8 0, .int .u8 0, .int .u8 0, .int .u8 0, .int .u8 0, .int .u8 0, .int .u8 0, .int .u8 0] = keyC z32 := rfl
theorem shl4 (b : UInt8) : IntKind.u8.wrap ((b.toNat : Int) * 2 ^ (min 4 IntKind.u8.bits)) = ((b <<< 4).toNat : Int) := by
  revert b
  exact all256 (by decide)
theorem u8_in (c : UInt8) : IntKind.u8.wrap (c.toNat : Int) = (c.toNat : Int) := by
  revert c
  exact all256 (by decide)
theorem ofInt8 (c : UInt8) : BitVec.ofInt 8 (c.toNat : Int) = c.toBitVec := by
  apply BitVec.eq_of_toNat_eq
  have := c.toNat_lt
  show (BitVec.ofInt 8 (c.toNat : Int)).toNat = c.toNat
  rw [BitVec.ofInt_natCast, BitVec.toNat_ofNat, Nat.mod_eq_of_lt (by omega)]
theorem or_u8 (a b : UInt8) : IntKind.u8.wrap ((BitVec.ofInt IntKind.u8.bits (a.toNat : Int) ||| BitVec.ofInt IntKind.u8.bits (b.toNat : Int)).toNat) = ((a ||| b).toNat : Int) := by
  show IntKind.u8.wrap ((BitVec.ofInt 8 (a.toNat : Int) ||| BitVec.ofInt 8 (b.toNat : Int)).toNat : Int) = _
  rw [ofInt8, ofInt8]
  exact u8_in (a ||| b)
theorem indexByte_ok (s : List UInt8) (c : UInt8) (σ : List AE) : Gives Tryz.prog 165 [.str s, .int .u8 (c.toNat : Int)] σ (.int .i64 (Lib.indexByte s c)) :=
  Gives_of ⟨_, Tryz.func165, rfl, rfl⟩ fun w en vals hi hl => by
    obtain ⟨u, v, rfl, h1, h2⟩ := LR2 hl
    simp only [VR] at h1 h2
    subst h1; subst h2
    refine (Tryz.strings_IndexByte ⟨s.toArray⟩ (c.toNat : Int) w).mono ?_
    rintro e w' ⟨rfl, rfl⟩
    exact ⟨_, rfl, Below.refl _ _, by simp [VR]⟩
theorem half (k : Nat) (h : k < 64) : IntKind.i64.wrap ((k : Int).tdiv 2) = ((k / 2 : Nat) : Int) := by
  have e : (k : Int).tdiv 2 = ((k / 2 : Nat) : Int) := by
    rw [Int.tdiv_eq_ediv_of_nonneg (by omega)]
    omega
  rw [e, wrap_in (by omega) (by omega)]
theorem sha_parse (s : List UInt8) (σ : List AE) (hs : s.length ≤ 9223372036854775807) : Gives Tryz.prog 127 [.str s] σ (.tup [.agg (keyC (keyP s).1), .bool (keyP s).2]) := by
  refine Gives_drop (hb := fun hb => ⟨keyC_bel _ _, trivial, trivial⟩) ?_
  refine ent Tryz.func127 Tryz.ntmps127 Tryz.results127 ?_
  refine wlk GLkB127.down ?_
  refine AWP_cond rfl (fun h => ?_) (fun h => ?_)
  · have hk : keyP s = (z32, false) := by
      unfold keyP
      rw [if_neg]
      intro h'
      rw [h'.1] at h
      simp at h
    refine wlk GLkB127.down ?_
    refine rtrb GLkB127.down ?_
    rw [hk]
    exact Vle.refl _
  · have hl : s.length = 64 := by simp at h; omega
    refine wlk GLkB127.down ?_
    refine AWP_loop (α := { k : Nat // k ≤ 64 ∧ ∀ c ∈ s.take k, isHx c = true }) (fun k => [.str s, .junk, .ptr σ.length 0, .bool false, .ptr (σ.length + 1) 0, .junk, .junk, .junk, .junk, .junk, .junk, .junk, .int .i64 s.length, .int .i64 (k.1 : Int), .junk, .junk, .junk, .junk, .junk, .junk, .junk, .junk, .junk, .junk, .junk, .junk, .junk, .junk, .junk, .junk, .junk, .junk, .junk, .junk, .junk, .junk]) (fun k => σ ++ [.box (keyC z32), .box (keyC (kst s k.1))]) (fun k => 64 - k.1) ⟨0, by omega, by simp⟩ ?_ (fun _ => by simp) ?_
    · show Sub _ _ _ (σ ++ [.box (keyC z32), .box (keyC (kst s 0))])
      rw [kst_zero]
      exact .same (by exact lle)
    · rintro ⟨k, hk, hd⟩
      refine wlk GLkB127.down ?_
      refine AWP_cond rfl (fun h => ?_) (fun h => ?_)
      · have hlt : k < s.length := by simpa using h
        refine wlk (And.intro hlt GLkB127.down) ?_
        refine cll (indexByte_ok hexS (s.getD k 0) _) ?_
        rw [hexI_eq]
        by_cases hx : isHx (s.getD k 0) = true
        · rw [if_pos hx]
          have hneg : decide (((nib (s.getD k 0)).toNat : Int) < 0) = false := by simp
          have hq := half k (by omega)
          have hln := kst_len s k
          have hgt := keyC_get (kst s k) (k / 2) (by rw [hln]; omega)
          have hk2 : k / 2 < 32 := by omega
          refine wlk (And.intro hneg GLkB127.down) ?_
          refine wlk (And.intro @two0 (And.intro hq (And.intro hgt (And.intro hln (And.intro @shBo.eq_def (And.intro @shl4 (And.intro @or_u8 (And.intro @u8_in (And.intro @keyC_set (And.intro @cvt.eq_def (And.intro @Nat.mul_one (And.intro @Nat.zero_add GLkB127.down)))))))))))) ?_
          rw [← kst_succ, wrap_in (by omega) (by omega)]
          exact ⟨⟨k + 1, by omega, take_all hlt hd hx⟩, by simp; omega, .same (by exact lle)⟩
        · rw [if_neg hx]
          have hkn : keyP s = (z32, false) := by
            unfold keyP
            rw [if_neg]
            intro h'
            exact hx (List.all_eq_true.1 h'.2 _ (by rw [List.getD_eq_getElem?_getD, List.getElem?_eq_getElem hlt, Option.getD_some]; exact List.getElem_mem hlt))
          refine wlk GLkB127.down ?_
          refine rtrb GLkB127.down ?_
          rw [hkn]
          exact Vle.refl _
      · have hk64 : k = 64 := by
          have : ¬ k < s.length := by simpa using h
          omega
        have hall : s.all isHx = true := all_of_take (by omega) hd
        have hln := kst_len s k
        have htk := keyC_take (kst s k) 32 hln
        refine wlk (And.intro hln (And.intro htk (And.intro @dz32 GLkB127.down))) ?_
        refine rtrb (And.intro hln (And.intro htk (And.intro @keyC_len (And.intro @dz32 (And.intro @List.append_nil.{0} (And.intro @List.drop_zero.{0} GLkB127.down)))))) ?_
        subst hk64
        rw [keyP_yes hl hall]
        exact Vle.refl _
theorem dig_cond (c : UInt8) : (decide (48 ≤ (c.toNat : Int)) && decide ((c.toNat : Int) ≤ 57)) = dig c := dig_eq c
def hxl (c : UInt8) : Bool := 97 ≤ c && c ≤ 102
theorem hxl_eq (c : UInt8) : (decide (97 ≤ (c.toNat : Int)) && decide ((c.toNat : Int) ≤ 102)) = hxl c := by
  unfold hxl
  rw [Bool.eq_iff_iff]
  simp [UInt8.le_iff_toNat_le]
  omega
theorem sub48 : ∀ c : UInt8, dig c = true → IntKind.u8.wrap ((c.toNat : Int) - 48) = ((nib c).toNat : Int) := all256 (by decide)
theorem sub97 : ∀ c : UInt8, dig c = false → hxl c = true → IntKind.u8.wrap (IntKind.u8.wrap ((c.toNat : Int) - 97) + 10) = ((nib c).toNat : Int) := all256 (by decide)
theorem isHx_eq (c : UInt8) : isHx c = (dig c || hxl c) := rfl
theorem ref_parse (s : List UInt8) (σ : List AE) (hs : s.length ≤ 9223372036854775807) : Gives Tryz.prog 70 [.str s] σ (.tup [.agg (keyC (keyP s).1), .bool (keyP s).2]) := by
  refine Gives_drop (hb := fun hb => ⟨keyC_bel _ _, trivial, trivial⟩) ?_
  refine ent Tryz.func70 Tryz.ntmps70 Tryz.results70 ?_
  refine wlk GLkB70.down ?_
  refine AWP_cond rfl (fun h => ?_) (fun h => ?_)
  · have hk : keyP s = (z32, false) := by
      unfold keyP
      rw [if_neg]
      intro h'
      rw [h'.1] at h
      simp at h
    refine wlk GLkB70.down ?_
    refine rtrb GLkB70.down ?_
    rw [hk]
    exact Vle.refl _
  · have hl : s.length = 64 := by simp at h; omega
    refine wlk GLkB70.down ?_
    refine AWP_loop (α := { k : Nat // k ≤ 64 ∧ ∀ c ∈ s.take k, isHx c = true }) (fun k => [.str s, .junk, .ptr σ.length 0, .bool false, .ptr (σ.length + 1) 0, .int .i64 (k.1 : Int), .junk, .junk, .junk, .junk, .junk, .junk, .junk, .junk, .junk, .junk, .junk, .junk, .junk, .junk, .junk, .junk, .junk, .junk, .junk, .junk, .junk, .junk, .junk, .junk, .junk, .junk, .junk, .junk, .junk, .junk, .junk, .junk, .junk, .junk, .junk, .junk, .junk, .junk, .junk, .junk, .junk, .junk, .junk, .junk]) (fun k => σ ++ [.box (keyC z32), .box (keyC (kst s k.1))]) (fun k => 64 - k.1) ⟨0, by omega, by simp⟩ ?_ (fun _ => by simp) ?_
    · show Sub _ _ _ (σ ++ [.box (keyC z32), .box (keyC (kst s 0))])
      rw [kst_zero]
      exact .same (by exact lle)
    · rintro ⟨k, hk, hd⟩
      refine wlk GLkB70.down ?_
      refine AWP_cond rfl (fun h => ?_) (fun h => ?_)
      · have h64 : k < 64 := by simp at h; omega
        have hlt : k < s.length := by omega
        have hq := half k (by omega)
        have hln := kst_len s k
        have hgt := keyC_get (kst s k) (k / 2) (by rw [hln]; omega)
        have hk2 : k / 2 < 32 := by omega
        refine wlk (And.intro hlt GLkB70.down) ?_
        rw [dig_cond]
        refine AWP_cond rfl (fun h => ?_) (fun h => ?_)
        · have hx : isHx (s.getD k 0) = true := by rw [isHx_eq, h]; rfl
          have hsb := sub48 _ h
          refine wlk (And.intro @two0 (And.intro hsb (And.intro hq (And.intro hgt (And.intro hln (And.intro @shBo.eq_def (And.intro @shl4 (And.intro @or_u8 (And.intro @u8_in (And.intro @keyC_set (And.intro @cvt.eq_def (And.intro @Nat.mul_one (And.intro @Nat.zero_add GLkB70.down))))))))))))) ?_
          rw [← kst_succ, wrap_in (by omega) (by omega)]
          exact ⟨⟨k + 1, by omega, take_all hlt hd hx⟩, by simp; omega, .same (by exact lle)⟩
        · have h3 := h
          refine wlk GLkB70.down ?_
          rw [hxl_eq]
          refine AWP_cond rfl (fun h => ?_) (fun h => ?_)
          · have hx : isHx (s.getD k 0) = true := by rw [isHx_eq, h3, h]; rfl
            have hsb := sub97 _ h3 h
            refine wlk (And.intro @two0 (And.intro hsb (And.intro hq (And.intro hgt (And.intro hln (And.intro @shBo.eq_def (And.intro @shl4 (And.intro @or_u8 (And.intro @u8_in (And.intro @keyC_set (And.intro @cvt.eq_def (And.intro @Nat.mul_one (And.intro @Nat.zero_add GLkB70.down))))))))))))) ?_
            rw [← kst_succ, wrap_in (by omega) (by omega)]
            exact ⟨⟨k + 1, by omega, take_all hlt hd hx⟩, by simp; omega, .same (by exact lle)⟩
          · have hx : isHx (s.getD k 0) = false := by rw [isHx_eq, h3, h]; rfl
            have hkn : keyP s = (z32, false) := by
              unfold keyP
              rw [if_neg]
              intro h'
              have := List.all_eq_true.1 h'.2 (s.getD k 0) (by rw [List.getD_eq_getElem?_getD, List.getElem?_eq_getElem hlt, Option.getD_some]; exact List.getElem_mem hlt)
              rw [hx] at this
              cases this
            refine wlk (And.intro @dz32 GLkB70.down) ?_
            refine rtrb GLkB70.down ?_
            rw [hkn]
            exact Vle.refl _
      · have hk64 : k = 64 := by
          simp at h; omega
        have hall : s.all isHx = true := all_of_take (by omega) hd
        have hln := kst_len s k
        have htk := keyC_take (kst s k) 32 hln
        refine wlk (And.intro hln (And.intro htk (And.intro @dz32 GLkB70.down))) ?_
        refine rtrb (And.intro hln (And.intro htk (And.intro @keyC_len (And.intro @dz32 (And.intro @List.append_nil.{0} (And.intro @List.drop_zero.{0} GLkB70.down)))))) ?_
        subst hk64
        rw [keyP_yes hl hall]
        exact Vle.refl _
end Go.Proofs.YtdjjlbjagaadaaaGreatDoor.A
/- sha.Hex and the reference's. -/
namespace Go.Proofs.YtdjjlbjagaadaaaGreatDoor.A
open Go Go.RowKit
set_option maxRecDepth 100000
set_option linter.unusedSimpArgs false
set_option linter.unusedVariables false

def GLkC78 := PLift.up <| And.intro F3 <| And.intro F5 <| And.intro F9 <| And.intro F37 <| F41
def GLkC80 := PLift.up <| And.intro F3 <| And.intro F5 <| And.intro F9 <| And.intro F37 <| F41
theorem shr4 : ∀ b : UInt8, (b.toNat : Int).fdiv (2 ^ (min 4 IntKind.u8.bits)) = ((b >>> 4).toNat : Int) := all256 (by decide)
theorem shr4_lt : ∀ b : UInt8, (b >>> 4).toNat < 16 := all256 (by decide)
theorem and15_lt : ∀ b : UInt8, (b &&& 15).toNat < 16 := all256 (by decide)
theorem and_u8 (b : UInt8) : IntKind.u8.wrap ((BitVec.ofInt IntKind.u8.bits (b.toNat : Int) &&& BitVec.ofInt IntKind.u8.bits 15).toNat) = ((b &&& 15).toNat : Int) := by
  show IntKind.u8.wrap ((BitVec.ofInt 8 (b.toNat : Int) &&& BitVec.ofInt 8 (((15 : UInt8).toNat : Nat) : Int)).toNat : Int) = _
  rw [ofInt8, ofInt8]
  exact u8_in (b &&& 15)
theorem hexL_snoc (l : List UInt8) (j : Nat) (h : j < l.length) : hexL (l.take (j + 1)) = hexL (l.take j) ++ [hexS.getD (l.getD j 0 >>> 4).toNat 0, hexS.getD (l.getD j 0 &&& 15).toNat 0] := by
  have e : l.take (j + 1) = l.take j ++ [l.getD j 0] := by
    rw [List.take_succ_eq_append_getElem h, List.getD_eq_getElem?_getD, List.getElem?_eq_getElem h, Option.getD_some]
  rw [e]
  simp [hexL]
theorem hexL_len (l : List UInt8) : (hexL l).length = 2 * l.length := by
  induction l with
  | nil => rfl
  | cons b l ih =>
    have : hexL (b :: l) = [hexS.getD (b >>> 4).toNat 0, hexS.getD (b &&& 15).toNat 0] ++ hexL l := rfl
    rw [this, List.length_append, ih]
    simp
    omega
theorem enc2 (xs : List UInt8) (a b : UInt8) : encB xs ++ [[.int .u8 (a.toNat : Int)], [.int .u8 (b.toNat : Int)]] = encB (xs ++ [a, b]) := by rw [← encB_app]; rfl
theorem sha_hex (l : List UInt8) (σ : List AE) (hl : l.length = 32) : Gives Tryz.prog 78 [.agg (keyC l)] σ (.str (hexL l)) := by
  have htk := keyC_take l 32 hl
  refine Gives_drop (hb := fun hb => trivial) ?_
  refine ent Tryz.func78 Tryz.ntmps78 Tryz.results78 ?_
  refine wlk (And.intro hl (And.intro htk GLkC78.down)) ?_
  refine AWP_tok 3 5 1 rfl ?_
  simp only [List.set_cons_succ, List.set_cons_zero]
  refine AWP_loop (α := { j : Nat // j ≤ 32 }) (fun j => [.junk, .ptr σ.length 0, .str [], .sl (.own (σ.length + 1) j.1) (encB (hexL (l.take j.1))), .junk, .junk, .agg (keyC l), .int .i64 (j.1 : Int), .junk, .junk, .junk, .junk, .junk, .junk, .junk, .junk, .junk, .junk, .junk, .junk, .junk, .junk]) (fun j => σ ++ [.box (keyC l), .tok j.1 5 1]) (fun j => 32 - j.1) ⟨0, by omega⟩ ?_ (fun _ => by simp) ?_
  · simp only [List.append_assoc, List.length_append, List.length_cons, List.length_nil, List.cons_append, List.nil_append]
    exact .same (by exact lle)
  · rintro ⟨j, hj⟩
    refine wlk GLkC78.down ?_
    refine AWP_cond rfl (fun h => ?_) (fun h => ?_)
    · have hlt : j < 32 := by simp at h; omega
      have hgt := keyC_get l j (by omega)
      have hs4 := shr4 (l.getD j 0)
      have h16 := shr4_lt (l.getD j 0)
      have han := and_u8 (l.getD j 0)
      have h15 := and15_lt (l.getD j 0)
      have hll := hexL_len (l.take j)
      rw [List.length_take] at hll
      refine wlk (And.intro hlt (And.intro hgt (And.intro @Nat.mul_one (And.intro @shBo.eq_def (And.intro hs4 (And.intro h16 (And.intro han (And.intro h15 GLkC78.down)))))))) ?_
      refine LexA_append rfl rfl rfl rfl ((getAk _ _ _).trans rfl) eI41 (by decide) (encB_flatB _) rfl (by simp) (by rw [encB_len]; simp [maxLen]; omega) (by rw [encB_len]; simp; omega) ?_
      simp only [pt, SL]
      refine wlk GLkC78.down ?_
      refine ⟨⟨j + 1, by omega⟩, by simp; omega, ?_⟩
      rw [wrap_in (by omega) (by omega)]
      simp only [hexL_snoc l j (by omega)]
      rw [← enc2]
      exact .same (by exact lle)
    · have hj32 : j = 32 := by simp at h; omega
      subst hj32
      refine wlk (And.intro @cvt.eq_def (And.intro @decB_encB GLkC78.down)) ?_
      refine rtrb GLkC78.down ?_
      rw [List.take_of_length_le (by omega)]
      exact Vle.refl _
theorem ref_hex (l : List UInt8) (σ : List AE) (hl : l.length = 32) : Gives Tryz.prog 80 [.agg (keyC l)] σ (.str (hexL l)) := by
  have htk := keyC_take l 32 hl
  refine Gives_drop (hb := fun hb => trivial) ?_
  refine ent Tryz.func80 Tryz.ntmps80 Tryz.results80 ?_
  refine wlk (And.intro hl (And.intro htk GLkC80.down)) ?_
  refine AWP_tok 3 5 1 rfl ?_
  simp only [List.set_cons_succ, List.set_cons_zero]
  refine AWP_loop (α := { j : Nat // j ≤ 32 }) (fun j => [.junk, .ptr σ.length 0, .str [], .sl (.own (σ.length + 1) j.1) (encB (hexL (l.take j.1))), .int .i64 (j.1 : Int), .junk, .junk, .junk, .junk, .junk, .junk, .junk, .junk, .junk, .junk, .junk, .junk, .junk, .junk, .junk, .junk, .junk, .junk, .junk]) (fun j => σ ++ [.box (keyC l), .tok j.1 5 1]) (fun j => 32 - j.1) ⟨0, by omega⟩ ?_ (fun _ => by simp) ?_
  · simp only [List.append_assoc, List.length_append, List.length_cons, List.length_nil, List.cons_append, List.nil_append]
    exact .same (by exact lle)
  · rintro ⟨j, hj⟩
    refine wlk GLkC80.down ?_
    refine AWP_cond rfl (fun h => ?_) (fun h => ?_)
    · have hlt : j < 32 := by simp at h; omega
      have hgt := keyC_get l j (by omega)
      have hs4 := shr4 (l.getD j 0)
      have h16 := shr4_lt (l.getD j 0)
      have han := and_u8 (l.getD j 0)
      have h15 := and15_lt (l.getD j 0)
      have hll := hexL_len (l.take j)
      rw [List.length_take] at hll
      refine wlk (And.intro hlt (And.intro hgt (And.intro @Nat.mul_one (And.intro @Nat.zero_add (And.intro @shBo.eq_def (And.intro hs4 (And.intro h16 (And.intro han (And.intro h15 GLkC80.down))))))))) ?_
      refine LexA_append rfl rfl rfl rfl ((getAk _ _ _).trans rfl) eI41 (by decide) (encB_flatB _) rfl (by simp) (by rw [encB_len]; simp [maxLen]; omega) (by rw [encB_len]; simp; omega) ?_
      simp only [pt, SL]
      refine wlk GLkC80.down ?_
      refine ⟨⟨j + 1, by omega⟩, by simp; omega, ?_⟩
      rw [wrap_in (by omega) (by omega)]
      simp only [hexL_snoc l j (by omega)]
      rw [← enc2]
      exact .same (by exact lle)
    · have hj32 : j = 32 := by simp at h; omega
      subst hj32
      refine wlk (And.intro @cvt.eq_def (And.intro @decB_encB GLkC80.down)) ?_
      refine rtrb GLkC80.down ?_
      rw [List.take_of_length_le (by omega)]
      exact Vle.refl _
end Go.Proofs.YtdjjlbjagaadaaaGreatDoor.A
/- strings.Builder: copyCheck, WriteString. -/
namespace Go.Proofs.YtdjjlbjagaadaaaGreatDoor.A
open Go Go.RowKit
set_option maxRecDepth 100000
set_option linter.unusedSimpArgs false
set_option linter.unusedVariables false

def GLkD131 := PLift.up <| And.intro F5 <| And.intro F41 <| And.intro F119 <| And.intro F121 <| F202
def GLkD76 := PLift.up <| And.intro F5 <| And.intro F9 <| And.intro F41 <| And.intro F119 <| F121
theorem bE1 : ptrE Tryz.prog 119 = some 121 := by kernel_rfl
theorem bE2 : isUns Tryz.prog 119 = false := by kernel_rfl
theorem bE3 : isUns Tryz.prog 202 = true := by kernel_rfl
theorem bE4 : ptrE Tryz.prog 202 = none := by kernel_rfl
theorem set_self {σ : List AE} {b : Nat} {x : AE} (h : σ[b]? = some x) : σ.set b x = σ := by
  obtain ⟨hl, he⟩ := List.getElem?_eq_some_iff.1 h
  rw [← he]
  exact List.set_getElem_self hl
theorem set_get {σ : List AE} {b : Nat} {x y : AE} (h : σ[b]? = some x) : (σ.set b y)[b]? = some y := by
  rw [List.getElem?_set, if_pos rfl, if_pos (List.getElem?_eq_some_iff.1 h).1]
theorem set_get' {σ : List AE} {b k : Nat} {x y : AE} (hn : b ≠ k) (h : σ[k]? = some x) : (σ.set b y)[k]? = some x := by
  rw [List.getElem?_set, if_neg hn]
  exact h
theorem copyCheck_ok (σ : List AE) (b : Nat) (a buf : V) (hb : σ[b]? = some (.boxt 121 [a, buf])) (ha : a = .exact (.pointer none) ∨ a = .ptr b 0) :
    GivesS Tryz.prog 131 [.ptr b 0] σ (.tup []) (σ.set b (.boxt 121 [.ptr b 0, buf])) := by
  refine ent Tryz.func131 Tryz.ntmps131 Tryz.results131 ?_
  rcases ha with rfl | rfl
  · refine wlk (And.intro hb GLkD131.down) ?_
    refine wlk (And.intro hb (And.intro @cvt.eq_def (And.intro @cvtP.eq_def (And.intro @bE1 (And.intro @bE2 (And.intro @bE3 (And.intro @bE4 GLkD131.down))))))) ?_
    refine AOps_same Tryz.func168 (by kernel_rfl) (by kernel_rfl) (by kernel_rfl) (e := Extern.AbiNoEscape.same) (by kernel_rfl) (fun v => rfl) rfl rfl rfl rfl rfl ?_
    simp only [pt, SL]
    refine wlk (And.intro hb (And.intro @cvt.eq_def (And.intro @cvtP.eq_def (And.intro @bE1 (And.intro @bE2 (And.intro @bE3 (And.intro @bE4 GLkD131.down))))))) ?_
    refine rtn GLkD131.down ?_
    exact ⟨rfl, rfl⟩
  · refine wlk (And.intro hb GLkD131.down) ?_
    refine rtn GLkD131.down ?_
    exact ⟨rfl, (set_self hb).symm⟩
/-- A builder that holds l: its box b, its bytes' token k at version ver. -/
theorem writeString_ok (σ : List AE) (b k ver : Nat) (a : V) (l s : List UInt8) (hb : σ[b]? = some (.boxt 121 [a, .sl (.own k ver) (encB l)])) (ha : a = .exact (.pointer none) ∨ a = .ptr b 0)
    (hk : σ[k]? = some (.tok ver 5 1)) (hs : s ≠ []) (hlen : l.length + s.length ≤ 140737488355328) :
    GivesS Tryz.prog 76 [.ptr b 0, .str s] σ (.tup [.int .i64 s.length, .exact .nilIface]) ((σ.set b (.boxt 121 [.ptr b 0, .sl (.own k (ver + 1)) (encB (l ++ s))])).set k (.tok (ver + 1) 5 1)) := by
  have hbk : b ≠ k := fun e => by rw [e, hk] at hb; cases hb
  refine ent Tryz.func76 Tryz.ntmps76 Tryz.results76 ?_
  refine wlk GLkD76.down ?_
  refine AOps_callS (copyCheck_ok σ b a _ hb ha) rfl rfl rfl rfl rfl ?_
  simp only [pt, SL]
  obtain ⟨σ1, h1⟩ : ∃ τ, τ = σ.set b (.boxt 121 [.ptr b 0, .sl (.own k ver) (encB l)]) := ⟨_, rfl⟩
  rw [← h1]
  have hb1 : σ1[b]? = some (.boxt 121 [.ptr b 0, .sl (.own k ver) (encB l)]) := by rw [h1]; exact set_get hb
  have hk1 : σ1[k]? = some (.tok ver 5 1) := by rw [h1]; exact set_get' hbk hk
  refine wlk (And.intro hb1 GLkD76.down) ?_
  refine AOps_appendS rfl rfl rfl rfl hk1 (by kernel_rfl) Tryz.underlying9 (encB_flatB _) hs (by rw [encB_len]; exact hlen) ?_
  simp only [pt, SL]
  have hb2 : (σ1.set k (.tok (ver + 1) 5 1))[b]? = some (.boxt 121 [.ptr b 0, .sl (.own k ver) (encB l)]) := set_get' (Ne.symm hbk) hb1
  refine wlk (And.intro hb2 GLkD76.down) ?_
  refine rtr GLkD76.down ?_
  refine ⟨rfl, ?_⟩
  rw [h1, List.set_comm _ _ hbk, List.set_set, encB_app, List.set_comm _ _ (Ne.symm hbk)]
end Go.Proofs.YtdjjlbjagaadaaaGreatDoor.A
