/- Texts of the proof, one behind another: LkM, LkN, LkO. -/
import Derived.Test.YtdjjlbjagaadaaaGreatDoorMa15
/- The reference's LockText. -/
namespace Go.Proofs.YtdjjlbjagaadaaaGreatDoor.A
open Go Go.RowKit
set_option maxRecDepth 100000
set_option linter.unusedSimpArgs false
set_option linter.unusedVariables false

def GLkM26 := PLift.up <| And.intro F3 <| And.intro F5 <| And.intro F9 <| And.intro F23 <| And.intro F33 <| And.intro F35 <| And.intro F37 <| F39
/-- Pins whose lines are not long. -/
def LOk (l : List Pin) : Prop := ∀ p ∈ l, (lineL p).length ≤ 1000000
theorem insP_mem {p q : Pin} {l : List Pin} (h : q ∈ insP p l) : q = p ∨ q ∈ l := by
  unfold insP at h
  rcases List.mem_append.1 h with h | h
  · exact .inr (List.mem_of_mem_take h)
  · rcases List.mem_cons.1 h with h | h
    · exact .inl h
    · exact .inr (List.mem_of_mem_drop h)
theorem sortP_mem {q : Pin} {l : List Pin} (h : q ∈ sortP l) : q ∈ l := by
  have key : ∀ (l a : List Pin), q ∈ l.foldl (fun acc p => insP p acc) a → q ∈ a ∨ q ∈ l := by
    intro l
    induction l with
    | nil => intro a h; exact .inl h
    | cons p l ih =>
      intro a h
      rcases ih _ h with h | h
      · rcases insP_mem h with rfl | h
        · exact .inr List.mem_cons_self
        · exact .inl h
      · exact .inr (List.mem_cons_of_mem _ h)
  rcases key l [] h with h | h
  · cases h
  · exact h
theorem lines_len {l : List Pin} (h : LOk l) : (l.flatMap lineL).length ≤ l.length * 1000000 := by
  induction l with
  | nil => simp
  | cons p l ih =>
    have h1 := h p List.mem_cons_self
    have h2 := ih fun q hq => h q (List.mem_cons_of_mem _ hq)
    simp only [List.flatMap_cons, List.length_append, List.length_cons]
    omega
theorem lineL_len (p : Pin) : (lineL p).length = p.n.length + (textV p.v).length + (hexL p.k).length + 3 := by
  simp [lineL]
  omega
theorem lockText_ok (l : List Pin) (t : Tag) (σ : List AE) (hl : POk l) (hL : LOk l) (hll : l.length ≤ 1000) : Gives Tryz.prog 26 [.sl t (pinsC l)] σ (.str (textS (sortP l))) := by
  refine ent Tryz.func26 Tryz.ntmps26 Tryz.results26 ?_
  refine wlk GLkM26.down ?_
  refine cll (rpins_ok l t σ hl (by omega)) ?_
  obtain ⟨P, hP⟩ : ∃ P, P = sortP l := ⟨_, rfl⟩
  rw [← hP]
  have hPk : POk P := by rw [hP]; exact sortP_ok hl
  have hPL : LOk P := fun p hp => hL p (sortP_mem (by rw [← hP]; exact hp))
  have hPl : P.length = l.length := by rw [hP, sortP_len]
  have hnl := pinsC_len P
  have hfl := pinsC_flat hPk.k
  refine wlk GLkM26.down ?_
  refine AWP_loop (α := { i : Nat // i ≤ P.length }) (fun i => [.sl t (pinsC l), .junk, .str [], .str (textS (P.take i.1)), .sl .ro (pinsC P), .int .i64 (i.1 : Int), .junk, .junk, .junk, .junk, .junk, .junk, .junk, .junk, .junk, .junk, .junk, .junk, .junk, .junk, .junk, .junk, .junk, .junk, .junk, .junk, .junk, .junk, .junk, .junk, .junk, .junk, .junk, .junk, .junk, .junk, .junk, .junk, .junk]) (fun _ => _) (fun i => P.length - i.1) ⟨0, by omega⟩ (.same ?_) (fun _ => Nat.le_refl _) ?_
  · exact lle
  · rintro ⟨i, hi⟩
    refine wlk GLkM26.down ?_
    refine AWP_cond rfl (fun h => ?_) (fun h => ?_)
    · have hlt : i < P.length := by simp [hnl] at h; omega
      obtain ⟨S, hS⟩ : ∃ S, S = textS (P.take i) := ⟨_, rfl⟩
      have hSl : S.length ≤ 2000000000 := by
        have h1 := lines_len (l := P.take i) fun p hp => hPL p (List.mem_of_mem_take hp)
        rw [List.length_take] at h1
        have h2 : S.length = 7 + ((P.take i).flatMap lineL).length := by rw [hS]; simp [textS, lockHead]; omega
        have h3 : min i P.length ≤ 1000 := by omega
        have h4 : min i P.length * 1000000 ≤ 1000 * 1000000 := Nat.mul_le_mul_right _ h3
        omega
      simp only [← hS]
      obtain ⟨p, hp⟩ : ∃ p, p = P.getD i p0 := ⟨_, rfl⟩
      have hgl := pinsC_get P i hlt
      rw [← hp] at hgl
      have pa : p.k.length = 32 ∧ VOk p.v := by rw [hp]; exact hPk _ (getD_mem hlt)
      have hLp : (lineL p).length ≤ 1000000 := by rw [hp]; exact hPL _ (getD_mem hlt)
      rw [lineL_len] at hLp
      have hp0 := pinC_0 p
      have hpl := pinC_len pa.1
      have hpv := pinC_v p
      have hpk := pinC_k pa.1
      have hp1 := pinC_d1 pa.1
      have hp5 := pinC_d5 pa.1
      refine wlk (And.intro hnl (And.intro hfl (And.intro hlt (And.intro hgl (And.intro hp0 (And.intro hpl (And.intro hpv (And.intro hpk (And.intro hp1 (And.intro hp5 GLkM26.down)))))))))) ?_
      refine cll (rtext9_ok p.v .ro _ pa.2) ?_
      refine wlk (And.intro hnl (And.intro hfl (And.intro hlt (And.intro hgl (And.intro hp0 (And.intro hpl (And.intro hpv (And.intro hpk (And.intro hp1 (And.intro hp5 GLkM26.down)))))))))) ?_
      refine cll (ref_hex p.k _ pa.1) ?_
      refine wlk (And.intro hnl (And.intro hfl (And.intro hlt (And.intro hgl (And.intro hp0 (And.intro hpl (And.intro hpv (And.intro hpk (And.intro hp1 (And.intro hp5 GLkM26.down)))))))))) ?_
      refine ⟨⟨i + 1, by omega⟩, by simp; omega, ?_⟩
      have hnew : textS (P.take (i + 1)) = S ++ lineL p := by
        rw [take_snoc hlt, ← hp, hS]
        simp [textS]
      simp only [hnew]
      rw [wrap_in (by omega) (by omega)]
      exact .same (by exact lle)
    · have hi' : i = P.length := by simp [hnl] at h; omega
      refine wlk GLkM26.down ?_
      refine rtr GLkM26.down ?_
      refine ⟨?_, rfl⟩
      rw [hi', List.take_length]
end Go.Proofs.YtdjjlbjagaadaaaGreatDoor.A
/- Sorting a row of pins: the comparison; insertion sort. -/
namespace Go.Proofs.YtdjjlbjagaadaaaGreatDoor.A
open Go Go.RowKit
set_option maxRecDepth 100000
set_option linter.unusedSimpArgs false
set_option linter.unusedVariables false

def GLkN74 := PLift.up <| And.intro F3 <| And.intro F5 <| And.intro F9 <| And.intro F33 <| And.intro F35 <| And.intro F37 <| F39
theorem byName_ok (a b : Pin) (σ : List AE) (ha : a.k.length = 32) (hb : b.k.length = 32) : Gives Tryz.prog 74 [.agg (pinC a), .agg (pinC b)] σ (.int .i64 (cmpB a.n b.n)) := by
  refine Gives_drop (hb := fun hb => trivial) ?_
  refine ent Tryz.func74 Tryz.ntmps74 Tryz.results74 ?_
  have hal := pinC_len ha
  have hbl := pinC_len hb
  have ha0 := pinC_0 a
  have hb0 := pinC_0 b
  refine wlk (And.intro hal (And.intro hbl (And.intro ha0 (And.intro hb0 GLkN74.down)))) ?_
  refine cll (compareS_ok a.n b.n _) ?_
  refine wlk GLkN74.down ?_
  refine rtrb GLkN74.down ?_
  exact Vle.refl _
/-- A row's cells. -/
def flatP (l : List Pin) : List V := (pinsC l).flatten
theorem flatP_len {l : List Pin} (h : K32 l) : (flatP l).length = l.length * 37 := by
  unfold flatP
  rw [flat_len (pinsC_flat h), pinsC_len]
theorem flatP_get : ∀ {l : List Pin} (h : K32 l) {j : Nat}, j < l.length → ((flatP l).drop (j * 37)).take 37 = pinC (l.getD j p0)
  | [], h, j, hj => absurd hj (by simp)
  | p :: l, h, 0, hj => by
    have e : flatP (p :: l) = pinC p ++ flatP l := rfl
    rw [Nat.zero_mul, List.drop_zero, e, List.take_append_of_le_length (by rw [pinC_len (h p List.mem_cons_self)]; exact Nat.le_refl _)]
    exact pinC_take (h p List.mem_cons_self)
  | p :: l, h, j + 1, hj => by
    have e : flatP (p :: l) = pinC p ++ flatP l := rfl
    have ih := flatP_get (l := l) (fun q hq => h q (List.mem_cons_of_mem _ hq)) (j := j) (by simpa using hj)
    have hl := pinC_len (h p List.mem_cons_self)
    rw [e, show (j + 1) * 37 = (pinC p).length + j * 37 by rw [hl]; omega, List.drop_append, List.drop_of_length_le (by omega), List.nil_append, Nat.add_sub_cancel_left]
    simpa using ih
theorem flatP_set : ∀ {l : List Pin} (h : K32 l) {j : Nat} (q : Pin), q.k.length = 32 → j < l.length → (flatP l).take (j * 37) ++ (pinC q ++ (flatP l).drop (j * 37 + 37)) = flatP (l.set j q)
  | [], h, j, q, hq, hj => absurd hj (by simp)
  | p :: l, h, 0, q, hq, hj => by
    have e : flatP (p :: l) = pinC p ++ flatP l := rfl
    have e2 : flatP ((p :: l).set 0 q) = pinC q ++ flatP l := rfl
    have hl := pinC_len (h p List.mem_cons_self)
    rw [e2, e, Nat.zero_mul, List.take_zero, List.nil_append, Nat.zero_add, ← hl, List.drop_left]
  | p :: l, h, j + 1, q, hq, hj => by
    have e : flatP (p :: l) = pinC p ++ flatP l := rfl
    have e2 : flatP ((p :: l).set (j + 1) q) = pinC p ++ flatP (l.set j q) := rfl
    have hl := pinC_len (h p List.mem_cons_self)
    have ih := flatP_set (l := l) (fun q hq => h q (List.mem_cons_of_mem _ hq)) (j := j) q hq (by simpa using hj)
    rw [e2, e, ← ih, show (j + 1) * 37 = (pinC p).length + j * 37 by rw [hl]; omega]
    rw [List.take_append, List.take_of_length_le (by omega), Nat.add_sub_cancel_left, List.append_assoc, Nat.add_assoc, List.drop_append, List.drop_of_length_le (by omega), List.nil_append, Nat.add_sub_cancel_left]
/-- Two neighbours change places. -/
def swp (l : List Pin) (j : Nat) : List Pin := (l.set (j + 1) (l.getD j p0)).set j (l.getD (j + 1) p0)
/-- The inner loop. -/
def inF (a : Nat) (l : List Pin) : Nat → List Pin
  | 0 => l
  | j + 1 => if (decide (a < j + 1) && ltB (l.getD (j + 1) p0).n (l.getD j p0).n) = true then inF a (swp l j) j else l
/-- The outer loop, from i on, k times. -/
def outF (a : Nat) (l : List Pin) (i : Nat) : Nat → List Pin
  | 0 => l
  | k + 1 => outF a (inF a l i) (i + 1) k
theorem swp_len (l : List Pin) (j : Nat) : (swp l j).length = l.length := by simp [swp]
theorem inF_len (a : Nat) : ∀ (j : Nat) (l : List Pin), (inF a l j).length = l.length
  | 0, l => rfl
  | j + 1, l => by
    unfold inF
    split
    · rw [inF_len a j, swp_len]
    · rfl
theorem set_K {l : List Pin} (h : K32 l) {q : Pin} (hq : q.k.length = 32) (j : Nat) : K32 (l.set j q) := fun p hp => by
  rcases List.mem_or_eq_of_mem_set hp with hp | rfl
  · exact h p hp
  · exact hq
theorem getD_K {l : List Pin} (h : K32 l) {j : Nat} : (l.getD j p0).k.length = 32 := by
  by_cases hj : j < l.length
  · exact h _ (getD_mem hj)
  · rw [List.getD_eq_getElem?_getD, List.getElem?_eq_none (by omega)]
    rfl
theorem swp_K {l : List Pin} (h : K32 l) (j : Nat) : K32 (swp l j) := set_K (set_K h (getD_K h) _) (getD_K h) _
theorem inF_K (a : Nat) : ∀ (j : Nat) {l : List Pin}, K32 l → K32 (inF a l j)
  | 0, l, h => h
  | j + 1, l, h => by
    unfold inF
    split
    · exact inF_K a j (swp_K h j)
    · exact h
end Go.Proofs.YtdjjlbjagaadaaaGreatDoor.A
/- Insertion sort over a row of pins. -/
namespace Go.Proofs.YtdjjlbjagaadaaaGreatDoor.A
open Go Go.RowKit
set_option maxRecDepth 100000
set_option linter.unusedSimpArgs false
set_option linter.unusedVariables false

def GLkO166 := PLift.up <| And.intro F3 <| And.intro F5 <| And.intro F9 <| And.intro F23 <| And.intro F33 <| And.intro F35 <| And.intro F37 <| And.intro F39 <| F118
abbrev byNameF : FuncId := 74
abbrev rowP (ver n : Nat) (l : List Pin) : AE := .row ver 39 37 n (flatP l)
set_option maxHeartbeats 2000000 in
theorem insSort_ok (σ : List AE) (k ver n a b : Nat) (l : List Pin) (hk : σ[k]? = some (rowP ver n l)) (hn : l.length = n) (hK : K32 l) (hab : a ≤ b) (hbn : b ≤ n) (hn1 : n ≤ 1000000) :
    GivesS Tryz.prog 166 [.rw k ver n, .int .i64 (a : Int), .int .i64 (b : Int), .fn byNameF []] σ (.tup []) (σ.set k (rowP ver n (outF a l (a + 1) (b - (a + 1))))) := by
  refine ent Tryz.func166 Tryz.ntmps166 Tryz.results166 ?_
  have hwa : IntKind.i64.wrap ((a : Int) + 1) = ((a + 1 : Nat) : Int) := by rw [wrap_in (by omega) (by omega)]; push_cast; rfl
  have hZ : ∀ Z, (σ.set k Z)[k]? = some Z := fun Z => set_get hk
  refine wlk (And.intro hwa GLkO166.down) ?_
  refine AWP_loop (α := { x : List Pin × Nat // a + 1 ≤ x.2 ∧ x.2 ≤ b + 1 ∧ K32 x.1 ∧ x.1.length = n ∧ outF a l (a + 1) (b - (a + 1)) = outF a x.1 x.2 (b - x.2) }) (fun x => [.rw k ver n, .int .i64 (a : Int), .int .i64 (b : Int), .fn byNameF [], .junk, .junk, .junk, .junk, .int .i64 (x.1.2 : Int), .junk, .junk, .junk, .junk, .junk, .junk, .junk, .junk, .junk, .junk, .junk, .junk, .junk, .junk, .junk, .junk, .junk, .junk, .junk, .junk, .junk, .junk, .junk, .junk, .junk, .junk, .junk, .junk, .junk, .junk, .junk, .junk, .junk, .junk, .junk, .junk, .junk, .junk, .junk, .junk, .junk, .junk, .junk, .junk])
    (fun x => σ.set k (rowP ver n x.1.1)) (fun x => b + 1 - x.1.2) ⟨(l, a + 1), Nat.le_refl _, by omega, hK, hn, rfl⟩ ?_ (fun _ => by simp) ?_
  · show Sub _ _ _ (σ.set k (rowP ver n l))
    rw [set_self hk]
    exact .same (by exact lle)
  · rintro ⟨⟨m, i⟩, h1, h2, hmK, hmn, ho⟩
    simp only at h1 h2 hmK hmn ho
    refine wlk GLkO166.down ?_
    refine AWP_cond rfl (fun h => ?_) (fun h => ?_)
    · have hib : i < b := by simp at h; omega
      refine wlk GLkO166.down ?_
      refine AWP_loop (α := { x : List Pin × Nat // x.2 ≤ i ∧ K32 x.1 ∧ x.1.length = n ∧ inF a m i = inF a x.1 x.2 }) (fun x => [.rw k ver n, .int .i64 (a : Int), .int .i64 (b : Int), .fn byNameF [], .junk, .junk, .junk, .junk, .int .i64 (i : Int), .int .i64 (x.1.2 : Int), .junk, .junk, .junk, .junk, .junk, .junk, .junk, .junk, .junk, .junk, .junk, .junk, .junk, .junk, .junk, .junk, .junk, .junk, .junk, .junk, .junk, .junk, .junk, .junk, .junk, .junk, .junk, .junk, .junk, .junk, .junk, .junk, .junk, .junk, .junk, .junk, .junk, .junk, .junk, .junk, .junk, .junk, .junk])
        (fun x => σ.set k (rowP ver n x.1.1)) (fun x => x.1.2) ⟨(m, i), Nat.le_refl _, hmK, hmn, rfl⟩ (.same ?_) (fun _ => by simp) ?_
      · exact lle
      · rintro ⟨⟨x, j⟩, hji, hxK, hxn, hi2⟩
        simp only at hji hxK hxn hi2
        have hfx := flatP_len hxK
        rw [hxn] at hfx
        have hwi : IntKind.i64.wrap ((i : Int) + 1) = ((i + 1 : Nat) : Int) := by rw [wrap_in (by omega) (by omega)]; push_cast; rfl
        have ho' : outF a l (a + 1) (b - (a + 1)) = outF a (inF a m i) (i + 1) (b - (i + 1)) := by
          rw [ho, show b - i = (b - (i + 1)) + 1 by omega]
          rfl
        match j, hji, hi2 with
        | 0, hji, hi2 =>
          have e : inF a m i = x := hi2
          have hg : decide ((a : Int) < 0) = false := decide_eq_false (by omega)
          have hw0 : ((0 : Int) ≤ IntKind.i64.wrap (0 - 1)) = False := by rw [wrap_in (by omega) (by omega)]; simp
          have hn0 : 0 < n := by omega
          have hg0 := flatP_get hxK (j := 0) (by omega)
          refine wlk (And.intro hZ (And.intro hg (And.intro hw0 (And.intro hn0 (And.intro hfx (And.intro hg0 GLkO166.down)))))) ?_
          refine LexA_callG (x := .int .i64 0) rfl (fun hg => by cases hg) rfl rfl rfl rfl ?_
          simp only [pt, SL]
          refine wlk (And.intro hwi GLkO166.down) ?_
          rw [e] at ho'
          exact ⟨⟨(x, i + 1), by omega, by omega, hxK, hxn, ho'⟩, by simp; omega, .same (by exact lle)⟩
        | j + 1, hji, hi2 =>
          have hw1 : IntKind.i64.wrap (((j + 1 : Nat) : Int) - 1) = (j : Int) := by rw [wrap_in (by omega) (by omega)]; omega
          have hg1 := flatP_get hxK (j := j + 1) (by omega)
          have hg0 := flatP_get hxK (j := j) (by omega)
          have hl1 := pinC_len (getD_K hxK (j := j + 1))
          have hl0 := pinC_len (getD_K hxK (j := j))
          have hs1 := flatP_set hxK (j := j + 1) (x.getD j p0) (getD_K hxK) (by omega)
          have hxK' : K32 (x.set (j + 1) (x.getD j p0)) := set_K hxK (getD_K hxK) _
          have hs0 := flatP_set hxK' (j := j) (x.getD (j + 1) p0) (getD_K hxK) (by simp; omega)
          have hfx' := flatP_len hxK'
          rw [List.length_set, hxn] at hfx'
          have hjn : j + 1 < n := by omega
          by_cases hga : a < j + 1
          · have hg : decide ((a : Int) < ((j + 1 : Nat) : Int)) = true := decide_eq_true (by omega)
            refine wlk (And.intro hZ (And.intro hg (And.intro hw1 (And.intro hfx (And.intro hg1 (And.intro hg0 (And.intro hjn GLkO166.down))))))) ?_
            refine cll (byName_ok (x.getD (j + 1) p0) (x.getD j p0) _ (getD_K hxK) (getD_K hxK)) ?_
            refine wlk GLkO166.down ?_
            rw [← lt_cmp]
            cases hd : ltB (x.getD (j + 1) p0).n (x.getD j p0).n
            · have e : inF a m i = x := by rw [hi2]; simp only [inF, hd, Bool.and_false]; rfl
              refine wlk (And.intro hwi GLkO166.down) ?_
              rw [e] at ho'
              exact ⟨⟨(x, i + 1), by omega, by omega, hxK, hxn, ho'⟩, by simp; omega, .same (by exact lle)⟩
            · have e : inF a m i = inF a (swp x j) j := by rw [hi2]; simp only [inF, hd, hga, decide_true, Bool.and_true, if_true]
              refine wlk (And.intro hZ (And.intro hw1 (And.intro hfx (And.intro hg1 (And.intro hg0 (And.intro hjn (And.intro hl1 (And.intro hl0 (And.intro hs1 (And.intro hs0 (And.intro hfx' (And.intro @List.set_set.{0} GLkO166.down)))))))))))) ?_
              exact ⟨⟨(swp x j, j), by omega, swp_K hxK j, by rw [swp_len]; exact hxn, e⟩, by simp, .same (by exact lle)⟩
          · have hg : decide ((a : Int) < ((j + 1 : Nat) : Int)) = false := decide_eq_false (by omega)
            have e : inF a m i = x := by rw [hi2]; simp only [inF, hga, decide_false, Bool.false_and]; rfl
            refine wlk (And.intro hZ (And.intro hg (And.intro hw1 (And.intro hfx (And.intro hg1 (And.intro hg0 (And.intro hjn GLkO166.down))))))) ?_
            refine LexA_callG (x := .int .i64 0) rfl (fun hg => by cases hg) rfl rfl rfl rfl ?_
            simp only [pt, SL]
            refine wlk (And.intro hwi GLkO166.down) ?_
            rw [e] at ho'
            exact ⟨⟨(x, i + 1), by omega, by omega, hxK, hxn, ho'⟩, by simp; omega, .same (by exact lle)⟩
    · have hib : b ≤ i := by simp at h; omega
      have e0 : b - i = 0 := by omega
      rw [e0] at ho
      refine wlk GLkO166.down ?_
      refine rtn GLkO166.down ?_
      refine ⟨rfl, ?_⟩
      rw [ho]
      rfl
end Go.Proofs.YtdjjlbjagaadaaaGreatDoor.A
