/- Texts of the proof, one behind another: LkR, LkS, LkT. -/
import Derived.Test.YtdjjlbjagaadaaaGreatDoorMa16
/- Insertion sort is the stable insertion: plain. -/
namespace Go.Proofs.YtdjjlbjagaadaaaGreatDoor.A
open Go
set_option linter.unusedSimpArgs false
set_option linter.unusedVariables false

theorem mid_get (B : List Pin) (x p : Pin) (C : List Pin) : (B ++ x :: p :: C).getD B.length p0 = x ∧ (B ++ x :: p :: C).getD (B.length + 1) p0 = p := by
  constructor
  · simp [List.getD_eq_getElem?_getD]
  · simp [List.getD_eq_getElem?_getD, List.getElem?_append_right]
theorem swp_mid (B : List Pin) (x p : Pin) (C : List Pin) : swp (B ++ x :: p :: C) B.length = B ++ p :: x :: C := by
  obtain ⟨h1, h2⟩ := mid_get B x p C
  unfold swp
  rw [h1, h2]
  rw [List.set_append_right (h := Nat.le_succ _), show B.length + 1 - B.length = 1 by omega, List.set_append_right (h := Nat.le_refl _), Nat.sub_self]
  rfl
theorem inF_ins (p : Pin) (A R : List Pin) : ∀ j, j ≤ A.length → inF 0 (A.take j ++ p :: (A.drop j ++ R)) j = A.take (insAt p.n A j) ++ p :: (A.drop (insAt p.n A j) ++ R)
  | 0, _ => rfl
  | j + 1, hj => by
    have hlt : j < A.length := by omega
    have e1 : A.take (j + 1) = A.take j ++ [A.getD j p0] := take_snoc hlt
    have e2 := drop_getD hlt
    have hB : (A.take j).length = j := by rw [List.length_take]; omega
    have eL : A.take (j + 1) ++ p :: (A.drop (j + 1) ++ R) = A.take j ++ A.getD j p0 :: p :: (A.drop (j + 1) ++ R) := by rw [e1]; simp
    obtain ⟨h1, h2⟩ := mid_get (A.take j) (A.getD j p0) p (A.drop (j + 1) ++ R)
    rw [hB] at h1 h2
    have h3 := swp_mid (A.take j) (A.getD j p0) p (A.drop (j + 1) ++ R)
    rw [hB] at h3
    rw [eL]
    unfold inF insAt
    rw [h1, h2]
    cases hc : ltB p.n (A.getD j p0).n
    · simp only [Bool.and_false, Bool.false_eq_true, if_false]
      rw [e1]
      simp
    · simp only [Nat.zero_lt_succ, decide_true, Bool.and_self, if_true]
      rw [h3]
      have ih := inF_ins p A R j (by omega)
      rw [e2] at ih
      simpa using ih
theorem outF_ins : ∀ (R A : List Pin), outF 0 (A ++ R) A.length R.length = R.foldl (fun acc p => insP p acc) A
  | [], A => by simp [outF]
  | p :: R, A => by
    have h := inF_ins p A R A.length (Nat.le_refl _)
    rw [List.take_length, List.drop_length, List.nil_append] at h
    have e : A.take (insAt p.n A A.length) ++ p :: (A.drop (insAt p.n A A.length) ++ R) = insP p A ++ R := by simp [insP]
    rw [e] at h
    rw [List.length_cons, outF, h, List.foldl_cons, ← outF_ins R (insP p A), insP_len]
theorem outF_sort (l : List Pin) : outF 0 l 1 (l.length - 1) = sortP l := by
  cases l with
  | nil => rfl
  | cons p l =>
    have := outF_ins l [p]
    simp only [List.length_singleton, List.singleton_append] at this
    rw [List.length_cons, Nat.add_sub_cancel, this]
    rfl
/-- Strictly by name. -/
def Srt : List Pin → Prop
  | [] => True
  | p :: l => (∀ q ∈ l, ltB p.n q.n = true) ∧ Srt l
theorem Srt.lt : ∀ {l : List Pin}, Srt l → ∀ {i j : Nat}, i < j → j < l.length → ltB (l.getD i p0).n (l.getD j p0).n = true
  | p :: l, h, 0, j + 1, _, hj => by
    have := h.1 _ (getD_mem (l := l) (i := j) (by simpa using hj))
    simpa using this
  | p :: l, h, i + 1, j + 1, hij, hj => by
    have := Srt.lt h.2 (i := i) (j := j) (by omega) (by simpa using hj)
    simpa using this
theorem lt_anti {a b : List UInt8} (h : ltB a b = true) : ltB b a = false := by
  rw [lt_cmp] at h ⊢
  have := isC_bytes.anti a b
  simp at h ⊢
  omega
theorem inF_srt {l : List Pin} (h : Srt l) (a : Nat) : ∀ j, j < l.length → inF a l j = l
  | 0, _ => rfl
  | j + 1, hj => by
    unfold inF
    rw [lt_anti (h.lt (Nat.lt_succ_self j) hj), Bool.and_false]
    rfl
theorem outF_srt {l : List Pin} (h : Srt l) (a : Nat) : ∀ k i, i + k ≤ l.length → outF a l i k = l
  | 0, i, _ => rfl
  | k + 1, i, hk => by
    rw [outF, inF_srt h a i (by omega)]
    exact outF_srt h a k (i + 1) (by omega)
end Go.Proofs.YtdjjlbjagaadaaaGreatDoor.A
/- The stable sort over a row of at most 20 pins. -/
namespace Go.Proofs.YtdjjlbjagaadaaaGreatDoor.A
open Go Go.RowKit
set_option maxRecDepth 100000
set_option linter.unusedSimpArgs false
set_option linter.unusedVariables false

def GLkS129 := PLift.up <| And.intro F3 <| And.intro F5 <| And.intro F9 <| And.intro F23 <| And.intro F33 <| And.intro F35 <| And.intro F37 <| And.intro F39 <| F118
def GLkS73 := PLift.up <| And.intro F3 <| And.intro F5 <| And.intro F9 <| And.intro F23 <| And.intro F33 <| And.intro F35 <| And.intro F37 <| And.intro F39 <| F118
theorem stable_ok (σ : List AE) (k ver n : Nat) (l : List Pin) (hk : σ[k]? = some (rowP ver n l)) (hn : l.length = n) (hK : K32 l) (h20 : n ≤ 20) :
    GivesS Tryz.prog 129 [.rw k ver n, .int .i64 (n : Int), .fn byNameF []] σ (.tup []) (σ.set k (rowP ver n (sortP l))) := by
  have hsK : K32 (sortP l) := fun p hp => hK p (sortP_mem hp)
  have hsn : (sortP l).length = n := by rw [sortP_len, hn]
  have hs := outF_sort l
  rw [hn] at hs
  refine ent Tryz.func129 Tryz.ntmps129 Tryz.results129 ?_
  refine wlk GLkS129.down ?_
  refine AWP_loop (α := { x : List Pin × Nat // x = (l, 0) ∨ (n = 20 ∧ x = (sortP l, 20)) }) (fun x => [.rw k ver n, .int .i64 (n : Int), .fn byNameF [], .junk, .junk, .junk, .int .i64 20, .int .i64 (x.1.2 : Int), .int .i64 ((x.1.2 + 20 : Nat) : Int), .junk, .junk, .junk, .junk, .junk, .junk, .junk, .junk, .junk, .junk, .junk, .junk, .junk, .junk, .junk, .junk, .junk, .junk, .junk, .junk, .junk, .junk, .junk, .junk, .junk, .junk, .junk, .junk, .junk, .junk, .junk, .junk, .junk, .junk, .junk, .junk, .junk, .junk, .junk, .junk, .junk, .junk, .junk, .junk, .junk, .junk, .junk, .junk, .junk, .junk, .junk, .junk, .junk, .junk])
    (fun x => σ.set k (rowP ver n x.1.1)) (fun x => 40 - x.1.2) ⟨(l, 0), .inl rfl⟩ ?_ (fun _ => by simp) ?_
  · show Sub _ _ _ (σ.set k (rowP ver n l))
    rw [set_self hk]
    exact .same (by exact lle)
  · rintro ⟨⟨m, a⟩, hx⟩
    simp only [Prod.mk.injEq] at hx
    have ham : a ≤ 20 := by rcases hx with ⟨_, h⟩ | ⟨_, _, h⟩ <;> omega
    have hmn : m.length = n := by rcases hx with ⟨h, _⟩ | ⟨_, h, _⟩ <;> rw [h] <;> assumption
    have hmK : K32 m := by rcases hx with ⟨h, _⟩ | ⟨_, h, _⟩ <;> rw [h] <;> assumption
    have han : a ≤ n := by rcases hx with ⟨_, h⟩ | ⟨_, _, h⟩ <;> omega
    refine wlk GLkS129.down ?_
    refine AWP_cond rfl (fun h => ?_) (fun h => ?_)
    · have hc : a + 20 ≤ n := by simp at h; omega
      have ha0 : a = 0 := by omega
      have hn20 : n = 20 := by omega
      have hml : m = l := by
        rcases hx with ⟨h, _⟩ | ⟨_, _, h⟩
        · exact h
        · omega
      have hw : IntKind.i64.wrap (((a + 20 : Nat) : Int) + 20) = ((20 + 20 : Nat) : Int) := by rw [wrap_in (by omega) (by omega)]; omega
      refine wlk GLkS129.down ?_
      refine AOps_callS (insSort_ok (σ.set k (rowP ver n m)) k ver n a (a + 20) m (set_get hk) hmn hmK (by omega) (by omega) (by omega)) rfl rfl rfl rfl rfl ?_
      simp only [pt, SL]
      have he : outF a m (a + 1) (a + 20 - (a + 1)) = sortP l := by
        rw [ha0, hml, ← hs, hn20]
      rw [List.set_set, he]
      refine wlk (And.intro hw GLkS129.down) ?_
      refine ⟨⟨(sortP l, 20), .inr ⟨hn20, rfl⟩⟩, by simp; omega, ?_⟩
      subst ha0
      exact .same (by exact lle)
    · have he : outF a m (a + 1) (n - (a + 1)) = sortP l := by
        rcases hx with ⟨h1, h2⟩ | ⟨h1, h2, h3⟩
        · rw [h1, h2, ← hs]
        · rw [h2, h3, h1]
          rfl
      refine wlk GLkS129.down ?_
      refine AOps_callS (insSort_ok (σ.set k (rowP ver n m)) k ver n a n m (set_get hk) hmn hmK han (by omega) (by omega)) rfl rfl rfl rfl rfl ?_
      simp only [pt, SL]
      rw [List.set_set, he]
      have h20' : decide ((20 : Int) < (n : Int)) = false := decide_eq_false (by omega)
      refine wlk GLkS129.down ?_
      refine AWP_loop (α := Unit) (fun _ => [.rw k ver n, .int .i64 (n : Int), .fn byNameF [], .junk, .junk, .junk, .int .i64 20, .junk, .junk, .junk, .junk, .junk, .junk, .junk, .junk, .junk, .junk, .junk, .junk, .junk, .junk, .junk, .junk, .junk, .junk, .junk, .junk, .junk, .junk, .junk, .junk, .junk, .junk, .junk, .junk, .junk, .junk, .junk, .junk, .junk, .junk, .junk, .junk, .junk, .junk, .junk, .junk, .junk, .junk, .junk, .junk, .junk, .junk, .junk, .junk, .junk, .junk, .junk, .junk, .junk, .junk, .junk, .junk]) (fun _ => _) (fun _ => 0) () (.same ?_) (fun _ => Nat.le_refl _) ?_
      · exact lle
      · intro _
        refine wlk (And.intro h20' GLkS129.down) ?_
        refine rtn GLkS129.down ?_
        exact ⟨rfl, rfl⟩
theorem sortStable_ok (σ : List AE) (k ver n : Nat) (l : List Pin) (hk : σ[k]? = some (rowP ver n l)) (hn : l.length = n) (hK : K32 l) (h20 : n ≤ 20) :
    GivesS Tryz.prog 73 [.rw k ver n, .fn byNameF []] σ (.tup []) (σ.set k (rowP ver n (sortP l))) := by
  refine ent Tryz.func73 Tryz.ntmps73 Tryz.results73 ?_
  refine wlk GLkS73.down ?_
  refine AOps_callS (stable_ok σ k ver n l hk hn hK h20) rfl rfl rfl rfl rfl ?_
  simp only [pt, SL]
  refine wlk GLkS73.down ?_
  refine rtn GLkS73.down ?_
  exact ⟨rfl, rfl⟩
end Go.Proofs.YtdjjlbjagaadaaaGreatDoor.A
/- slices.Clone of pins. -/
namespace Go.Proofs.YtdjjlbjagaadaaaGreatDoor.A
open Go Go.RowKit
set_option maxRecDepth 100000
set_option linter.unusedSimpArgs false
set_option linter.unusedVariables false

def GLkT72 := PLift.up <| And.intro F3 <| And.intro F5 <| And.intro F9 <| And.intro F23 <| And.intro F33 <| And.intro F35 <| And.intro F37 <| F39
theorem clone_ok (l : List Pin) (t : Tag) (σ : List AE) (ht : t ≠ .nil) (hne : l ≠ []) (hK : K32 l) (hll : l.length ≤ 1000000) :
    GivesS Tryz.prog 72 [.sl t (pinsC l)] σ (.rw σ.length 0 l.length) (σ ++ [rowP 0 l.length l]) := by
  have hpos : 0 < l.length := List.length_pos_iff.2 hne
  have hnl := pinsC_len l
  have hne' : pinsC l ≠ [] := fun e => by
    have := congrArg List.length e
    rw [hnl] at this
    simp at this
    exact hne this
  have hfl := pinsC_flat hK
  refine ent Tryz.func72 Tryz.ntmps72 Tryz.results72 ?_
  refine wlk (And.intro hnl (And.intro hpos GLkT72.down)) ?_
  refine AOps_appendN (xs := []) (ys := pinsC l) rfl rfl rfl rfl (.inl rfl) eI23 (by decide) rfl hfl hne' (by simp [hnl, maxLen]; omega) (by simp [hnl]; omega) ?_
  simp only [pt, SL, hnl]
  refine wlk GLkT72.down ?_
  refine rtr GLkT72.down ?_
  exact ⟨rfl, rfl⟩
end Go.Proofs.YtdjjlbjagaadaaaGreatDoor.A
