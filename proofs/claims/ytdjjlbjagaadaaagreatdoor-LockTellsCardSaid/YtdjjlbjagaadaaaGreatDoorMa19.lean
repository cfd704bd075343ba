/- Texts of the proof, one behind another: LkY, LkU, LwA. -/
import Derived.Test.YtdjjlbjagaadaaaGreatDoorMa17
import Derived.Test.YtdjjlbjagaadaaaGreatDoorMa18
import Derived.Test.YtdjjlbjagaadaaaGreatDoorMa15
import Derived.Test.YtdjjlbjagaadaaaGreatDoorMa14
/- The stable sort of a sorted row, however long; Text of any pins that are few or sorted. -/
namespace Go.Proofs.YtdjjlbjagaadaaaGreatDoor.A
open Go Go.RowKit
set_option maxRecDepth 100000
set_option linter.unusedSimpArgs false
set_option linter.unusedVariables false

def GLkY129 := PLift.up <| And.intro F3 <| And.intro F5 <| And.intro F9 <| And.intro F23 <| And.intro F33 <| And.intro F35 <| And.intro F37 <| And.intro F39 <| F118
def GLkY73 := PLift.up <| And.intro F3 <| And.intro F5 <| And.intro F9 <| And.intro F23 <| And.intro F33 <| And.intro F35 <| And.intro F37 <| And.intro F39 <| F118
theorem insSort_srt (σ : List AE) (k ver n a b : Nat) (l : List Pin) (hk : σ[k]? = some (rowP ver n l)) (hn : l.length = n) (hK : K32 l) (hs : Srt l) (hab : a ≤ b) (hbn : b ≤ n) (hn1 : n ≤ 1000000) :
    Gives Tryz.prog 166 [.rw k ver n, .int .i64 (a : Int), .int .i64 (b : Int), .fn byNameF []] σ (.tup []) := by
  have h := insSort_ok σ k ver n a b l hk hn hK hab hbn hn1
  have e : outF a l (a + 1) (b - (a + 1)) = l := by
    by_cases hlt : a < b
    · exact outF_srt hs a _ _ (by omega)
    · rw [show b - (a + 1) = 0 by omega]
      rfl
  rw [e, set_self hk] at h
  exact h
set_option maxHeartbeats 2000000 in
theorem stable_srt (σ : List AE) (k ver n : Nat) (l : List Pin) (hk : σ[k]? = some (rowP ver n l)) (hn : l.length = n) (hK : K32 l) (hs : Srt l) (hn1 : n ≤ 200) :
    Gives Tryz.prog 129 [.rw k ver n, .int .i64 (n : Int), .fn byNameF []] σ (.tup []) := by
  have w2 : ∀ i j : Nat, i ≤ 1000 → j ≤ 1000 → IntKind.i64.wrap ((i : Int) + (j : Int)) = ((i + j : Nat) : Int) := fun i j hi hj => wrapS (by omega) (by omega)
  refine ent Tryz.func129 Tryz.ntmps129 Tryz.results129 ?_
  refine wlk GLkY129.down ?_
  refine AWP_loop (α := { a : Nat // a ≤ n }) (fun a => [.rw k ver n, .int .i64 (n : Int), .fn byNameF [], .junk, .junk, .junk, .int .i64 20, .int .i64 (a.1 : Int), .int .i64 ((a.1 + 20 : Nat) : Int), .junk, .junk, .junk, .junk, .junk, .junk, .junk, .junk, .junk, .junk, .junk, .junk, .junk, .junk, .junk, .junk, .junk, .junk, .junk, .junk, .junk, .junk, .junk, .junk, .junk, .junk, .junk, .junk, .junk, .junk, .junk, .junk, .junk, .junk, .junk, .junk, .junk, .junk, .junk, .junk, .junk, .junk, .junk, .junk, .junk, .junk, .junk, .junk, .junk, .junk, .junk, .junk, .junk, .junk]) (fun _ => σ) (fun a => n - a.1) ⟨0, Nat.zero_le _⟩ (.same ?_) (fun _ => Nat.le_refl _) ?_
  · exact lle
  · rintro ⟨a, ha⟩
    refine wlk GLkY129.down ?_
    refine AWP_cond rfl (fun h => ?_) (fun h => ?_)
    · have hc : a + 20 ≤ n := by simp at h; omega
      have f : Bx (IntKind.i64.wrap (((a + 20 : Nat) : Int) + 20) = ((a + 20 + 20 : Nat) : Int)) := ⟨wrapS (by omega) (by omega)⟩
      refine wlk GLkY129.down ?_
      refine cll (insSort_srt σ k ver n a (a + 20) l hk hn hK hs (by omega) hc (by omega)) ?_
      refine wlk (And.intro f.out GLkY129.down) ?_
      exact ⟨⟨a + 20, hc⟩, by simp; omega, .same (by exact lle)⟩
    · refine wlk GLkY129.down ?_
      refine cll (insSort_srt σ k ver n a n l hk hn hK hs ha (Nat.le_refl _) (by omega)) ?_
      refine wlk GLkY129.down ?_
      refine AWP_loop (α := { z : Nat // 0 < z ∧ z ≤ 400 }) (fun z => [.rw k ver n, .int .i64 (n : Int), .fn byNameF [], .junk, .junk, .junk, .int .i64 (z.1 : Int), .junk, .junk, .junk, .junk, .junk, .junk, .junk, .junk, .junk, .junk, .junk, .junk, .junk, .junk, .junk, .junk, .junk, .junk, .junk, .junk, .junk, .junk, .junk, .junk, .junk, .junk, .junk, .junk, .junk, .junk, .junk, .junk, .junk, .junk, .junk, .junk, .junk, .junk, .junk, .junk, .junk, .junk, .junk, .junk, .junk, .junk, .junk, .junk, .junk, .junk, .junk, .junk, .junk, .junk, .junk, .junk]) (fun _ => σ) (fun z => 400 - z.1) ⟨20, by omega⟩ (.same ?_) (fun _ => Nat.le_refl _) ?_
      · exact lle
      · rintro ⟨z, hz, hz4⟩
        refine wlk GLkY129.down ?_
        refine AWP_cond rfl (fun h => ?_) (fun h => ?_)
        · have hzn : z < n := by simp at h; omega
          have f1 : Bx (IntKind.i64.wrap (2 * (z : Int)) = ((z + z : Nat) : Int) ∧ IntKind.i64.wrap ((z : Int) * 2) = ((z + z : Nat) : Int)) := ⟨wrapS (by omega) (by omega), wrapS (by omega) (by omega)⟩
          refine wlk (And.intro f1.out GLkY129.down) ?_
          refine AWP_loop (α := { a : Nat // a ≤ n }) (fun a => [.rw k ver n, .int .i64 (n : Int), .fn byNameF [], .junk, .junk, .junk, .int .i64 (z : Int), .int .i64 (a.1 : Int), .int .i64 ((a.1 + (z + z) : Nat) : Int), .junk, .junk, .junk, .junk, .junk, .junk, .junk, .junk, .junk, .junk, .junk, .junk, .junk, .junk, .junk, .junk, .junk, .junk, .junk, .junk, .junk, .junk, .junk, .junk, .junk, .junk, .junk, .junk, .junk, .junk, .junk, .junk, .junk, .junk, .junk, .junk, .junk, .junk, .junk, .junk, .junk, .junk, .junk, .junk, .junk, .junk, .junk, .junk, .junk, .junk, .junk, .junk, .junk, .junk]) (fun _ => σ) (fun a => n - a.1) ⟨0, Nat.zero_le _⟩ (.same ?_) (fun _ => Nat.le_refl _) ?_
          · refine ⟨Vle.refl _, ?_⟩
            rw [Nat.zero_add]
            exact lle
          · rintro ⟨c, hcn⟩
            refine wlk GLkY129.down ?_
            refine AWP_cond rfl (fun h => ?_) (fun h => ?_)
            · have hc : c + (z + z) ≤ n := by simp at h; omega
              have f2 : Bx (IntKind.i64.wrap ((c : Int) + (z : Int)) = ((c + z : Nat) : Int) ∧ IntKind.i64.wrap (((c + (z + z) : Nat) : Int) + ((z + z : Nat) : Int)) = ((c + (z + z) + (z + z) : Nat) : Int)) := ⟨wrapS (by omega) (by omega), wrapS (by omega) (by omega)⟩
              refine wlk (And.intro f1.out (And.intro f2.out GLkY129.down)) ?_
              refine cll (symMerge_srt k ver n l hn hK hs (by omega) n c (c + z) (c + (z + z)) σ (by omega) (by omega) (by omega) hc hk) ?_
              refine wlk (And.intro f1.out (And.intro f2.out GLkY129.down)) ?_
              refine ⟨⟨c + (z + z), hc⟩, by simp; omega, ?_⟩
              rw [show c + (z + (z + (z + z))) = c + (z + z) + (z + z) by omega]
              exact .same (by exact lle)
            · have f2 : Bx (IntKind.i64.wrap ((c : Int) + (z : Int)) = ((c + z : Nat) : Int)) := ⟨wrapS (by omega) (by omega)⟩
              refine wlk (And.intro f2.out GLkY129.down) ?_
              refine AWP_cond rfl (fun h => ?_) (fun h => ?_)
              · have hcz : c + z < n := by simp at h; omega
                refine wlk GLkY129.down ?_
                refine cll (symMerge_srt k ver n l hn hK hs (by omega) n c (c + z) n σ (by omega) (by omega) hcz (Nat.le_refl _) hk) ?_
                refine wlk (And.intro f1.out GLkY129.down) ?_
                exact ⟨⟨z + z, by omega, by omega⟩, by simp; omega, .same (by exact lle)⟩
              · refine wlk (And.intro f1.out GLkY129.down) ?_
                exact ⟨⟨z + z, by omega, by omega⟩, by simp; omega, .same (by exact lle)⟩
        · refine wlk GLkY129.down ?_
          refine rtn GLkY129.down ?_
          exact ⟨rfl, rfl⟩
theorem sortSrt_ok (σ : List AE) (k ver n : Nat) (l : List Pin) (hk : σ[k]? = some (rowP ver n l)) (hn : l.length = n) (hK : K32 l) (hs : Srt l) (hn1 : n ≤ 200) :
    Gives Tryz.prog 73 [.rw k ver n, .fn byNameF []] σ (.tup []) := by
  refine ent Tryz.func73 Tryz.ntmps73 Tryz.results73 ?_
  refine wlk GLkY73.down ?_
  refine cll (stable_srt σ k ver n l hk hn hK hs hn1) ?_
  refine wlk GLkY73.down ?_
  refine rtn GLkY73.down ?_
  exact ⟨rfl, rfl⟩
end Go.Proofs.YtdjjlbjagaadaaaGreatDoor.A
/- lockfile.Text. -/
namespace Go.Proofs.YtdjjlbjagaadaaaGreatDoor.A
open Go Go.RowKit
set_option maxRecDepth 100000
set_option linter.unusedSimpArgs false
set_option linter.unusedVariables false

def GLkU24 := PLift.up <| And.intro F3 <| And.intro F5 <| And.intro F9 <| And.intro F23 <| And.intro F33 <| And.intro F35 <| And.intro F37 <| And.intro F39 <| And.intro F41 <| And.intro F118 <| And.intro F119 <| F121
def GLkU72 := PLift.up <| And.intro F3 <| And.intro F5 <| And.intro F9 <| And.intro F23 <| And.intro F33 <| And.intro F35 <| And.intro F37 <| F39
def GLkU166 := PLift.up <| And.intro F3 <| And.intro F5 <| And.intro F9 <| And.intro F23 <| And.intro F33 <| And.intro F35 <| And.intro F37 <| And.intro F39 <| F118
def GLkU129 := PLift.up <| And.intro F3 <| And.intro F5 <| And.intro F9 <| And.intro F23 <| And.intro F33 <| And.intro F35 <| And.intro F37 <| And.intro F39 <| F118
def GLkU73 := PLift.up <| And.intro F3 <| And.intro F5 <| And.intro F9 <| And.intro F23 <| And.intro F33 <| And.intro F35 <| And.intro F37 <| And.intro F39 <| F118
theorem AOps_tokT {P : Program} {σ : List AE} {fr : List V} {Q : APost} {ops : Array Oper} {rest : List Oper} (b i : Nat) (e : TypeId) (sz : Nat) {T : TypeId} {cs : List V} (hb : σ[b]? = some (.boxt T cs)) (hc : cs[i]? = some (.sl .nil [])) (h : AOps P ops Q rest fr (σ.set b (.boxt T (cs.set i (.sl (.own σ.length 0) []))) ++ [.tok 0 e sz])) : AOps P ops Q rest fr σ := fun a w en hi hf {_} hd => by
  obtain ⟨hi', he⟩ := tok_ok hi e sz
  have hl : b < σ.length := (List.getElem?_eq_some_iff.1 hb).1
  have hi2 := hi'.reboxt (b := b) (T := T) (cs := cs) (cs' := cs.set i (.sl (.own σ.length 0) [])) (by rw [List.getElem?_append_left hl]; exact hb) (fun us hu => nil_own (sz := sz) (by rw [List.getElem?_append_right (by rw [hi.len]; exact Nat.le_refl _), hi.len, Nat.sub_self]; rfl) hc hu)
  rw [List.set_append_left (h := hl)] at hi2
  exact wpList_mono (fun _ _ _ hq => LQ_ext he hq) _ _ _ (h a w _ hi2 (hf.ext he) hd)
theorem encB_bel (n : Nat) : ∀ l : List UInt8, bels2 n (encB l)
  | [] => trivial
  | b :: l => ⟨⟨trivial, trivial⟩, encB_bel n l⟩
abbrev bldT : TypeId := 121
/-- Few, or sorted. -/
def Few20 (l : List Pin) : Prop := l.length ≤ 20 ∨ (Srt l ∧ l.length ≤ 200)
theorem Few20.len {l : List Pin} (h : Few20 l) : l.length ≤ 200 := by
  rcases h with h | h
  · omega
  · exact h.2
theorem sortAny_ok (σ : List AE) (k ver n : Nat) (l : List Pin) (hk : σ[k]? = some (rowP ver n l)) (hn : l.length = n) (hK : K32 l) (h20 : Few20 l) :
    GivesS Tryz.prog 73 [.rw k ver n, .fn byNameF []] σ (.tup []) (σ.set k (rowP ver n (sortP l))) := by
  rcases h20 with h | ⟨h, h2⟩
  · exact sortStable_ok σ k ver n l hk hn hK (by omega)
  · rw [sortP_same h, set_self hk]
    exact sortSrt_ok σ k ver n l hk hn hK h (by omega)
set_option maxHeartbeats 4000000 in
theorem text_body (l : List Pin) (t : Tag) (σ : List AE) (ht : t ≠ .nil) (hne : l ≠ []) (hl : POk l) (hL : LOk l) (h20 : Few20 l) (hG : GV σ) : Gives Tryz.prog 24 [.sl t (pinsC l)] σ (.str (textS (sortP l))) := by
  have hl200 := h20.len
  refine Gives_drop (hb := fun hb => trivial) ?_
  refine ent Tryz.func24 Tryz.ntmps24 Tryz.results24 ?_
  refine AWP_sb fun hsb => ?_
  refine wlk GLkU24.down ?_
  refine AOps_callS (clone_ok l t σ ht hne hl.k (by omega)) rfl rfl rfl rfl rfl ?_
  simp only [pt, SL]
  refine wlk GLkU24.down ?_
  refine AOps_callS (sortAny_ok (σ ++ [rowP 0 l.length l]) σ.length 0 l.length l (by simp) rfl hl.k h20) rfl rfl rfl rfl rfl ?_
  simp only [pt, SL]
  obtain ⟨P, hP⟩ : ∃ P, P = sortP l := ⟨_, rfl⟩
  rw [← hP]
  have hPk : POk P := by rw [hP]; exact sortP_ok hl
  have hPL : LOk P := fun p hp => hL p (sortP_mem (by rw [← hP]; exact hp))
  have hPl : P.length = l.length := by rw [hP, sortP_len]
  refine wlk GLkU24.down ?_
  refine AOps_tokT (σ.length + 1) 1 5 1 (T := bldT) (cs := [.exact (.pointer none), .sl .nil []]) (by simp) rfl ?_
  simp only [SL, List.length_append, List.length_cons, List.length_nil, Nat.reduceAdd, List.cons_append, List.nil_append]
  refine AOps_callS (writeString_ok _ (σ.length + 1) (σ.length + 2) 0 (.exact (.pointer none)) [] [108, 111, 99, 107, 32, 49, 10] (by simp; rfl) (.inl rfl) (by simp) (by simp) (by simp)) rfl rfl rfl rfl rfl ?_
  simp only [pt, SL, List.nil_append]
  refine wlk GLkU24.down ?_
  refine AWP_loop (α := { i : Nat // i ≤ P.length }) (fun i => [.rw σ.length 0 l.length, .junk, .str [], .ptr (σ.length + 1) 0, .junk, .junk, .junk, .junk, .junk, .junk, .junk, .rw σ.length 0 l.length, .int .i64 l.length, .int .i64 (i.1 : Int), .junk, .junk, .junk, .junk, .junk, .junk, .junk, .junk, .junk, .junk, .junk, .junk, .junk, .junk, .junk, .junk, .junk, .junk, .junk])
    (fun i => σ ++ [rowP 0 l.length P, .boxt bldT [.ptr (σ.length + 1) 0, .sl (.own (σ.length + 2) (i.1 + 1)) (encB (textS (P.take i.1)))], .tok (i.1 + 1) 5 1]) (fun i => P.length - i.1) ⟨0, by omega⟩ (.same ?_) (fun _ => by simp) ?_
  · exact lle
  · rintro ⟨i, hi⟩
    refine AWP_sb fun hsb2 => ?_
    have hS3 : (σ ++ [rowP 0 l.length P, AE.boxt bldT [.ptr (σ.length + 1) 0, .sl (.own (σ.length + 2) (i + 1)) (encB (textS (P.take i)))], .tok (i + 1) 5 1]).length = σ.length + 3 := by simp
    have hb3 : sbel (σ.length + 3) σ := by rw [← hS3]; exact (sbel_app.1 hsb2).1
    have hb4 : bels (σ.length + 3) (flatP P) := by rw [← hS3]; exact (sbel_app.1 hsb2).2.1
    refine wlk GLkU24.down ?_
    refine AWP_cond rfl (fun h => ?_) (fun h => ?_)
    · have hlt : i < P.length := by simp at h; omega
      obtain ⟨S, hS⟩ : ∃ S, S = textS (P.take i) := ⟨_, rfl⟩
      have hSl : S.length ≤ 2000000000 := by
        have h1 := lines_len (l := P.take i) fun p hp => hPL p (List.mem_of_mem_take hp)
        rw [List.length_take] at h1
        have h2 : S.length = 7 + ((P.take i).flatMap lineL).length := by rw [hS]; simp [textS, lockHead]; omega
        have h3 : min i P.length ≤ 1000 := by omega
        have h4 : min i P.length * 1000000 ≤ 1000 * 1000000 := Nat.mul_le_mul_right _ h3
        omega
      simp only [← hS]
      obtain ⟨p, hp⟩ : ∃ p, p = P.getD i p0 := ⟨_, rfl⟩
      have hg := flatP_get hPk.k hlt
      rw [← hp] at hg
      have hfx := flatP_len hPk.k
      rw [hPl] at hfx
      have hlt2 : i < l.length := by omega
      have pa : p.k.length = 32 ∧ VOk p.v := by rw [hp]; exact hPk _ (getD_mem hlt)
      have hLp : (lineL p).length ≤ 1000000 := by rw [hp]; exact hPL _ (getD_mem hlt)
      rw [lineL_len] at hLp
      have hp0 := pinC_0 p
      have hpl := pinC_len pa.1
      have hpt := pinC_take pa.1
      have hpd := pinC_drop pa.1
      have hpv := pinC_v p
      have hpk := pinC_k pa.1
      refine wlk (And.intro hg (And.intro hfx (And.intro hlt2 (And.intro hp0 (And.intro hpl (And.intro hpt (And.intro hpd (And.intro hpv (And.intro hpk GLkU24.down))))))))) ?_
      refine cll (text9_ok p.v .ro _ pa.2 (hG.app _)) ?_
      refine wlk (And.intro hg (And.intro hfx (And.intro hlt2 (And.intro hp0 (And.intro hpl (And.intro hpt (And.intro hpd (And.intro hpv (And.intro hpk GLkU24.down))))))))) ?_
      refine cll (sha_hex p.k _ pa.1) ?_
      refine wlk (And.intro hg (And.intro hfx (And.intro hlt2 (And.intro hp0 (And.intro hpl (And.intro hpt (And.intro hpd (And.intro hpv (And.intro hpk GLkU24.down))))))))) ?_
      refine LexA_callS (writeString_ok _ (σ.length + 1) (σ.length + 2) (i + 1) (.ptr (σ.length + 1) 0) S (lineL p) (by simp) (.inr rfl) (by simp) (by simp [lineL]) (by rw [lineL_len]; omega)) rfl rfl rfl rfl rfl ?_
      simp only [pt, SL]
      refine wlk GLkU24.down ?_
      refine ⟨⟨i + 1, by omega⟩, by simp; omega, ?_⟩
      have hnew : textS (P.take (i + 1)) = S ++ lineL p := by
        rw [take_snoc hlt, ← hp, hS]
        simp [textS]
      simp only [hnew]
      rw [wrap_in (by omega) (by omega)]
      refine Sub_drop (τ := [.box (pinC p)]) (by simp) (by exact lle) ?_ ?_
      · simp [bels, bel]
      · have e3 : (σ ++ [rowP 0 l.length P, AE.boxt bldT [.ptr (σ.length + 1) 0, .sl (.own (σ.length + 2) (i + 1 + 1)) (encB (S ++ lineL p))], .tok (i + 1 + 1) 5 1]).length = σ.length + 3 := by simp
        rw [e3]
        exact sbel_app.2 ⟨hb3, hb4, ⟨show σ.length + 1 < σ.length + 3 by omega, ⟨show σ.length + 2 < σ.length + 3 by omega, encB_bel _ _⟩, trivial⟩, trivial⟩
    · have hi' : i = P.length := by simp at h; omega
      refine wlk GLkU24.down ?_
      refine AOps_callS (bstring_ok _ (σ.length + 1) (σ.length + 2) (i + 1) (.ptr (σ.length + 1) 0) (textS (P.take i)) (by simp) (by simp) (by simp [textS, lockHead])) rfl rfl rfl rfl rfl ?_
      simp only [pt, SL]
      refine wlk GLkU24.down ?_
      refine rtrb GLkU24.down ?_
      rw [hi', List.take_length]
      exact Vle.refl _
/-! ### No pins -/
theorem clone0_ok (t : Tag) (σ : List AE) : Gives Tryz.prog 72 [.sl t []] σ (.sl .ro []) := by
  refine Gives_drop (hb := fun hb => ⟨trivial, trivial⟩) ?_
  refine ent Tryz.func72 Tryz.ntmps72 Tryz.results72 ?_
  refine rgn GLkU72.down ?_
  refine AWP_seq ?_
  refine AWP_seq ?_
  refine AWP_region ?_
  refine AOps_evals (l := [_]) (by simp (maxSteps := 2000000) (disch := omega) only [SL, evalOps, evalOp, boX, eqB, isIf0, ptrTo, isSlT, conc, conc1, concL, mkI, tasV, absV, one1, allOne, evalG, isPure, gdB, ung, pickG, gv, pt, cv, retV, biV, lenV, boT, bo, intBo, strBo, boolBo, isSh, uo, pickV, nilV, extV, ixOf, mkfV, mmV, mm, preL, postL, isCallV, boxS, cellsV, allocS, storeS, loadV, readT, ptrCells, ofs, fieldAddrV, fieldV, wr, wr0, List.nil_append, List.cons_append, List.take_succ_cons, List.take_zero, List.drop_succ_cons, List.drop_zero, List.drop_nil, List.append_nil, buildV, fillA, buildSliceV, chunks, tagCut, indexV, indexAddrV, sliceV, sliceStr, sliceSl, sliceRw, bnd, keyBo, decK_keyC, keyC_len, if_true, if_false, ite_true, ite_false, and_self, and_true, true_and, beq_self_eq_true, nn, nc0, nc1, nc2, nc3, nc4, nc8, nc10, nc32, Int.toNat_natCast, eq_self, decide_true, decide_false, reduceIte, Nat.reduceAdd, Nat.reduceMul, Nat.reduceSub, Nat.reduceLeDiff, Nat.reduceLT, Nat.reduceEqDiff, Nat.reduceMod, Int.reduceBEq, Int.reduceBNe, Int.reduceNeg, Int.reduceNegSucc, Int.reduceLT, Int.reduceLE, Int.reduceToNat, F3, F5, F9, F23, F33, F35, F37, F39, if_pos]; exact rfl) ?_
  refine AOps_eqNil rfl rfl Tryz.underlying23 rfl fun b => ?_
  simp only [pt, SL]
  refine AOps_nil ?_
  refine then_n ?_
  refine AWP_cond rfl (fun h => ?_) (fun h => ?_)
  · refine wlk GLkU72.down ?_
    refine rtrb GLkU72.down ?_
    exact Vle.ro _ _
  · refine wlk GLkU72.down ?_
    refine AOps_appendF (xs := []) (ys := []) rfl rfl rfl rfl (.inl rfl) eI23 (by decide) rfl rfl (by simp [maxLen]) (by simp) ?_
    simp only [pt, SL]
    refine wlk GLkU72.down ?_
    refine rtrb GLkU72.down ?_
    exact Vle.ro _ _
theorem ins0_ok (σ : List AE) : Gives Tryz.prog 166 [.sl .ro [], .int .i64 0, .int .i64 0, .fn byNameF []] σ (.tup []) := by
  refine ent Tryz.func166 Tryz.ntmps166 Tryz.results166 ?_
  have hw : Bx (IntKind.i64.wrap (0 + 1) = 1) := ⟨wrap_in (by omega) (by omega)⟩
  refine wlk (And.intro hw.out GLkU166.down) ?_
  refine AWP_loop (α := Unit) (fun _ => [.sl .ro [], .int .i64 0, .int .i64 0, .fn byNameF [], .junk, .junk, .junk, .junk, .int .i64 1, .junk, .junk, .junk, .junk, .junk, .junk, .junk, .junk, .junk, .junk, .junk, .junk, .junk, .junk, .junk, .junk, .junk, .junk, .junk, .junk, .junk, .junk, .junk, .junk, .junk, .junk, .junk, .junk, .junk, .junk, .junk, .junk, .junk, .junk, .junk, .junk, .junk, .junk, .junk, .junk, .junk, .junk, .junk, .junk]) (fun _ => σ) (fun _ => 0) () (.same ?_) (fun _ => Nat.le_refl _) ?_
  · exact lle
  · intro _
    have hd : Bx (decide ((1 : Int) < 0) = false) := ⟨rfl⟩
    refine wlk (And.intro hd.out GLkU166.down) ?_
    refine rtn GLkU166.down ?_
    exact ⟨rfl, rfl⟩
theorem stable0_ok (σ : List AE) : Gives Tryz.prog 129 [.sl .ro [], .int .i64 0, .fn byNameF []] σ (.tup []) := by
  refine ent Tryz.func129 Tryz.ntmps129 Tryz.results129 ?_
  have hd : Bx (decide ((20 : Int) ≤ 0) = false ∧ decide ((20 : Int) < 0) = false) := ⟨rfl, rfl⟩
  refine wlk GLkU129.down ?_
  refine AWP_loop (α := Unit) (fun _ => [.sl .ro [], .int .i64 0, .fn byNameF [], .junk, .junk, .junk, .int .i64 20, .int .i64 0, .int .i64 20, .junk, .junk, .junk, .junk, .junk, .junk, .junk, .junk, .junk, .junk, .junk, .junk, .junk, .junk, .junk, .junk, .junk, .junk, .junk, .junk, .junk, .junk, .junk, .junk, .junk, .junk, .junk, .junk, .junk, .junk, .junk, .junk, .junk, .junk, .junk, .junk, .junk, .junk, .junk, .junk, .junk, .junk, .junk, .junk, .junk, .junk, .junk, .junk, .junk, .junk, .junk, .junk, .junk, .junk]) (fun _ => σ) (fun _ => 0) () (.same ?_) (fun _ => Nat.le_refl _) ?_
  · exact lle
  · intro _
    refine wlk (And.intro hd.out GLkU129.down) ?_
    refine cll (ins0_ok σ) ?_
    refine wlk GLkU129.down ?_
    refine AWP_loop (α := Unit) (fun _ => [.sl .ro [], .int .i64 0, .fn byNameF [], .junk, .junk, .junk, .int .i64 20, .junk, .junk, .junk, .junk, .junk, .junk, .junk, .junk, .junk, .junk, .junk, .junk, .junk, .junk, .junk, .junk, .junk, .junk, .junk, .junk, .junk, .junk, .junk, .junk, .junk, .junk, .junk, .junk, .junk, .junk, .junk, .junk, .junk, .junk, .junk, .junk, .junk, .junk, .junk, .junk, .junk, .junk, .junk, .junk, .junk, .junk, .junk, .junk, .junk, .junk, .junk, .junk, .junk, .junk, .junk, .junk]) (fun _ => σ) (fun _ => 0) () (.same ?_) (fun _ => Nat.le_refl _) ?_
    · exact lle
    · intro _
      refine wlk (And.intro hd.out GLkU129.down) ?_
      refine rtn GLkU129.down ?_
      exact ⟨rfl, rfl⟩
theorem sort0_ok (σ : List AE) : Gives Tryz.prog 73 [.sl .ro [], .fn byNameF []] σ (.tup []) := by
  refine ent Tryz.func73 Tryz.ntmps73 Tryz.results73 ?_
  refine wlk GLkU73.down ?_
  refine cll (stable0_ok σ) ?_
  refine wlk GLkU73.down ?_
  refine rtn GLkU73.down ?_
  exact ⟨rfl, rfl⟩
theorem text0_ok (t : Tag) (σ : List AE) (hG : GV σ) : Gives Tryz.prog 24 [.sl t []] σ (.str (textS [])) := by
  refine Gives_drop (hb := fun hb => trivial) ?_
  refine ent Tryz.func24 Tryz.ntmps24 Tryz.results24 ?_
  refine wlk GLkU24.down ?_
  refine cll (clone0_ok t σ) ?_
  refine wlk GLkU24.down ?_
  refine cll (sort0_ok σ) ?_
  refine wlk GLkU24.down ?_
  refine AOps_tokT σ.length 1 5 1 (T := bldT) (cs := [.exact (.pointer none), .sl .nil []]) (by simp) rfl ?_
  simp only [SL, List.length_append, List.length_cons, List.length_nil, Nat.reduceAdd, List.cons_append, List.nil_append]
  refine AOps_callS (writeString_ok _ σ.length (σ.length + 1) 0 (.exact (.pointer none)) [] [108, 111, 99, 107, 32, 49, 10] (by simp; rfl) (.inl rfl) (by simp) (by simp) (by simp)) rfl rfl rfl rfl rfl ?_
  simp only [pt, SL, List.nil_append]
  refine wlk GLkU24.down ?_
  refine AWP_loop (α := Unit) (fun _ => [.junk, .junk, .str [], .ptr σ.length 0, .junk, .junk, .junk, .junk, .junk, .junk, .junk, .junk, .int .i64 0, .int .i64 0, .junk, .junk, .junk, .junk, .junk, .junk, .junk, .junk, .junk, .junk, .junk, .junk, .junk, .junk, .junk, .junk, .junk, .junk, .junk]) (fun _ => _) (fun _ => 0) () (.same ?_) (fun _ => Nat.le_refl _) ?_
  · exact lle
  · intro _
    have hd : Bx (decide ((0 : Int) < 0) = false) := ⟨rfl⟩
    refine wlk (And.intro hd.out GLkU24.down) ?_
    refine AOps_callS (bstring_ok _ σ.length (σ.length + 1) 1 (.ptr σ.length 0) (textS []) (by simp; rfl) (by simp) (by simp [textS, lockHead])) rfl rfl rfl rfl rfl ?_
    simp only [pt, SL]
    refine wlk GLkU24.down ?_
    refine rtrb GLkU24.down ?_
    exact Vle.refl _
/-- Text of few pins, or of sorted ones. -/
theorem ltext_ok (l : List Pin) (t : Tag) (σ : List AE) (ht : t = .nil → l = []) (hl : POk l) (hL : LOk l) (h20 : Few20 l) (hG : GV σ) : Gives Tryz.prog 24 [.sl t (pinsC l)] σ (.str (textS (sortP l))) := by
  by_cases hne : l = []
  · subst hne
    exact text0_ok t σ hG
  · exact text_body l t σ (fun e => hne (ht e)) hne hl hL h20 hG
end Go.Proofs.YtdjjlbjagaadaaaGreatDoor.A
/- The chapter's example of Locks; LockTells. -/
namespace Go.Proofs.YtdjjlbjagaadaaaGreatDoor.A
open Go Go.RowKit
set_option maxRecDepth 100000
set_option linter.unusedSimpArgs false
set_option linter.unusedVariables false

def GLwA20 := PLift.up <| And.intro F3 <| And.intro F5 <| And.intro F9 <| And.intro F23 <| And.intro F33 <| And.intro F35 <| And.intro F37 <| F39
def GLwA4 := PLift.up <| And.intro F3 <| And.intro F4 <| And.intro F5 <| And.intro F9 <| And.intro F23 <| And.intro F32 <| And.intro F33 <| And.intro F35 <| And.intro F37 <| F39
theorem textV_len (v : Ver) (h : VOk v) : (textV v).length ≤ 59 + lens v.pre := by
  have h1 := dec_le h.a
  have h2 := dec_le h.b
  have h3 := dec_le h.c
  have h4 := pfx_len v.pre
  simp only [textV, List.length_append, List.length_cons, List.length_nil]
  omega
theorem line_le {p : Pin} (hk : p.k.length = 32) (hv : VOk p.v) {m : Nat} (hn : p.n.length ≤ m) : (lineL p).length ≤ m + 126 + lens p.v.pre := by
  rw [lineL_len, hexL_len, hk]
  have := textV_len p.v hv
  omega
theorem lockV_of {s : List UInt8} {l : List Pin} {a e : Nat} (h : lockOf s = (l, a, e)) : lockV s = .tup [.sl .ro (pinsC l), .int .i64 (a : Int), .int .i64 (e : Int)] := by
  unfold lockV
  rw [h]
abbrev pA : Pin := ⟨[97], ⟨1, 0, 0, []⟩, z32⟩
theorem pA_good : Good pA := ⟨by decide, ⟨by decide, by decide, by decide, by decide, rfl⟩, rfl⟩
theorem Good.pok {p : Pin} (h : Good p) : p.k.length = 32 ∧ VOk p.v := ⟨h.k, h.v.ok⟩
theorem lk1 : lockOf [108, 111, 99, 107, 32, 49, 10] = ([], 0, 0) := by kernel_rfl
theorem lk2 : lockOf [108, 111, 99, 107, 32, 49, 10, 120, 10] = ([], 2, 63) := by kernel_rfl
theorem lk3 : vOf [49, 46, 48, 46, 48] = (⟨1, 0, 0, []⟩, 0) := by kernel_rfl
theorem Good.line {p : Pin} (h : Good p) : (lineL p).length ≤ 250 := by
  have h1 : p.n.length ≤ 32 := by
    have := h.n
    simp only [isName, Bool.and_eq_true, decide_eq_true_eq] at this
    exact this.1.1.2
  have h2 := line_le h.k h.v.ok h1
  have h3 : lens p.v.pre ≤ 85 := by
    have := lens_le p.v.pre 16 (fun x hx => by
      have := List.all_eq_true.1 h.v.p x hx
      simp only [mark, Bool.and_eq_true, decide_eq_true_eq] at this
      omega)
    have := Nat.mul_le_mul_right 17 h.v.n
    omega
  omega
theorem goods_pok {l : List Pin} (h : ∀ p ∈ l, Good p) : POk l := fun p hp => (h p hp).pok
theorem goods_lok {l : List Pin} (h : ∀ p ∈ l, Good p) : LOk l := fun p hp => by have := (h p hp).line; omega
theorem goods_len {l : List Pin} (h : ∀ p ∈ l, Good p) : (textS l).length ≤ 7 + l.length * 250 := by
  have : (l.flatMap lineL).length ≤ l.length * 250 := by
    induction l with
    | nil => simp
    | cons p l ih =>
      have h1 := (h p List.mem_cons_self).line
      have h2 := ih fun q hq => h q (List.mem_cons_of_mem _ hq)
      simp only [List.flatMap_cons, List.length_append, List.length_cons]
      omega
  simp only [textS, lockHead, List.length_append, List.length_cons, List.length_nil]
  omega
theorem lk4 : lockOf (textS [pA]) = ([pA], 0, 0) := lockOf_textS (fun p hp => by rw [List.mem_singleton.1 hp]; exact pA_good) ⟨fun q hq => (by cases hq), trivial⟩ (by simp) (by
  have := goods_len (l := [pA]) (fun p hp => by rw [List.mem_singleton.1 hp]; exact pA_good)
  simp at this
  omega)
theorem tagro (n : Nat) : tbel n .ro := trivial
theorem lknown_ok (σ : List AE) (hG : GV σ) : Gives Tryz.prog 20 [] σ (.bool true) := by
  have hp1 : POk [pA] := goods_pok fun p hp => by rw [List.mem_singleton.1 hp]; exact pA_good
  have hl1 : LOk [pA] := goods_lok fun p hp => by rw [List.mem_singleton.1 hp]; exact pA_good
  have hs1 : sortP [pA] = [pA] := rfl
  refine Gives_drop (hb := fun hb => trivial) ?_
  refine ent Tryz.func20 Tryz.ntmps20 Tryz.results20 ?_
  refine wlk GLwA20.down ?_
  refine cll (lparse_ok [108, 111, 99, 107, 32, 49, 10] _ (by simp) hG) ?_
  rw [lockV_of lk1]
  refine wlk GLwA20.down ?_
  refine cll (lparse_ok [108, 111, 99, 107, 32, 49, 10, 120, 10] _ (by simp) hG) ?_
  rw [lockV_of lk2]
  refine wlk GLwA20.down ?_
  refine cll (versionOf_ok [49, 46, 48, 46, 48] _ (by simp)) ?_
  rw [lk3]
  refine wlk (And.intro @encV.eq_def GLwA20.down) ?_
  refine cll (ltext_ok [pA] .full _ (by simp) hp1 hl1 (.inl (by simp)) (hG.app _)) ?_
  rw [hs1]
  refine wlk GLwA20.down ?_
  refine cll (lparse_ok (textS [pA]) _ (by have := goods_len (l := [pA]) (fun p hp => by rw [List.mem_singleton.1 hp]; exact pA_good); simp only [List.length_cons, List.length_nil] at this; omega) (hG.app _)) ?_
  rw [lockV_of lk4]
  refine wlk GLwA20.down ?_
  refine cll (same_ok [pA] [pA] .ro .full _ tagro (fun _ => trivial) hp1 hp1 (by simp) (hG.app _)) ?_
  refine wlk GLwA20.down ?_
  refine cll (same_ok [pA] [] .ro .nil _ tagro (fun _ => trivial) hp1 (fun p hp => by cases hp) (by simp) (hG.app _)) ?_
  refine wlk GLwA20.down ?_
  refine rtrb GLwA20.down ?_
  refine Vle.of_eq ?_
  rw [samePs_refl]
  rfl
/-- A pin of plain data. -/
structure Raw (p : Pin) : Prop where
  a : in64 p.v.major
  b : in64 p.v.minor
  c : in64 p.v.patch
  k : p.k.length = 32
def lightP (p : Pin) : Bool := decide (p.n.length ≤ 50) && lightV p.v
theorem lightP_ok {p : Pin} (h : Raw p) (hl : lightP p = true) : (p.k.length = 32 ∧ VOk p.v) ∧ (lineL p).length ≤ 1000000 := by
  simp only [lightP, Bool.and_eq_true, decide_eq_true_eq] at hl
  have hv : VOk p.v := ⟨h.a, h.b, h.c, light_ok hl.2⟩
  refine ⟨⟨h.k, hv⟩, ?_⟩
  have h1 := line_le h.k hv hl.1
  have h2 := hl.2
  simp [lightV] at h2
  have := lens_le p.v.pre 30 h2.2
  omega
theorem all_take_succ {l : List Pin} {i : Nat} (h : i < l.length) (f : Pin → Bool) : (l.take (i + 1)).all f = ((l.take i).all f && f (l.getD i p0)) := by
  rw [take_snoc h, List.all_append]
  simp
set_option maxHeartbeats 1000000 in
theorem lockTells_ok (a b : List Pin) (t u : Tag) (σ : List AE) (ha : ∀ p ∈ a, Raw p) (hb : ∀ p ∈ b, Raw p) (ht : t = .nil → a = []) (hu : u = .nil → b = []) (ht' : ∀ n, tbel n t) (hu' : ∀ n, tbel n u) (hla : a.length ≤ maxLen) (hlb : b.length ≤ maxLen) (hG : GV σ) : Gives Tryz.prog 4 [.sl t (pinsC a), .sl u (pinsC b)] σ (.bool true) := by
  have hna := pinsC_len a
  have hnb := pinsC_len b
  have hL : maxLen ≤ 9223372036854775807 := by simp [maxLen]
  refine Gives_drop (hb := fun hb => trivial) ?_
  refine ent Tryz.func4 Tryz.ntmps4 Tryz.results4 ?_
  refine wlk GLwA4.down ?_
  refine cll (lknown_ok _ hG) ?_
  refine wlk (And.intro hna (And.intro hnb GLwA4.down)) ?_
  refine AWP_cond rfl (fun h => ?_) (fun h => ?_)
  · refine wlk GLwA4.down ?_
    refine rtrb GLwA4.down ?_
    exact Vle.refl _
  · have hab : a.length ≤ 10 ∧ b.length ≤ 10 := by simp at h; omega
    refine wlk (And.intro hna (And.intro hnb GLwA4.down)) ?_
    refine AWP_loop (α := { i : Nat // i ≤ 2 ∧ (0 < i → a.all lightP = true) ∧ (1 < i → b.all lightP = true) }) (fun i => [.sl t (pinsC a), .sl u (pinsC b), .junk, .junk, .bool false, .junk, .junk, .junk, .junk, .junk, .junk, .junk, .junk, .junk, .junk, .junk, .junk, .junk, .junk, .junk, .sl .full [[.sl t (pinsC a)], [.sl u (pinsC b)]], .int .i64 2, .int .i64 (i.1 : Int), .junk, .junk, .junk, .junk, .junk, .junk, .junk, .junk, .junk, .junk, .junk, .junk, .junk, .junk, .junk, .junk, .junk, .junk, .junk, .junk, .junk, .junk, .junk, .junk, .junk, .junk, .junk, .junk, .junk, .junk, .junk, .junk, .junk, .junk, .junk, .junk, .junk, .junk, .junk, .junk, .junk, .junk, .junk, .junk, .junk]) (fun _ => σ) (fun i => 2 - i.1) ⟨0, by omega, fun h => absurd h (by omega), fun h => absurd h (by omega)⟩ (.same ?_) (fun _ => Nat.le_refl _) ?_
    · exact lle
    · rintro ⟨i, hi, hi1, hi2⟩
      refine wlk GLwA4.down ?_
      refine AWP_cond rfl (fun h => ?_) (fun h => ?_)
      · have hi2' : i < 2 := by simp at h; omega
        obtain ⟨T, L, hg, hLr, hLl, hnx⟩ : ∃ T L, [[V.sl t (pinsC a)], [V.sl u (pinsC b)]].getD i [] = [.sl T (pinsC L)] ∧ (∀ p ∈ L, Raw p) ∧ L.length ≤ 10 ∧ (L.all lightP = true → (0 < i + 1 → a.all lightP = true) ∧ (1 < i + 1 → b.all lightP = true)) := by
          by_cases h0 : i = 0
          · subst h0
            exact ⟨t, a, rfl, ha, hab.1, fun h => ⟨fun _ => h, fun h => absurd h (by omega)⟩⟩
          · have : i = 1 := by omega
            subst this
            exact ⟨u, b, rfl, hb, hab.2, fun h => ⟨fun _ => hi1 (by omega), fun _ => h⟩⟩
        have hnl := pinsC_len L
        have hfl := pinsC_flat (l := L) (fun p hp => (hLr p hp).k)
        have f2 : Bx ([[V.sl t (pinsC a)], [V.sl u (pinsC b)]].getD i [] = [.sl T (pinsC L)]) := ⟨hg⟩
        refine wlk (And.intro f2.out (And.intro hi2' GLwA4.down)) ?_
        refine AWP_loop (α := { j : Nat // j ≤ L.length ∧ (L.take j).all lightP = true }) (fun j => [.sl t (pinsC a), .sl u (pinsC b), .junk, .junk, .bool false, .junk, .sl T (pinsC L), .int .i64 (j.1 : Int), .junk, .junk, .junk, .junk, .junk, .junk, .junk, .junk, .junk, .junk, .junk, .junk, .sl .full [[.sl t (pinsC a)], [.sl u (pinsC b)]], .int .i64 2, .int .i64 (i : Int), .junk, .junk, .junk, .junk, .junk, .junk, .junk, .junk, .junk, .junk, .junk, .junk, .junk, .junk, .junk, .junk, .junk, .junk, .junk, .junk, .junk, .junk, .junk, .junk, .junk, .junk, .junk, .junk, .junk, .junk, .junk, .junk, .junk, .junk, .junk, .junk, .junk, .junk, .junk, .junk, .junk, .junk, .junk, .junk, .junk]) (fun _ => σ) (fun j => L.length - j.1) ⟨0, Nat.zero_le _, rfl⟩ (.same ?_) (fun _ => Nat.le_refl _) ?_
        · exact lle
        · rintro ⟨j, hj, hjl⟩
          refine wlk (And.intro hnl GLwA4.down) ?_
          refine AWP_cond rfl (fun h => ?_) (fun h => ?_)
          · have hlt : j < L.length := by simp [hnl] at h; omega
            have hgl := pinsC_get L j hlt
            obtain ⟨p, hp⟩ : ∃ p, p = L.getD j p0 := ⟨_, rfl⟩
            rw [← hp] at hgl
            have hr : Raw p := by rw [hp]; exact hLr _ (getD_mem hlt)
            have hpl := pinC_len hr.k
            have hp0 := pinC_0 p
            have hpv := pinC_v p
            have hp1 := pinC_d1 hr.k
            have hts := all_take_succ hlt lightP
            rw [← hp] at hts
            refine wlk (And.intro hnl (And.intro hfl (And.intro hlt (And.intro hgl (And.intro hpl (And.intro hp0 (And.intro hpv (And.intro hp1 GLwA4.down)))))))) ?_
            refine cll (lightV_ok p.v .ro _) ?_
            refine wlk (And.intro hnl (And.intro hfl (And.intro hlt (And.intro hgl (And.intro hpl (And.intro hp0 (And.intro hpv (And.intro hp1 GLwA4.down)))))))) ?_
            refine AWP_cond rfl (fun h => ?_) (fun h => ?_)
            · refine wlk GLwA4.down ?_
              refine rtrb GLwA4.down ?_
              exact Vle.refl _
            · have hw : IntKind.i64.wrap ((j : Int) + 1) = ((j + 1 : Nat) : Int) := wrapS (by omega) (by omega)
              refine wlk (And.intro hw GLwA4.down) ?_
              refine ⟨⟨j + 1, hlt, ?_⟩, by simp; omega, .same (by exact lle)⟩
              rw [hts, hjl, Bool.true_and]
              revert h
              unfold lightP
              cases lightV p.v
              · intro h
                exfalso
                simp at h
              · intro h
                simp at h ⊢
                omega
          · have hj' : j = L.length := by simp [hnl] at h; omega
            subst hj'
            rw [List.take_length] at hjl
            have hw : IntKind.i64.wrap ((i : Int) + 1) = ((i + 1 : Nat) : Int) := wrapS (by omega) (by omega)
            refine wlk (And.intro hw GLwA4.down) ?_
            exact ⟨⟨i + 1, by omega, (hnx hjl).1, (hnx hjl).2⟩, by simp; omega, .same (by exact lle)⟩
      · have hi2' : i = 2 := by simp at h; omega
        have la := hi1 (by omega)
        have lb := hi2 (by omega)
        have pa : POk a := fun p hp => (lightP_ok (ha p hp) (List.all_eq_true.1 la p hp)).1
        have pb : POk b := fun p hp => (lightP_ok (hb p hp) (List.all_eq_true.1 lb p hp)).1
        have oa : LOk a := fun p hp => (lightP_ok (ha p hp) (List.all_eq_true.1 la p hp)).2
        refine wlk GLwA4.down ?_
        refine cll (ltext_ok a t _ ht pa oa (.inl (by omega)) hG) ?_
        refine wlk GLwA4.down ?_
        refine cll (lockText_ok a t _ pa oa (by omega)) ?_
        refine wlk GLwA4.down ?_
        refine cll (same_ok a b t u _ ht' hu' pa pb (by omega) hG) ?_
        refine wlk GLwA4.down ?_
        refine cll (samePins_ok a b t u _ pa pb (by omega)) ?_
        refine wlk GLwA4.down ?_
        refine cll (same_ok a a t t _ ht' ht' pa pa (by omega) hG) ?_
        refine wlk GLwA4.down ?_
        refine rtrb GLwA4.down ?_
        refine Vle.of_eq ?_
        rw [samePs_refl]
end Go.Proofs.YtdjjlbjagaadaaaGreatDoor.A
