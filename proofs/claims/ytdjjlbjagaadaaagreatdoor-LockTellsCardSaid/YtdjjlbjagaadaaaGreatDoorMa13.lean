/- Texts of the proof, one behind another: LkE, LkP, LkF. -/
import Derived.Lib.UnsafeStr
import Derived.Test.YtdjjlbjagaadaaaGreatDoorMa12
/- strings.Builder's String: the bytes, frozen. -/
namespace Go.Proofs.YtdjjlbjagaadaaaGreatDoor.A
open Go Go.RowKit Go.Shelf
set_option maxRecDepth 100000
set_option linter.unusedSimpArgs false
set_option linter.unusedVariables false

theorem uS37 : Tryz.prog.underlying 168 = some (.pointer 5) := by kernel_rfl
theorem cB : Tryz.prog.cellsOf 5 = 1 := by kernel_rfl
set_option maxHeartbeats 1000000 in
theorem string_run (b g cap : Nat) (p : Value) (cur : Array Value) (l : List UInt8) (w : World) (h0 : l ≠ []) (hbk : w.heap[b]? = some (.cells #[p, .slice (some ⟨g, 0, none⟩) l.length cap] 121 (0, 0)))
    (hg : w.heap[g]? = some (.cells cur 5 (0, 0))) (hnc : l.length ≤ cap) (hcm : cap ≤ maxLen) (hcs : cur.size = cap) (htake : cur.toList.take l.length = Lib.byteCells l) :
    Calls Tryz.prog 79 #[.pointer (some ⟨b, 0, none⟩)] w fun e w' => e = .returned (.string ⟨l.toArray⟩) ∧ w' = w.drew.freeze ⟨g, 0, none⟩ l.length := by
  have hl0 : l.length ≠ 0 := by simpa using h0
  have c1 : w.drew.cell? ⟨b, 1, none⟩ = some (.slice (some ⟨g, 0, none⟩) l.length cap) := by
    have : w.drew.heap[b]? = some (.cells #[p, .slice (some ⟨g, 0, none⟩) l.length cap] 121 (0, 0)) := hbk
    rw [Lib.cell_of_heap this]; rfl
  have hSD : (Builtin.unsafeSliceData_ #[41] 168 #[.slice (some ⟨g, 0, none⟩) l.length cap]).run Tryz.prog w.drew = .ok (.pointer (some ⟨g, 0, none⟩)) w.drew :=
    Lib.run_unsafeSliceData_row _ _ _ _ _ _ (by omega)
  have hUS : (Builtin.unsafeString_ #[168, 3] 9 #[.pointer (some ⟨g, 0, none⟩), .int .i64 l.length]).run Tryz.prog w.drew = .ok (.string ⟨l.toArray⟩) (w.drew.freeze ⟨g, 0, none⟩ l.length) := by
    refine Lib.run_unsafeString_row w.drew 168 3 9 5 uS37 cB g cur.size (by have hg' : w.drew.heap[g]? = some (.cells cur 5 (0, 0)) := hg; simp [World.shape?, hg']) l h0 (by omega) (by unfold maxLen at hcm; omega) ?_
    intro j x hx
    have hc : w.drew.heap[g]? = some (.cells cur 5 (0, 0)) := hg
    have hj : j < l.length := (List.getElem?_eq_some_iff.1 hx).1
    have h1 : (cur.toList.take l.length)[j]? = some (.int .u8 x.toNat) := by rw [htake]; simp [Lib.byteCells, hx]
    rw [List.getElem?_take_of_lt hj] at h1
    have h2 : (⟨g, 0, none⟩ : Addr).add j = ⟨g, j, none⟩ := by rw [Addr_add, Nat.zero_add]
    rw [h2, Lib.cell_of_heap hc]
    simpa using h1
  have mixed := mixed_ok
  have u72 := run_underlying (P := Tryz.prog) Tryz.underlying121
  have u41 := run_underlying (P := Tryz.prog) Tryz.underlying41
  have u3 := run_underlying (P := Tryz.prog) Tryz.underlying3
  have u9 := run_underlying (P := Tryz.prog) Tryz.underlying9
  go_enter Tryz.func79, Tryz.ntmps79
  go_wp2
  go_region_o
  all_goals (go_wp2; go_ret; exact ⟨rfl, rfl⟩)
theorem frz_other (w : World) (g n : Nat) {j : Nat} (h : j ≠ g) : (w.freeze ⟨g, 0, none⟩ n).heap[j]? = w.heap[j]? := by
  unfold World.freeze
  split
  · rfl
  · simp [Array.getElem?_modify, Ne.symm h]
theorem frz_size (w : World) (g n : Nat) : (w.freeze ⟨g, 0, none⟩ n).heap.size = w.heap.size := by
  unfold World.freeze
  split
  · rfl
  · simp
theorem frz_cell (w : World) (g n : Nat) (a : Addr) : (w.freeze ⟨g, 0, none⟩ n).cell? a = w.cell? a := by
  by_cases h : a.block = g
  · subst h
    by_cases hn : n = 0
    · unfold World.freeze
      rw [if_pos hn]
    · unfold World.freeze World.cell?
      rw [if_neg hn]
      simp only [Array.getElem?_modify, if_true]
      cases hx : w.heap[a.block]? with
      | none => rfl
      | some o => cases o <;> rfl
  · unfold World.cell?
    rw [frz_other w g n h]
theorem frz_ext {w : World} {en : List CE} {g n k : Nat} {x : CE} (hk : en[k]? = some x) (hg : ebl x = some g) : Ext w en (w.freeze ⟨g, 0, none⟩ n) en where
  os := by unfold World.freeze; split <;> rfl
  tape := by unfold World.freeze; split <;> rfl
  output := by unfold World.freeze; split <;> rfl
  size := by rw [frz_size]; exact Nat.le_refl _
  block := fun j hj hx => frz_other w g n fun e => hx _ (List.mem_of_getElem? hk) (by rw [hg, e])
  st := fun g' o u h => ⟨by rw [frz_cell]; exact h.1, h.2⟩
  ent := fun _ x h => ⟨x, h, Evo.refl x⟩
  fresh := fun x hx _ hg _ => ⟨x, hx, hg⟩
theorem dead_ok {w : World} {en : List CE} {σ : List AE} (hi : Iv σ en w) {k n g : Nat} {ver m sz : Nat} {v : Value} (hk : en[k]? = some (.tok ver v m sz)) (hg : v.ownBlock = some g) : Iv (σ.set k .dead) en (w.freeze ⟨g, 0, none⟩ n) where
  len := by rw [List.length_set]; exact hi.len
  ok := fun i a x ha hx => by
    by_cases hik : k = i
    · subst hik
      rw [hk] at hx
      cases hx
      rw [List.getElem?_set, if_pos rfl] at ha
      split at ha
      · cases ha
        simp only [EOk]
        intro g' hg'
        rw [frz_size]
        exact hi.lt (List.mem_of_getElem? hk) hg'
      · cases ha
    · rw [List.getElem?_set, if_neg hik] at ha
      refine (hi.ok i a x ha hx).keep (frz_ext hk hg) fun g' hg' => frz_other w g n fun e => hik ?_
      subst e
      exact hi.dis k i _ x g' hk hx hg hg'
  dis := hi.dis
theorem bstring_ok (σ : List AE) (b k ver : Nat) (a : V) (l : List UInt8) (hb : σ[b]? = some (.boxt 121 [a, .sl (.own k ver) (encB l)])) (hk : σ[k]? = some (.tok ver 5 1)) (hl : l ≠ []) :
    GivesS Tryz.prog 79 [.ptr b 0] σ (.str l) (σ.set k .dead) :=
  ⟨⟨_, Tryz.func79, rfl, rfl⟩, fun w en vals hi hv => by
    obtain ⟨u, hu, h1⟩ := LR1 hv
    simp only [VR] at h1
    obtain ⟨gb, hgb, rfl⟩ := h1
    have hob := hi.ok b _ _ hb hgb
    simp only [EOk] at hob
    obtain ⟨us, hbk, hus, _⟩ := hob
    obtain ⟨ua, v, hu2, _, h2⟩ := LR2 hus
    have hus' : us = #[ua, v] := by
      have := congrArg List.toArray hu2
      rwa [Array.toArray_toList] at this
    subst hus'
    simp only [VR] at h2
    obtain ⟨A, c, rfl, _, _, ⟨cur, v0, n0, sz, hek, hle, hsame⟩, hrow⟩ := h2
    have hok := hi.ok k _ _ hk hek
    simp only [EOk] at hok
    obtain ⟨rfl, rfl, xs, hown⟩ := hok
    obtain ⟨rfl, rfl⟩ := hsame rfl
    have hne : encB l ≠ [] := fun e => hl (List.eq_nil_of_length_eq_zero (by rw [← encB_len, e]; rfl))
    obtain ⟨g, o, rfl, hR⟩ := hrow hne
    rw [encB_len] at hown
    rcases hown.2 with ⟨e1, _⟩ | ⟨g', cap, cu, e1, _, hgc, hnc, hcm, hcs, htk⟩
    · cases e1
    simp only [Value.slice.injEq, Option.some.injEq, Addr.mk.injEq] at e1
    obtain ⟨⟨rfl, rfl, _⟩, _, rfl⟩ := e1
    have htake : cu.toList.take l.length = Lib.byteCells l := by
      refine List.ext_getElem? fun j => ?_
      by_cases hj : j < l.length
      · have hj' : j < (encB l).flatten.length := by rw [encB_flat, keyC_len]; exact hj
        have hx : (encB l).flatten[j]? = some (.int .u8 ((l.getD j 0).toNat : Int)) := by rw [encB_flat]; exact keyC_get l j hj
        obtain ⟨u', hu1, _, hu3⟩ := ER_get (RR_ER hR) j _ hx
        simp only [VR] at hu3
        subst hu3
        have hc := hu1.1
        rw [Lib.cell_of_heap hgc] at hc
        rw [List.getElem?_take_of_lt hj]
        simp only [Nat.zero_add] at hc
        rw [Array.getElem?_toList]
        rw [show (Lib.byteCells l)[j]? = some (.int .u8 ((l.getD j 0).toNat : Int)) by simp [Lib.byteCells, hj]]
        exact hc
      · rw [List.getElem?_eq_none (by rw [List.length_take]; omega), List.getElem?_eq_none (by rw [Lib.byteCells_length]; omega)]
    have hvals : vals = #[.pointer (some ⟨gb, 0, none⟩)] := by
      have := congrArg List.toArray hu
      rwa [Array.toArray_toList] at this
    rw [hvals]
    rw [encB_len] at hbk
    refine (string_run gb g c ua cu l w hl hbk hgc hnc hcm (by simpa using hcs) htake).mono fun e w' h => ?_
    obtain ⟨rfl, rfl⟩ := h
    exact ⟨.ret (.str l), σ.set k .dead, en, ⟨rfl, rfl⟩, ⟨_, rfl, by simp [VR]⟩, dead_ok hi.drew hek rfl, Ext.drew.trans (frz_ext hek rfl)⟩⟩
end Go.Proofs.YtdjjlbjagaadaaaGreatDoor.A
/- Locks: plain. -/
namespace Go.Proofs.YtdjjlbjagaadaaaGreatDoor.A
open Go
set_option linter.unusedSimpArgs false
set_option linter.unusedVariables false

structure Pin where
  n : List UInt8
  v : Ver
  k : List UInt8
def pinC (p : Pin) : List V := .str p.n :: .int .i64 p.v.major :: .int .i64 p.v.minor :: .int .i64 p.v.patch :: .sl .ro (strs p.v.pre) :: keyC p.k
def pinsC (l : List Pin) : List (List V) := l.map pinC
def p0 : Pin := ⟨[], ⟨0, 0, 0, []⟩, z32⟩
def pinOk (w : List (List UInt8)) : Bool := decide (w.length = 3) && isName (w.getD 0 []) && (decide ((vOf (w.getD 1 [])).2 = 0) && (keyP (w.getD 2 [])).2)
def pinAt (w : List (List UInt8)) : Pin := ⟨w.getD 0 [], (vOf (w.getD 1 [])).1, (keyP (w.getD 2 [])).1⟩
/-- The pin that a line tells. -/
def pinOf (x : List UInt8) : Option Pin := if pinOk (spl 32 x) = true then some (pinAt (spl 32 x)) else none
def okNext (acc : List Pin) (n : List UInt8) : Bool := decide (acc.length < 200) && (acc.isEmpty || ltB (acc.getD (acc.length - 1) p0).n n)
def foldP (acc : List Pin) (i : Nat) : List (List UInt8) → List Pin × Nat × Nat
  | [] => (acc, 0, 0)
  | x :: r => match pinOf x with
    | some p => if okNext acc p.n = true then foldP (acc ++ [p]) (i + 1) r else ([], i + 1, 63)
    | none => ([], i + 1, 63)
def lockHead : List UInt8 := [108, 111, 99, 107, 32, 49]
def lockOk (s : List UInt8) : Bool := decide (s.length ≤ 65536) && beginsB s (lockHead ++ [10]) && s.getD (s.length - 1) 0 == 10
/-- What a text is read as: pins, a line, a fault. -/
def lockOf (s : List UInt8) : List Pin × Nat × Nat := if lockOk s = true then foldP [] 1 ((spl 10 s.dropLast).drop 1) else ([], 0, 63)
def lineL (p : Pin) : List UInt8 := p.n ++ 32 :: (textV p.v ++ 32 :: (hexL p.k ++ [10]))
def textS (l : List Pin) : List UInt8 := lockHead ++ 10 :: l.flatMap lineL
/-- Where p goes among l's first k. -/
def insAt (n : List UInt8) (l : List Pin) : Nat → Nat
  | 0 => 0
  | k + 1 => if ltB n (l.getD k p0).n = true then insAt n l k else k + 1
def insP (p : Pin) (l : List Pin) : List Pin := l.take (insAt p.n l l.length) ++ p :: l.drop (insAt p.n l l.length)
def sortP (l : List Pin) : List Pin := l.foldl (fun acc p => insP p acc) []
def alikeP (a b : Pin) : Bool := a.n == b.n && textV a.v == textV b.v && a.k == b.k
def samePs : List Pin → List Pin → Bool
  | [], [] => true
  | a :: l, b :: m => alikeP a b && samePs l m
  | _, _ => false
theorem pinsC_len (l : List Pin) : (pinsC l).length = l.length := by simp [pinsC]
theorem pinC_len {p : Pin} (h : p.k.length = 32) : (pinC p).length = 37 := by simp [pinC, keyC_len, h]
/-- Pins whose sums are whole. -/
def K32 (l : List Pin) : Prop := ∀ p ∈ l, p.k.length = 32
theorem pinsC_flat {l : List Pin} (h : K32 l) : flat 37 (pinsC l) = true := by
  simp only [flat, pinsC, List.all_map, List.all_eq_true]
  intro p hp
  simp [pinC_len (h p hp)]
theorem pinsC_get (l : List Pin) (i : Nat) (h : i < l.length) : (pinsC l).getD i [] = pinC (l.getD i p0) := by
  simp [pinsC, List.getD_eq_getElem?_getD, h]
theorem pinC_bel (n : Nat) (p : Pin) : bels n (pinC p) := ⟨trivial, trivial, trivial, trivial, ⟨trivial, strs_bel n _⟩, keyC_bel n _⟩
theorem pinsC_bel (n : Nat) : ∀ l : List Pin, bels2 n (pinsC l)
  | [] => trivial
  | p :: l => ⟨pinC_bel n p, pinsC_bel n l⟩
theorem pinAt_k (w : List (List UInt8)) : (pinAt w).k.length = 32 := keyP_len _
theorem K32.app {l : List Pin} (h : K32 l) {p : Pin} (hp : p.k.length = 32) : K32 (l ++ [p]) := fun q hq => by
  rcases List.mem_append.1 hq with hq | hq
  · exact h q hq
  · rw [List.mem_singleton.1 hq]; exact hp
theorem pinOf_k {x : List UInt8} {p : Pin} (h : pinOf x = some p) : p.k.length = 32 := by
  unfold pinOf at h
  split at h
  · cases h; exact pinAt_k _
  · cases h
end Go.Proofs.YtdjjlbjagaadaaaGreatDoor.A
/- lockfile: must, pin. -/
namespace Go.Proofs.YtdjjlbjagaadaaaGreatDoor.A
open Go Go.RowKit
set_option maxRecDepth 100000
set_option linter.unusedSimpArgs false
set_option linter.unusedVariables false

def GLkF62 := PLift.up <| And.intro F3 <| And.intro F4 <| F105
def GLkF66 := PLift.up <| And.intro F3 <| And.intro F4 <| And.intro F5 <| And.intro F9 <| And.intro F24 <| And.intro F33 <| And.intro F35 <| And.intro F37 <| F39
/-- What must panics with. -/
def failV (n : Int) : Value := .iface 105 (.agg #[.int .i64 n])
theorem must_ok (n : Int) (σ : List AE) : Gives Tryz.prog 62 [.bool true, .int .i64 n] σ (.tup []) := by
  refine ent Tryz.func62 Tryz.ntmps62 Tryz.results62 ?_
  refine wlk GLkF62.down ?_
  refine rtn GLkF62.down ?_
  exact ⟨rfl, rfl⟩
theorem must_no (n : Int) (σ : List AE) : Pans Tryz.prog 62 [.bool false, .int .i64 n] σ (.exact (failV n)) := by
  refine ent Tryz.func62 Tryz.ntmps62 Tryz.results62 ?_
  refine wlk GLkF62.down ?_
  refine AOps_panic rfl rfl rfl ?_
  exact ⟨rfl, rfl⟩
/-- A panic; what the call made is let go. -/
theorem Pans_drop {P : Program} {f : FuncId} {args : List V} {σ : List AE} {v : Value} (h : ACalls P f args σ (fun r σ' => ∃ τ, σ' = σ ++ τ ∧ r = .pan (.exact v))) : Pans P f args σ (.exact v) :=
  ⟨h.ent, fun w en vals hi hl => (h.go w en vals hi hl).mono fun e w' ⟨r, σ', en', h1, h2, h3, h4⟩ => by
    obtain ⟨τ, rfl, rfl⟩ := h1
    obtain ⟨u, rfl, hv⟩ := h2
    have hi' : Iv σ (en'.take σ.length) w' := by
      have := h3.take (n := σ.length) (by simpa using hi.sb)
      simpa using this
    have he' := h4.take (n := σ.length) (by rw [hi.len]; exact Nat.le_refl _)
    exact ⟨.pan (.exact v), σ, _, ⟨rfl, rfl⟩, ⟨u, rfl, by simpa [VR] using hv⟩, hi', he'⟩⟩
/-- What pin comes to. -/
def pinR (x : List UInt8) (n : Int) (σ : List AE) (r : Out) (σ' : List AE) : Prop := ∃ τ, σ' = σ ++ τ ∧ ((pinOk (spl 32 x) = true ∧ r = .ret (.agg (pinC (pinAt (spl 32 x))))) ∨ (pinOk (spl 32 x) = false ∧ r = .pan (.exact (failV n))))
theorem three {ws : List (List UInt8)} (h : ws.length = 3) : ∃ a b c, ws = [a, b, c] := by
  match ws, h with
  | [a, b, c], _ => exact ⟨a, b, c, rfl⟩
theorem pin_walk (x : List UInt8) (n : Int) (σ : List AE) (hx : x.length < 4294967281) (hG : GV σ) : ACalls Tryz.prog 66 [.str x, .int .i64 n] σ (pinR x n σ) := by
  refine ent Tryz.func66 Tryz.ntmps66 Tryz.results66 ?_
  refine wlk GLkF66.down ?_
  refine cll (split_ok 32 x _ hx (hG.app _)) ?_
  have hle := spl_len 32 x
  by_cases h3 : (spl 32 x).length = 3
  · obtain ⟨a, b, c, he⟩ := three h3
    have hsp : strs (spl 32 x) = [[.str a], [.str b], [.str c]] := by rw [he]; rfl
    rw [hsp]
    have ha : a.length ≤ x.length := spl_le 32 x a (by rw [he]; simp)
    have hb : b.length ≤ x.length := spl_le 32 x b (by rw [he]; simp)
    have hc : c.length ≤ x.length := spl_le 32 x c (by rw [he]; simp)
    have hok : pinOk (spl 32 x) = (isName a && (decide ((vOf b).2 = 0) && (keyP c).2)) := by rw [he]; rfl
    have hat : pinAt (spl 32 x) = ⟨a, (vOf b).1, (keyP c).1⟩ := by rw [he]; rfl
    have hkl := keyP_len c
    have htk := keyC_take (keyP c).1 32 hkl
    have hdk := keyC_drop (keyP c).1 32 hkl
    refine wlk GLkF66.down ?_
    refine cll (name_ok a _ (by omega)) ?_
    cases hn : isName a
    · refine wlk GLkF66.down ?_
      refine AOps_callP (must_no n _) rfl rfl rfl rfl rfl ?_
      exact ⟨_, rfl, .inr ⟨by rw [hok, hn]; rfl, rfl⟩⟩
    · refine wlk GLkF66.down ?_
      refine cll (must_ok n _) ?_
      refine wlk GLkF66.down ?_
      refine cll (parse_ok b _ (by omega) (hG.app _)) ?_
      refine wlk (And.intro @encV.eq_def GLkF66.down) ?_
      refine cll (sha_parse c _ (by omega)) ?_
      refine wlk (And.intro @encV.eq_def (And.intro hkl (And.intro htk (And.intro hdk GLkF66.down)))) ?_
      cases hv : ((vOf b).2 == 0 && (keyP c).2)
      · refine AOps_callP (must_no n _) rfl rfl rfl rfl rfl ?_
        exact ⟨_, rfl, .inr ⟨by rw [hok, hn, Bool.true_and, ← hv]; rfl, rfl⟩⟩
      · refine cll (must_ok n _) ?_
        refine wlk (And.intro @encV.eq_def (And.intro hkl (And.intro htk (And.intro hdk GLkF66.down)))) ?_
        refine rtr (And.intro hkl (And.intro htk (And.intro hdk (And.intro @keyC_len (And.intro @List.take_succ_cons.{0} (And.intro @List.drop_zero.{0} GLkF66.down)))))) ?_
        exact ⟨_, rfl, .inl ⟨by rw [hok, hn, Bool.true_and, ← hv]; rfl, by rw [hat]; rfl⟩⟩
  · have hok : pinOk (spl 32 x) = false := by
      unfold pinOk
      rw [decide_eq_false h3]
      rfl
    obtain ⟨a, r, he⟩ : ∃ a r, spl 32 x = a :: r := by
      cases hs : spl 32 x with
      | nil => exact absurd hs (spl_ne 32 x)
      | cons a r => exact ⟨a, r, rfl⟩
    have hsp : strs (spl 32 x) = [.str a] :: strs r := by rw [he]; rfl
    rw [hsp]
    have h3' : (((r.length + 1 : Nat) : Int) == 3) = false := by
      rw [he] at h3
      simp at h3 ⊢
      omega
    have hfl : flat 1 ([.str a] :: strs r) = true := by rw [← hsp]; exact strs_flat _
    refine wlk (And.intro @strs_len (And.intro h3' (And.intro hfl GLkF66.down))) ?_
    refine AOps_callG (x := .junk) rfl (fun hg => by cases hg) rfl rfl rfl rfl ?_
    simp only [pt, SL]
    refine wlk GLkF66.down ?_
    refine AOps_callP (must_no n _) rfl rfl rfl rfl rfl ?_
    exact ⟨_, rfl, .inr ⟨hok, rfl⟩⟩
theorem pin_ok (x : List UInt8) (n : Int) (σ : List AE) (hx : x.length < 4294967281) (hG : GV σ) (h : pinOk (spl 32 x) = true) : Gives Tryz.prog 66 [.str x, .int .i64 n] σ (.agg (pinC (pinAt (spl 32 x)))) :=
  Gives_drop ((pin_walk x n σ hx hG).mono fun r σ' ⟨τ, h1, h2⟩ => by
    rcases h2 with ⟨_, h3⟩ | ⟨h3, _⟩
    · exact ⟨τ, _, h1, h3, Vle.refl _⟩
    · rw [h] at h3; cases h3) fun _ => pinC_bel _ _
theorem pin_no (x : List UInt8) (n : Int) (σ : List AE) (hx : x.length < 4294967281) (hG : GV σ) (h : pinOk (spl 32 x) = false) : Pans Tryz.prog 66 [.str x, .int .i64 n] σ (.exact (failV n)) :=
  Pans_drop ((pin_walk x n σ hx hG).mono fun r σ' ⟨τ, h1, h2⟩ => by
    rcases h2 with ⟨h3, _⟩ | ⟨_, h3⟩
    · rw [h] at h3; cases h3
    · exact ⟨τ, h1, h3⟩)
end Go.Proofs.YtdjjlbjagaadaaaGreatDoor.A
