/- The evaluation's plain rules, in one. -/
import Derived.Test.YtfagngmikbmmhaaDoorAhRow
namespace Go.Proofs.YtfagngmikbmmhaaDoor.A
open Go Go.RowKit
set_option linter.unusedVariables false
theorem SL :
    (∀ {α : Type} {x : α} {xs : List α} {i : Nat} {a : α}, (x :: xs).set (i + 1) a = x :: xs.set i a) ∧
    (∀ {α : Type} {x : α} {xs : List α} {a : α}, (x :: xs).set 0 a = a :: xs) ∧
    (∀ {α : Type} {x : α} {xs : List α} {d : α}, (x :: xs).getD 0 d = x) ∧
    (∀ {α : Type} {x : α} {xs : List α} {n : Nat} {d : α}, (x :: xs).getD (n + 1) d = xs.getD n d) ∧
    (∀ {α : Type} {β : Type} {f : α → β} {a : α} {l : List α}, List.map f (a :: l) = f a :: List.map f l) ∧
    (∀ {α : Type} {β : Type} {f : α → β}, List.map f [] = []) ∧
    (∀ {α : Type} {β : Type} (a : α) (f : α → β), Option.map f (some a) = some (f a)) ∧
    (∀ {α : Type} {β : Type} (f : α → β), Option.map f none = none) ∧
    (∀ {α : Type} {β : Type} (a : α) (f : α → Option β), (some a).bind f = f a) ∧
    (∀ {α : Type} {β : Type} (f : α → Option β), none.bind f = none) ∧ (false = true) = False ∧
    (∀ {α : Type}, (none : Option α).isNone = true) ∧
    (∀ {α : Type} {a : α}, (some a).isNone = false) ∧
    (∀ {α : Type} {a : α}, (some a).isSome = true) ∧
    (∀ {α : Type} {a b : α}, (bif true then a else b) = a) ∧
    (∀ {α : Type} {a b : α}, (bif false then a else b) = b) ∧
    (∀ {α : Type} {as : List α}, as.toArray.toList = as) ∧
    (∀ {α : Type} {xs : List α} {i : Nat}, xs.toArray[i]? = xs[i]?) ∧
    (∀ (c a b : Bool), (bif c then V.bool a else V.bool b) = V.bool (bif c then a else b)) ∧
    (∀ (c b : Bool), (bif c then true else b) = (c || b)) ∧
    (∀ (c b : Bool), (bif c then b else false) = (c && b)) ∧
    (∀ (g : Bool), (!g || g) = true) ∧
    (∀ (g h : Bool), (!(g && h) || g) = true) ∧
    (∀ (g : Bool), (!!g || !g) = true) ∧
    (∀ (b : Bool), (true && b) = b) ∧ (true == true) = true ∧ (true == false) = false ∧ (false == true) = false ∧ (false == false) = true ∧
    (∀ {α : Type} {a : α} {l : List α}, (a :: l)[0]? = some a) ∧
    (∀ {α : Type} {a : α} {i : Nat} {l : List α}, (a :: l)[i + 1]? = l[i]?) ∧
    (∀ (σ l : List AE), (σ ++ l)[σ.length]? = l[0]?) ∧
    (∀ (σ l : List AE) (k : Nat), (σ ++ l)[σ.length + k]? = l[k]?) ∧
    (∀ (σ l : List AE) (x : AE), (σ ++ l).set σ.length x = σ ++ l.set 0 x) ∧
    (∀ (σ l : List AE) (x : AE) (k : Nat), (σ ++ l).set (σ.length + k) x = σ ++ l.set k x) ∧
    (∀ {α : Type} {as bs : List α}, (as ++ bs).length = as.length + bs.length) ∧
    (∀ {α : Type} {a : α} {as : List α}, (a :: as).length = as.length + 1) ∧
    (∀ {α : Type}, ([] : List α).length = 0) ∧
    (∀ {α : Type} (as bs cs : List α), as ++ bs ++ cs = as ++ (bs ++ cs)) ∧
    (∀ {α : Type} {a : α} {as bs : List α}, a :: as ++ bs = a :: (as ++ bs)) ∧
    (∀ {α : Type} (as : List α), [] ++ as = as) ∧
    (∀ (n : Nat), 0 + n = n) ∧
    (∀ (n : Nat), n + 0 = n) ∧
    (∀ (n : Nat), n ≤ n) ∧
    (∀ {α : Type} {l : List α}, List.drop 0 l = l) ∧
    (∀ {α : Type} {a : α} {l : List α} {i : Nat}, List.drop (i + 1) (a :: l) = List.drop i l) ∧
    (∀ {α : Type} {l : List α}, List.take 0 l = []) ∧
    (∀ {α : Type} {a : α} {as : List α} {i : Nat}, List.take (i + 1) (a :: as) = a :: List.take i as) ∧
    (∀ {α : Type} {a : α} {n : Nat}, List.replicate (n + 1) a = a :: List.replicate n a) ∧
    (∀ {α : Type} {a : α}, List.replicate 0 a = []) ∧
    (∀ (n m k : Nat), n + m + k = n + (m + k)) ∧
    (∀ (sz : Nat), flat sz [] = true) ∧
    (∀ (sz : Nat) (x : List V) (xs : List (List V)), flat sz (x :: xs) = (x.length == sz && flat sz xs)) ∧ List.range 1 = [0] ∧ List.range 2 = [0, 1] ∧ List.range 3 = [0, 1, 2] ∧ List.range 4 = [0, 1, 2, 3] ∧ List.range 5 = [0, 1, 2, 3, 4] ∧ List.range 6 = [0, 1, 2, 3, 4, 5] ∧ List.range 7 = [0, 1, 2, 3, 4, 5, 6] ∧ List.range 8 = [0, 1, 2, 3, 4, 5, 6, 7] ∧
    (∀ (b : Bool), (false || b) = b) ∧
    (∀ (b : Bool), (b || true) = true) ∧
    (∀ (b : Bool), (true || b) = true) ∧
    (∀ (b : Bool), (b || false) = b) ∧
    (∀ (b : Bool), (b && true) = b) ∧
    (∀ (b : Bool), (false && b) = false) ∧
    (∀ (b : Bool), (b && false) = false) ∧ (!true) = false ∧ (!false) = true :=
  And.intro @List.set_cons_succ <|
  And.intro @List.set_cons_zero <|
  And.intro @List.getD_cons_zero <|
  And.intro @List.getD_cons_succ <|
  And.intro @List.map_cons <|
  And.intro @List.map_nil <|
  And.intro @Option.map_some <|
  And.intro @Option.map_none <|
  And.intro @Option.bind_some <|
  And.intro @Option.bind_none <|
  And.intro @Bool.false_eq_true <|
  And.intro @Option.isNone_none <|
  And.intro @Option.isNone_some <|
  And.intro @Option.isSome_some <|
  And.intro @Bool.cond_true <|
  And.intro @Bool.cond_false <|
  And.intro @List.toList_toArray <|
  And.intro @List.getElem?_toArray <|
  And.intro @cond_bool <|
  And.intro @cond_or <|
  And.intro @cond_and <|
  And.intro @g_self <|
  And.intro @g_and <|
  And.intro @g_not <|
  And.intro @Bool.true_and <|
  And.intro @tt_tt <|
  And.intro @tt_ff <|
  And.intro @ff_tt <|
  And.intro @ff_ff <|
  And.intro @List.getElem?_cons_zero <|
  And.intro @List.getElem?_cons_succ <|
  And.intro @getA0 <|
  And.intro @getAk <|
  And.intro @setA0 <|
  And.intro @setAk <|
  And.intro @List.length_append <|
  And.intro @List.length_cons <|
  And.intro @List.length_nil <|
  And.intro @List.append_assoc <|
  And.intro @List.cons_append <|
  And.intro @List.nil_append <|
  And.intro @Nat.zero_add <|
  And.intro @Nat.add_zero <|
  And.intro @Nat.le_refl <|
  And.intro @List.drop_zero <|
  And.intro @List.drop_succ_cons <|
  And.intro @List.take_zero <|
  And.intro @List.take_succ_cons <|
  And.intro @List.replicate_succ <|
  And.intro @List.replicate_zero <|
  And.intro @Nat.add_assoc <|
  And.intro @flat_nil <|
  And.intro @flat_cons <|
  And.intro @rg1 <|
  And.intro @rg2 <|
  And.intro @rg3 <|
  And.intro @rg4 <|
  And.intro @rg5 <|
  And.intro @rg6 <|
  And.intro @rg7 <|
  And.intro @rg8 <|
  And.intro @Bool.false_or <|
  And.intro @Bool.or_true <|
  And.intro @Bool.true_or <|
  And.intro @Bool.or_false <|
  And.intro @Bool.and_true <|
  And.intro @Bool.false_and <|
  And.intro @Bool.and_false <|
  And.intro @Bool.not_true @Bool.not_false
end Go.Proofs.YtfagngmikbmmhaaDoor.A
