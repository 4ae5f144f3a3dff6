/- The head of a translation's order of initialisation: only its first three words are read, the rest stays unread. -/
import GoSem.ClaimJoined
import Derived.KernelRfl
namespace Go.Hd

abbrev sp : Char := Char.ofNat 32

theorem words_ne : ∀ r : List Char, wordsSigns r ≠ []
  | [] => by simp [wordsSigns]
  | c :: r => by
    have ih := words_ne r
    unfold wordsSigns
    split
    · rename_i h; cases h
    · simp
    · rename_i c' r' hne he
      obtain ⟨rfl, rfl⟩ := List.cons.inj he
      cases h : wordsSigns r with
      | nil => exact absurd h ih
      | cons w ws => simp

theorem words_sp (r : List Char) : wordsSigns (sp :: r) = [] :: wordsSigns r := by
  rw [wordsSigns]

theorem words_cons {c : Char} (hc : c ≠ sp) {r w : List Char} {ws : List (List Char)} (h : wordsSigns r = w :: ws) : wordsSigns (c :: r) = (c :: w) :: ws := by
  rw [wordsSigns, h]
  exact hc

theorem words_append (w : List Char) (hw : ∀ c ∈ w, c ≠ sp) (r : List Char) : wordsSigns (w ++ sp :: r) = w :: wordsSigns r := by
  induction w with
  | nil => exact words_sp r
  | cons c w ih =>
    exact words_cons (hw c (by simp)) (ih fun d hd => hw d (by simp [hd]))

theorem behind {L rest s : List Char} (hL : L = "harness".toList ++ sp :: (s ++ sp :: ("cut".toList ++ sp :: rest))) (hs : isSumSigns s = true) (hn : ∀ c ∈ s, c ≠ sp) :
    behindMainWord (wordsSigns L) = "cut".toList :: wordsSigns rest := by
  rw [hL, words_append _ (by decide), words_append _ hn, words_append _ (by decide)]
  show (if (("harness".toList == "harness".toList || "harness".toList == "ownmain".toList) && isSumSigns s) = true then "cut".toList :: wordsSigns rest else _) = _
  rw [if_pos (by rw [hs]; decide)]

theorem strip_none (w : List Char) (r : List (List Char)) : ∀ os : List String, (∀ o ∈ os, (w == o.toList) = false) → stripLifts os (w :: r) = ([], w :: r)
  | [], _ => rfl
  | o :: os, h => by
    unfold stripLifts
    rw [if_neg (by rw [h o (by simp)]; decide)]
    exact strip_none w r os fun x hx => h x (by simp [hx])

theorem strip_cut (r : List (List Char)) : stripLifts liftWords ("cut".toList :: r) = ([], "cut".toList :: r) :=
  strip_none _ r _ (by decide)

section
variable {P : Program} {rest s : List Char}
theorem make (hL : P.initOrder.toList = "harness".toList ++ sp :: (s ++ sp :: ("cut".toList ++ sp :: rest))) (hs : isSumSigns s = true) (hn : ∀ c ∈ s, c ≠ sp) : P.make = some .cut := by
  unfold Program.make
  rw [behind hL hs hn]
  rfl

theorem lifts (hL : P.initOrder.toList = "harness".toList ++ sp :: (s ++ sp :: ("cut".toList ++ sp :: rest))) (hs : isSumSigns s = true) (hn : ∀ c ∈ s, c ≠ sp) : P.headLifts = [] := by
  unfold Program.headLifts
  rw [behind hL hs hn]
  simp only [strip_cut]
  rfl

theorem final (hL : P.initOrder.toList = "harness".toList ++ sp :: (s ++ sp :: ("cut".toList ++ sp :: rest))) (hs : isSumSigns s = true) (hn : ∀ c ∈ s, c ≠ sp) : P.liftsFinal = false := by
  unfold Program.liftsFinal
  rw [lifts hL hs hn, behind hL hs hn]
  rfl

theorem enter (hL : P.initOrder.toList = "harness".toList ++ sp :: (s ++ sp :: ("cut".toList ++ sp :: rest))) (hs : isSumSigns s = true) (hn : ∀ c ∈ s, c ≠ sp)
    (h1 : P.laysLater = false) (h2 : P.bearsReflect = false) (h3 : P.doorFits [] = true) : P.mayEnter = true := by
  unfold Program.mayEnter
  rw [behind hL hs hn]
  simp only [strip_cut, h1, h2, h3]
  have : ("cut".toList == "gc".toList) = false := by decide
  simp

theorem front {L rest s : List Char} {n : Nat} (h : L.take n = "harness".toList ++ sp :: (s ++ sp :: ("cut".toList ++ [sp]))) (hr : rest = L.drop n) :
    L = "harness".toList ++ sp :: (s ++ sp :: ("cut".toList ++ sp :: rest)) := by
  have := List.take_append_drop n L
  rw [h] at this
  rw [hr]
  simpa using this.symm
end
end Go.Hd
