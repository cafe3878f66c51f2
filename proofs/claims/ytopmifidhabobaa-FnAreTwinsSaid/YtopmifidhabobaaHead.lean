/-
  What the rows' closed facts ask of the dump's head line, word by word. Printed by mkhead.py.
-/
import Derived.Test.YtopmifidhabobaaFrame
namespace Go.Proofs.Ytopmifidhabobaa
set_option linter.unusedVariables false
set_option linter.unusedSimpArgs false
set_option maxRecDepth 100000

def signs (l : List Nat) : List Char := List.map Char.ofNat l
def headSigns : List Char := signs [104, 97, 114, 110, 101, 115, 115, 32, 56, 56, 48, 50, 102, 102, 99, 53, 97, 53, 53, 54, 98, 49, 55, 49, 50, 52, 57, 97, 50, 49, 101, 55, 102, 51, 101, 56, 101, 102, 53, 97, 98, 49, 98, 99, 49, 50, 97, 99, 56, 101, 55, 101, 53, 50, 48, 102, 101, 98, 55, 51, 53, 102, 51, 53, 51, 56, 98, 97, 52, 51, 52, 99, 32, 99, 117, 116, 32, 97, 116, 32, 108, 111, 111, 112, 46, 101, 120, 97, 109, 112, 108, 101, 47, 111, 118, 101, 114, 108, 97, 112, 112, 105, 110, 103, 116, 101, 120, 116, 115, 47, 108, 97, 119, 115, 46, 70, 110, 69, 120, 97, 99, 116, 80, 108, 97, 99, 101, 115, 70, 111, 114, 32, 108, 111, 111, 112, 46, 101, 120, 97, 109, 112, 108, 101, 47, 111, 118, 101, 114, 108, 97, 112, 112, 105, 110, 103, 116, 101, 120, 116, 115, 47, 108, 97, 119, 115, 46, 70, 110, 65, 114, 101, 84, 119, 105, 110, 115, 32, 108, 111, 111, 112, 46, 101, 120, 97, 109, 112, 108, 101, 47, 111, 118, 101, 114, 108, 97, 112, 112, 105, 110, 103, 116, 101, 120, 116, 115, 47, 108, 97, 119, 115, 46, 70, 110, 80, 108, 97, 99, 101, 115, 70, 111, 114, 32, 108, 111, 111, 112, 46, 101, 120, 97, 109, 112, 108, 101, 47, 111, 118, 101, 114, 108, 97, 112, 112, 105, 110, 103, 116, 101, 120, 116, 115, 47, 108, 97, 119, 115, 46, 70, 110, 69, 120, 97, 99, 116, 68, 105, 115, 116, 97, 110, 99, 101, 115, 79, 102, 32, 108, 111, 111, 112, 46, 101, 120, 97, 109, 112, 108, 101, 47, 111, 118, 101, 114, 108, 97, 112, 112, 105, 110, 103, 116, 101, 120, 116, 115, 47, 108, 97, 119, 115, 46, 70, 110, 69, 120, 97, 99, 116, 73, 115, 82, 117, 108, 101, 114, 32, 108, 111, 111, 112, 46, 101, 120, 97, 109, 112, 108, 101, 47, 111, 118, 101, 114, 108, 97, 112, 112, 105, 110, 103, 116, 101, 120, 116, 115, 47, 108, 97, 119, 115, 46, 70, 110, 69, 120, 97, 99, 116, 65, 114, 101, 84, 119, 105, 110, 115, 32, 108, 111, 111, 112, 46, 101, 120, 97, 109, 112, 108, 101, 47, 111, 118, 101, 114, 108, 97, 112, 112, 105, 110, 103, 116, 101, 120, 116, 115, 47, 108, 97, 119, 115, 46, 70, 110, 68, 105, 115, 116, 97, 110, 99, 101, 115, 79, 102, 32, 108, 111, 111, 112, 46, 101, 120, 97, 109, 112, 108, 101, 47, 111, 118, 101, 114, 108, 97, 112, 112, 105, 110, 103, 116, 101, 120, 116, 115, 47, 108, 97, 119, 115, 46, 70, 110, 73, 115, 82, 117, 108, 101, 114, 32, 108, 111, 111, 112, 46, 101, 120, 97, 109, 112, 108, 101, 47, 111, 118, 101, 114, 108, 97, 112, 112, 105, 110, 103, 116, 101, 120, 116, 115, 47, 108, 97, 119, 115, 46, 70, 110, 69, 120, 97, 99, 116, 67, 117, 116, 66, 111, 116, 104, 32, 108, 111, 111, 112, 46, 101, 120, 97, 109, 112, 108, 101, 47, 111, 118, 101, 114, 108, 97, 112, 112, 105, 110, 103, 116, 101, 120, 116, 115, 47, 108, 97, 119, 115, 46, 70, 110, 67, 117, 116, 66, 111, 116, 104, 32, 108, 111, 111, 112, 46, 101, 120, 97, 109, 112, 108, 101, 47, 111, 118, 101, 114, 108, 97, 112, 112, 105, 110, 103, 116, 101, 120, 116, 115, 47, 108, 97, 119, 115, 46, 70, 110, 69, 120, 97, 99, 116, 79, 114, 100, 101, 114, 66, 111, 116, 104, 32, 108, 111, 111, 112, 46, 101, 120, 97, 109, 112, 108, 101, 47, 111, 118, 101, 114, 108, 97, 112, 112, 105, 110, 103, 116, 101, 120, 116, 115, 47, 108, 97, 119, 115, 46, 70, 110, 79, 114, 100, 101, 114, 66, 111, 116, 104]
theorem headText : Try.prog.initOrder = String.ofList headSigns := by kernel_rfl
theorem headList : Try.prog.initOrder.toList = headSigns := by rw [headText]; exact String.toList_ofList
def wordStep (c : Char) (ih : List (List Char)) : List (List Char) := if c = Char.ofNat 32 then [] :: ih else match ih with | w :: ws => (c :: w) :: ws | [] => [[c]]
theorem words_rec (l : List Char) : wordsSigns l = List.rec (motive := fun _ => List (List Char)) [[]] (fun c _ ih => wordStep c ih) l := by
  induction l with
  | nil => rfl
  | cons c r ih =>
    show wordsSigns (c :: r) = wordStep c (List.rec (motive := fun _ => List (List Char)) [[]] (fun c _ ih => wordStep c ih) r)
    rw [← ih]
    unfold wordStep
    by_cases h : c = Char.ofNat 32
    · subst h
      rw [if_pos rfl]
      rfl
    · rw [if_neg h]
      conv => lhs; unfold wordsSigns
      split
      · next e => cases e
      · next e => injection e with e1 e2; exact absurd e1 h
      · next e => injection e with e1 e2; subst e1 e2; rfl
def headWords : List (List Char) := [signs [104, 97, 114, 110, 101, 115, 115], signs [56, 56, 48, 50, 102, 102, 99, 53, 97, 53, 53, 54, 98, 49, 55, 49, 50, 52, 57, 97, 50, 49, 101, 55, 102, 51, 101, 56, 101, 102, 53, 97, 98, 49, 98, 99, 49, 50, 97, 99, 56, 101, 55, 101, 53, 50, 48, 102, 101, 98, 55, 51, 53, 102, 51, 53, 51, 56, 98, 97, 52, 51, 52, 99], signs [99, 117, 116], signs [97, 116], signs [108, 111, 111, 112, 46, 101, 120, 97, 109, 112, 108, 101, 47, 111, 118, 101, 114, 108, 97, 112, 112, 105, 110, 103, 116, 101, 120, 116, 115, 47, 108, 97, 119, 115, 46, 70, 110, 69, 120, 97, 99, 116, 80, 108, 97, 99, 101, 115, 70, 111, 114], signs [108, 111, 111, 112, 46, 101, 120, 97, 109, 112, 108, 101, 47, 111, 118, 101, 114, 108, 97, 112, 112, 105, 110, 103, 116, 101, 120, 116, 115, 47, 108, 97, 119, 115, 46, 70, 110, 65, 114, 101, 84, 119, 105, 110, 115], signs [108, 111, 111, 112, 46, 101, 120, 97, 109, 112, 108, 101, 47, 111, 118, 101, 114, 108, 97, 112, 112, 105, 110, 103, 116, 101, 120, 116, 115, 47, 108, 97, 119, 115, 46, 70, 110, 80, 108, 97, 99, 101, 115, 70, 111, 114], signs [108, 111, 111, 112, 46, 101, 120, 97, 109, 112, 108, 101, 47, 111, 118, 101, 114, 108, 97, 112, 112, 105, 110, 103, 116, 101, 120, 116, 115, 47, 108, 97, 119, 115, 46, 70, 110, 69, 120, 97, 99, 116, 68, 105, 115, 116, 97, 110, 99, 101, 115, 79, 102], signs [108, 111, 111, 112, 46, 101, 120, 97, 109, 112, 108, 101, 47, 111, 118, 101, 114, 108, 97, 112, 112, 105, 110, 103, 116, 101, 120, 116, 115, 47, 108, 97, 119, 115, 46, 70, 110, 69, 120, 97, 99, 116, 73, 115, 82, 117, 108, 101, 114], signs [108, 111, 111, 112, 46, 101, 120, 97, 109, 112, 108, 101, 47, 111, 118, 101, 114, 108, 97, 112, 112, 105, 110, 103, 116, 101, 120, 116, 115, 47, 108, 97, 119, 115, 46, 70, 110, 69, 120, 97, 99, 116, 65, 114, 101, 84, 119, 105, 110, 115], signs [108, 111, 111, 112, 46, 101, 120, 97, 109, 112, 108, 101, 47, 111, 118, 101, 114, 108, 97, 112, 112, 105, 110, 103, 116, 101, 120, 116, 115, 47, 108, 97, 119, 115, 46, 70, 110, 68, 105, 115, 116, 97, 110, 99, 101, 115, 79, 102], signs [108, 111, 111, 112, 46, 101, 120, 97, 109, 112, 108, 101, 47, 111, 118, 101, 114, 108, 97, 112, 112, 105, 110, 103, 116, 101, 120, 116, 115, 47, 108, 97, 119, 115, 46, 70, 110, 73, 115, 82, 117, 108, 101, 114], signs [108, 111, 111, 112, 46, 101, 120, 97, 109, 112, 108, 101, 47, 111, 118, 101, 114, 108, 97, 112, 112, 105, 110, 103, 116, 101, 120, 116, 115, 47, 108, 97, 119, 115, 46, 70, 110, 69, 120, 97, 99, 116, 67, 117, 116, 66, 111, 116, 104], signs [108, 111, 111, 112, 46, 101, 120, 97, 109, 112, 108, 101, 47, 111, 118, 101, 114, 108, 97, 112, 112, 105, 110, 103, 116, 101, 120, 116, 115, 47, 108, 97, 119, 115, 46, 70, 110, 67, 117, 116, 66, 111, 116, 104], signs [108, 111, 111, 112, 46, 101, 120, 97, 109, 112, 108, 101, 47, 111, 118, 101, 114, 108, 97, 112, 112, 105, 110, 103, 116, 101, 120, 116, 115, 47, 108, 97, 119, 115, 46, 70, 110, 69, 120, 97, 99, 116, 79, 114, 100, 101, 114, 66, 111, 116, 104], signs [108, 111, 111, 112, 46, 101, 120, 97, 109, 112, 108, 101, 47, 111, 118, 101, 114, 108, 97, 112, 112, 105, 110, 103, 116, 101, 120, 116, 115, 47, 108, 97, 119, 115, 46, 70, 110, 79, 114, 100, 101, 114, 66, 111, 116, 104]]
theorem headIs : wordsSigns Try.prog.initOrder.toList = headWords := by
  rw [headList, words_rec]
  kernel_rfl
theorem headCut : behindMainWord headWords = "cut".toList :: headWords.drop 3 := by kernel_rfl
theorem headBehind : behindMainWord (wordsSigns Try.prog.initOrder.toList) = "cut".toList :: headWords.drop 3 := (congrArg behindMainWord headIs).trans headCut
theorem strip_cut (rest : List (List Char)) : stripLifts liftWords ("cut".toList :: rest) = ([], "cut".toList :: rest) := by
  have h : ∀ os : List String, (∀ o ∈ os, ("cut".toList == o.toList) = false) → stripLifts os ("cut".toList :: rest) = ([], "cut".toList :: rest) := by
    intro os
    induction os with
    | nil => intro _; rfl
    | cons o os ih =>
      intro ho
      rw [stripLifts, if_neg (by rw [ho o (by simp)]; simp), ih fun x hx => ho x (by simp [hx])]
  refine h liftWords ?_
  have hd : liftWords.all (fun o => !("cut".toList == o.toList)) = true := by decide +kernel
  intro o ho
  have := List.all_eq_true.1 hd o ho
  simpa using this
theorem may_of (P : Program) (rest : List (List Char)) (h : behindMainWord (wordsSigns P.initOrder.toList) = "cut".toList :: rest) (h1 : P.laysLater = false) (h2 : P.bearsReflect = false) (h3 : P.doorFits [] = true) : P.mayEnter = true := by
  unfold Program.mayEnter
  rw [h]
  dsimp only
  rw [strip_cut, h1, h2, h3]
  have e : (("cut".toList :: rest).head? == some "cut".toList) = true := by rw [List.head?_cons]; exact beq_self_eq_true _
  simp [e]
theorem lifts_of (P : Program) (rest : List (List Char)) (h : behindMainWord (wordsSigns P.initOrder.toList) = "cut".toList :: rest) : P.liftsFinal = false := by
  unfold Program.liftsFinal Program.headLifts
  rw [h]
  dsimp only
  rw [strip_cut]
  have e : (("cut".toList :: rest).head? == some "carried".toList) = false := by rw [List.head?_cons]; exact (show (some "cut".toList == some "carried".toList) = false by decide +kernel)
  rw [e]
  simp
theorem make_of (P : Program) (rest : List (List Char)) (h : behindMainWord (wordsSigns P.initOrder.toList) = "cut".toList :: rest) : P.make = some .cut := by
  unfold Program.make
  rw [h]
  dsimp only
  rw [show ("cut".toList == "gc".toList || "cut".toList == "spec".toList) = false by decide +kernel]
  simp
theorem mayEnters : Try.prog.mayEnter = true := may_of _ _ headBehind (by kernel_rfl) (by kernel_rfl) (by kernel_rfl)
theorem liftsNot : Try.prog.liftsFinal = false := lifts_of _ _ headBehind
theorem makes : Try.prog.make = some .cut := make_of _ _ headBehind
end Go.Proofs.Ytopmifidhabobaa
