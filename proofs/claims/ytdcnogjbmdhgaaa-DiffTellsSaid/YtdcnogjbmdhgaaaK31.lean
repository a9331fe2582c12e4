/-
 Closed facts of the whole program that each row asks: proved once, by way of the head's letters.
-/
import Derived.JoinedOf
import Derived.KernelRfl
import Derived.Test.YtdcnogjbmdhgaaaRows
set_option linter.unusedVariables false
set_option linter.unusedSimpArgs false
namespace Go.Proofs.Ytdcnogjbmdhgaaa
open Go
def initCodes : List Nat := [104, 97, 114, 110, 101, 115, 115, 32, 55, 56, 55, 52, 53, 56, 49, 101, 102, 57, 53, 52, 98, 99, 51, 50, 54, 99, 98, 51, 50, 52, 100, 52, 57, 99, 51, 49, 101, 55, 53, 48, 97, 50, 56, 101, 57, 57, 99, 100, 98, 56, 100, 48, 57, 48, 50, 98, 52, 50, 48, 98, 98, 51, 101, 52, 100, 57, 99, 51, 51, 48, 51, 51, 32, 99, 117, 116, 32, 97, 116, 32, 117, 110, 100, 101, 114, 115, 116, 117, 100, 121, 47, 117, 110, 100, 101, 114, 115, 116, 117, 100, 121, 108, 97, 119, 49, 50, 46, 68, 105, 102, 102, 87, 97, 121, 115, 32, 117, 110, 100, 101, 114, 115, 116, 117, 100, 121, 47, 117, 110, 100, 101, 114, 115, 116, 117, 100, 121, 108, 97, 119, 49, 50, 46, 68, 105, 102, 102, 84, 101, 108, 108, 115]
theorem init_eq : Try.prog.initOrder = String.ofList (initCodes.map Char.ofNat) := by kernel_rfl
theorem init_signs : Try.prog.initOrder.toList = initCodes.map Char.ofNat := by rw [init_eq, String.toList_ofList]
def cutSigns : List Char := [99, 117, 116].map Char.ofNat
theorem init_head : (behindMainWord (wordsSigns (initCodes.map Char.ofNat))).head? = some cutSigns := by kernel_rfl
theorem init_cons : ∃ rest, behindMainWord (wordsSigns (initCodes.map Char.ofNat)) = cutSigns :: rest := by
 have h := init_head
 generalize behindMainWord (wordsSigns (initCodes.map Char.ofNat)) = l at h
 cases l with
 | nil => simp at h
 | cons c r => exact ⟨r, by simpa using h⟩
theorem strip_cut (rest : List (List Char)) : stripLifts liftWords (cutSigns :: rest) = ([], cutSigns :: rest) := by kernel_rfl
section
variable (P : Program) (cs : List Char) (h : P.initOrder.toList = cs) (rest : List (List Char)) (hr : behindMainWord (wordsSigns cs) = cutSigns :: rest)
include h hr
theorem make_of : P.make = some .cut := by
 unfold Program.make
 rw [h, hr]
 have e1 : (cutSigns == "gc".toList) = false := by kernel_rfl
 have e2 : (cutSigns == "spec".toList) = false := by kernel_rfl
 have e3 : (cutSigns == "cut".toList) = true := by kernel_rfl
 simp only [e1, e2, e3, Bool.false_or, Bool.true_or, if_true]
 rfl
theorem lifts_of : P.liftsFinal = false := by
 unfold Program.liftsFinal Program.headLifts
 rw [h, hr, strip_cut]
 have e1 : (some cutSigns == some "carried".toList) = false := by kernel_rfl
 have e2 : (some cutSigns == some "cut".toList) = true := by kernel_rfl
 simp only [List.head?_cons, e1, e2, Bool.false_and, Bool.false_or, if_true]
 rfl
theorem enter_of (h1 : P.laysLater = false) (h2 : P.bearsReflect = false) (h3 : P.doorRows = []) : P.mayEnter = true := by
 have hd : P.doorFits [] = true := by unfold Program.doorFits; rw [h3]; rfl
 unfold Program.mayEnter
 rw [h, hr]
 have e2 : (some cutSigns == some "cut".toList) = true := by kernel_rfl
 have e3 : ([].contains "reflectrows" || !([] : List String).contains "leanrows") = true := by kernel_rfl
 simp only [strip_cut, List.head?_cons, e2, e3, h1, h2, hd, Bool.not_false, Bool.or_true, Bool.and_true]
end
theorem make_fact : Try.prog.make = some .cut := let ⟨rest, hr⟩ := init_cons; make_of _ _ init_signs rest hr
theorem lifts_fact : Try.prog.liftsFinal = false := let ⟨rest, hr⟩ := init_cons; lifts_of _ _ init_signs rest hr
theorem later_fact : Try.prog.laysLater = false := by kernel_rfl
theorem reflect_fact : Try.prog.bearsReflect = false := by kernel_rfl
theorem door_fact : Try.prog.doorRows = [] := by kernel_rfl
theorem enter_fact : Try.prog.mayEnter = true := let ⟨rest, hr⟩ := init_cons; enter_of _ _ init_signs rest hr later_fact reflect_fact door_fact
theorem maps_fact : mapsRowed Try.prog = true := by kernel_rfl
theorem keys_fact : Try.prog.plainKeys = true := by kernel_rfl
theorem heard_fact : Try.prog.stopsHeard = true := by kernel_rfl
end Go.Proofs.Ytdcnogjbmdhgaaa
