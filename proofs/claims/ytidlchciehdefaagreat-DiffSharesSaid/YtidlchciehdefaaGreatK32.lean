/-
 Closed facts of the whole program that each row asks: proved once, by way of the head's letters.
-/
import Derived.JoinedOf
import Derived.KernelRfl
import Derived.Test.YtidlchciehdefaaGreatRows
set_option linter.unusedVariables false
set_option linter.unusedSimpArgs false
namespace Go.Proofs.YtidlchciehdefaaGreat
open Go
def initCodes : List Nat := [104, 97, 114, 110, 101, 115, 115, 32, 98, 49, 52, 54, 55, 54, 97, 102, 48, 55, 101, 57, 102, 98, 98, 56, 54, 51, 57, 48, 57, 101, 50, 97, 101, 48, 97, 97, 51, 51, 49, 55, 53, 57, 50, 52, 56, 49, 99, 102, 56, 48, 57, 101, 98, 49, 99, 101, 53, 57, 49, 100, 102, 101, 52, 49, 48, 49, 57, 55, 55, 99, 53, 55, 32, 99, 117, 116, 32, 97, 116, 32, 117, 110, 100, 101, 114, 115, 116, 117, 100, 121, 47, 117, 110, 100, 101, 114, 115, 116, 117, 100, 121, 108, 97, 119, 49, 51, 46, 73, 109, 97, 103, 101, 82, 101, 97, 100, 115, 32, 117, 110, 100, 101, 114, 115, 116, 117, 100, 121, 47, 117, 110, 100, 101, 114, 115, 116, 117, 100, 121, 108, 97, 119, 49, 51, 46, 73, 109, 97, 103, 101, 83, 117, 109, 115, 32, 117, 110, 100, 101, 114, 115, 116, 117, 100, 121, 47, 117, 110, 100, 101, 114, 115, 116, 117, 100, 121, 108, 97, 119, 49, 51, 46, 73, 109, 97, 103, 101, 82, 111, 111, 109, 32, 117, 110, 100, 101, 114, 115, 116, 117, 100, 121, 47, 117, 110, 100, 101, 114, 115, 116, 117, 100, 121, 108, 97, 119, 49, 51, 46, 73, 109, 97, 103, 101, 78, 97, 109, 101, 115, 32, 117, 110, 100, 101, 114, 115, 116, 117, 100, 121, 47, 117, 110, 100, 101, 114, 115, 116, 117, 100, 121, 108, 97, 119, 49, 55, 46, 68, 101, 108, 116, 97, 78, 97, 109, 101, 115, 32, 117, 110, 100, 101, 114, 115, 116, 117, 100, 121, 47, 117, 110, 100, 101, 114, 115, 116, 117, 100, 121, 108, 97, 119, 49, 55, 46, 68, 101, 108, 116, 97, 67, 104, 117, 110, 107, 115, 32, 117, 110, 100, 101, 114, 115, 116, 117, 100, 121, 47, 117, 110, 100, 101, 114, 115, 116, 117, 100, 121, 108, 97, 119, 49, 55, 46, 68, 101, 108, 116, 97, 82, 105, 103, 104, 116, 115, 32, 117, 110, 100, 101, 114, 115, 116, 117, 100, 121, 47, 117, 110, 100, 101, 114, 115, 116, 117, 100, 121, 108, 97, 119, 49, 55, 46, 68, 101, 108, 116, 97, 65, 112, 112, 108, 105, 101, 115, 32, 117, 110, 100, 101, 114, 115, 116, 117, 100, 121, 47, 117, 110, 100, 101, 114, 115, 116, 117, 100, 121, 108, 97, 119, 49, 55, 46, 68, 101, 108, 116, 97, 67, 97, 114, 114, 105, 101, 115, 32, 117, 110, 100, 101, 114, 115, 116, 117, 100, 121, 47, 117, 110, 100, 101, 114, 115, 116, 117, 100, 121, 108, 97, 119, 49, 55, 46, 68, 101, 108, 116, 97, 66, 97, 99, 107, 32, 117, 110, 100, 101, 114, 115, 116, 117, 100, 121, 47, 117, 110, 100, 101, 114, 115, 116, 117, 100, 121, 108, 97, 119, 49, 50, 46, 68, 105, 102, 102, 78, 97, 109, 101, 115, 32, 117, 110, 100, 101, 114, 115, 116, 117, 100, 121, 47, 117, 110, 100, 101, 114, 115, 116, 117, 100, 121, 108, 97, 119, 49, 50, 46, 68, 105, 102, 102, 83, 104, 97, 114, 101, 115, 32, 117, 110, 100, 101, 114, 115, 116, 117, 100, 121, 47, 117, 110, 100, 101, 114, 115, 116, 117, 100, 121, 108, 97, 119, 49, 51, 46, 73, 109, 97, 103, 101, 82, 117, 110, 115]
theorem init_eq : Tryz.prog.initOrder = String.ofList (initCodes.map Char.ofNat) := by kernel_rfl
theorem init_signs : Tryz.prog.initOrder.toList = initCodes.map Char.ofNat := by rw [init_eq, String.toList_ofList]
def cutSigns : List Char := [99, 117, 116].map Char.ofNat
theorem init_head : (behindMainWord (wordsSigns (initCodes.map Char.ofNat))).head? = some cutSigns := by kernel_rfl
theorem init_cons : ∃ rest, behindMainWord (wordsSigns (initCodes.map Char.ofNat)) = cutSigns :: rest := by
 have h := init_head
 generalize behindMainWord (wordsSigns (initCodes.map Char.ofNat)) = l at h
 cases l with
 | nil => simp at h
 | cons c r => exact ⟨r, by simpa using h⟩
theorem strip_cut (rest : List (List Char)) : stripLifts liftWords (cutSigns :: rest) = ([], cutSigns :: rest) := by kernel_rfl
section
variable (P : Program) (cs : List Char) (h : P.initOrder.toList = cs) (rest : List (List Char)) (hr : behindMainWord (wordsSigns cs) = cutSigns :: rest)
include h hr
theorem make_of : P.make = some .cut := by
 unfold Program.make
 rw [h, hr]
 have e1 : (cutSigns == "gc".toList) = false := by kernel_rfl
 have e2 : (cutSigns == "spec".toList) = false := by kernel_rfl
 have e3 : (cutSigns == "cut".toList) = true := by kernel_rfl
 simp only [e1, e2, e3, Bool.false_or, Bool.true_or, if_true]
 rfl
theorem lifts_of : P.liftsFinal = false := by
 unfold Program.liftsFinal Program.headLifts
 rw [h, hr, strip_cut]
 have e1 : (some cutSigns == some "carried".toList) = false := by kernel_rfl
 have e2 : (some cutSigns == some "cut".toList) = true := by kernel_rfl
 simp only [List.head?_cons, e1, e2, Bool.false_and, Bool.false_or, if_true]
 rfl
theorem enter_of (h1 : P.laysLater = false) (h2 : P.bearsReflect = false) (h3 : P.doorRows = []) : P.mayEnter = true := by
 have hd : P.doorFits [] = true := by unfold Program.doorFits; rw [h3]; rfl
 unfold Program.mayEnter
 rw [h, hr]
 have e2 : (some cutSigns == some "cut".toList) = true := by kernel_rfl
 have e3 : ([].contains "reflectrows" || !([] : List String).contains "leanrows") = true := by kernel_rfl
 simp only [strip_cut, List.head?_cons, e2, e3, h1, h2, hd, Bool.not_false, Bool.or_true, Bool.and_true]
end
theorem make_fact : Tryz.prog.make = some .cut := let ⟨rest, hr⟩ := init_cons; make_of _ _ init_signs rest hr
theorem lifts_fact : Tryz.prog.liftsFinal = false := let ⟨rest, hr⟩ := init_cons; lifts_of _ _ init_signs rest hr
theorem later_fact : Tryz.prog.laysLater = false := by kernel_rfl
theorem reflect_fact : Tryz.prog.bearsReflect = false := by kernel_rfl
theorem door_fact : Tryz.prog.doorRows = [] := by kernel_rfl
theorem enter_fact : Tryz.prog.mayEnter = true := let ⟨rest, hr⟩ := init_cons; enter_of _ _ init_signs rest hr later_fact reflect_fact door_fact
theorem maps_fact : mapsRowed Tryz.prog = true := by kernel_rfl
theorem keys_fact : Tryz.prog.plainKeys = true := by kernel_rfl
theorem heard_fact : Tryz.prog.stopsHeard = true := by kernel_rfl
end Go.Proofs.YtidlchciehdefaaGreat
