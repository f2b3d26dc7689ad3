/- The law's own runs. No statement of this seat is proved here. -/
import Derived.Test.YtnoekfkfinjfgaaGreatDoorYSwA
import Derived.KernelRfl
set_option autoImplicit false
set_option linter.unusedSectionVars false
set_option maxRecDepth 100000
noncomputable section
namespace Go.Proofs.YtnoekfkfinjfgaaGreatDoor.Dx
open Go

def F2 : Tr Fd := Tr.set p8 (Tr.set p7 FTa (some (.tab gl [en 6 2 0, en 6 2 1, en 6 2 2, en 6 2 3, en 6 2 4, en 6 2 5, ef 6 2]))) (some (.tab gl [wke]))
theorem r2 : lawS F2 2 (fun nx => .sl nx 0 2 none 1) = true := by kernel_rfl
def F4 : Tr Fd := Tr.set p8 (Tr.set p7 FTa (some (.tab gl [en 10 4 0, en 10 4 1, en 10 4 2, en 10 4 3, en 10 4 4, en 10 4 5, en 10 4 6, en 10 4 7, en 10 4 8, en 10 4 9, ef 10 4]))) (some (.tab gl [wke]))
theorem r4 : lawS F4 4 (fun nx => .sl nx 0 4 none 1) = true := by kernel_rfl
def F6 : Tr Fd := Tr.set p8 (Tr.set p7 FTa (some (.tab gl [en 14 6 0, en 14 6 1, en 14 6 2, en 14 6 3, en 14 6 4, en 14 6 5, en 14 6 6, en 14 6 7, en 14 6 8, en 14 6 9, en 14 6 10, en 14 6 11, en 14 6 12, en 14 6 13, ef 14 6]))) (some (.tab gl [wke]))
theorem r6 : lawS F6 6 (fun nx => .sl nx 0 6 none 1) = true := by kernel_rfl
def F8 : Tr Fd := Tr.set p8 (Tr.set p7 FTa (some (.tab gl [en 18 8 0, en 18 8 1, en 18 8 2, en 18 8 3, en 18 8 4, en 18 8 5, en 18 8 6, en 18 8 7, en 18 8 8, en 18 8 9, en 18 8 10, en 18 8 11, en 18 8 12, en 18 8 13, en 18 8 14, en 18 8 15, en 18 8 16, en 18 8 17, ef 18 8]))) (some (.tab gl [wke]))
theorem r8 : lawS F8 8 (fun nx => .sl nx 0 8 none 1) = true := by kernel_rfl
def F10 : Tr Fd := Tr.set p8 (Tr.set p7 FTa (some (.tab gl [en 22 10 0, en 22 10 1, en 22 10 2, en 22 10 3, en 22 10 4, en 22 10 5, en 22 10 6, en 22 10 7, en 22 10 8, en 22 10 9, en 22 10 10, en 22 10 11, en 22 10 12, en 22 10 13, en 22 10 14, en 22 10 15, en 22 10 16, en 22 10 17, en 22 10 18, en 22 10 19, en 22 10 20, en 22 10 21, ef 22 10]))) (some (.tab gl [wke]))
theorem r10 : lawS F10 10 (fun nx => .sl nx 0 10 none 1) = true := by kernel_rfl
def F12 : Tr Fd := Tr.set p8 (Tr.set p7 FTa (some (.tab gl [en 26 12 0, en 26 12 1, en 26 12 2, en 26 12 3, en 26 12 4, en 26 12 5, en 26 12 6, en 26 12 7, en 26 12 8, en 26 12 9, en 26 12 10, en 26 12 11, en 26 12 12, en 26 12 13, en 26 12 14, en 26 12 15, en 26 12 16, en 26 12 17, en 26 12 18, en 26 12 19, en 26 12 20, en 26 12 21, en 26 12 22, en 26 12 23, en 26 12 24, en 26 12 25, ef 26 12]))) (some (.tab gl [wke]))
theorem r12 : lawS F12 12 (fun nx => .sl nx 0 12 none 1) = true := by kernel_rfl
def F14 : Tr Fd := Tr.set p8 (Tr.set p7 FTa (some (.tab gl [en 30 14 0, en 30 14 1, en 30 14 2, en 30 14 3, en 30 14 4, en 30 14 5, en 30 14 6, en 30 14 7, en 30 14 8, en 30 14 9, en 30 14 10, en 30 14 11, en 30 14 12, en 30 14 13, en 30 14 14, en 30 14 15, en 30 14 16, en 30 14 17, en 30 14 18, en 30 14 19, en 30 14 20, en 30 14 21, en 30 14 22, en 30 14 23, en 30 14 24, en 30 14 25, en 30 14 26, en 30 14 27, en 30 14 28, en 30 14 29, ef 30 14]))) (some (.tab gl [wke]))
theorem r14 : lawS F14 14 (fun nx => .sl nx 0 14 none 1) = true := by kernel_rfl
def F16 : Tr Fd := Tr.set p8 (Tr.set p7 FTa (some (.tab gl [en 34 16 0, en 34 16 1, en 34 16 2, en 34 16 3, en 34 16 4, en 34 16 5, en 34 16 6, en 34 16 7, en 34 16 8, en 34 16 9, en 34 16 10, en 34 16 11, en 34 16 12, en 34 16 13, en 34 16 14, en 34 16 15, en 34 16 16, en 34 16 17, en 34 16 18, en 34 16 19, en 34 16 20, en 34 16 21, en 34 16 22, en 34 16 23, en 34 16 24, en 34 16 25, en 34 16 26, en 34 16 27, en 34 16 28, en 34 16 29, en 34 16 30, en 34 16 31, en 34 16 32, en 34 16 33, ef 34 16]))) (some (.tab gl [wke]))
theorem r16 : lawS F16 16 (fun nx => .sl nx 0 16 none 1) = true := by kernel_rfl
def F18 : Tr Fd := Tr.set p8 (Tr.set p7 FTa (some (.tab gl [en 38 18 0, en 38 18 1, en 38 18 2, en 38 18 3, en 38 18 4, en 38 18 5, en 38 18 6, en 38 18 7, en 38 18 8, en 38 18 9, en 38 18 10, en 38 18 11, en 38 18 12, en 38 18 13, en 38 18 14, en 38 18 15, en 38 18 16, en 38 18 17, en 38 18 18, en 38 18 19, en 38 18 20, en 38 18 21, en 38 18 22, en 38 18 23, en 38 18 24, en 38 18 25, en 38 18 26, en 38 18 27, en 38 18 28, en 38 18 29, en 38 18 30, en 38 18 31, en 38 18 32, en 38 18 33, en 38 18 34, en 38 18 35, en 38 18 36, en 38 18 37, ef 38 18]))) (some (.tab gl [wke]))
theorem r18 : lawS F18 18 (fun nx => .sl nx 0 18 none 1) = true := by kernel_rfl
def F20 : Tr Fd := Tr.set p8 (Tr.set p7 FTa (some (.tab gl [en 42 20 0, en 42 20 1, en 42 20 2, en 42 20 3, en 42 20 4, en 42 20 5, en 42 20 6, en 42 20 7, en 42 20 8, en 42 20 9, en 42 20 10, en 42 20 11, en 42 20 12, en 42 20 13, en 42 20 14, en 42 20 15, en 42 20 16, en 42 20 17, en 42 20 18, en 42 20 19, en 42 20 20, en 42 20 21, en 42 20 22, en 42 20 23, en 42 20 24, en 42 20 25, en 42 20 26, en 42 20 27, en 42 20 28, en 42 20 29, en 42 20 30, en 42 20 31, en 42 20 32, en 42 20 33, en 42 20 34, en 42 20 35, en 42 20 36, en 42 20 37, en 42 20 38, en 42 20 39, en 42 20 40, en 42 20 41, ef 42 20]))) (some (.tab gl [wke]))
theorem r20 : lawS F20 20 (fun nx => .sl nx 0 20 none 1) = true := by kernel_rfl
end Go.Proofs.YtnoekfkfinjfgaaGreatDoor.Dx
