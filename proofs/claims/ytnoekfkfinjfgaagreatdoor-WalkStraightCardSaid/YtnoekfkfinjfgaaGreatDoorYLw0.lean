/- The law's own runs. No statement of this seat is proved here. -/
import Derived.Test.YtnoekfkfinjfgaaGreatDoorYSwA
import Derived.KernelRfl
set_option autoImplicit false
set_option linter.unusedSectionVars false
set_option maxRecDepth 100000
noncomputable section
namespace Go.Proofs.YtnoekfkfinjfgaaGreatDoor.Dx
open Go

def F1 : Tr Fd := Tr.set p8 (Tr.set p7 FTa (some (.tab gl [en 4 1 0, en 4 1 1, en 4 1 2, en 4 1 3, ef 4 1]))) (some (.tab gl [wke]))
theorem r1 : lawS F1 1 (fun nx => .sl nx 0 1 none 1) = true := by kernel_rfl
def F3 : Tr Fd := Tr.set p8 (Tr.set p7 FTa (some (.tab gl [en 8 3 0, en 8 3 1, en 8 3 2, en 8 3 3, en 8 3 4, en 8 3 5, en 8 3 6, en 8 3 7, ef 8 3]))) (some (.tab gl [wke]))
theorem r3 : lawS F3 3 (fun nx => .sl nx 0 3 none 1) = true := by kernel_rfl
def F5 : Tr Fd := Tr.set p8 (Tr.set p7 FTa (some (.tab gl [en 12 5 0, en 12 5 1, en 12 5 2, en 12 5 3, en 12 5 4, en 12 5 5, en 12 5 6, en 12 5 7, en 12 5 8, en 12 5 9, en 12 5 10, en 12 5 11, ef 12 5]))) (some (.tab gl [wke]))
theorem r5 : lawS F5 5 (fun nx => .sl nx 0 5 none 1) = true := by kernel_rfl
def F7 : Tr Fd := Tr.set p8 (Tr.set p7 FTa (some (.tab gl [en 16 7 0, en 16 7 1, en 16 7 2, en 16 7 3, en 16 7 4, en 16 7 5, en 16 7 6, en 16 7 7, en 16 7 8, en 16 7 9, en 16 7 10, en 16 7 11, en 16 7 12, en 16 7 13, en 16 7 14, en 16 7 15, ef 16 7]))) (some (.tab gl [wke]))
theorem r7 : lawS F7 7 (fun nx => .sl nx 0 7 none 1) = true := by kernel_rfl
def F9 : Tr Fd := Tr.set p8 (Tr.set p7 FTa (some (.tab gl [en 20 9 0, en 20 9 1, en 20 9 2, en 20 9 3, en 20 9 4, en 20 9 5, en 20 9 6, en 20 9 7, en 20 9 8, en 20 9 9, en 20 9 10, en 20 9 11, en 20 9 12, en 20 9 13, en 20 9 14, en 20 9 15, en 20 9 16, en 20 9 17, en 20 9 18, en 20 9 19, ef 20 9]))) (some (.tab gl [wke]))
theorem r9 : lawS F9 9 (fun nx => .sl nx 0 9 none 1) = true := by kernel_rfl
def F11 : Tr Fd := Tr.set p8 (Tr.set p7 FTa (some (.tab gl [en 24 11 0, en 24 11 1, en 24 11 2, en 24 11 3, en 24 11 4, en 24 11 5, en 24 11 6, en 24 11 7, en 24 11 8, en 24 11 9, en 24 11 10, en 24 11 11, en 24 11 12, en 24 11 13, en 24 11 14, en 24 11 15, en 24 11 16, en 24 11 17, en 24 11 18, en 24 11 19, en 24 11 20, en 24 11 21, en 24 11 22, en 24 11 23, ef 24 11]))) (some (.tab gl [wke]))
theorem r11 : lawS F11 11 (fun nx => .sl nx 0 11 none 1) = true := by kernel_rfl
def F13 : Tr Fd := Tr.set p8 (Tr.set p7 FTa (some (.tab gl [en 28 13 0, en 28 13 1, en 28 13 2, en 28 13 3, en 28 13 4, en 28 13 5, en 28 13 6, en 28 13 7, en 28 13 8, en 28 13 9, en 28 13 10, en 28 13 11, en 28 13 12, en 28 13 13, en 28 13 14, en 28 13 15, en 28 13 16, en 28 13 17, en 28 13 18, en 28 13 19, en 28 13 20, en 28 13 21, en 28 13 22, en 28 13 23, en 28 13 24, en 28 13 25, en 28 13 26, en 28 13 27, ef 28 13]))) (some (.tab gl [wke]))
theorem r13 : lawS F13 13 (fun nx => .sl nx 0 13 none 1) = true := by kernel_rfl
def F15 : Tr Fd := Tr.set p8 (Tr.set p7 FTa (some (.tab gl [en 32 15 0, en 32 15 1, en 32 15 2, en 32 15 3, en 32 15 4, en 32 15 5, en 32 15 6, en 32 15 7, en 32 15 8, en 32 15 9, en 32 15 10, en 32 15 11, en 32 15 12, en 32 15 13, en 32 15 14, en 32 15 15, en 32 15 16, en 32 15 17, en 32 15 18, en 32 15 19, en 32 15 20, en 32 15 21, en 32 15 22, en 32 15 23, en 32 15 24, en 32 15 25, en 32 15 26, en 32 15 27, en 32 15 28, en 32 15 29, en 32 15 30, en 32 15 31, ef 32 15]))) (some (.tab gl [wke]))
theorem r15 : lawS F15 15 (fun nx => .sl nx 0 15 none 1) = true := by kernel_rfl
def F17 : Tr Fd := Tr.set p8 (Tr.set p7 FTa (some (.tab gl [en 36 17 0, en 36 17 1, en 36 17 2, en 36 17 3, en 36 17 4, en 36 17 5, en 36 17 6, en 36 17 7, en 36 17 8, en 36 17 9, en 36 17 10, en 36 17 11, en 36 17 12, en 36 17 13, en 36 17 14, en 36 17 15, en 36 17 16, en 36 17 17, en 36 17 18, en 36 17 19, en 36 17 20, en 36 17 21, en 36 17 22, en 36 17 23, en 36 17 24, en 36 17 25, en 36 17 26, en 36 17 27, en 36 17 28, en 36 17 29, en 36 17 30, en 36 17 31, en 36 17 32, en 36 17 33, en 36 17 34, en 36 17 35, ef 36 17]))) (some (.tab gl [wke]))
theorem r17 : lawS F17 17 (fun nx => .sl nx 0 17 none 1) = true := by kernel_rfl
def F19 : Tr Fd := Tr.set p8 (Tr.set p7 FTa (some (.tab gl [en 40 19 0, en 40 19 1, en 40 19 2, en 40 19 3, en 40 19 4, en 40 19 5, en 40 19 6, en 40 19 7, en 40 19 8, en 40 19 9, en 40 19 10, en 40 19 11, en 40 19 12, en 40 19 13, en 40 19 14, en 40 19 15, en 40 19 16, en 40 19 17, en 40 19 18, en 40 19 19, en 40 19 20, en 40 19 21, en 40 19 22, en 40 19 23, en 40 19 24, en 40 19 25, en 40 19 26, en 40 19 27, en 40 19 28, en 40 19 29, en 40 19 30, en 40 19 31, en 40 19 32, en 40 19 33, en 40 19 34, en 40 19 35, en 40 19 36, en 40 19 37, en 40 19 38, en 40 19 39, ef 40 19]))) (some (.tab gl [wke]))
theorem r19 : lawS F19 19 (fun nx => .sl nx 0 19 none 1) = true := by kernel_rfl
theorem z0 : lawS FTa 0 (fun _ => .nils) = true := by kernel_rfl
theorem z1 : lawS FTa 0 (fun nx => .sl nx 0 0 none 1) = true := by kernel_rfl
theorem z2 : ∀ m, lawS FTa 0 (fun nx => .sl nx 0 (m + 21) none 1) = true := fun m => by kernel_rfl
end Go.Proofs.YtnoekfkfinjfgaaGreatDoor.Dx
