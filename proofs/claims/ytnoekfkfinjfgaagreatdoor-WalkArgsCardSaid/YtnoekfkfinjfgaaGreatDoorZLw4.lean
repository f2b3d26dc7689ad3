/- The law's own runs. No statement of this seat is proved here. -/
import Derived.Test.YtnoekfkfinjfgaaGreatDoorZLwA
import Derived.KernelRfl
set_option autoImplicit false
set_option maxRecDepth 100000
noncomputable section
namespace Go.Proofs.YtnoekfkfinjfgaaGreatDoor.Dx
open Go

def F12_1 : Tr Fd := Tr.set p8 (Tr.set p10 (Tr.set p7 FTa (some (.tab gl [e12, e12_1]))) (some (.tab gl [w12_0]))) (some (.tab gl [wke]))
theorem r12_1 : ∀ m, lawR F12_1 0 2 [(2, 1)] (fun nx => .sl nx 0 (m + 1) none 1) = true := fun m => by kernel_rfl
def F20_0_0 : Tr Fd := Tr.set p8 (Tr.set p10 (Tr.set p7 FTa (some (.tab gl [e20, e20_0, e20_0_0]))) (some (.tab gl [w20_0]))) (some (.tab gl [wke]))
theorem r20 : lawR F20_0_0 1 0 [] (fun nx => .sl nx 0 0 none 1) = true := by kernel_rfl
theorem z20 : lawR F20_0_0 1 0 [] (fun _ => .nils) = true := by kernel_rfl
theorem r20_0 : lawR F20_0_0 1 0 [(1, 0)] (fun nx => .sl nx 0 1 none 1) = true := by kernel_rfl
theorem r20_0_0 : ∀ m, lawR F20_0_0 1 0 [(1, 0), (1, 0)] (fun nx => .sl nx 0 (m + 2) none 1) = true := fun m => by kernel_rfl
def F23_0_0 : Tr Fd := Tr.set p8 (Tr.set p10 (Tr.set p7 FTa (some (.tab gl [e23, e23_0, e23_0_0]))) (some (.tab gl [w23_0]))) (some (.tab gl [wke]))
theorem r23 : lawR F23_0_0 1 3 [] (fun nx => .sl nx 0 0 none 1) = true := by kernel_rfl
theorem z23 : lawR F23_0_0 1 3 [] (fun _ => .nils) = true := by kernel_rfl
theorem r23_0 : lawR F23_0_0 1 3 [(2, 0)] (fun nx => .sl nx 0 1 none 1) = true := by kernel_rfl
theorem r23_0_0 : ∀ m, lawR F23_0_0 1 3 [(2, 0), (2, 0)] (fun nx => .sl nx 0 (m + 2) none 1) = true := fun m => by kernel_rfl
def F31_1_0_1 : Tr Fd := Tr.set p8 (Tr.set p10 (Tr.set p7 FTa (some (.tab gl [e31, e31_1, e31_1_0, e31_1_0_1]))) (some (.tab gl [w31_0, w31_1]))) (some (.tab gl [wke]))
theorem r31_1_0_1 : ∀ m, lawR F31_1_0_1 2 1 [(2, 1), (2, 0), (2, 1)] (fun nx => .sl nx 0 (m + 3) none 1) = true := fun m => by kernel_rfl
def F32_0_0_0 : Tr Fd := Tr.set p8 (Tr.set p10 (Tr.set p7 FTa (some (.tab gl [e32, e32_0, e32_0_0, e32_0_0_0]))) (some (.tab gl [w32_0]))) (some (.tab gl [wke]))
theorem r32 : lawR F32_0_0_0 2 2 [] (fun nx => .sl nx 0 0 none 1) = true := by kernel_rfl
theorem z32 : lawR F32_0_0_0 2 2 [] (fun _ => .nils) = true := by kernel_rfl
theorem r32_0 : lawR F32_0_0_0 2 2 [(2, 0)] (fun nx => .sl nx 0 1 none 1) = true := by kernel_rfl
theorem r32_0_0 : lawR F32_0_0_0 2 2 [(2, 0), (2, 0)] (fun nx => .sl nx 0 2 none 1) = true := by kernel_rfl
theorem r32_0_0_0 : ∀ m, lawR F32_0_0_0 2 2 [(2, 0), (2, 0), (2, 0)] (fun nx => .sl nx 0 (m + 3) none 1) = true := fun m => by kernel_rfl
def F32_1_2_2 : Tr Fd := Tr.set p8 (Tr.set p10 (Tr.set p7 FTa (some (.tab gl [e32, e32_1, e32_1_2, e32_1_2_2]))) (some (.tab gl [w32_0, w32_1, w32_2]))) (some (.tab gl [wke]))
theorem r32_1_2_2 : ∀ m, lawR F32_1_2_2 2 2 [(2, 1), (3, 2), (3, 2)] (fun nx => .sl nx 0 (m + 3) none 1) = true := fun m => by kernel_rfl
def F33_0_1_2 : Tr Fd := Tr.set p8 (Tr.set p10 (Tr.set p7 FTa (some (.tab gl [e33, e33_0, e33_0_1, e33_0_1_2]))) (some (.tab gl [w33_0, w33_1]))) (some (.tab gl [wke]))
theorem r33_0_1_2 : ∀ m, lawR F33_0_1_2 2 3 [(2, 0), (2, 1), (3, 2)] (fun nx => .sl nx 0 (m + 3) none 1) = true := fun m => by kernel_rfl
def F33_1_1_0 : Tr Fd := Tr.set p8 (Tr.set p10 (Tr.set p7 FTa (some (.tab gl [e33, e33_1, e33_1_1, e33_1_1_0]))) (some (.tab gl [w33_0, w33_1]))) (some (.tab gl [wke]))
theorem r33_1_1 : lawR F33_1_1_0 2 3 [(2, 1), (3, 1)] (fun nx => .sl nx 0 2 none 1) = true := by kernel_rfl
theorem r33_1_1_0 : ∀ m, lawR F33_1_1_0 2 3 [(2, 1), (3, 1), (3, 0)] (fun nx => .sl nx 0 (m + 3) none 1) = true := fun m => by kernel_rfl
def F33_1_2_3 : Tr Fd := Tr.set p8 (Tr.set p10 (Tr.set p7 FTa (some (.tab gl [e33, e33_1, e33_1_2, e33_1_2_3]))) (some (.tab gl [w33_0, w33_1, w33_2]))) (some (.tab gl [wke]))
theorem r33_1_2_3 : ∀ m, lawR F33_1_2_3 2 3 [(2, 1), (3, 2), (4, 3)] (fun nx => .sl nx 0 (m + 3) none 1) = true := fun m => by kernel_rfl
def F41_0_1_0_0 : Tr Fd := Tr.set p8 (Tr.set p10 (Tr.set p7 FTa (some (.tab gl [e41, e41_0, e41_0_1, e41_0_1_0, e41_0_1_0_0]))) (some (.tab gl [w41_0, w41_1]))) (some (.tab gl [wke]))
theorem r41_0_1 : lawR F41_0_1_0_0 3 1 [(2, 0), (2, 1)] (fun nx => .sl nx 0 2 none 1) = true := by kernel_rfl
theorem r41_0_1_0 : lawR F41_0_1_0_0 3 1 [(2, 0), (2, 1), (2, 0)] (fun nx => .sl nx 0 3 none 1) = true := by kernel_rfl
theorem r41_0_1_0_0 : ∀ m, lawR F41_0_1_0_0 3 1 [(2, 0), (2, 1), (2, 0), (2, 0)] (fun nx => .sl nx 0 (m + 4) none 1) = true := fun m => by kernel_rfl
def F41_1_0_1_1 : Tr Fd := Tr.set p8 (Tr.set p10 (Tr.set p7 FTa (some (.tab gl [e41, e41_1, e41_1_0, e41_1_0_1, e41_1_0_1_1]))) (some (.tab gl [w41_0, w41_1]))) (some (.tab gl [wke]))
theorem r41_1_0_1_1 : ∀ m, lawR F41_1_0_1_1 3 1 [(2, 1), (2, 0), (2, 1), (2, 1)] (fun nx => .sl nx 0 (m + 4) none 1) = true := fun m => by kernel_rfl
def F41_1_1_0_1 : Tr Fd := Tr.set p8 (Tr.set p10 (Tr.set p7 FTa (some (.tab gl [e41, e41_1, e41_1_1, e41_1_1_0, e41_1_1_0_1]))) (some (.tab gl [w41_0, w41_1]))) (some (.tab gl [wke]))
theorem r41_1_1_0_1 : ∀ m, lawR F41_1_1_0_1 3 1 [(2, 1), (2, 1), (2, 0), (2, 1)] (fun nx => .sl nx 0 (m + 4) none 1) = true := fun m => by kernel_rfl
def F42_0_0_0_1 : Tr Fd := Tr.set p8 (Tr.set p10 (Tr.set p7 FTa (some (.tab gl [e42, e42_0, e42_0_0, e42_0_0_0, e42_0_0_0_1]))) (some (.tab gl [w42_0]))) (some (.tab gl [wke]))
theorem r42_0_0_0_1 : ∀ m, lawR F42_0_0_0_1 3 2 [(2, 0), (2, 0), (2, 0), (2, 1)] (fun nx => .sl nx 0 (m + 4) none 1) = true := fun m => by kernel_rfl
def F42_0_0_1_2 : Tr Fd := Tr.set p8 (Tr.set p10 (Tr.set p7 FTa (some (.tab gl [e42, e42_0, e42_0_0, e42_0_0_1, e42_0_0_1_2]))) (some (.tab gl [w42_0, w42_1]))) (some (.tab gl [wke]))
theorem r42_0_0_1_2 : ∀ m, lawR F42_0_0_1_2 3 2 [(2, 0), (2, 0), (2, 1), (3, 2)] (fun nx => .sl nx 0 (m + 4) none 1) = true := fun m => by kernel_rfl
def F42_0_1_1_0 : Tr Fd := Tr.set p8 (Tr.set p10 (Tr.set p7 FTa (some (.tab gl [e42, e42_0, e42_0_1, e42_0_1_1, e42_0_1_1_0]))) (some (.tab gl [w42_0, w42_1]))) (some (.tab gl [wke]))
theorem r42_0_1_1 : lawR F42_0_1_1_0 3 2 [(2, 0), (2, 1), (3, 1)] (fun nx => .sl nx 0 3 none 1) = true := by kernel_rfl
theorem r42_0_1_1_0 : ∀ m, lawR F42_0_1_1_0 3 2 [(2, 0), (2, 1), (3, 1), (3, 0)] (fun nx => .sl nx 0 (m + 4) none 1) = true := fun m => by kernel_rfl
def F42_1_0_0_0 : Tr Fd := Tr.set p8 (Tr.set p10 (Tr.set p7 FTa (some (.tab gl [e42, e42_1, e42_1_0, e42_1_0_0, e42_1_0_0_0]))) (some (.tab gl [w42_0, w42_1]))) (some (.tab gl [wke]))
theorem r42_1 : lawR F42_1_0_0_0 3 2 [(2, 1)] (fun nx => .sl nx 0 1 none 1) = true := by kernel_rfl
theorem r42_1_0 : lawR F42_1_0_0_0 3 2 [(2, 1), (3, 0)] (fun nx => .sl nx 0 2 none 1) = true := by kernel_rfl
theorem r42_1_0_0 : lawR F42_1_0_0_0 3 2 [(2, 1), (3, 0), (3, 0)] (fun nx => .sl nx 0 3 none 1) = true := by kernel_rfl
theorem r42_1_0_0_0 : ∀ m, lawR F42_1_0_0_0 3 2 [(2, 1), (3, 0), (3, 0), (3, 0)] (fun nx => .sl nx 0 (m + 4) none 1) = true := fun m => by kernel_rfl
def F42_1_1_2_1 : Tr Fd := Tr.set p8 (Tr.set p10 (Tr.set p7 FTa (some (.tab gl [e42, e42_1, e42_1_1, e42_1_1_2, e42_1_1_2_1]))) (some (.tab gl [w42_0, w42_1, w42_2]))) (some (.tab gl [wke]))
theorem r42_1_1_2_1 : ∀ m, lawR F42_1_1_2_1 3 2 [(2, 1), (3, 1), (3, 2), (3, 1)] (fun nx => .sl nx 0 (m + 4) none 1) = true := fun m => by kernel_rfl
def F42_1_2_1_0 : Tr Fd := Tr.set p8 (Tr.set p10 (Tr.set p7 FTa (some (.tab gl [e42, e42_1, e42_1_2, e42_1_2_1, e42_1_2_1_0]))) (some (.tab gl [w42_0, w42_1, w42_2]))) (some (.tab gl [wke]))
theorem r42_1_2_1 : lawR F42_1_2_1_0 3 2 [(2, 1), (3, 2), (3, 1)] (fun nx => .sl nx 0 3 none 1) = true := by kernel_rfl
theorem r42_1_2_1_0 : ∀ m, lawR F42_1_2_1_0 3 2 [(2, 1), (3, 2), (3, 1), (3, 0)] (fun nx => .sl nx 0 (m + 4) none 1) = true := fun m => by kernel_rfl
def F43_0_0_1_0 : Tr Fd := Tr.set p8 (Tr.set p10 (Tr.set p7 FTa (some (.tab gl [e43, e43_0, e43_0_0, e43_0_0_1, e43_0_0_1_0]))) (some (.tab gl [w43_0, w43_1]))) (some (.tab gl [wke]))
theorem r43_0_0_1 : lawR F43_0_0_1_0 3 3 [(2, 0), (2, 0), (2, 1)] (fun nx => .sl nx 0 3 none 1) = true := by kernel_rfl
theorem r43_0_0_1_0 : ∀ m, lawR F43_0_0_1_0 3 3 [(2, 0), (2, 0), (2, 1), (3, 0)] (fun nx => .sl nx 0 (m + 4) none 1) = true := fun m => by kernel_rfl
def F43_0_1_1_2 : Tr Fd := Tr.set p8 (Tr.set p10 (Tr.set p7 FTa (some (.tab gl [e43, e43_0, e43_0_1, e43_0_1_1, e43_0_1_1_2]))) (some (.tab gl [w43_0, w43_1]))) (some (.tab gl [wke]))
theorem r43_0_1_1_2 : ∀ m, lawR F43_0_1_1_2 3 3 [(2, 0), (2, 1), (3, 1), (3, 2)] (fun nx => .sl nx 0 (m + 4) none 1) = true := fun m => by kernel_rfl
def F43_0_1_2_2 : Tr Fd := Tr.set p8 (Tr.set p10 (Tr.set p7 FTa (some (.tab gl [e43, e43_0, e43_0_1, e43_0_1_2, e43_0_1_2_2]))) (some (.tab gl [w43_0, w43_1, w43_2]))) (some (.tab gl [wke]))
theorem r43_0_1_2_2 : ∀ m, lawR F43_0_1_2_2 3 3 [(2, 0), (2, 1), (3, 2), (4, 2)] (fun nx => .sl nx 0 (m + 4) none 1) = true := fun m => by kernel_rfl
def F43_1_0_0_2 : Tr Fd := Tr.set p8 (Tr.set p10 (Tr.set p7 FTa (some (.tab gl [e43, e43_1, e43_1_0, e43_1_0_0, e43_1_0_0_2]))) (some (.tab gl [w43_0, w43_1]))) (some (.tab gl [wke]))
theorem r43_1_0_0_2 : ∀ m, lawR F43_1_0_0_2 3 3 [(2, 1), (3, 0), (3, 0), (3, 2)] (fun nx => .sl nx 0 (m + 4) none 1) = true := fun m => by kernel_rfl
def F43_1_0_2_1 : Tr Fd := Tr.set p8 (Tr.set p10 (Tr.set p7 FTa (some (.tab gl [e43, e43_1, e43_1_0, e43_1_0_2, e43_1_0_2_1]))) (some (.tab gl [w43_0, w43_1, w43_2]))) (some (.tab gl [wke]))
theorem r43_1_0_2_1 : ∀ m, lawR F43_1_0_2_1 3 3 [(2, 1), (3, 0), (3, 2), (4, 1)] (fun nx => .sl nx 0 (m + 4) none 1) = true := fun m => by kernel_rfl
def F43_1_1_0_0 : Tr Fd := Tr.set p8 (Tr.set p10 (Tr.set p7 FTa (some (.tab gl [e43, e43_1, e43_1_1, e43_1_1_0, e43_1_1_0_0]))) (some (.tab gl [w43_0, w43_1]))) (some (.tab gl [wke]))
theorem r43_1_1 : lawR F43_1_1_0_0 3 3 [(2, 1), (3, 1)] (fun nx => .sl nx 0 2 none 1) = true := by kernel_rfl
theorem r43_1_1_0 : lawR F43_1_1_0_0 3 3 [(2, 1), (3, 1), (3, 0)] (fun nx => .sl nx 0 3 none 1) = true := by kernel_rfl
theorem r43_1_1_0_0 : ∀ m, lawR F43_1_1_0_0 3 3 [(2, 1), (3, 1), (3, 0), (3, 0)] (fun nx => .sl nx 0 (m + 4) none 1) = true := fun m => by kernel_rfl
def F43_1_2_0_3 : Tr Fd := Tr.set p8 (Tr.set p10 (Tr.set p7 FTa (some (.tab gl [e43, e43_1, e43_1_2, e43_1_2_0, e43_1_2_0_3]))) (some (.tab gl [w43_0, w43_1, w43_2]))) (some (.tab gl [wke]))
theorem r43_1_2_0_3 : ∀ m, lawR F43_1_2_0_3 3 3 [(2, 1), (3, 2), (4, 0), (4, 3)] (fun nx => .sl nx 0 (m + 4) none 1) = true := fun m => by kernel_rfl
def F43_1_2_2_0 : Tr Fd := Tr.set p8 (Tr.set p10 (Tr.set p7 FTa (some (.tab gl [e43, e43_1, e43_1_2, e43_1_2_2, e43_1_2_2_0]))) (some (.tab gl [w43_0, w43_1, w43_2]))) (some (.tab gl [wke]))
theorem r43_1_2_2 : lawR F43_1_2_2_0 3 3 [(2, 1), (3, 2), (4, 2)] (fun nx => .sl nx 0 3 none 1) = true := by kernel_rfl
theorem r43_1_2_2_0 : ∀ m, lawR F43_1_2_2_0 3 3 [(2, 1), (3, 2), (4, 2), (4, 0)] (fun nx => .sl nx 0 (m + 4) none 1) = true := fun m => by kernel_rfl
end Go.Proofs.YtnoekfkfinjfgaaGreatDoor.Dx
