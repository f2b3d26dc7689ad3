/- How the small machine runs: every step hands on what is worked out. No statement of this seat is proved here. -/
import Derived.Test.YtnoekfkfinjfgaaGreatDoorUa
set_option autoImplicit false
set_option linter.unusedSimpArgs false
set_option linter.unusedVariables false
noncomputable section
namespace Go.Proofs.YtnoekfkfinjfgaaGreatDoor.Dx
open Go

def asB (v : DV) : Res → (Bool → Res) → Res :=
  DV.rec (motive_1 := fun _ => Res → (Bool → Res) → Res) (motive_2 := fun _ => PUnit) (fun F _ => F) (fun b _ K => K b) (fun _ _ F _ => F) (fun _ _ F _ => F) (fun F _ => F) (fun _ _ F _ => F) (fun F _ => F) (fun _ _ _ _ _ F _ => F) (fun _ _ _ F _ => F) (fun _ _ _ F _ => F) (fun F _ => F) (fun _ _ _ F _ => F) (fun F _ => F) (fun _ _ F _ => F) (fun _ _ F _ => F) (fun _ F _ => F) (fun F _ => F) (fun _ _ F _ => F) (fun _ _ F _ => F) (fun _ _ F _ => F) PUnit.unit (fun _ _ _ _ => PUnit.unit) v
theorem asB_eq (v : DV) (F : Res) (K : Bool → Res) : asB v F K = match v with | .bool b => K b | _ => F := by cases v <;> rfl
def asI (v : DV) : Res → (IntKind → Int → Res) → Res :=
  DV.rec (motive_1 := fun _ => Res → (IntKind → Int → Res) → Res) (motive_2 := fun _ => PUnit) (fun F _ => F) (fun _ F _ => F) (fun k n _ K => K k n) (fun _ _ F _ => F) (fun F _ => F) (fun _ _ F _ => F) (fun F _ => F) (fun _ _ _ _ _ F _ => F) (fun _ _ _ F _ => F) (fun _ _ _ F _ => F) (fun F _ => F) (fun _ _ _ F _ => F) (fun F _ => F) (fun _ _ F _ => F) (fun _ _ F _ => F) (fun _ F _ => F) (fun F _ => F) (fun _ _ F _ => F) (fun _ _ F _ => F) (fun _ _ F _ => F) PUnit.unit (fun _ _ _ _ => PUnit.unit) v
theorem asI_eq (v : DV) (F : Res) (K : IntKind → Int → Res) : asI v F K = match v with | .int k n => K k n | _ => F := by cases v <;> rfl
def asS (v : DV) : Res → (Nat → Nat → Res) → Res :=
  DV.rec (motive_1 := fun _ => Res → (Nat → Nat → Res) → Res) (motive_2 := fun _ => PUnit) (fun F _ => F) (fun _ F _ => F) (fun _ _ F _ => F) (fun n c _ K => K n c) (fun F _ => F) (fun _ _ F _ => F) (fun F _ => F) (fun _ _ _ _ _ F _ => F) (fun _ _ _ F _ => F) (fun _ _ _ F _ => F) (fun F _ => F) (fun _ _ _ F _ => F) (fun F _ => F) (fun _ _ F _ => F) (fun _ _ F _ => F) (fun _ F _ => F) (fun F _ => F) (fun _ _ F _ => F) (fun _ _ F _ => F) (fun _ _ F _ => F) PUnit.unit (fun _ _ _ _ => PUnit.unit) v
theorem asS_eq (v : DV) (F : Res) (K : Nat → Nat → Res) : asS v F K = match v with | .str n c => K n c | _ => F := by cases v <;> rfl
def asP (v : DV) : Res → (P → Nat → Res) → Res :=
  DV.rec (motive_1 := fun _ => Res → (P → Nat → Res) → Res) (motive_2 := fun _ => PUnit) (fun F _ => F) (fun _ F _ => F) (fun _ _ F _ => F) (fun _ _ F _ => F) (fun F _ => F) (fun k o _ K => K k o) (fun F _ => F) (fun _ _ _ _ _ F _ => F) (fun _ _ _ F _ => F) (fun _ _ _ F _ => F) (fun F _ => F) (fun _ _ _ F _ => F) (fun F _ => F) (fun _ _ F _ => F) (fun _ _ F _ => F) (fun _ F _ => F) (fun F _ => F) (fun _ _ F _ => F) (fun _ _ F _ => F) (fun _ _ F _ => F) PUnit.unit (fun _ _ _ _ => PUnit.unit) v
theorem asP_eq (v : DV) (F : Res) (K : P → Nat → Res) : asP v F K = match v with | .ptr k o => K k o | _ => F := by cases v <;> rfl
def asSl (v : DV) : Res → (P → Nat → Nat → Option Nat → Nat → Res) → Res :=
  DV.rec (motive_1 := fun _ => Res → (P → Nat → Nat → Option Nat → Nat → Res) → Res) (motive_2 := fun _ => PUnit) (fun F _ => F) (fun _ F _ => F) (fun _ _ F _ => F) (fun _ _ F _ => F) (fun F _ => F) (fun _ _ F _ => F) (fun F _ => F) (fun k o n c sz _ K => K k o n c sz) (fun _ _ _ F _ => F) (fun _ _ _ F _ => F) (fun F _ => F) (fun _ _ _ F _ => F) (fun F _ => F) (fun _ _ F _ => F) (fun _ _ F _ => F) (fun _ F _ => F) (fun F _ => F) (fun _ _ F _ => F) (fun _ _ F _ => F) (fun _ _ F _ => F) PUnit.unit (fun _ _ _ _ => PUnit.unit) v
theorem asSl_eq (v : DV) (F : Res) (K : P → Nat → Nat → Option Nat → Nat → Res) : asSl v F K = match v with | .sl k o n c sz => K k o n c sz | _ => F := by cases v <;> rfl
def asF (v : DV) : Res → (P → List DV → Res) → Res :=
  DV.rec (motive_1 := fun _ => Res → (P → List DV → Res) → Res) (motive_2 := fun _ => PUnit) (fun F _ => F) (fun _ F _ => F) (fun _ _ F _ => F) (fun _ _ F _ => F) (fun F _ => F) (fun _ _ F _ => F) (fun F _ => F) (fun _ _ _ _ _ F _ => F) (fun f cs _ _ K => K f cs) (fun _ _ _ F _ => F) (fun F _ => F) (fun _ _ _ F _ => F) (fun F _ => F) (fun _ _ F _ => F) (fun _ _ F _ => F) (fun _ F _ => F) (fun F _ => F) (fun _ _ F _ => F) (fun _ _ F _ => F) (fun _ _ F _ => F) PUnit.unit (fun _ _ _ _ => PUnit.unit) v
theorem asF_eq (v : DV) (F : Res) (K : P → List DV → Res) : asF v F K = match v with | .fn f cs => K f cs | _ => F := by cases v <;> rfl
def asBf (v : DV) : Res → (P → List DV → Res) → Res :=
  DV.rec (motive_1 := fun _ => Res → (P → List DV → Res) → Res) (motive_2 := fun _ => PUnit) (fun F _ => F) (fun _ F _ => F) (fun _ _ F _ => F) (fun _ _ F _ => F) (fun F _ => F) (fun _ _ F _ => F) (fun F _ => F) (fun _ _ _ _ _ F _ => F) (fun _ _ _ F _ => F) (fun f cs _ _ K => K f cs) (fun F _ => F) (fun _ _ _ F _ => F) (fun F _ => F) (fun _ _ F _ => F) (fun _ _ F _ => F) (fun _ F _ => F) (fun F _ => F) (fun _ _ F _ => F) (fun _ _ F _ => F) (fun _ _ F _ => F) PUnit.unit (fun _ _ _ _ => PUnit.unit) v
theorem asBf_eq (v : DV) (F : Res) (K : P → List DV → Res) : asBf v F K = match v with | .bf f cs => K f cs | _ => F := by cases v <;> rfl
def asA (v : DV) : Res → (List DV → Res) → Res :=
  DV.rec (motive_1 := fun _ => Res → (List DV → Res) → Res) (motive_2 := fun _ => PUnit) (fun F _ => F) (fun _ F _ => F) (fun _ _ F _ => F) (fun _ _ F _ => F) (fun F _ => F) (fun _ _ F _ => F) (fun F _ => F) (fun _ _ _ _ _ F _ => F) (fun _ _ _ F _ => F) (fun _ _ _ F _ => F) (fun F _ => F) (fun _ _ _ F _ => F) (fun F _ => F) (fun l _ _ K => K l) (fun _ _ F _ => F) (fun _ F _ => F) (fun F _ => F) (fun _ _ F _ => F) (fun _ _ F _ => F) (fun _ _ F _ => F) PUnit.unit (fun _ _ _ _ => PUnit.unit) v
theorem asA_eq (v : DV) (F : Res) (K : List DV → Res) : asA v F K = match v with | .agg l => K l | _ => F := by cases v <;> rfl
def asT (v : DV) : Res → (List DV → Res) → Res :=
  DV.rec (motive_1 := fun _ => Res → (List DV → Res) → Res) (motive_2 := fun _ => PUnit) (fun F _ => F) (fun _ F _ => F) (fun _ _ F _ => F) (fun _ _ F _ => F) (fun F _ => F) (fun _ _ F _ => F) (fun F _ => F) (fun _ _ _ _ _ F _ => F) (fun _ _ _ F _ => F) (fun _ _ _ F _ => F) (fun F _ => F) (fun _ _ _ F _ => F) (fun F _ => F) (fun _ _ F _ => F) (fun l _ _ K => K l) (fun _ F _ => F) (fun F _ => F) (fun _ _ F _ => F) (fun _ _ F _ => F) (fun _ _ F _ => F) PUnit.unit (fun _ _ _ _ => PUnit.unit) v
theorem asT_eq (v : DV) (F : Res) (K : List DV → Res) : asT v F K = match v with | .tup l => K l | _ => F := by cases v <;> rfl
def asM (v : DV) : Res → (P → Res) → Res :=
  DV.rec (motive_1 := fun _ => Res → (P → Res) → Res) (motive_2 := fun _ => PUnit) (fun F _ => F) (fun _ F _ => F) (fun _ _ F _ => F) (fun _ _ F _ => F) (fun F _ => F) (fun _ _ F _ => F) (fun F _ => F) (fun _ _ _ _ _ F _ => F) (fun _ _ _ F _ => F) (fun _ _ _ F _ => F) (fun F _ => F) (fun _ _ _ F _ => F) (fun F _ => F) (fun _ _ F _ => F) (fun _ _ F _ => F) (fun k _ K => K k) (fun F _ => F) (fun _ _ F _ => F) (fun _ _ F _ => F) (fun _ _ F _ => F) PUnit.unit (fun _ _ _ _ => PUnit.unit) v
theorem asM_eq (v : DV) (F : Res) (K : P → Res) : asM v F K = match v with | .mp k => K k | _ => F := by cases v <;> rfl
def asV (v : DV) : Res → (List DV → Res) → Res :=
  DV.rec (motive_1 := fun _ => Res → (List DV → Res) → Res) (motive_2 := fun _ => PUnit) (fun F _ => F) (fun _ F _ => F) (fun _ _ F _ => F) (fun _ _ F _ => F) (fun F _ => F) (fun _ _ F _ => F) (fun F _ => F) (fun _ _ _ _ _ F _ => F) (fun _ _ _ F _ => F) (fun _ _ _ F _ => F) (fun F _ => F) (fun _ _ _ F _ => F) (fun F _ => F) (fun _ _ F _ => F) (fun _ _ F _ => F) (fun _ F _ => F) (fun F _ => F) (fun l _ _ K => K l) (fun _ _ F _ => F) (fun _ _ F _ => F) PUnit.unit (fun _ _ _ _ => PUnit.unit) v
theorem asV_eq (v : DV) (F : Res) (K : List DV → Res) : asV v F K = match v with | .var l => K l | _ => F := by cases v <;> rfl
def asFl (v : DV) : Res → (P → Nat → Res) → Res :=
  DV.rec (motive_1 := fun _ => Res → (P → Nat → Res) → Res) (motive_2 := fun _ => PUnit) (fun F _ => F) (fun _ F _ => F) (fun _ _ F _ => F) (fun _ _ F _ => F) (fun F _ => F) (fun _ _ F _ => F) (fun F _ => F) (fun _ _ _ _ _ F _ => F) (fun _ _ _ F _ => F) (fun _ _ _ F _ => F) (fun F _ => F) (fun _ _ _ F _ => F) (fun F _ => F) (fun _ _ F _ => F) (fun _ _ F _ => F) (fun _ F _ => F) (fun F _ => F) (fun _ _ F _ => F) (fun p o _ K => K p o) (fun _ _ F _ => F) PUnit.unit (fun _ _ _ _ => PUnit.unit) v
theorem asFl_eq (v : DV) (F : Res) (K : P → Nat → Res) : asFl v F K = match v with | .fld p o => K p o | _ => F := by cases v <;> rfl
def asSy (v : DV) : Res → (Bool → List (Nat × Nat) → Res) → Res :=
  DV.rec (motive_1 := fun _ => Res → (Bool → List (Nat × Nat) → Res) → Res) (motive_2 := fun _ => PUnit) (fun F _ => F) (fun _ F _ => F) (fun _ _ F _ => F) (fun _ _ F _ => F) (fun F _ => F) (fun _ _ F _ => F) (fun F _ => F) (fun _ _ _ _ _ F _ => F) (fun _ _ _ F _ => F) (fun _ _ _ F _ => F) (fun F _ => F) (fun _ _ _ F _ => F) (fun F _ => F) (fun _ _ F _ => F) (fun _ _ F _ => F) (fun _ F _ => F) (fun F _ => F) (fun _ _ F _ => F) (fun _ _ F _ => F) (fun u t _ K => K u t) PUnit.unit (fun _ _ _ _ => PUnit.unit) v
theorem asSy_eq (v : DV) (F : Res) (K : Bool → List (Nat × Nat) → Res) : asSy v F K = match v with | .sy u t => K u t | _ => F := by cases v <;> rfl
/-- A temporary's own variable is told by its place. -/
def place (v : DV) : P → DV :=
  DV.rec (motive_1 := fun _ => P → DV) (motive_2 := fun _ => PUnit) (fun _ => .unk) (fun b _ => .bool b) (fun k n _ => .int k n) (fun n c _ => .str n c) (fun _ => .nilp) (fun k o _ => .ptr k o) (fun _ => .nils) (fun k o n c sz _ => .sl k o n c sz) (fun f cs _ _ => .fn f cs) (fun f cs _ _ => .bf f cs) (fun _ => .nilf) (fun t v _ _ => .ifc t v) (fun _ => .nili) (fun l _ _ => .agg l) (fun l _ _ => .tup l) (fun k _ => .mp k) (fun _ => .nilm) (fun _ _ p => .fld p (nat_lit 0)) (fun p o _ => .fld p o) (fun u t _ => .sy u t) PUnit.unit (fun _ _ _ _ => PUnit.unit) v
theorem place_eq (v : DV) (p : P) : place v p = match v with | .var _ => .fld p 0 | v => v := by cases v <;> rfl
/-- What may leave the frame. -/
def outer (v : DV) : Unit → DV :=
  DV.rec (motive_1 := fun _ => Unit → DV) (motive_2 := fun _ => PUnit) (fun _ => .unk) (fun b _ => .bool b) (fun k n _ => .int k n) (fun n c _ => .str n c) (fun _ => .nilp) (fun k o _ => .ptr k o) (fun _ => .nils) (fun k o n c sz _ => .sl k o n c sz) (fun f cs _ _ => .fn f cs) (fun f cs _ _ => .bf f cs) (fun _ => .nilf) (fun t v _ _ => .ifc t v) (fun _ => .nili) (fun l _ _ => .agg l) (fun l _ _ => .tup l) (fun k _ => .mp k) (fun _ => .nilm) (fun _ _ _ => .unk) (fun _ _ _ => .unk) (fun u t _ => .sy u t) PUnit.unit (fun _ _ _ _ => PUnit.unit) v
theorem outer_eq (v : DV) : outer v () = match v with | .var _ => .unk | .fld _ _ => .unk | v => v := by cases v <;> rfl
/-- A value, worked out to its head. -/
def fV (v : DV) : (DV → Res) → Res :=
  DV.rec (motive_1 := fun _ => (DV → Res) → Res) (motive_2 := fun _ => PUnit) (fun K => K (.unk)) (fun b K => K (.bool b)) (fun k n K => K (.int k n)) (fun n c K => K (.str n c)) (fun K => K (.nilp)) (fun k o K => K (.ptr k o)) (fun K => K (.nils)) (fun k o n c sz K => K (.sl k o n c sz)) (fun f cs _ K => K (.fn f cs)) (fun f cs _ K => K (.bf f cs)) (fun K => K (.nilf)) (fun t v _ K => K (.ifc t v)) (fun K => K (.nili)) (fun l _ K => K (.agg l)) (fun l _ K => K (.tup l)) (fun k K => K (.mp k)) (fun K => K (.nilm)) (fun l _ K => K (.var l)) (fun p o K => K (.fld p o)) (fun u t K => K (.sy u t)) PUnit.unit (fun _ _ _ _ => PUnit.unit) v
theorem fV_eq (v : DV) (K : DV → Res) : fV v K = K v := by cases v <;> rfl
/-- What may leave the frame, worked out. -/
def oV (v : DV) : (DV → Res) → Res :=
  DV.rec (motive_1 := fun _ => (DV → Res) → Res) (motive_2 := fun _ => PUnit) (fun K => K (.unk)) (fun b K => K (.bool b)) (fun k n K => K (.int k n)) (fun n c K => K (.str n c)) (fun K => K (.nilp)) (fun k o K => K (.ptr k o)) (fun K => K (.nils)) (fun k o n c sz K => K (.sl k o n c sz)) (fun f cs _ K => K (.fn f cs)) (fun f cs _ K => K (.bf f cs)) (fun K => K (.nilf)) (fun t v _ K => K (.ifc t v)) (fun K => K (.nili)) (fun l _ K => K (.agg l)) (fun l _ K => K (.tup l)) (fun k K => K (.mp k)) (fun K => K (.nilm)) (fun _ _ K => K .unk) (fun _ _ K => K .unk) (fun u t K => K (.sy u t)) PUnit.unit (fun _ _ _ _ => PUnit.unit) v
theorem oV_eq (v : DV) (K : DV → Res) : oV v K = K (outer v ()) := by cases v <;> rfl
def cellsK (v : DV) : Res → (List DV → Res) → Res :=
  DV.rec (motive_1 := fun _ => Res → (List DV → Res) → Res) (motive_2 := fun _ => PUnit) (fun F _ => F) (fun b _ K => K [.bool b]) (fun k n _ K => K [.int k n]) (fun n c _ K => K [.str n c]) (fun _ K => K [.nilp]) (fun k o _ K => K [.ptr k o]) (fun _ K => K [.nils]) (fun k o n c sz _ K => K [.sl k o n c sz]) (fun f cs _ _ K => K [.fn f cs]) (fun f cs _ _ K => K [.bf f cs]) (fun _ K => K [.nilf]) (fun t v _ _ K => K [.ifc t v]) (fun _ K => K [.nili]) (fun l _ _ K => K l) (fun _ _ F _ => F) (fun k _ K => K [.mp k]) (fun _ K => K [.nilm]) (fun _ _ F _ => F) (fun _ _ F _ => F) (fun u t _ K => K [.sy u t]) PUnit.unit (fun _ _ _ _ => PUnit.unit) v
/-- The cells of a value, where they are known. -/
def DV.cells : DV → Option (List DV) | .agg l => some l | .unk => none | .tup _ => none | .var _ => none | .fld _ _ => none | v => some [v]
theorem cellsK_eq (v : DV) (F : Res) (K : List DV → Res) : cellsK v F K = match v.cells with | some l => K l | none => F := by cases v <;> rfl
/-- What is known not to be nil. -/
def solid (v : DV) : Res → (DV → Res) → Res :=
  DV.rec (motive_1 := fun _ => Res → (DV → Res) → Res) (motive_2 := fun _ => PUnit) (fun F _ => F) (fun b _ K => K (.bool b)) (fun k n _ K => K (.int k n)) (fun n c _ K => K (.str n c)) (fun F _ => F) (fun k o _ K => K (.ptr k o)) (fun _ K => K (.nils)) (fun k o n c sz _ K => K (.sl k o n c sz)) (fun f cs _ _ K => K (.fn f cs)) (fun f cs _ _ K => K (.bf f cs)) (fun F _ => F) (fun t v _ _ K => K (.ifc t v)) (fun F _ => F) (fun l _ _ K => K (.agg l)) (fun l _ _ K => K (.tup l)) (fun k _ K => K (.mp k)) (fun _ K => K (.nilm)) (fun _ _ F _ => F) (fun p o _ K => K (.fld p o)) (fun u t _ K => K (.sy u t)) PUnit.unit (fun _ _ _ _ => PUnit.unit) v
theorem solid_eq (v : DV) (F : Res) (K : DV → Res) : solid v F K = match v with | .unk => F | .nilp => F | .nilf => F | .nili => F | .var _ => F | v => K v := by cases v <;> rfl
/-- Is it nil? -/
def nilK (v : DV) : Res → (Bool → Res) → Res :=
  DV.rec (motive_1 := fun _ => Res → (Bool → Res) → Res) (motive_2 := fun _ => PUnit) (fun F _ => F) (fun _ F _ => F) (fun _ _ F _ => F) (fun _ _ F _ => F) (fun _ K => K true) (fun _ _ _ K => K false) (fun _ K => K true) (fun _ _ _ _ _ _ K => K false) (fun _ _ _ _ K => K false) (fun _ _ _ _ K => K false) (fun _ K => K true) (fun _ _ _ _ K => K false) (fun _ K => K true) (fun _ _ F _ => F) (fun _ _ F _ => F) (fun _ _ K => K false) (fun _ K => K true) (fun _ _ F _ => F) (fun _ _ F _ => F) (fun _ _ F _ => F) PUnit.unit (fun _ _ _ _ => PUnit.unit) v
theorem nilK_eq (v : DV) (F : Res) (K : Bool → Res) : nilK v F K = match v with | .nilp => K true | .nils => K true | .nilf => K true | .nili => K true | .nilm => K true | .ptr _ _ => K false | .sl _ _ _ _ _ => K false | .fn _ _ => K false | .bf _ _ => K false | .ifc _ _ => K false | .mp _ => K false | _ => F := by cases v <;> rfl
/-- Is it a nil slice? -/
def nilsK (v : DV) : Res → (Unit → Res) → Res :=
  DV.rec (motive_1 := fun _ => Res → (Unit → Res) → Res) (motive_2 := fun _ => PUnit) (fun F _ => F) (fun _ F _ => F) (fun _ _ F _ => F) (fun _ _ F _ => F) (fun F _ => F) (fun _ _ F _ => F) (fun _ K => K ()) (fun _ _ _ _ _ F _ => F) (fun _ _ _ F _ => F) (fun _ _ _ F _ => F) (fun F _ => F) (fun _ _ _ F _ => F) (fun F _ => F) (fun _ _ F _ => F) (fun _ _ F _ => F) (fun _ F _ => F) (fun F _ => F) (fun _ _ F _ => F) (fun _ _ F _ => F) (fun _ _ F _ => F) PUnit.unit (fun _ _ _ _ => PUnit.unit) v
theorem nilsK_eq (v : DV) (F : Res) (K : Unit → Res) : nilsK v F K = match v with | .nils => K () | _ => F := by cases v <;> rfl

/-! ### Numbers, worked out -/

def forceN (n : Nat) (k : Nat → Res) : Res := Nat.rec (motive := fun _ => Res) (k (nat_lit 0)) (fun m _ => k (Nat.succ m)) n
theorem forceN_eq (n : Nat) (k : Nat → Res) : forceN n k = k n := by cases n <;> rfl
def forceP (k : Int → Res) (m : Nat) : Res := forceN m fun m => k (.ofNat m)
def forceM (k : Int → Res) (m : Nat) : Res := forceN m fun m => k (.negSucc m)
def forceI (n : Int) (k : Int → Res) : Res := Int.rec (motive := fun _ => Res) (forceP k) (forceM k) n
theorem forceI_eq (n : Int) (k : Int → Res) : forceI n k = k n := by
  cases n with
  | ofNat m => show forceN m (fun m => k (.ofNat m)) = _; rw [forceN_eq]
  | negSucc m => show forceN m (fun m => k (.negSucc m)) = _; rw [forceN_eq]

def subNN (a b : Nat) : Int := Nat.rec (motive := fun _ => Int) (.ofNat (Nat.sub a b)) (fun m _ => .negSucc m) (Nat.sub b a)
theorem subNN_eq (a b : Nat) : subNN a b = (a : Int) - (b : Int) := by
  rw [← Int.subNatNat_eq_coe]
  unfold subNN Int.subNatNat
  show _ = match b - a with | 0 => Int.ofNat (a - b) | Nat.succ k => Int.negSucc k
  cases h : (b - a) with
  | zero => have h' : Nat.sub b a = 0 := h; rw [h']; rfl
  | succ m => have h' : Nat.sub b a = m + 1 := h; rw [h']
def iaddP (a : Nat) (y : Int) : Int := Int.rec (motive := fun _ => Int) (fun b => .ofNat (Nat.add a b)) (fun b => subNN a (Nat.succ b)) y
def iaddM (a : Nat) (y : Int) : Int := Int.rec (motive := fun _ => Int) (fun b => subNN b (Nat.succ a)) (fun b => .negSucc (Nat.succ (Nat.add a b))) y
def iadd (x y : Int) : Int := Int.rec (motive := fun _ => Int → Int) iaddP iaddM x y
theorem iadd_eq (x y : Int) : iadd x y = x + y := by
  cases x with
  | ofNat a => cases y with
    | ofNat b => rfl
    | negSucc b => show subNN a (b + 1) = _; rw [subNN_eq]; simp only [Int.ofNat_eq_natCast, Int.negSucc_eq]; omega
  | negSucc a => cases y with
    | ofNat b => show subNN b (a + 1) = _; rw [subNN_eq]; simp only [Int.ofNat_eq_natCast, Int.negSucc_eq]; omega
    | negSucc b => rfl
def inegP (a : Nat) : Int := Nat.rec (motive := fun _ => Int) (.ofNat (nat_lit 0)) (fun m _ => .negSucc m) a
def inegM (a : Nat) : Int := .ofNat (Nat.succ a)
def ineg (x : Int) : Int := Int.rec (motive := fun _ => Int) inegP inegM x
theorem ineg_eq (x : Int) : ineg x = -x := by
  cases x with
  | ofNat a => cases a <;> rfl
  | negSucc a => rfl
def imulP (a : Nat) (y : Int) : Int := Int.rec (motive := fun _ => Int) (fun b => .ofNat (Nat.mul a b)) (fun b => inegP (Nat.mul a (Nat.succ b))) y
def imulM (a : Nat) (y : Int) : Int := Int.rec (motive := fun _ => Int) (fun b => inegP (Nat.mul (Nat.succ a) b)) (fun b => .ofNat (Nat.mul (Nat.succ a) (Nat.succ b))) y
def imul (x y : Int) : Int := Int.rec (motive := fun _ => Int → Int) imulP imulM x y
theorem inegP_eq (a : Nat) : inegP a = -(a : Int) := ineg_eq (.ofNat a)
theorem imul_eq (x y : Int) : imul x y = x * y := by
  cases x with
  | ofNat a => cases y with
    | ofNat b => rfl
    | negSucc b => show inegP (a * (b + 1)) = _; rw [inegP_eq]; rfl
  | negSucc a => cases y with
    | ofNat b => show inegP ((a + 1) * b) = _; rw [inegP_eq]; rfl
    | negSucc b => rfl
def idivP (a : Nat) (y : Int) : Int := Int.rec (motive := fun _ => Int) (fun b => .ofNat (Nat.div a b)) (fun b => inegP (Nat.div a (Nat.succ b))) y
def idivM (a : Nat) (y : Int) : Int := Int.rec (motive := fun _ => Int) (fun b => inegP (Nat.div (Nat.succ a) b)) (fun b => .ofNat (Nat.div (Nat.succ a) (Nat.succ b))) y
def idiv (x y : Int) : Int := Int.rec (motive := fun _ => Int → Int) idivP idivM x y
theorem idiv_eq (x y : Int) : idiv x y = x.tdiv y := by
  cases x with
  | ofNat a => cases y with
    | ofNat b => rfl
    | negSucc b => show inegP (a / (b + 1)) = _; rw [inegP_eq]; rfl
  | negSucc a => cases y with
    | ofNat b => show inegP ((a + 1) / b) = _; rw [inegP_eq]; rfl
    | negSucc b => rfl
def imodP (a : Nat) (y : Int) : Int := Int.rec (motive := fun _ => Int) (fun b => .ofNat (Nat.mod a b)) (fun b => .ofNat (Nat.mod a (Nat.succ b))) y
def imodM (a : Nat) (y : Int) : Int := Int.rec (motive := fun _ => Int) (fun b => inegP (Nat.mod (Nat.succ a) b)) (fun b => inegP (Nat.mod (Nat.succ a) (Nat.succ b))) y
def imod (x y : Int) : Int := Int.rec (motive := fun _ => Int → Int) imodP imodM x y
theorem imod_eq (x y : Int) : imod x y = x.tmod y := by
  cases x with
  | ofNat a => cases y with
    | ofNat b => rfl
    | negSucc b => rfl
  | negSucc a => cases y with
    | ofNat b => show inegP ((a + 1) % b) = _; rw [inegP_eq]; rfl
    | negSucc b => show inegP ((a + 1) % (b + 1)) = _; rw [inegP_eq]; rfl
def iltP (a : Nat) (y : Int) : Bool := Int.rec (motive := fun _ => Bool) (fun b => Nat.ble (Nat.succ a) b) (fun _ => false) y
def iltM (a : Nat) (y : Int) : Bool := Int.rec (motive := fun _ => Bool) (fun _ => true) (fun b => Nat.ble (Nat.succ b) a) y
def ilt (x y : Int) : Bool := Int.rec (motive := fun _ => Int → Bool) iltP iltM x y
theorem ilt_eq (x y : Int) : ilt x y = decide (x < y) := by
  cases x with
  | ofNat a => cases y with
    | ofNat b => show Nat.ble (a + 1) b = _; rw [Bool.eq_iff_iff, Nat.ble_eq]; simp only [Int.ofNat_eq_natCast, decide_eq_true_eq]; omega
    | negSucc b => symm; show decide _ = false; simp only [Int.ofNat_eq_natCast, Int.negSucc_eq, decide_eq_false_iff_not]; omega
  | negSucc a => cases y with
    | ofNat b => symm; show decide _ = true; simp only [Int.ofNat_eq_natCast, Int.negSucc_eq, decide_eq_true_eq]; omega
    | negSucc b => show Nat.ble (b + 1) a = _; rw [Bool.eq_iff_iff, Nat.ble_eq]; simp only [Int.negSucc_eq, decide_eq_true_eq]; omega
def ieqP (a : Nat) (y : Int) : Bool := Int.rec (motive := fun _ => Bool) (fun b => Nat.beq a b) (fun _ => false) y
def ieqM (a : Nat) (y : Int) : Bool := Int.rec (motive := fun _ => Bool) (fun _ => false) (fun b => Nat.beq a b) y
def ieq (x y : Int) : Bool := Int.rec (motive := fun _ => Int → Bool) ieqP ieqM x y
theorem ieq_eq (x y : Int) : ieq x y = decide (x = y) := by
  cases x with
  | ofNat a => cases y with
    | ofNat b => show Nat.beq a b = _; rw [Bool.eq_iff_iff, Nat.beq_eq]; simp only [decide_eq_true_eq]; exact ⟨fun h => by rw [h], fun h => by injection h⟩
    | negSucc b => symm; show decide _ = false; simp
  | negSucc a => cases y with
    | ofNat b => symm; show decide _ = false; simp
    | negSucc b => show Nat.beq a b = _; rw [Bool.eq_iff_iff, Nat.beq_eq]; simp only [decide_eq_true_eq]; exact ⟨fun h => by rw [h], fun h => by injection h⟩

def sg (k : IntKind) : Bool := IntKind.rec true true true true false false false false k
def top (k : IntKind) : Nat := IntKind.rec (nat_lit 127) (nat_lit 32767) (nat_lit 2147483647) (nat_lit 9223372036854775807) (nat_lit 255) (nat_lit 65535) (nat_lit 4294967295) (nat_lit 18446744073709551615) k
def fitsP (a : Nat) (k : IntKind) : Bool := Nat.ble a (top k)
def fitsM (a : Nat) (k : IntKind) : Bool := Bool.rec (motive := fun _ => Bool) false (Nat.ble a (top k)) (sg k)
def fits (k : IntKind) (n : Int) : Bool := Int.rec (motive := fun _ => IntKind → Bool) fitsP fitsM n k
theorem wrap_of_fits {k : IntKind} {n : Int} (h : fits k n = true) : k.wrap n = n := by
  cases n with
  | ofNat a =>
    have h' : Nat.ble a (top k) = true := h
    rw [Nat.ble_eq] at h'
    cases k <;> simp only [top] at h' <;> simp only [IntKind.wrap, IntKind.bits, IntKind.signed, Int.ofNat_eq_natCast] <;> simp <;> omega
  | negSucc a =>
    cases k with
    | i8 | i16 | i32 | i64 =>
      have h' : Nat.ble a (top _) = true := h
      rw [Nat.ble_eq] at h'
      simp only [top] at h'; simp only [IntKind.wrap, IntKind.bits, IntKind.signed, Int.negSucc_eq]; simp; omega
    | u8 | u16 | u32 | u64 => exact absurd h (by simp [fits, fitsM, sg])
def mkI2 (k : IntKind) (n : Int) (K : DV → Res) : Res := forceI n fun n => K (.int k n)
def mkI (k : IntKind) (n : Int) (K : DV → Res) : Res := Bool.rec (motive := fun _ => Res) (mkI2 k (k.wrap n) K) (mkI2 k n K) (fits k n)
theorem mkI_eq (k : IntKind) (n : Int) (K : DV → Res) : mkI k n K = K (.int k (k.wrap n)) := by
  unfold mkI
  cases h : fits k n with
  | false => exact forceI_eq _ _
  | true => rw [wrap_of_fits h]; exact forceI_eq _ _
def sameK (a b : IntKind) : Bool := IntKind.rec (IntKind.rec true false false false false false false false b) (IntKind.rec false true false false false false false false b)
  (IntKind.rec false false true false false false false false b) (IntKind.rec false false false true false false false false b) (IntKind.rec false false false false true false false false b)
  (IntKind.rec false false false false false true false false b) (IntKind.rec false false false false false false true false b) (IntKind.rec false false false false false false false true b) a
theorem sameK_eq {a b : IntKind} (h : sameK a b = true) : a = b := by cases a <;> cases b <;> first | rfl | exact absurd h (by decide)

/-! ### Lists, worked out -/

def nthE (_ : Nat) (F : Res) (_ : DV → Res) : Res := F
def nthC (a : DV) (_ : List DV) (ih : Nat → Res → (DV → Res) → Res) (i : Nat) (F : Res) (K : DV → Res) : Res := Nat.rec (motive := fun _ => Res) (K a) (fun j _ => ih j F K) i
def nthK (l : List DV) : Nat → Res → (DV → Res) → Res := List.rec (motive := fun _ => Nat → Res → (DV → Res) → Res) nthE nthC l
theorem nthK_eq (l : List DV) : ∀ (i : Nat) (F : Res) (K : DV → Res), nthK l i F K = match l[i]? with | some v => K v | none => F := by
  induction l with
  | nil => intro i F K; rfl
  | cons a l ih => intro i F K; cases i with
    | zero => rfl
    | succ i => show nthK l i F K = _; rw [ih]; rfl
def takeZ (_ : List DV) (_ : Res) (K : List DV → Res) : Res := K []
def takeC (ih : List DV → Res → (List DV → Res) → Res) (a : DV) (t : List DV) (F : Res) (K : List DV → Res) : Res := ih t F fun r => K (a :: r)
def takeS (_ : Nat) (ih : List DV → Res → (List DV → Res) → Res) (l : List DV) (F : Res) (K : List DV → Res) : Res := List.rec (motive := fun _ => Res) F (fun a t _ => takeC ih a t F K) l
def takeK (n : Nat) : List DV → Res → (List DV → Res) → Res := Nat.rec (motive := fun _ => List DV → Res → (List DV → Res) → Res) takeZ takeS n
theorem takeK_eq (n : Nat) : ∀ (l : List DV) (F : Res) (K : List DV → Res), takeK n l F K = if n ≤ l.length then K (l.take n) else F := by
  induction n with
  | zero => intro l F K; simp; rfl
  | succ n ih => intro l F K; cases l with
    | nil => simp; rfl
    | cons a l => show takeK n l F (fun r => K (a :: r)) = _; rw [ih]; simp
def dropZ (l : List DV) (_ : Res) (K : List DV → Res) : Res := K l
def dropS (_ : Nat) (ih : List DV → Res → (List DV → Res) → Res) (l : List DV) (F : Res) (K : List DV → Res) : Res := List.rec (motive := fun _ => Res) F (fun _ t _ => ih t F K) l
def dropK (n : Nat) : List DV → Res → (List DV → Res) → Res := Nat.rec (motive := fun _ => List DV → Res → (List DV → Res) → Res) dropZ dropS n
theorem dropK_eq (n : Nat) : ∀ (l : List DV) (F : Res) (K : List DV → Res), dropK n l F K = if n ≤ l.length then K (l.drop n) else F := by
  induction n with
  | zero => intro l F K; simp; rfl
  | succ n ih => intro l F K; cases l with
    | nil => simp; rfl
    | cons a l => show dropK n l F K = _; rw [ih]; simp
def catN (m : List DV) (K : List DV → Res) : Res := K m
def catC (a : DV) (_ : List DV) (ih : List DV → (List DV → Res) → Res) (m : List DV) (K : List DV → Res) : Res := ih m fun r => K (a :: r)
def catK (l : List DV) : List DV → (List DV → Res) → Res := List.rec (motive := fun _ => List DV → (List DV → Res) → Res) catN catC l
theorem catK_eq (l : List DV) : ∀ (m : List DV) (K : List DV → Res), catK l m K = K (l ++ m) := by
  induction l with
  | nil => intro m K; rfl
  | cons a l ih => intro m K; show catK l m (fun r => K (a :: r)) = _; rw [ih]; rfl
/-- 'vs' laid over the head of 'l'. -/
def overN (l : List DV) (_ : Res) (K : List DV → Res) : Res := K l
def overC (v : DV) (_ : List DV) (ih : List DV → Res → (List DV → Res) → Res) (l : List DV) (F : Res) (K : List DV → Res) : Res := List.rec (motive := fun _ => Res) F (fun _ t _ => ih t F fun r => K (v :: r)) l
def overK (vs : List DV) : List DV → Res → (List DV → Res) → Res := List.rec (motive := fun _ => List DV → Res → (List DV → Res) → Res) overN overC vs
theorem overK_eq (vs : List DV) : ∀ (l : List DV) (F : Res) (K : List DV → Res), overK vs l F K = if vs.length ≤ l.length then K (vs ++ l.drop vs.length) else F := by
  induction vs with
  | nil => intro l F K; simp; rfl
  | cons v vs ih => intro l F K; cases l with
    | nil => simp; rfl
    | cons a l => show overK vs l F (fun r => K (v :: r)) = _; rw [ih]; simp
def sprZ (l vs : List DV) (F : Res) (K : List DV → Res) : Res := overK vs l F K
def sprC (ih : List DV → List DV → Res → (List DV → Res) → Res) (a : DV) (t vs : List DV) (F : Res) (K : List DV → Res) : Res := ih t vs F fun r => K (a :: r)
def sprS (_ : Nat) (ih : List DV → List DV → Res → (List DV → Res) → Res) (l vs : List DV) (F : Res) (K : List DV → Res) : Res := List.rec (motive := fun _ => Res) F (fun a t _ => sprC ih a t vs F K) l
/-- 'vs' laid over 'l' from 'o' on. -/
def sprK (o : Nat) : List DV → List DV → Res → (List DV → Res) → Res := Nat.rec (motive := fun _ => List DV → List DV → Res → (List DV → Res) → Res) sprZ sprS o
theorem sprK_eq (o : Nat) : ∀ (l vs : List DV) (F : Res) (K : List DV → Res),
    sprK o l vs F K = if o + vs.length ≤ l.length then K (l.take o ++ vs ++ l.drop (o + vs.length)) else F := by
  induction o with
  | zero => intro l vs F K; show overK vs l F K = _; rw [overK_eq]; simp
  | succ o ih => intro l vs F K; cases l with
    | nil => rw [if_neg (by simp)]; rfl
    | cons a l =>
      show sprK o l vs F (fun r => K (a :: r)) = _
      rw [ih]
      by_cases h : o + vs.length ≤ l.length
      · rw [if_pos h, if_pos (by simp; omega)]; congr 1; rw [show o + 1 + vs.length = (o + vs.length) + 1 by omega]; simp
      · rw [if_neg h, if_neg (by simp; omega)]

end Go.Proofs.YtnoekfkfinjfgaaGreatDoor.Dx
