/- How the small machine runs pieces of code. No statement of this seat is proved here. -/
import Derived.Test.YthdlkpmhjbaplaaDxC
set_option autoImplicit false
set_option linter.unusedSimpArgs false
set_option linter.unusedVariables false
noncomputable section
namespace Go.Proofs.Ythdlkpmhjbaplaa.Dx
open Go

def insK (i : Ins) : Run :=
  Ins.rec (motive := fun _ => Run) iMv iPick iAl iBx iBld iBsl iLd iLda iSt iNc iBin iAeq iBeq iNil iNeg iNot iCv iMfn iFa iFi iFia iIa iMsl iSla iEx iCall iCallv iLen iCap iApp iMx iMn iApz iClr iShr iBad i

abbrev Ko := Env → P → Hp → Res
abbrev RunO := Tr Fd → Ih → Option P → Env → P → Hp → Ko → Res

def dsN (_ : DV) (e : Env) (K : Env → Res) : Res := K e
def dsS (d : P) (v : DV) (e : Env) (K : Env → Res) : Res := Tr.setK d e (some v) K
def opDst (dst : Option P) : DV → Env → (Env → Res) → Res := Option.rec (motive := fun _ => DV → Env → (Env → Res) → Res) dsN dsS dst
def dstE (dst : Option P) (v : DV) (e : Env) : Env := match dst with | some d => Tr.set d e (some v) | none => e
theorem opDst_eq (dst : Option P) (v : DV) (e : Env) (K : Env → Res) : opDst dst v e K = K (dstE dst v e) := by
  cases dst with
  | none => rfl
  | some d => exact Tr.setK_eq _ _ _ _
def opRun (dst : Option P) (i : Ins) : RunO := fun F ih wm e nx h k => insK i F ih wm e nx h fun e v nx h => opDst dst v e fun e => k e nx h
def opSkip (dst : Option P) (e : Env) (nx : P) (h : Hp) (k : Ko) : Res := opDst dst (.tup []) e fun e => k e nx h
def opGt (dst : Option P) (i : Ins) (F : Tr Fd) (ih : Ih) (wm : Option P) (e : Env) (nx : P) (h : Hp) (k : Ko) (b t : Bool) : Res :=
  Bool.rec (motive := fun _ => Res) (opSkip dst e nx h k) (opRun dst i F ih wm e nx h k) (beqB t b)
def opGn (dst : Option P) (e : Env) (nx : P) (h : Hp) (k : Ko) (l : List DV) : Res := List.rec (motive := fun _ => Res) (opSkip dst e nx h k) (fun _ _ _ => .fail) l
def opG1 (dst : Option P) (i : Ins) (p : P) (b : Bool) : RunO := fun F ih wm e nx h k =>
  asB (evT p e) (asT (evT p e) .fail (opGn dst e nx h k)) (opGt dst i F ih wm e nx h k b)
def opGS (g : P × Bool) (dst : Option P) (i : Ins) : RunO := Prod.rec (motive := fun _ => RunO) (fun p b => opG1 dst i p b) g
def opMk (dst : Option P) (g : Option (P × Bool)) (i : Ins) : RunO := Option.rec (motive := fun _ => Option P → Ins → RunO) opRun opGS g dst i
def nvN (K : Unit → Res) : Res := K ()
def nvS (v : DV) (K : Unit → Res) : Res := asV v (K ()) fun _ => .fail
/-- Is there no variable of the frame at that place? -/
def notVar (p : P) (e : Env) (K : Unit → Res) : Res := Option.rec (motive := fun _ => (Unit → Res) → Res) nvN nvS (Tr.get? p e) K
def isVar (p : P) (e : Env) : Prop := ∃ l, Tr.get? p e = some (.var l)
theorem notVar_eq (p : P) (e : Env) (K : Unit → Res) : notVar p e K = (open Classical in if isVar p e then .fail else K ()) := by
  unfold notVar isVar
  cases Tr.get? p e with
  | none => rw [if_neg (fun ⟨_, h⟩ => nomatch h)]; rfl
  | some v =>
    show asV v (K ()) (fun _ => .fail) = _
    rw [asV_eq]
    cases v <;> first | (rw [if_pos ⟨_, rfl⟩]) | (rw [if_neg (fun ⟨_, h⟩ => nomatch h)])
def opLoc (p : P) (z : List DV) : RunO := fun _ _ _ e nx h k => notVar p e fun _ => Tr.setK p e (some (.var z)) fun e => k e nx h
def opLocb (p : P) (a : Opd) : RunO := fun _ _ _ e nx h k => notVar p e fun _ => ovK a e fun v => cellsK v .fail fun l => Tr.setK p e (some (.var l)) fun e => k e nx h
def opK (o : Op) : RunO := Op.rec (motive := fun _ => RunO) opMk opLoc opLocb o
def opsN : RunO := fun _ _ _ e nx h k => k e nx h
def opsC (o : Op) (_ : List Op) (ihl : RunO) : RunO := fun F ih wm e nx h k => opK o F ih wm e nx h fun e nx h => ihl F ih wm e nx h k
def opsK (l : List Op) : RunO := List.rec (motive := fun _ => RunO) opsN opsC l
/-- only that there is a variable -/
def bare (v : DV) (K : DV → Res) : Res := asV v (K v) fun _ => K (.var [])
def bareV : DV → DV | .var _ => .var [] | v => v
theorem bare_eq (v : DV) (K : DV → Res) : bare v K = K (bareV v) := by unfold bare; rw [asV_eq]; cases v <;> rfl
def full (v : DV) (K : DV → Res) : Res := K v
def lookN (_ : P) (K : Unit → Res) (_ : DV → Res) : Res := K ()
def lookS (v : DV) (_ : P) (_ : Unit → Res) (L : DV → Res) : Res := L v
def lookU (p : P) (e : Env) (K : Unit → Res) (L : DV → Res) : Res := Option.rec (motive := fun _ => P → (Unit → Res) → (DV → Res) → Res) lookN lookS (Tr.get? p e) p K L
theorem lookU_eq (p : P) (e : Env) (K : Unit → Res) (L : DV → Res) : lookU p e K L = match Tr.get? p e with | some v => L v | none => K () := by
  unfold lookU; cases Tr.get? p e <;> rfl
def useN (_ : Env) (acc : Env) (K : Env → Res) : Res := K acc
/-- an address in a variable stays where the variable is there -/
def useV2 (p : P) (c : Bool) (ih : Env → Env → (Env → Res) → Res) (e acc : Env) (K : Env → Res) (v : DV) : Res :=
  asFl v (Bool.rec (motive := fun _ => Res) (bare v fun v => Tr.setK p acc (some v) fun acc => ih e acc K) (Tr.setK p acc (some v) fun acc => ih e acc K) c)
    fun q _ => varK q acc (ih e acc K) fun _ => Tr.setK p acc (some v) fun acc => ih e acc K
def useC (c : Bool) (p : P) (_ : List P) (ih : Env → Env → (Env → Res) → Res) (e acc : Env) (K : Env → Res) : Res :=
  lookU p e (fun _ => ih e acc K) (useV2 p c ih e acc K)
/-- What an operation looks at. -/
def useK (c : Bool) (l : List P) : Env → Env → (Env → Res) → Res := List.rec (motive := fun _ => Env → Env → (Env → Res) → Res) useN (useC c) l
def useP (c : Bool) (p : P) (e acc : Env) : Env :=
  match Tr.get? p e with
  | none => acc
  | some (.fld q o) => match Tr.get? q acc with | some (.var _) => Tr.set p acc (some (.fld q o)) | _ => acc
  | some v => Tr.set p acc (some (match c with | true => v | false => bareV v))
def use (c : Bool) (e : Env) : List P → Env → Env
  | [], acc => acc
  | p :: l, acc => use c e l (useP c p e acc)
theorem useK_eq (c : Bool) (l : List P) : ∀ (e acc : Env) (K : Env → Res), useK c l e acc K = K (use c e l acc) := by
  induction l with
  | nil => intro e acc K; rfl
  | cons p l ih =>
    intro e acc K
    show lookU p e (fun _ => useK c l e acc K) (useV2 p c (useK c l) e acc K) = _
    rw [lookU_eq]; simp only [use, useP]
    cases Tr.get? p e with
    | none => exact ih _ _ _
    | some v =>
      show asFl v (Bool.rec (motive := fun _ => Res) (bare v fun v => Tr.setK p acc (some v) fun acc => useK c l e acc K) (Tr.setK p acc (some v) fun acc => useK c l e acc K) c)
        (fun q _ => varK q acc (useK c l e acc K) fun _ => Tr.setK p acc (some v) fun acc => useK c l e acc K) = _
      rw [asFl_eq]
      cases v
      case fld q o =>
        show varK q acc (useK c l e acc K) (fun _ => Tr.setK p acc (some (.fld q o)) fun acc => useK c l e acc K) = _
        rw [varK_eq, Tr.setK_eq, ih]
        simp only [ih]
        cases Tr.get? q acc with
        | none => rfl
        | some w => cases w <;> rfl
      all_goals
        cases c
        · show bare _ (fun v => Tr.setK p acc (some v) fun acc => useK false l e acc K) = _
          rw [bare_eq, Tr.setK_eq, ih]
        · show Tr.setK p acc (some _) (fun acc => useK true l e acc K) = _
          rw [Tr.setK_eq, ih]
def bkN' (_ e : Env) (K : Env → Res) : Res := K e
def bkC' (p : P) (_ : List P) (ih : Env → Env → (Env → Res) → Res) (r e : Env) (K : Env → Res) : Res := lookU p r (fun _ => ih r e K) fun v => Tr.setK p e (some v) fun e => ih r e K
/-- What it has turned is brought back. -/
def backK (l : List P) : Env → Env → (Env → Res) → Res := List.rec (motive := fun _ => Env → Env → (Env → Res) → Res) bkN' bkC' l
def backP (p : P) (r e : Env) : Env := match Tr.get? p r with | some v => Tr.set p e (some v) | none => e
def back (r : Env) : List P → Env → Env
  | [], e => e
  | p :: l, e => back r l (backP p r e)
theorem backK_eq (l : List P) : ∀ (r e : Env) (K : Env → Res), backK l r e K = K (back r l e) := by
  induction l with
  | nil => intro r e K; rfl
  | cons p l ih =>
    intro r e K
    show lookU p r (fun _ => backK l r e K) (fun v => Tr.setK p e (some v) fun e => backK l r e K) = _
    rw [lookU_eq]; simp only [back, backP]
    cases Tr.get? p r with
    | none => exact ih _ _ _
    | some v => show Tr.setK p e (some v) (fun e => backK l r e K) = _; rw [Tr.setK_eq, ih]
def wmOf (r : Bool) (nx : P) (wm : Option P) : Option P := Bool.rec (motive := fun _ => Option P) wm (some nx) r
def dopD (c : Bool) (u b : List P) (r : Bool) (o : Op) : RunO := fun F ih wm e nx h k =>
  useK c u e .nl fun r0 => opK o F ih (wmOf r nx wm) r0 nx h fun r1 nx h => backK b r1 e fun e => k e nx h
def dopK (d : Dop) : RunO := Dop.rec (motive := fun _ => RunO) dopD d
def dopsC (d : Dop) (_ : List Dop) (ihl : RunO) : RunO := fun F ih wm e nx h k => dopK d F ih wm e nx h fun e nx h => ihl F ih wm e nx h k
def dopsK (l : List Dop) : RunO := List.rec (motive := fun _ => RunO) opsN dopsC l

abbrev RunC := Tr Fd → Ih → Option P → Env → P → Hp → Res
def okN : Ko := fun e nx h => .ok .norm e nx h
def cSkip : RunC := fun _ _ _ e nx h => .ok .norm e nx h
def cReg (l : List Op) : RunC := fun F ih wm e nx h => opsK l F ih wm e nx h okN
def cDrw (l : List Dop) : RunC := fun F ih wm e nx h => dopsK l F ih wm e nx h okN
def sqN (b : RunC) (F : Tr Fd) (ih : Ih) (wm : Option P) : Ko := fun e nx h => b F ih wm e nx h
def sqX (i : Nat) (_ : RunC) (_ : Tr Fd) (_ : Ih) (_ : Option P) : Ko := fun e nx h => .ok (.exit i) e nx h
def sqR (_ : RunC) (_ : Tr Fd) (_ : Ih) (_ : Option P) : Ko := fun e nx h => .ok .ret e nx h
def sqO (b : RunC) (F : Tr Fd) (ih : Ih) (wm : Option P) (o : Out) : Ko := Out.rec (motive := fun _ => RunC → Tr Fd → Ih → Option P → Ko) sqN sqX sqR o b F ih wm
def cSeq (_ _ : C) (a b : RunC) : RunC := fun F ih wm e nx h => Res.rec (motive := fun _ => Res) .fail (sqO b F ih wm) (a F ih wm e nx h)
def cdB (a b : RunC) (F : Tr Fd) (ih : Ih) (wm : Option P) (e : Env) (nx : P) (h : Hp) (t : Bool) : Res := Bool.rec (motive := fun _ => Res) (b F ih wm e nx h) (a F ih wm e nx h) t
def cCond (c : Opd) (_ _ : C) (a b : RunC) : RunC := fun F ih wm e nx h => asB (ev c e) .fail (cdB a b F ih wm e nx h)
def bkX (i : Nat) (id : Nat) : Ko := fun e nx h => Bool.rec (motive := fun _ => Res) (.ok (.exit i) e nx h) (.ok .norm e nx h) (Nat.beq i id)
def bkN (_ : Nat) : Ko := fun e nx h => .ok .norm e nx h
def bkR (_ : Nat) : Ko := fun e nx h => .ok .ret e nx h
def bkO (id : Nat) (o : Out) : Ko := Out.rec (motive := fun _ => Nat → Ko) bkN bkX bkR o id
def cBlock (id : Nat) (_ : C) (a : RunC) : RunC := fun F ih wm e nx h => Res.rec (motive := fun _ => Res) .fail (bkO id) (a F ih wm e nx h)
def rsN' (_ : Env) (acc : Env) (K : Env → Res) : Res := K acc
def rvS (p : P) (ih : Env → Env → (Env → Res) → Res) (e acc : Env) (K : Env → Res) (v : DV) : Res :=
  asFl v (Tr.setK p acc (some v) fun acc => ih e acc K) fun _ _ => ih e acc K
def rsC' (p : P) (_ : List P) (ih : Env → Env → (Env → Res) → Res) (e acc : Env) (K : Env → Res) : Res :=
  Option.rec (motive := fun _ => Res) (ih e acc K) (rvS p ih e acc K) (Tr.get? p e)
/-- What is still wanted of the frame. -/
def keepK (l : List P) : Env → Env → (Env → Res) → Res := List.rec (motive := fun _ => Env → Env → (Env → Res) → Res) rsN' rsC' l
def keep (e : Env) : List P → Env → Env
  | [], acc => acc
  | p :: l, acc => match Tr.get? p e with
    | some (.fld _ _) => keep e l acc
    | some v => keep e l (Tr.set p acc (some v))
    | none => keep e l acc
theorem keepK_eq (l : List P) : ∀ (e acc : Env) (K : Env → Res), keepK l e acc K = K (keep e l acc) := by
  induction l with
  | nil => intro e acc K; rfl
  | cons p l ih =>
    intro e acc K
    show Option.rec (motive := fun _ => Res) (keepK l e acc K) (rvS p (keepK l) e acc K) (Tr.get? p e) = _
    simp only [keep]
    cases Tr.get? p e with
    | none => exact ih _ _ _
    | some v =>
      show asFl v (Tr.setK p acc (some v) fun acc => keepK l e acc K) (fun _ _ => keepK l e acc K) = _
      rw [asFl_eq, Tr.setK_eq]
      cases v <;> exact ih _ _ _
def lpN (c : C) (F : Tr Fd) (ih : Ih) (wm : Option P) : Ko := fun e nx h => ih c wm e nx h
def lpX (i : Nat) (_ : C) (_ : Tr Fd) (_ : Ih) (_ : Option P) : Ko := fun e nx h => .ok (.exit i) e nx h
def lpR (_ : C) (_ : Tr Fd) (_ : Ih) (_ : Option P) : Ko := fun e nx h => .ok .ret e nx h
def lpO (c : C) (F : Tr Fd) (ih : Ih) (wm : Option P) (o : Out) : Ko := Out.rec (motive := fun _ => C → Tr Fd → Ih → Option P → Ko) lpN lpX lpR o c F ih wm
def cLoop (lv : List P) (c : C) (a : RunC) : RunC := fun F ih wm e nx h => keepK lv e .nl fun e => Res.rec (motive := fun _ => Res) .fail (lpO (.loop lv c) F ih wm) (a F ih wm e nx h)
def cExit (id : Nat) : RunC := fun _ _ _ e nx h => .ok (.exit id) e nx h
def cRet : RunC := fun _ _ _ e nx h => .ok .ret e nx h
def step (c : C) : RunC := C.rec (motive := fun _ => RunC) cSkip cReg cDrw cSeq cCond cBlock cLoop cExit cRet c
def exec (F : Tr Fd) (fuel : Nat) : Ih := Nat.rec (motive := fun _ => Ih) (fun _ _ _ _ _ => .fail) (fun _ ih c wm e nx h => step c F ih wm e nx h) fuel
/-- What a call of a function gives. -/
def okV : Kv := fun e v nx h => .ok .norm (.nd (some v) .nl .nl) nx h
def call (F : Tr Fd) (fuel : Nat) (f : P) (vs : List DV) (nx : P) (h : Hp) : Res := callK F (exec F fuel) none f vs .nl nx h okV
def told (r : Res) : Option DV := Res.rec none (fun _ e _ _ => Tr.get? .z e) r

end Go.Proofs.Ythdlkpmhjbaplaa.Dx
