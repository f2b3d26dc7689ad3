/- How the small machine runs pieces of code. No statement of this seat is proved here. -/
import Derived.Test.YtnoekfkfinjfgaaGreatDoorUc
import Derived.Deep.MidRow
import Derived.RowKit3
set_option autoImplicit false
set_option linter.unusedSimpArgs false
set_option linter.unusedVariables false
noncomputable section
namespace Go.Proofs.YtnoekfkfinjfgaaGreatDoor.Dx
open Go

def insK (i : Ins) : Run :=
  Ins.rec (motive := fun _ => Run) iMv iPick iAl iBx iBld iBsl iLd iLda iSt iNc iBin iAeq iBeq iNil iNeg iNot iCv iMfn iMbf iFa iFi iFia iIa iMsl iSla iEx iCall iCallv iLen iCap iApp iMx iMn iApz iClr iShr iVla iPx iMm iBad i

abbrev Ko := Env → P → Hp → Res
abbrev RunO := Tr Fd → Ih → Option P → Env → P → Hp → Ko → Res

def dsN (_ : DV) (e : Env) (K : Env → Res) : Res := K e
def dsS (d : P) (v : DV) (e : Env) (K : Env → Res) : Res := Tr.setK d e (some v) K
def opDst (dst : Option P) : DV → Env → (Env → Res) → Res := Option.rec (motive := fun _ => DV → Env → (Env → Res) → Res) dsN dsS dst
def dstE (dst : Option P) (v : DV) (e : Env) : Env := match dst with | some d => Tr.set d e (some v) | none => e
theorem opDst_eq (dst : Option P) (v : DV) (e : Env) (K : Env → Res) : opDst dst v e K = K (dstE dst v e) := by
  cases dst with
  | none => rfl
  | some d => exact Tr.setK_eq _ _ _ _
def opRun (dst : Option P) (i : Ins) : RunO := fun F ih wm e nx h k => insK i F ih wm e nx h fun e v nx h => opDst dst v e fun e => k e nx h
def opSkip (dst : Option P) (e : Env) (nx : P) (h : Hp) (k : Ko) : Res := opDst dst (.tup []) e fun e => k e nx h
def opGt (dst : Option P) (i : Ins) (F : Tr Fd) (ih : Ih) (wm : Option P) (e : Env) (nx : P) (h : Hp) (k : Ko) (b t : Bool) : Res :=
  Bool.rec (motive := fun _ => Res) (opSkip dst e nx h k) (opRun dst i F ih wm e nx h k) (beqB t b)
def opGn (dst : Option P) (e : Env) (nx : P) (h : Hp) (k : Ko) (l : List DV) : Res := List.rec (motive := fun _ => Res) (opSkip dst e nx h k) (fun _ _ _ => .fail) l
def opG1 (dst : Option P) (i : Ins) (p : P) (b : Bool) : RunO := fun F ih wm e nx h k =>
  asB (evT p e) (asT (evT p e) .fail (opGn dst e nx h k)) (opGt dst i F ih wm e nx h k b)
def opGS (g : P × Bool) (dst : Option P) (i : Ins) : RunO := Prod.rec (motive := fun _ => RunO) (fun p b => opG1 dst i p b) g
def opMk (dst : Option P) (g : Option (P × Bool)) (i : Ins) : RunO := Option.rec (motive := fun _ => Option P → Ins → RunO) opRun opGS g dst i
def nvN (K : Unit → Res) : Res := K ()
def nvS (v : DV) (K : Unit → Res) : Res := asV v (K ()) fun _ => .fail
/-- Is there no variable of the frame at that place? -/
def notVar (p : P) (e : Env) (K : Unit → Res) : Res := Option.rec (motive := fun _ => (Unit → Res) → Res) nvN nvS (Tr.get? p e) K
def isVar (p : P) (e : Env) : Prop := ∃ l, Tr.get? p e = some (.var l)
theorem notVar_eq (p : P) (e : Env) (K : Unit → Res) : notVar p e K = (open Classical in if isVar p e then .fail else K ()) := by
  unfold notVar isVar
  cases Tr.get? p e with
  | none => rw [if_neg (fun ⟨_, h⟩ => nomatch h)]; rfl
  | some v =>
    show asV v (K ()) (fun _ => .fail) = _
    rw [asV_eq]
    cases v <;> first | (rw [if_pos ⟨_, rfl⟩]) | (rw [if_neg (fun ⟨_, h⟩ => nomatch h)])
def opLoc (p : P) (z : List DV) : RunO := fun _ _ _ e nx h k => notVar p e fun _ => Tr.setK p e (some (.var z)) fun e => k e nx h
def opLocb (p : P) (a : Opd) : RunO := fun _ _ _ e nx h k => notVar p e fun _ => ovK a e fun v => cellsK v .fail fun l => Tr.setK p e (some (.var l)) fun e => k e nx h
def opK (o : Op) : RunO := Op.rec (motive := fun _ => RunO) opMk opLoc opLocb o
def opsN : RunO := fun _ _ _ e nx h k => k e nx h
def opsC (o : Op) (_ : List Op) (ihl : RunO) : RunO := fun F ih wm e nx h k => opK o F ih wm e nx h fun e nx h => ihl F ih wm e nx h k
def opsK (l : List Op) : RunO := List.rec (motive := fun _ => RunO) opsN opsC l
/-- only that there is a variable -/
def bare (v : DV) (K : DV → Res) : Res := asV v (K v) fun _ => K (.var [])
def bareV : DV → DV | .var _ => .var [] | v => v
theorem bare_eq (v : DV) (K : DV → Res) : bare v K = K (bareV v) := by unfold bare; rw [asV_eq]; cases v <;> rfl
def full (v : DV) (K : DV → Res) : Res := K v
def lookN (_ : P) (K : Unit → Res) (_ : DV → Res) : Res := K ()
def lookS (v : DV) (_ : P) (_ : Unit → Res) (L : DV → Res) : Res := L v
def lookU (p : P) (e : Env) (K : Unit → Res) (L : DV → Res) : Res := Option.rec (motive := fun _ => P → (Unit → Res) → (DV → Res) → Res) lookN lookS (Tr.get? p e) p K L
theorem lookU_eq (p : P) (e : Env) (K : Unit → Res) (L : DV → Res) : lookU p e K L = match Tr.get? p e with | some v => L v | none => K () := by
  unfold lookU; cases Tr.get? p e <;> rfl
def useN (_ : Env) (acc : Env) (K : Env → Res) : Res := K acc
/-- an address in a variable stays where the variable is there -/
def useV2 (p : P) (c : Bool) (ih : Env → Env → (Env → Res) → Res) (e acc : Env) (K : Env → Res) (v : DV) : Res :=
  asFl v (Bool.rec (motive := fun _ => Res) (bare v fun v => Tr.setK p acc (some v) fun acc => ih e acc K) (Tr.setK p acc (some v) fun acc => ih e acc K) c)
    fun q _ => varK q acc (ih e acc K) fun _ => Tr.setK p acc (some v) fun acc => ih e acc K
def useC (c : Bool) (p : P) (_ : List P) (ih : Env → Env → (Env → Res) → Res) (e acc : Env) (K : Env → Res) : Res :=
  lookU p e (fun _ => ih e acc K) (useV2 p c ih e acc K)
/-- What an operation looks at. -/
def useK (c : Bool) (l : List P) : Env → Env → (Env → Res) → Res := List.rec (motive := fun _ => Env → Env → (Env → Res) → Res) useN (useC c) l
def useP (c : Bool) (p : P) (e acc : Env) : Env :=
  match Tr.get? p e with
  | none => acc
  | some (.fld q o) => match Tr.get? q acc with | some (.var _) => Tr.set p acc (some (.fld q o)) | _ => acc
  | some v => Tr.set p acc (some (match c with | true => v | false => bareV v))
def use (c : Bool) (e : Env) : List P → Env → Env
  | [], acc => acc
  | p :: l, acc => use c e l (useP c p e acc)
theorem useK_eq (c : Bool) (l : List P) : ∀ (e acc : Env) (K : Env → Res), useK c l e acc K = K (use c e l acc) := by
  induction l with
  | nil => intro e acc K; rfl
  | cons p l ih =>
    intro e acc K
    show lookU p e (fun _ => useK c l e acc K) (useV2 p c (useK c l) e acc K) = _
    rw [lookU_eq]; simp only [use, useP]
    cases Tr.get? p e with
    | none => exact ih _ _ _
    | some v =>
      show asFl v (Bool.rec (motive := fun _ => Res) (bare v fun v => Tr.setK p acc (some v) fun acc => useK c l e acc K) (Tr.setK p acc (some v) fun acc => useK c l e acc K) c)
        (fun q _ => varK q acc (useK c l e acc K) fun _ => Tr.setK p acc (some v) fun acc => useK c l e acc K) = _
      rw [asFl_eq]
      cases v
      case fld q o =>
        show varK q acc (useK c l e acc K) (fun _ => Tr.setK p acc (some (.fld q o)) fun acc => useK c l e acc K) = _
        rw [varK_eq, Tr.setK_eq, ih]
        simp only [ih]
        cases Tr.get? q acc with
        | none => rfl
        | some w => cases w <;> rfl
      all_goals
        cases c
        · show bare _ (fun v => Tr.setK p acc (some v) fun acc => useK false l e acc K) = _
          rw [bare_eq, Tr.setK_eq, ih]
        · show Tr.setK p acc (some _) (fun acc => useK true l e acc K) = _
          rw [Tr.setK_eq, ih]
def bkN' (_ e : Env) (K : Env → Res) : Res := K e
def bkC' (p : P) (_ : List P) (ih : Env → Env → (Env → Res) → Res) (r e : Env) (K : Env → Res) : Res := lookU p r (fun _ => ih r e K) fun v => Tr.setK p e (some v) fun e => ih r e K
/-- What it has turned is brought back. -/
def backK (l : List P) : Env → Env → (Env → Res) → Res := List.rec (motive := fun _ => Env → Env → (Env → Res) → Res) bkN' bkC' l
def backP (p : P) (r e : Env) : Env := match Tr.get? p r with | some v => Tr.set p e (some v) | none => e
def back (r : Env) : List P → Env → Env
  | [], e => e
  | p :: l, e => back r l (backP p r e)
theorem backK_eq (l : List P) : ∀ (r e : Env) (K : Env → Res), backK l r e K = K (back r l e) := by
  induction l with
  | nil => intro r e K; rfl
  | cons p l ih =>
    intro r e K
    show lookU p r (fun _ => backK l r e K) (fun v => Tr.setK p e (some v) fun e => backK l r e K) = _
    rw [lookU_eq]; simp only [back, backP]
    cases Tr.get? p r with
    | none => exact ih _ _ _
    | some v => show Tr.setK p e (some v) (fun e => backK l r e K) = _; rw [Tr.setK_eq, ih]
def wmOf (r : Bool) (nx : P) (wm : Option P) : Option P := Bool.rec (motive := fun _ => Option P) wm (some nx) r
def dopD (c : Bool) (u b : List P) (r : Bool) (o : Op) : RunO := fun F ih wm e nx h k =>
  useK c u e .nl fun r0 => opK o F ih (wmOf r nx wm) r0 nx h fun r1 nx h => backK b r1 e fun e => k e nx h
def dopK (d : Dop) : RunO := Dop.rec (motive := fun _ => RunO) dopD d
def dopsC (d : Dop) (_ : List Dop) (ihl : RunO) : RunO := fun F ih wm e nx h k => dopK d F ih wm e nx h fun e nx h => ihl F ih wm e nx h k
def dopsK (l : List Dop) : RunO := List.rec (motive := fun _ => RunO) opsN dopsC l

abbrev RunC := Tr Fd → Ih → Option P → Env → P → Hp → Res
def okN : Ko := fun e nx h => .ok .norm e nx h
def cSkip : RunC := fun _ _ _ e nx h => .ok .norm e nx h
def cReg (l : List Op) : RunC := fun F ih wm e nx h => opsK l F ih wm e nx h okN
def cDrw (l : List Dop) : RunC := fun F ih wm e nx h => dopsK l F ih wm e nx h okN
def sqN (b : RunC) (F : Tr Fd) (ih : Ih) (wm : Option P) : Ko := fun e nx h => b F ih wm e nx h
def sqX (i : Nat) (_ : RunC) (_ : Tr Fd) (_ : Ih) (_ : Option P) : Ko := fun e nx h => .ok (.exit i) e nx h
def sqR (_ : RunC) (_ : Tr Fd) (_ : Ih) (_ : Option P) : Ko := fun e nx h => .ok .ret e nx h
def sqO (b : RunC) (F : Tr Fd) (ih : Ih) (wm : Option P) (o : Out) : Ko := Out.rec (motive := fun _ => RunC → Tr Fd → Ih → Option P → Ko) sqN sqX sqR o b F ih wm
def cSeq (_ _ : C) (a b : RunC) : RunC := fun F ih wm e nx h => Res.rec (motive := fun _ => Res) .fail (sqO b F ih wm) (a F ih wm e nx h)
def cdB (a b : RunC) (F : Tr Fd) (ih : Ih) (wm : Option P) (e : Env) (nx : P) (h : Hp) (t : Bool) : Res := Bool.rec (motive := fun _ => Res) (b F ih wm e nx h) (a F ih wm e nx h) t
def cCond (c : Opd) (_ _ : C) (a b : RunC) : RunC := fun F ih wm e nx h => asB (ev c e) .fail (cdB a b F ih wm e nx h)
def bkX (i : Nat) (id : Nat) : Ko := fun e nx h => Bool.rec (motive := fun _ => Res) (.ok (.exit i) e nx h) (.ok .norm e nx h) (Nat.beq i id)
def bkN (_ : Nat) : Ko := fun e nx h => .ok .norm e nx h
def bkR (_ : Nat) : Ko := fun e nx h => .ok .ret e nx h
def bkO (id : Nat) (o : Out) : Ko := Out.rec (motive := fun _ => Nat → Ko) bkN bkX bkR o id
def cBlock (id : Nat) (_ : C) (a : RunC) : RunC := fun F ih wm e nx h => Res.rec (motive := fun _ => Res) .fail (bkO id) (a F ih wm e nx h)
def rsN' (_ : Env) (acc : Env) (K : Env → Res) : Res := K acc
def rvS (p : P) (ih : Env → Env → (Env → Res) → Res) (e acc : Env) (K : Env → Res) (v : DV) : Res :=
  asFl v (Tr.setK p acc (some v) fun acc => ih e acc K) fun _ _ => ih e acc K
def rsC' (p : P) (_ : List P) (ih : Env → Env → (Env → Res) → Res) (e acc : Env) (K : Env → Res) : Res :=
  Option.rec (motive := fun _ => Res) (ih e acc K) (rvS p ih e acc K) (Tr.get? p e)
/-- What is still wanted of the frame. -/
def keepK (l : List P) : Env → Env → (Env → Res) → Res := List.rec (motive := fun _ => Env → Env → (Env → Res) → Res) rsN' rsC' l
def keep (e : Env) : List P → Env → Env
  | [], acc => acc
  | p :: l, acc => match Tr.get? p e with
    | some (.fld _ _) => keep e l acc
    | some v => keep e l (Tr.set p acc (some v))
    | none => keep e l acc
theorem keepK_eq (l : List P) : ∀ (e acc : Env) (K : Env → Res), keepK l e acc K = K (keep e l acc) := by
  induction l with
  | nil => intro e acc K; rfl
  | cons p l ih =>
    intro e acc K
    show Option.rec (motive := fun _ => Res) (keepK l e acc K) (rvS p (keepK l) e acc K) (Tr.get? p e) = _
    simp only [keep]
    cases Tr.get? p e with
    | none => exact ih _ _ _
    | some v =>
      show asFl v (Tr.setK p acc (some v) fun acc => keepK l e acc K) (fun _ _ => keepK l e acc K) = _
      rw [asFl_eq, Tr.setK_eq]
      cases v <;> exact ih _ _ _
def lpN (c : C) (F : Tr Fd) (ih : Ih) (wm : Option P) : Ko := fun e nx h => ih c wm e nx h
def lpX (i : Nat) (_ : C) (_ : Tr Fd) (_ : Ih) (_ : Option P) : Ko := fun e nx h => .ok (.exit i) e nx h
def lpR (_ : C) (_ : Tr Fd) (_ : Ih) (_ : Option P) : Ko := fun e nx h => .ok .ret e nx h
def lpO (c : C) (F : Tr Fd) (ih : Ih) (wm : Option P) (o : Out) : Ko := Out.rec (motive := fun _ => C → Tr Fd → Ih → Option P → Ko) lpN lpX lpR o c F ih wm
def cLoop (lv : List P) (c : C) (a : RunC) : RunC := fun F ih wm e nx h => keepK lv e .nl fun e => Res.rec (motive := fun _ => Res) .fail (lpO (.loop lv c) F ih wm) (a F ih wm e nx h)
def cExit (id : Nat) : RunC := fun _ _ _ e nx h => .ok (.exit id) e nx h
/-- what a round has made of the frame's variables -/
def vbN (_ e : Env) (K : Env → Res) : Res := K e
def vbV (p : P) (ih : Env → Env → (Env → Res) → Res) (r e : Env) (K : Env → Res) (l : List DV) : Res := Tr.setK p e (some (.var l)) fun e => ih r e K
def vbC (p : P) (_ : List P) (ih : Env → Env → (Env → Res) → Res) (r e : Env) (K : Env → Res) : Res := varK p e (ih r e K) fun _ => varK p r .fail (vbV p ih r e K)
def varsK (l : List P) : Env → Env → (Env → Res) → Res := List.rec (motive := fun _ => Env → Env → (Env → Res) → Res) vbN vbC l
def vars1 (p : P) (r e : Env) : Option Env := match Tr.get? p e with
  | some (.var _) => (match Tr.get? p r with | some (.var l) => some (Tr.set p e (some (.var l))) | _ => none)
  | _ => some e
def varsB (r : Env) : List P → Env → Option Env
  | [], e => some e
  | p :: l, e => match vars1 p r e with | some e => varsB r l e | none => none
theorem varsK_eq (l : List P) : ∀ (r e : Env) (K : Env → Res), varsK l r e K = match varsB r l e with | some e => K e | none => .fail := by
  induction l with
  | nil => intro r e K; rfl
  | cons p l ih =>
    intro r e K
    show varK p e (varsK l r e K) (fun _ => varK p r .fail (vbV p (varsK l) r e K)) = _
    rw [varK_eq]; simp only [varsB, vars1]
    cases he : Tr.get? p e with
    | none => exact ih _ _ _
    | some v =>
      cases v
      case var l0 =>
        show varK p r .fail (vbV p (varsK l) r e K) = _
        rw [varK_eq]
        cases hr : Tr.get? p r with
        | none => rfl
        | some u =>
          cases u
          case var l1 => show Tr.setK p e (some (.var l1)) (fun e => varsK l r e K) = _; rw [Tr.setK_eq, ih]
          all_goals rfl
      all_goals exact ih _ _ _
def noX (_ : Nat) (_ : Env) (_ : P) (_ : Hp) : Res := .fail
def noR (_ : Env) (_ : P) (_ : Hp) : Res := .fail
/-- only what ends as usual -/
def normK (r : Res) (k : Ko) : Res := Res.rec (motive := fun _ => Res) .fail (fun o => Out.rec (motive := fun _ => Ko) k noX noR o) r
def elemK (agg : Bool) (l : List DV) (K : DV → Res) : Res := Bool.rec (motive := fun _ => Res) (nthK l (nat_lit 0) .fail fun v => fV v K) (K (.agg l)) agg
/-- the row that is gone through, as it lies now -/
def rowK (box : DV) (h : Hp) (N : Res) (K : P → Nat → Nat → Option Nat → Nat → Res) : Res := readK box .nl h .fail fun l o => nthK l o .fail fun s => asSl s (nilsK s .fail fun _ => N) K
def rgE (ra rb : RunC) (F : Tr Fd) (ih : Ih) (wm : Option P) (lv : List P) (pi pv : P) (i : Nat) (e : Env) (nx : P) (h : Hp) (k : Ko) (v : DV) : Res :=
  Tr.setK pi e (some (.int .i64 (.ofNat i))) fun e1 => Tr.setK pv e1 (some v) fun e1 => normK (ra F ih wm e1 nx h) fun e2 nx h => normK (rb F ih wm e2 nx h) fun e3 nx h => varsK lv e3 e fun e => k e nx h
def rgR (ra rb : RunC) (F : Tr Fd) (ih : Ih) (wm : Option P) (lv : List P) (pi pv : P) (sz : Nat) (agg : Bool) (i : Nat) (e : Env) (nx : P) (h : Hp) (k : Ko) (b : P) (o n : Nat) (_ : Option Nat) (s : Nat) : Res :=
  chk (Nat.beq s sz) fun _ => chk (Nat.ble (Nat.succ i) n) fun _ => objK b h .fail fun l => dropK (Nat.add o (Nat.mul i sz)) l .fail fun t => takeK sz t .fail fun x => elemK agg x (rgE ra rb F ih wm lv pi pv i e nx h k)
def rgS (ra rb : RunC) (F : Tr Fd) (ih : Ih) (wm : Option P) (lv : List P) (pi pv : P) (sz : Nat) (agg : Bool) (box : DV) (i : Nat) (rest : Ko) : Ko :=
  fun e nx h => forceN i fun i => rowK box h .fail (rgR ra rb F ih wm lv pi pv sz agg i e nx h rest)
def rgs (ra rb : RunC) (F : Tr Fd) (ih : Ih) (wm : Option P) (lv : List P) (pi pv : P) (sz : Nat) (agg : Bool) (box : DV) (n : Nat) : Ko :=
  Nat.rec (motive := fun _ => Ko) okN (fun i rest => rgS ra rb F ih wm lv pi pv sz agg box i rest) n
def headK (l : List DV) (K : DV → Res) : Res := List.rec (motive := fun _ => Res) .fail (fun v t _ => List.rec (motive := fun _ => Res) (K v) (fun _ _ _ => .fail) t) l
def noMk (_ : List P) (_ : C) (_ : List Rs) : Res := .fail
def noTb (_ : List (List DV)) (_ : List (T × T)) : Res := .fail
def noPr (_ : Nat) : Res := .fail
def itbK (F : Tr Fd) (f : P) (K : Nat → Bool → Res) : Res := Option.rec (motive := fun _ => Res) .fail (fun fd => Fd.rec (motive := fun _ => Res) noMk noPr .fail K noTb fd) (Tr.get? f F)
def cRng (lv : List P) (g : Opd) (pi pv : P) (_ _ : C) (ra rb : RunC) : RunC := fun F ih wm e nx h => keepK lv e .nl fun e =>
  asF (ev g e) .fail fun f cs => itbK F f fun sz agg => headK cs fun box => rowK box h (.ok .norm e nx h) fun _ _ n _ _ => chk (Nat.ble n (nat_lit 1099511627776)) fun _ => rgs ra rb F ih wm lv pi pv sz agg box n e nx h
def cBad : RunC := fun _ _ _ _ _ _ => .fail
def cRet : RunC := fun _ _ _ e nx h => .ok .ret e nx h
def step (c : C) : RunC := C.rec (motive := fun _ => RunC) cSkip cReg cDrw cSeq cCond cBlock cLoop cExit cRet cRng cBad c
def exec (F : Tr Fd) (fuel : Nat) : Ih := Nat.rec (motive := fun _ => Ih) (fun _ _ _ _ _ => .fail) (fun _ ih c wm e nx h => step c F ih wm e nx h) fuel
/-- What a call of a function gives. -/
def okV : Kv := fun e v nx h => .ok .norm (.nd (some v) .nl .nl) nx h
def call (F : Tr Fd) (fuel : Nat) (f : P) (vs : List DV) (nx : P) (h : Hp) : Res := callK F (exec F fuel) none f vs .nl nx h okV
def told (r : Res) : Option DV := Res.rec none (fun _ e _ _ => Tr.get? .z e) r

end Go.Proofs.YtnoekfkfinjfgaaGreatDoor.Dx

set_option autoImplicit false
set_option linter.unusedSectionVars false
set_option linter.unusedSimpArgs false
namespace Go.Proofs.YtnoekfkfinjfgaaGreatDoor.Dx
open Go

inductive Img where | dead | at (b s c : Nat) | ro (b s : Nat) | mp (r : Nat)
abbrev J := P → Option Img

def capR (cp : Option Nat) (n cap : Nat) : Prop := n ≤ cap ∧ ∀ c, cp = some c → cap = c
def offR (cp : Option Nat) (n s o off : Nat) : Prop := (0 < n ∨ ∃ c, cp = some c ∧ 0 < c) → off = s + o

/-- A string's bytes as one number. -/
def codeB : List UInt8 → Nat
  | [] => 0
  | b :: l => b.toNat + 256 * codeB l

/-- The numbers that are not known, added up one after another: never far from nought. -/
class Rho where
  S : Nat → Int
  near : ∀ a b, -20000 ≤ S b - S a ∧ S b - S a ≤ 20000
variable [Rho]
def S2 (t : List (Nat × Nat)) : Int := match t with | [] => 0 | p :: _ => Rho.S p.2 - Rho.S p.1
theorem S2_near (t : List (Nat × Nat)) : -20000 ≤ S2 t ∧ S2 t ≤ 20000 := by
  cases t with
  | nil => exact ⟨by show (-20000 : Int) ≤ 0; decide, by show (0 : Int) ≤ 20000; decide⟩
  | cons p t => exact Rho.near _ _
mutual
inductive VR (j : J) : DV → Value → Prop
  | unk (v : Value) : VR j .unk v
  | bool (b : Bool) : VR j (.bool b) (.bool b)
  | int (k : IntKind) (n : Int) : VR j (.int k n) (.int k n)
  | str {n c : Nat} {s : ByteArray} (hn : s.data.size = n) (hc : codeB s.data.toList = c) : VR j (.str n c) (.string s)
  | nilp : VR j .nilp (.pointer none)
  | ptrA {k : P} {o b s c : Nat} (h : j k = some (.at b s c)) : VR j (.ptr k o) (.pointer (some ⟨b, s + o, none⟩))
  | ptrO {k : P} {o b s : Nat} (h : j k = some (.ro b s)) : VR j (.ptr k o) (.pointer (some ⟨b, s + o, none⟩))
  | ptrD {k : P} {o : Nat} (a : Addr) (h : j k = some .dead) : VR j (.ptr k o) (.pointer (some a))
  | nils : VR j .nils (.slice none 0 0)
  | slA {k : P} {o n : Nat} {cp : Option Nat} {sz b s c off cap : Nat} (h : j k = some (.at b s c)) (ho : offR cp n s o off) (hc : capR cp n cap) (hs : s ≤ off) (he : off + cap * sz ≤ c) :
      VR j (.sl k o n cp sz) (.slice (some ⟨b, off, none⟩) n cap)
  | slO {k : P} {o n : Nat} {cp : Option Nat} {sz b s off cap : Nat} (h : j k = some (.ro b s)) (ho : offR cp n s o off) (hc : capR cp n cap) :
      VR j (.sl k o n cp sz) (.slice (some ⟨b, off, none⟩) n cap)
  | slD {k : P} {o n : Nat} {cp : Option Nat} {sz cap : Nat} (a : Addr) (h : j k = some .dead) (hc : capR cp n cap) : VR j (.sl k o n cp sz) (.slice (some a) n cap)
  | slE {k : P} {o : Nat} {cp : Option Nat} {sz cap b s : Nat} (a : Addr) (h : j k = some (.ro b s)) (hc : capR cp 0 cap) (h0 : ∀ c, cp = some c → c = 0) : VR j (.sl k o 0 cp sz) (.slice (some a) 0 cap)
  | fn {f : P} {cs : List DV} {cs' : List Value} (h : VRt j cs cs') : VR j (.fn f cs) (.func (.func f.n) #[] cs'.toArray)
  | bf {f : P} {cs : List DV} {cs' : List Value} (h : VRt j cs cs') : VR j (.bf f cs) (.func (.func f.n) cs'.toArray #[])
  | nilf : VR j .nilf .nilFunc
  | ifc {t : Nat} {v : DV} {v' : Value} (h : VR j v v') : VR j (.ifc t v) (.iface t v')
  | nili : VR j .nili .nilIface
  | agg {l : List DV} {l' : List Value} (h : VRs j l l') : VR j (.agg l) (.agg l'.toArray)
  | tup {l : List DV} {l' : List Value} (h : VRt j l l') : VR j (.tup l) (.tuple l'.toArray)
  | mpA {k : P} {r : Nat} (h : j k = some (.mp r)) : VR j (.mp k) (.map (some r))
  | mpD {k : P} (r : Nat) (h : j k = some .dead) : VR j (.mp k) (.map (some r))
  | nilm : VR j .nilm (.map none)
  | syi {t : List (Nat × Nat)} {n : Int} (h : n.tmod 1000 = S2 t) : VR j (.sy false t) (.int .i64 n)
  | syu (t : List (Nat × Nat)) : VR j (.sy true t) (.int .i64 (S2 t))
/-- cells -/
inductive VRs (j : J) : List DV → List Value → Prop
  | nil : VRs j [] []
  | cons {v : DV} {v' : Value} {l : List DV} {l' : List Value} (h : VR j v v') (h1 : v'.oneCell' = true) (t : VRs j l l') : VRs j (v :: l) (v' :: l')
inductive VRt (j : J) : List DV → List Value → Prop
  | nil : VRt j [] []
  | cons {v : DV} {v' : Value} {l : List DV} {l' : List Value} (h : VR j v v') (t : VRt j l l') : VRt j (v :: l) (v' :: l')
end

/-- A later map of blocks: what stood stands, or is dead. -/
def Ext (j j' : J) : Prop := ∀ k i, j k = some i → j' k = some i ∨ j' k = some .dead

mutual
theorem VR.mono {j j' : J} (hj : Ext j j') : ∀ {v : DV} {v' : Value}, VR j v v' → VR j' v v'
  | _, _, .unk v => .unk v
  | _, _, .bool b => .bool b
  | _, _, .int k n => .int k n
  | _, _, .nilp => .nilp
  | _, _, .ptrA h => (hj _ _ h).elim .ptrA (.ptrD _)
  | _, _, .ptrO h => (hj _ _ h).elim .ptrO (.ptrD _)
  | _, _, .ptrD a h => (hj _ _ h).elim (.ptrD a) (.ptrD a)
  | _, _, .nils => .nils
  | _, _, .slA h ho hc hs he => (hj _ _ h).elim (fun h => .slA h ho hc hs he) (fun h => .slD _ h hc)
  | _, _, .slO h ho hc => (hj _ _ h).elim (fun h => .slO h ho hc) (fun h => .slD _ h hc)
  | _, _, .slD a h hc => (hj _ _ h).elim (fun h => .slD a h hc) (fun h => .slD a h hc)
  | _, _, .slE a h hc h0 => (hj _ _ h).elim (fun h => .slE a h hc h0) (fun h => .slD a h hc)
  | _, _, .fn h => .fn (VRt.mono hj h)
  | _, _, .bf h => .bf (VRt.mono hj h)
  | _, _, .nilf => .nilf
  | _, _, .ifc h => .ifc (VR.mono hj h)
  | _, _, .nili => .nili
  | _, _, .agg h => .agg (VRs.mono hj h)
  | _, _, .tup h => .tup (VRt.mono hj h)
  | _, _, .str hn hc => .str hn hc
  | _, _, .mpA h => (hj _ _ h).elim .mpA (.mpD _)
  | _, _, .mpD r h => (hj _ _ h).elim (.mpD r) (.mpD r)
  | _, _, .nilm => .nilm
  | _, _, .syi h => .syi h
  | _, _, .syu t => .syu t
theorem VRs.mono {j j' : J} (hj : Ext j j') : ∀ {l : List DV} {l' : List Value}, VRs j l l' → VRs j' l l'
  | _, _, .nil => .nil
  | _, _, .cons h h1 t => .cons (VR.mono hj h) h1 (VRs.mono hj t)
theorem VRt.mono {j j' : J} (hj : Ext j j') : ∀ {l : List DV} {l' : List Value}, VRt j l l' → VRt j' l l'
  | _, _, .nil => .nil
  | _, _, .cons h t => .cons (VR.mono hj h) (VRt.mono hj t)
end

theorem VRs.length {j : J} : ∀ {l : List DV} {l' : List Value}, VRs j l l' → l.length = l'.length
  | _, _, .nil => rfl
  | _, _, .cons _ _ t => by simp [VRs.length t]
theorem VRt.length {j : J} : ∀ {l : List DV} {l' : List Value}, VRt j l l' → l.length = l'.length
  | _, _, .nil => rfl
  | _, _, .cons _ t => by simp [VRt.length t]
theorem VRs.get {j : J} : ∀ {l : List DV} {l' : List Value}, VRs j l l' → ∀ (i : Nat) (v : DV), l[i]? = some v → ∃ v', l'[i]? = some v' ∧ VR j v v' ∧ v'.oneCell' = true
  | _, _, .nil, i, v, h => by simp at h
  | _, _, .cons hv h1 t, i, v, h => by
    cases i with
    | zero => simp at h; subst h; exact ⟨_, rfl, hv, h1⟩
    | succ i => simpa using VRs.get t i v (by simpa using h)
theorem VRt.get {j : J} : ∀ {l : List DV} {l' : List Value}, VRt j l l' → ∀ (i : Nat) (v : DV), l[i]? = some v → ∃ v', l'[i]? = some v' ∧ VR j v v'
  | _, _, .nil, i, v, h => by simp at h
  | _, _, .cons hv t, i, v, h => by
    cases i with
    | zero => simp at h; subst h; exact ⟨_, rfl, hv⟩
    | succ i => simpa using VRt.get t i v (by simpa using h)
theorem VRs.of_get {j : J} : ∀ {l : List DV} {l' : List Value}, l.length = l'.length → (∀ (i : Nat) (v : DV), l[i]? = some v → ∃ v', l'[i]? = some v' ∧ VR j v v' ∧ v'.oneCell' = true) → VRs j l l'
  | [], [], _, _ => .nil
  | [], _ :: _, h, _ => by simp at h
  | _ :: _, [], h, _ => by simp at h
  | v :: l, v' :: l', hl, h => by
    obtain ⟨w, hw, hr, h1⟩ := h 0 v rfl
    simp at hw; subst hw
    exact .cons hr h1 (VRs.of_get (by simpa using hl) fun i u hu => by simpa using h (i + 1) u (by simpa using hu))
theorem VRs.append {j : J} : ∀ {l : List DV} {l' : List Value} {m : List DV} {m' : List Value}, VRs j l l' → VRs j m m' → VRs j (l ++ m) (l' ++ m')
  | _, _, _, _, .nil, h => h
  | _, _, _, _, .cons hv h1 t, h => .cons hv h1 (VRs.append t h)
theorem VRt.append {j : J} : ∀ {l : List DV} {l' : List Value} {m : List DV} {m' : List Value}, VRt j l l' → VRt j m m' → VRt j (l ++ m) (l' ++ m')
  | _, _, _, _, .nil, h => h
  | _, _, _, _, .cons hv t, h => .cons hv (VRt.append t h)
theorem VRs.take {j : J} : ∀ {l : List DV} {l' : List Value} (n : Nat), VRs j l l' → VRs j (l.take n) (l'.take n)
  | _, _, 0, _ => by simpa using VRs.nil
  | _, _, n + 1, .nil => by simpa using VRs.nil
  | _, _, n + 1, .cons hv h1 t => by simpa using VRs.cons hv h1 (VRs.take n t)
theorem VRs.drop {j : J} : ∀ {l : List DV} {l' : List Value} (n : Nat), VRs j l l' → VRs j (l.drop n) (l'.drop n)
  | _, _, 0, h => by simpa using h
  | _, _, n + 1, .nil => by simpa using VRs.nil
  | _, _, n + 1, .cons _ _ t => by simpa using VRs.drop n t
theorem VRs.ones {j : J} : ∀ {l : List DV} {l' : List Value}, VRs j l l' → ∀ v ∈ l', v.oneCell' = true
  | _, _, .nil, v, h => by simp at h
  | _, _, .cons _ h1 t, v, h => by
    rcases List.mem_cons.1 h with rfl | h
    · exact h1
    · exact VRs.ones t v h
/-- The cells of a value that is known. -/
theorem VR.cells {j : J} {v : DV} {v' : Value} {l : List DV} (h : VR j v v') (hl : v.cells = some l) : VRs j l v'.cells.toList := by
  cases h <;> simp only [DV.cells, Option.some.injEq, reduceCtorEq] at hl <;> subst hl
  case agg l' h => exact h
  case fn cs cs' f h => exact .cons (.fn h) rfl .nil
  case bf cs cs' f h => exact .cons (.bf h) rfl .nil
  case ifc t v v' h => exact .cons (.ifc h) rfl .nil
  all_goals first
    | exact .cons (.bool _) rfl .nil
    | exact .cons (.int _ _) rfl .nil
    | exact .cons .nilp rfl .nil
    | exact .cons (.ptrA ‹_›) rfl .nil
    | exact .cons (.ptrO ‹_›) rfl .nil
    | exact .cons (.ptrD _ ‹_›) rfl .nil
    | exact .cons .nils rfl .nil
    | exact .cons (.slA ‹_› ‹_› ‹_› ‹_› ‹_›) rfl .nil
    | exact .cons (.slO ‹_› ‹_› ‹_›) rfl .nil
    | exact .cons (.slD _ ‹_› ‹_›) rfl .nil
    | exact .cons (.slE _ ‹_› ‹_› ‹_›) rfl .nil
    | exact .cons .nilf rfl .nil
    | exact .cons .nili rfl .nil
    | exact .cons .nilm rfl .nil
    | exact .cons (.str ‹_› ‹_›) rfl .nil
    | exact .cons (.syi ‹_›) rfl .nil
    | exact .cons (.syu _) rfl .nil
    | exact .cons (.mpA ‹_›) rfl .nil
    | exact .cons (.mpD _ ‹_›) rfl .nil

/-! ### A block -/

/-- The cells of block 'b' from 's' on read as 'l'. -/
def CellsAt (j : J) (w : World) (b s : Nat) (l : List DV) : Prop := ∀ i v, l[i]? = some v → ∃ v', w.cell? ⟨b, s + i, none⟩ = some v' ∧ VR j v v' ∧ v'.oneCell' = true

theorem CellsAt.mono {j j' : J} {w : World} {b s : Nat} {l : List DV} (hj : Ext j j') (h : CellsAt j w b s l) : CellsAt j' w b s l :=
  fun i v hv => let ⟨v', a, r, o⟩ := h i v hv; ⟨v', a, r.mono hj, o⟩
theorem CellsAt.of_heap {j : J} {w w' : World} {b s : Nat} {l : List DV} (h : CellsAt j w b s l) (hb : w'.heap[b]? = w.heap[b]?) : CellsAt j w' b s l :=
  fun i v hv => let ⟨v', a, r, o⟩ := h i v hv; ⟨v', by unfold World.cell? at a ⊢; rw [hb]; exact a, r, o⟩

/-- A block as it lies: at least so many cells, none of these frozen from 's' on. -/
structure Lies (w : World) (b s c : Nat) : Prop where
  lt : b < w.heap.size
  cell : ∀ i, i < c → (w.cell? ⟨b, i, none⟩).isSome = true
  free : ∀ i, s ≤ i → i < c → w.frozen? ⟨b, i, none⟩ = false

/-- A map's entries as they lie: keys, values. -/
inductive VRm (j : J) : List (DV × DV) → List MapEntry → Prop
  | nil : VRm j [] []
  | cons {k v : DV} {x : MapEntry} {l : List (DV × DV)} {l' : List MapEntry} (hk : VR j k x.key) (hv : VR j v x.val) (t : VRm j l l') : VRm j ((k, v) :: l) (x :: l')
theorem VRm.mono {j j' : J} (hj : Ext j j') {l : List (DV × DV)} {l' : List MapEntry} (h : VRm j l l') : VRm j' l l' := by
  induction h with
  | nil => exact .nil
  | cons hk hv _ ih => exact .cons (hk.mono hj) (hv.mono hj) ih

/-- A map's entries are told apart by the numbers under which they came; none has gone. -/
def Born (es : List MapEntry) (n : Nat) : Prop := n = es.length ∧ ∀ (i : Nat) (x : MapEntry), es[i]? = some x → x.born = i

def HR (j : J) (h : Hp) (w : World) (k : P) : Img → Prop
  | .dead => Tr.get? k h = some .dead
  | .at b s c => Lies w b s c ∧ ∃ l, Tr.get? k h = some (.cells l) ∧ s + l.length ≤ c ∧ CellsAt j w b s l
  | .ro b s => ∃ l, Tr.get? k h = some (.ro l) ∧ b < w.heap.size ∧ CellsAt j w b s l
  | .mp r => ∃ l es n, Tr.get? k h = some (.mp l) ∧ w.heap[r]? = some (.map es n) ∧ VRm j l es.toList ∧ Born es.toList n

/-- What may stand in a temporary. -/
def XD (j : J) (pv : P → Option Nat) (v : DV) (v' : Value) : Prop :=
  match v with
  | .var _ => False
  | .fld q o => ∃ b, pv q = some b ∧ v' = .pointer (some ⟨b, o, none⟩)
  | v => VR j v v'

def ER (j : J) (pv : P → Option Nat) (w : World) (tm : Array Value) (p : P) (v : DV) : Prop :=
  match v with
  | .var l => ∃ b, pv p = some b ∧ tm.getD p.n undef = .pointer (some ⟨b, 0, none⟩) ∧ Lies w b 0 l.length ∧ CellsAt j w b 0 l
  | v => XD j pv v (tm.getD p.n undef)

/-- How many of the program's variables have keys of their own: the first ones. -/
abbrev GN : Nat := 3
/-- Maps lie apart, and are maps; the program's variables lie where they lie. -/
structure Maps (j : J) (w : World) : Prop where
  glo : ∀ k : P, k.n < GN → j k = some (.ro k.n 0)
  dis : ∀ k k' b s c, j k = some (.at b s c) → j k' = some (.mp b) → False
  dir : ∀ k k' b s, j k = some (.ro b s) → j k' = some (.mp b) → False
  inj : ∀ k k' r, j k = some (.mp r) → j k' = some (.mp r) → k = k'
  kind : ∀ k r, j k = some (.mp r) → ∃ es n, w.heap[r]? = some (.map es n)

structure Rel (L : P → Prop) (N hi : Nat) (j : J) (pv : P → Option Nat) (e : Env) (nx : P) (h : Hp) (a : Act) (w : World) : Prop where
  fresh : ∀ k i, j k = some i → k.n < nx.n ∨ hi ≤ k.n
  heap : ∀ k i, j k = some i → k.n < nx.n → HR j h w k i
  inj : ∀ k k' b s c s' c', j k = some (.at b s c) → j k' = some (.at b s' c') → k = k'
  inr : ∀ k k' b s c s', j k = some (.at b s c) → j k' = some (.ro b s') → False
  env : ∀ p v, Tr.get? p e = some v → ER j pv w a.tmps p v
  pvv : ∀ p b, pv p = some b → ∃ l, Tr.get? p e = some (.var l)
  pin : ∀ p q b, pv p = some b → pv q = some b → p = q
  pfr : ∀ p b, pv p = some b → ∀ k s c, j k ≠ some (.at b s c)
  pfo : ∀ p b, pv p = some b → ∀ k s, j k ≠ some (.ro b s)
  loc : ∀ p l, Tr.get? p e = some (.var l) → L p
  size : a.tmps.size = N
  lt : ∀ k b s c, j k = some (.at b s c) → b < w.heap.size
  lr : ∀ k b s, j k = some (.ro b s) → b < w.heap.size
  top : ∀ k, nx.n ≤ k.n → Tr.get? k h = none
  maps : Maps j w
  pfm : ∀ p b, pv p = some b → ∀ k, j k ≠ some (.mp b)

/-- From one state on: blocks of keys from 'hi' on are others'; 'n': the next key at the beginning. -/
structure Fr (hi n : Nat) (j : J) (pv : P → Option Nat) (w : World) (j' : J) (pv' : P → Option Nat) (w' : World) : Prop where
  size : w.heap.size ≤ w'.heap.size
  os : w'.os = w.os
  output : w'.output = w.output
  same : ∀ x, x < w.heap.size → (∀ k s c, j k = some (.at x s c) → hi ≤ k.n) → (∀ p, pv p ≠ some x) → (∀ k, j k = some (.mp x) → hi ≤ k.n) → w'.heap[x]? = w.heap[x]?
  ext : Ext j j'
  old : ∀ k, hi ≤ k.n → j' k = j k
  more : ∀ k, j k = none → j' k ≠ none → n ≤ k.n
  new : ∀ k x s c, j' k = some (.at x s c) → k.n < hi → (∃ k0 s0 c0, j k0 = some (.at x s0 c0) ∧ k0.n < hi) ∨ w.heap.size ≤ x
  ro : ∀ k x s, j' k = some (.ro x s) → j k = some (.ro x s) ∨ w.heap.size ≤ x
  pnew : ∀ p x, pv' p = some x → pv p = some x ∨ w.heap.size ≤ x
  froz : ∀ ad : Addr, ad.block < w.heap.size → w'.frozen? ad = w.frozen? ad
  newm : ∀ k x, j' k = some (.mp x) → k.n < hi → (∃ k0, j k0 = some (.mp x) ∧ k0.n < hi) ∨ w.heap.size ≤ x

theorem Ext.refl (j : J) : Ext j j := fun _ _ h => .inl h
theorem Ext.trans {j j' j'' : J} (h : Ext j j') (h' : Ext j' j'') : Ext j j'' := fun k i hk => by
  rcases h k i hk with h1 | h1
  · exact h' k i h1
  · exact .inr ((h' k _ h1).elim id id)
theorem Fr.refl (hi n : Nat) (j : J) (pv : P → Option Nat) (w : World) : Fr hi n j pv w j pv w where
  size := Nat.le_refl _
  os := rfl
  output := rfl
  same := fun _ _ _ _ _ => rfl
  ext := Ext.refl j
  old := fun _ _ => rfl
  more := fun _ h h' => absurd h h'
  new := fun k _ s c h hk => .inl ⟨k, s, c, h, hk⟩
  ro := fun _ _ _ h => .inl h
  pnew := fun _ _ h => .inl h
  froz := fun _ _ => rfl
  newm := fun k _ h hk => .inl ⟨k, h, hk⟩
theorem Fr.trans {hi n n' : Nat} {j j' j'' : J} {pv pv' pv'' : P → Option Nat} {w w' w'' : World} (h : Fr hi n j pv w j' pv' w') (h' : Fr hi n' j' pv' w' j'' pv'' w'') (hn : n ≤ n') :
    Fr hi n j pv w j'' pv'' w'' where
  size := Nat.le_trans h.size h'.size
  os := h'.os.trans h.os
  output := h'.output.trans h.output
  same := fun x hx hj hp hm => by
    rw [h'.same x (Nat.lt_of_lt_of_le hx h.size) ?_ ?_ ?_]
    · exact h.same x hx hj hp hm
    · intro k s c hk
      rcases Nat.lt_or_ge k.n hi with hlt | hge
      · rcases h.new k x s c hk hlt with ⟨k0, s0, c0, h0, hk0⟩ | h0
        · have := hj _ _ _ h0; omega
        · omega
      · exact hge
    · intro p hp'
      rcases h.pnew p x hp' with h0 | h0
      · exact hp _ h0
      · omega
    · intro k hk
      rcases Nat.lt_or_ge k.n hi with hlt | hge
      · rcases h.newm k x hk hlt with ⟨k0, h0, hk0⟩ | h0
        · have := hm _ h0; omega
        · omega
      · exact hge
  ext := h.ext.trans h'.ext
  old := fun k hk => (h'.old k hk).trans (h.old k hk)
  more := fun k hk hk' => by
    by_cases h0 : j' k = none
    · exact Nat.le_trans hn (h'.more k h0 hk')
    · exact h.more k hk h0
  new := fun k x s c hk hlt => by
    rcases h'.new k x s c hk hlt with ⟨k0, s0, c0, h0, hk0⟩ | h0
    · exact h.new k0 x s0 c0 h0 hk0
    · exact .inr (Nat.le_trans h.size h0)
  ro := fun k x s hk => by
    rcases h'.ro k x s hk with h0 | h0
    · exact h.ro k x s h0
    · exact .inr (Nat.le_trans h.size h0)
  pnew := fun p x hp => by
    rcases h'.pnew p x hp with h0 | h0
    · exact h.pnew p x h0
    · exact .inr (Nat.le_trans h.size h0)
  froz := fun ad hl => (h'.froz ad (Nat.lt_of_lt_of_le hl h.size)).trans (h.froz ad hl)
  newm := fun k x hk hlt => by
    rcases h'.newm k x hk hlt with ⟨k0, h0, hk0⟩ | h0
    · exact h.newm k0 x h0 hk0
    · exact .inr (Nat.le_trans h.size h0)

end Go.Proofs.YtnoekfkfinjfgaaGreatDoor.Dx

set_option autoImplicit false
set_option linter.unusedSectionVars false
set_option linter.unusedSimpArgs false
noncomputable section
namespace Go.Proofs.YtnoekfkfinjfgaaGreatDoor.Dx
open Go
variable [Rho]

/-! ### Constants, operands -/

def oneC : Value → Bool := fun v => v.oneCell'
mutual
def okCode : DV → Value → Bool
  | .unk, _ => true
  | .bool b, .bool b' => b == b'
  | .int k n, .int k' n' => sameK k k' && ieq n n'
  | .str n c, .string s => Nat.beq s.data.size n && Nat.beq (codeB s.data.toList) c
  | .nilp, .pointer none => true
  | .nils, .slice none l c => Nat.beq l 0 && Nat.beq c 0
  | .nilf, .nilFunc => true
  | .nili, .nilIface => true
  | .nilm, .map none => true
  | .fn f [], .func (.func g) ⟨[]⟩ ⟨[]⟩ => Nat.beq f.n g
  | .agg l, .agg cs => okCs l cs.toList
  | _, _ => false
def okCs : List DV → List Value → Bool
  | [], [] => true
  | v :: l, v' :: l' => okCode v v' && v'.oneCell' && okCs l l'
  | _, _ => false
end
theorem okCs_step (j : J) {v : DV} {l : List DV} (hv : ∀ v', okCode v v' = true → VR j v v') (hl : ∀ l', okCs l l' = true → VRs j l l') : ∀ l', okCs (v :: l) l' = true → VRs j (v :: l) l' := by
  intro l' h
  cases l' with
  | nil => simp [okCs] at h
  | cons v' l' =>
    simp only [okCs, Bool.and_eq_true] at h
    exact .cons (hv v' h.1.1) h.1.2 (hl l' h.2)
theorem okCs_nil (j : J) : ∀ l', okCs [] l' = true → VRs j [] l' := by
  intro l' h
  cases l' with
  | nil => exact .nil
  | cons v' l' => simp [okCs] at h
theorem okC_sound (j : J) (v : DV) : ∀ v', okCode v v' = true → VR j v v' := by
  refine DV.rec (motive_1 := fun v => ∀ v', okCode v v' = true → VR j v v') (motive_2 := fun l => ∀ l', okCs l l' = true → VRs j l l') ?_ ?_ ?_ ?_ ?_ ?_ ?_ ?_ ?_ ?_ ?_ ?_ ?_ ?_ ?_ ?_ ?_ ?_ ?_ ?_ ?_ ?_ v
  case refine_1 => intro v' _; exact .unk _
  case refine_2 => intro b v' h; cases v' <;> simp [okCode] at h; subst h; exact .bool _
  case refine_3 =>
    intro k n v' h
    cases v' <;> simp only [okCode, Bool.and_eq_true, Bool.false_eq_true] at h
    rename_i k' n'
    obtain ⟨h1, h2⟩ := h
    rw [ieq_eq, decide_eq_true_eq] at h2
    rw [sameK_eq h1, h2]; exact .int _ _
  case refine_4 => intro n c v' h; cases v' <;> simp [okCode] at h; exact .str h.1 h.2
  case refine_5 =>
    intro v' h; cases v' <;> try (simp [okCode] at h; done)
    rename_i a; cases a <;> simp [okCode] at h; exact .nilp
  case refine_6 => intro k o v' h; cases v' <;> simp [okCode] at h
  case refine_7 =>
    intro v' h; cases v' <;> try (simp [okCode] at h; done)
    rename_i a l c; cases a <;> simp [okCode] at h; obtain ⟨rfl, rfl⟩ := h; exact .nils
  case refine_8 => intro k o n c sz v' h; cases v' <;> simp [okCode] at h
  case refine_9 =>
    intro f cs _ v' h
    cases cs with
    | cons _ _ => cases v' <;> simp [okCode] at h
    | nil =>
      cases v' <;> try (simp [okCode] at h; done)
      rename_i g a b
      cases g <;> try (simp [okCode] at h; done)
      rename_i g
      obtain ⟨a⟩ := a; obtain ⟨b⟩ := b
      cases a <;> cases b <;> simp [okCode] at h
      subst h
      exact VR.fn (cs := []) (cs' := []) .nil
  case refine_10 => intro f cs _ v' h; cases v' <;> simp [okCode] at h
  case refine_11 => intro v' h; cases v' <;> simp [okCode] at h; exact .nilf
  case refine_12 => intro t v _ v' h; cases v' <;> simp [okCode] at h
  case refine_13 => intro v' h; cases v' <;> simp [okCode] at h; exact .nili
  case refine_14 =>
    intro l ih v' h
    cases v' <;> try (simp [okCode] at h; done)
    rename_i cs
    exact VR.agg (l' := cs.toList) (ih cs.toList (by simpa [okCode] using h))
  case refine_15 => intro l _ v' h; cases v' <;> simp [okCode] at h
  case refine_16 => intro k v' h; cases v' <;> simp [okCode] at h
  case refine_17 =>
    intro v' h; cases v' <;> try (simp [okCode] at h; done)
    rename_i a; cases a <;> simp [okCode] at h; exact .nilm
  case refine_18 => intro l _ v' h; cases v' <;> simp [okCode] at h
  case refine_19 => intro p o v' h; cases v' <;> simp [okCode] at h
  case refine_20 => intro u t v' h; simp [okCode] at h
  case refine_21 => exact okCs_nil j
  case refine_22 => intro v l hv hl; exact okCs_step j hv hl
theorem okCs_sound (j : J) : ∀ (l : List DV) (l' : List Value), okCs l l' = true → VRs j l l'
  | [], l', h => okCs_nil j l' h
  | v :: l, l', h => okCs_step j (okC_sound j v) (okCs_sound j l) l' h

def chkOpd : Opd → Operand → Bool
  | .t p, .tmp t => Nat.beq p.n t
  | .c d, .const v => okCode d v
  | .c (.fn f []), .func g => Nat.beq f.n g
  | .c .unk, .global _ => true
  | .c (.ptr k o), .global g => Nat.beq o 0 && Nat.beq k.n g && Nat.ble (g + 1) GN
  | _, _ => false
def chkOpds : List Opd → List Operand → Bool
  | [], [] => true
  | d :: l, x :: l' => chkOpd d x && chkOpds l l'
  | _, _ => false

theorem XD.of_VR {j : J} {pv : P → Option Nat} {v : DV} {v' : Value} (h : VR j v v') : XD j pv v v' := by
  cases v <;> first | exact h | (cases h)
/-- What is read off an operand. -/
def Reads (j : J) (pv : P → Option Nat) (e : Env) (ρ : Operand → Value) : Prop := ∀ d x, chkOpd d x = true → XD j pv (ev d e) (ρ x)

theorem reads_of {j : J} {pv : P → Option Nat} {e : Env} {a : Act} {w : World} (hgl : ∀ k : P, k.n < GN → j k = some (.ro k.n 0)) (henv : ∀ p v, Tr.get? p e = some v → ER j pv w a.tmps p v) : Reads j pv e a.eval := by
  intro d x hc
  cases d with
  | t p =>
    cases x <;> simp only [chkOpd, Nat.beq_eq, Bool.false_eq_true] at hc
    subst hc
    show XD j pv (evT p e) (a.tmps.getD p.n undef)
    unfold evT
    cases hg : Tr.get? p e with
    | none => exact VR.unk _
    | some v =>
      have hr := henv p v hg
      show XD j pv (place v p) _
      rw [place_eq]
      cases v <;> try exact hr
      case var l =>
        obtain ⟨b, hb, ht, _⟩ := hr
        exact ⟨b, hb, ht⟩
  | c v =>
    cases x with
    | const v' => exact XD.of_VR (okC_sound j v v' (by simpa [chkOpd] using hc))
    | tmp t => simp [chkOpd] at hc
    | global g =>
      cases v <;> simp [chkOpd] at hc
      · exact VR.unk _
      · obtain ⟨⟨rfl, rfl⟩, h3⟩ := hc
        have := hgl _ h3
        exact VR.ptrO this
    | func g =>
      cases v <;> simp [chkOpd] at hc
      rename_i f cs
      cases cs <;> simp [chkOpd] at hc
      subst hc
      exact VR.fn (cs := []) (cs' := []) .nil

theorem Rel.reads {L : P → Prop} {N hi : Nat} {j : J} {pv : P → Option Nat} {e : Env} {nx : P} {h : Hp} {a : Act} {w : World} (R : Rel L N hi j pv e nx h a w) : Reads j pv e a.eval := reads_of R.maps.glo R.env

theorem XD.outer {j : J} {pv : P → Option Nat} {v : DV} {v' : Value} (h : XD j pv v v') : VR j (outer v ()) v' := by
  rw [outer_eq]
  cases v <;> first | exact h | exact VR.unk _
theorem Reads.ov {j : J} {pv : P → Option Nat} {e : Env} {ρ : Operand → Value} (h : Reads j pv e ρ) {d : Opd} {x : Operand} (hc : chkOpd d x = true) : VR j (ov d e) (ρ x) := (h d x hc).outer
theorem Reads.ovs {j : J} {pv : P → Option Nat} {e : Env} {ρ : Operand → Value} (h : Reads j pv e ρ) : ∀ (l : List Opd) (l' : List Operand), chkOpds l l' = true → VRt j (l.map fun o => Dx.ov o e) (l'.map ρ)
  | [], [], _ => .nil
  | d :: l, x :: l', hc => by
    simp only [chkOpds, Bool.and_eq_true] at hc
    exact .cons (h.ov hc.1) (h.ovs l l' hc.2)
  | [], _ :: _, hc => by simp [chkOpds] at hc
  | _ :: _, [], hc => by simp [chkOpds] at hc

/-! inversions -/
section
variable {j : J} {pv : P → Option Nat} {v' : Value}
theorem XD.bool {b : Bool} (h : XD j pv (.bool b) v') : v' = .bool b := by cases (h : VR j _ _); rfl
theorem XD.int {k : IntKind} {n : Int} (h : XD j pv (.int k n) v') : v' = .int k n := by cases (h : VR j _ _); rfl
theorem XD.agg {l : List DV} (h : XD j pv (.agg l) v') : ∃ l' : List Value, v' = .agg l'.toArray ∧ VRs j l l' := by cases (h : VR j _ _); exact ⟨_, rfl, ‹_›⟩
theorem XD.tup {l : List DV} (h : XD j pv (.tup l) v') : ∃ l' : List Value, v' = .tuple l'.toArray ∧ VRt j l l' := by cases (h : VR j _ _); exact ⟨_, rfl, ‹_›⟩
theorem XD.fn {f : P} {l : List DV} (h : XD j pv (.fn f l) v') : ∃ l' : List Value, v' = .func (.func f.n) #[] l'.toArray ∧ VRt j l l' := by cases (h : VR j _ _); exact ⟨_, rfl, ‹_›⟩
theorem XD.ptr {k : P} {o : Nat} (h : XD j pv (.ptr k o) v') : ∃ a, v' = .pointer (some a) := by cases (h : VR j _ _) <;> exact ⟨_, rfl⟩
theorem XD.sl {k : P} {o n : Nat} {cp : Option Nat} {sz : Nat} (h : XD j pv (.sl k o n cp sz) v') : ∃ a cap, v' = .slice (some a) n cap ∧ capR cp n cap := by
  cases (h : VR j _ _) <;> exact ⟨_, _, rfl, ‹_›⟩
theorem XD.nils (h : XD j pv .nils v') : v' = .slice none 0 0 := by cases (h : VR j _ _); rfl
theorem VR.str_inv {n c : Nat} (h : VR j (.str n c) v') : ∃ s : ByteArray, v' = .string s ∧ s.data.size = n ∧ codeB s.data.toList = c := by cases h; exact ⟨_, rfl, ‹_›, ‹_›⟩
theorem VR.int_inv {k : IntKind} {n : Int} (h : VR j (.int k n) v') : v' = .int k n := by cases h; rfl
theorem VR.bool_inv {b : Bool} (h : VR j (.bool b) v') : v' = .bool b := by cases h; rfl
theorem VR.agg_inv {l : List DV} (h : VR j (.agg l) v') : ∃ l' : List Value, v' = .agg l'.toArray ∧ VRs j l l' := by cases h; exact ⟨_, rfl, ‹_›⟩
end

end Go.Proofs.YtnoekfkfinjfgaaGreatDoor.Dx
