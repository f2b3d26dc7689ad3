/- How the small machine runs each instruction, each piece of code, each call. No statement of this seat is proved here. -/
import Derived.Test.YtnoekfkfinjfgaaGreatDoorUb
set_option autoImplicit false
set_option linter.unusedSimpArgs false
set_option linter.unusedVariables false
noncomputable section
namespace Go.Proofs.YtnoekfkfinjfgaaGreatDoor.Dx
open Go

abbrev Kv := Env → DV → P → Hp → Res
abbrev Ih := C → Option P → Env → P → Hp → Res
abbrev Run := Tr Fd → Ih → Option P → Env → P → Hp → Kv → Res

/-! ### Operands -/

def evN (_ : P) : DV := .unk
def evS (v : DV) (p : P) : DV := place v p
def evT (p : P) (e : Env) : DV := Option.rec (motive := fun _ => P → DV) evN evS (Tr.get? p e) p
def evC (v : DV) (_ : Env) : DV := v
def ev (o : Opd) (e : Env) : DV := Opd.rec (motive := fun _ => Env → DV) evT evC o e
def evK (o : Opd) (e : Env) (K : DV → Res) : Res := fV (ev o e) K
def ovK (o : Opd) (e : Env) (K : DV → Res) : Res := oV (ev o e) K
def ovsN (_ : Env) (K : List DV → Res) : Res := K []
def ovsC (o : Opd) (_ : List Opd) (ih : Env → (List DV → Res) → Res) (e : Env) (K : List DV → Res) : Res := ovK o e fun v => ih e fun vs => K (v :: vs)
def ovsK (l : List Opd) : Env → (List DV → Res) → Res := List.rec (motive := fun _ => Env → (List DV → Res) → Res) ovsN ovsC l
def ov (o : Opd) (e : Env) : DV := outer (ev o e) ()
theorem evK_eq (o : Opd) (e : Env) (K : DV → Res) : evK o e K = K (ev o e) := fV_eq _ _
theorem ovK_eq (o : Opd) (e : Env) (K : DV → Res) : ovK o e K = K (ov o e) := oV_eq _ _
theorem ovsK_eq (l : List Opd) : ∀ (e : Env) (K : List DV → Res), ovsK l e K = K (l.map fun o => ov o e) := by
  induction l with
  | nil => intro e K; rfl
  | cons o l ih => intro e K; show ovK o e (fun v => ovsK l e fun vs => K (v :: vs)) = _; rw [ovK_eq, ih]; rfl

/-! ### Memory -/

def obD (F : Res) (_ : List DV → Res) : Res := F
def obL (l : List DV) (_ : Res) (K : List DV → Res) : Res := K l
def obN (F : Res) (_ : List DV → Res) : Res := F
def obS (o : Ob) : Res → (List DV → Res) → Res := Ob.rec (motive := fun _ => Res → (List DV → Res) → Res) obL obL obD (fun _ => obD) o
/-- The cells of a block that may be read. -/
def objK (k : P) (h : Hp) (F : Res) (K : List DV → Res) : Res := Option.rec (motive := fun _ => Res → (List DV → Res) → Res) obN obS (Tr.get? k h) F K
def owL (_ : List DV) (F : Res) (_ : List DV → Res) : Res := F
def owS (o : Ob) : Res → (List DV → Res) → Res := Ob.rec (motive := fun _ => Res → (List DV → Res) → Res) obL owL obD (fun _ => obD) o
/-- The cells of a block that may be written. -/
def ownK (k : P) (h : Hp) (F : Res) (K : List DV → Res) : Res := Option.rec (motive := fun _ => Res → (List DV → Res) → Res) obN owS (Tr.get? k h) F K
theorem objK_eq (k : P) (h : Hp) (F : Res) (K : List DV → Res) : objK k h F K = match Tr.get? k h with | some (.cells l) => K l | some (.ro l) => K l | _ => F := by
  unfold objK; cases Tr.get? k h with
  | none => rfl
  | some o => cases o <;> rfl
theorem ownK_eq (k : P) (h : Hp) (F : Res) (K : List DV → Res) : ownK k h F K = match Tr.get? k h with | some (.cells l) => K l | _ => F := by
  unfold ownK; cases Tr.get? k h with
  | none => rfl
  | some o => cases o <;> rfl
def vaN (F : Res) (_ : List DV → Res) : Res := F
/-- The cells of a variable of the frame. -/
def varK (p : P) (e : Env) (F : Res) (K : List DV → Res) : Res := Option.rec (motive := fun _ => Res → (List DV → Res) → Res) vaN asV (Tr.get? p e) F K
theorem varK_eq (p : P) (e : Env) (F : Res) (K : List DV → Res) : varK p e F K = match Tr.get? p e with | some (.var l) => K l | _ => F := by
  unfold varK; cases Tr.get? p e with
  | none => rfl
  | some v => show asV v F K = _; rw [asV_eq]; cases v <;> rfl
/-- Where an address leads: the cells, and at which of them. -/
def readP (h : Hp) (F : Res) (K : List DV → Nat → Res) (k : P) (o : Nat) : Res := objK k h F fun l => K l o
def readF (e : Env) (F : Res) (K : List DV → Nat → Res) (p : P) (o : Nat) : Res := varK p e F fun l => K l o
def readK (v : DV) (e : Env) (h : Hp) (F : Res) (K : List DV → Nat → Res) : Res := asP v (asFl v F (readF e F K)) (readP h F K)
def look (v : DV) (e : Env) (h : Hp) : Option (List DV × Nat) :=
  match v with
  | .ptr k o => match Tr.get? k h with | some (.cells l) => some (l, o) | some (.ro l) => some (l, o) | _ => none
  | .fld p o => match Tr.get? p e with | some (.var l) => some (l, o) | _ => none
  | _ => none
theorem readK_eq (v : DV) (e : Env) (h : Hp) (F : Res) (K : List DV → Nat → Res) : readK v e h F K = match look v e h with | some (l, o) => K l o | none => F := by
  unfold readK; rw [asP_eq, asFl_eq]
  cases v <;> try rfl
  case ptr k o =>
    show objK k h F (fun l => K l o) = _
    rw [objK_eq]; simp only [look]; cases Tr.get? k h with
    | none => rfl
    | some b => cases b <;> rfl
  case fld p o =>
    show varK p e F (fun l => K l o) = _
    rw [varK_eq]; simp only [look]; cases Tr.get? p e with
    | none => rfl
    | some b => cases b <;> rfl
def wOkN (_ : P) (_ : Res) (K : Unit → Res) : Res := K ()
def wOkS (m : P) (k : P) (F : Res) (K : Unit → Res) : Res := Bool.rec (motive := fun _ => Res) F (K ()) (Nat.ble m.n k.n)
/-- May a block be written? -/
def wOk (wm : Option P) (k : P) (F : Res) (K : Unit → Res) : Res := Option.rec (motive := fun _ => P → Res → (Unit → Res) → Res) wOkN wOkS wm k F K
def may (wm : Option P) (k : P) : Prop := ∀ m, wm = some m → m.n ≤ k.n
theorem wOk_eq (wm : Option P) (k : P) (F : Res) (K : Unit → Res) : wOk wm k F K = (open Classical in if may wm k then K () else F) := by
  cases wm with
  | none => rw [if_pos (show may none k from fun m h => nomatch h)]; rfl
  | some m =>
    show Bool.rec (motive := fun _ => Res) F (K ()) (Nat.ble m.n k.n) = _
    cases h : Nat.ble m.n k.n with
    | false => rw [if_neg]; intro hm; have := hm m rfl; rw [← Nat.ble_eq, h] at this; cases this
    | true => rw [if_pos]; intro m' hm'; cases hm'; exact Nat.ble_eq.mp h
/-- A new block. -/
def newK (l : List DV) (e : Env) (nx : P) (h : Hp) (mk : P → DV) (k : Kv) : Res := Tr.setK nx h (some (.cells l)) fun h => nx.sucK fun n => k e (mk nx) n h
theorem newK_eq (l : List DV) (e : Env) (nx : P) (h : Hp) (mk : P → DV) (k : Kv) : newK l e nx h mk k = k e (mk nx) nx.suc (Tr.set nx h (some (.cells l))) := by
  unfold newK; rw [Tr.setK_eq, P.sucK_eq]

/-! ### Instructions -/

def iMv (a : Opd) : Run := fun _ _ _ e nx h k => evK a e fun v => k e v nx h
def iPick (c a b : Opd) : Run := fun _ _ _ e nx h k => asB (ev c e) .fail fun t => Bool.rec (motive := fun _ => Res) (evK b e fun v => k e v nx h) (evK a e fun v => k e v nx h) t
def iAl (z : List DV) : Run := fun _ _ _ e nx h k => newK z e nx h (fun n => .ptr n (nat_lit 0)) k
def iBx (a : Opd) : Run := fun _ _ _ e nx h k => ovK a e fun v => cellsK v .fail fun l => newK l e nx h (fun n => .ptr n (nat_lit 0)) k

def lenN (n : Nat) : Bool := Nat.rec (motive := fun _ => Bool) true (fun _ _ => false) n
def lenC (_ : DV) (_ : List DV) (ih : Nat → Bool) (n : Nat) : Bool := Nat.rec (motive := fun _ => Bool) false (fun m _ => ih m) n
def isLen (l : List DV) : Nat → Bool := List.rec (motive := fun _ => Nat → Bool) lenN lenC l
theorem isLen_eq (l : List DV) : ∀ n, isLen l n = decide (l.length = n) := by
  induction l with
  | nil => intro n; cases n <;> rfl
  | cons a l ih => intro n; cases n with
    | zero => rfl
    | succ n => show isLen l n = _; rw [ih]; simp
def chk (b : Bool) (K : Unit → Res) : Res := Bool.rec (motive := fun _ => Res) .fail (K ()) b
theorem chk_eq (b : Bool) (K : Unit → Res) : chk b K = if b = true then K () else .fail := by cases b <;> rfl

def fillN (z : List DV) (_ : Env) (K : List DV → Res) : Res := K z
def fillP (ih : List DV → Env → (List DV → Res) → Res) (z : List DV) (e : Env) (K : List DV → Res) (off : Nat) (x : Nat × Opd) : Res :=
  Prod.rec (motive := fun _ => Res) (fun size o => ovK o e fun v => cellsK v .fail fun l => chk (isLen l size) fun _ => sprK off z l .fail fun z => ih z e K) x
def fillC (x : Nat × Nat × Opd) (_ : List (Nat × Nat × Opd)) (ih : List DV → Env → (List DV → Res) → Res) (z : List DV) (e : Env) (K : List DV → Res) : Res :=
  Prod.rec (motive := fun _ => Res) (fillP ih z e K) x
def fillK (ps : List (Nat × Nat × Opd)) : List DV → Env → (List DV → Res) → Res := List.rec (motive := fun _ => List DV → Env → (List DV → Res) → Res) fillN fillC ps
def fills (e : Env) : List (Nat × Nat × Opd) → List DV → Option (List DV)
  | [], z => some z
  | (off, size, o) :: ps, z =>
    match (ov o e).cells with
    | some l => if l.length = size ∧ off + l.length ≤ z.length then fills e ps (z.take off ++ l ++ z.drop (off + l.length)) else none
    | none => none
theorem fillK_eq (ps : List (Nat × Nat × Opd)) : ∀ (z : List DV) (e : Env) (K : List DV → Res), fillK ps z e K = match fills e ps z with | some z => K z | none => .fail := by
  induction ps with
  | nil => intro z e K; rfl
  | cons x ps ih =>
    obtain ⟨off, size, o⟩ := x
    intro z e K
    show ovK o e (fun v => cellsK v .fail fun l => chk (isLen l size) fun _ => sprK off z l .fail fun z => fillK ps z e K) = _
    rw [ovK_eq, cellsK_eq]
    simp only [fills]
    cases (ov o e).cells with
    | none => rfl
    | some l =>
      show chk (isLen l size) (fun _ => sprK off z l .fail fun z => fillK ps z e K) = _
      rw [chk_eq, isLen_eq, sprK_eq]
      simp only [ih]
      by_cases h1 : l.length = size
      · by_cases h2 : off + l.length ≤ z.length
        · rw [if_pos (by simpa using h1), if_pos h2, if_pos ⟨h1, h2⟩]
        · rw [if_pos (by simpa using h1), if_neg h2, if_neg (fun h => h2 h.2)]
      · rw [if_neg (by simpa using h1), if_neg (fun h => h1 h.1)]

def iBld (z : List DV) (ps : List (Nat × Nat × Opd)) : Run := fun _ _ _ e nx h k => fillK ps z e fun l => k e (.agg l) nx h
def iBsl (len sz : Nat) (z : List DV) (ps : List (Nat × Nat × Opd)) : Run := fun _ _ _ e nx h k => fillK ps z e fun l => newK l e nx h (fun n => .sl n (nat_lit 0) len (some len) sz) k
def iLd (a : Opd) : Run := fun _ _ _ e nx h k => readK (ev a e) e h .fail fun l o => nthK l o .fail fun v => fV v fun v => k e v nx h
def iLda (n : Nat) (a : Opd) : Run := fun _ _ _ e nx h k => readK (ev a e) e h .fail fun l o => dropK o l .fail fun t => takeK n t .fail fun r => k e (.agg r) nx h
/-- what stands in a variable of the frame -/
def iVlZ (a : Opd) : Run := fun _ _ _ e nx h k => readK (ev a e) e .nl .fail fun l o => nthK l o .fail fun v => fV v fun v => k e v nx h
def iVlS (a : Opd) (n : Nat) : Run := fun _ _ _ e nx h k => readK (ev a e) e .nl .fail fun l o => dropK o l .fail fun t => takeK (Nat.succ n) t .fail fun r => k e (.agg r) nx h
def iVla (n : Nat) (a : Opd) : Run := Nat.rec (motive := fun _ => Run) (iVlZ a) (fun m _ => iVlS a m) n
def stP (wm : Option P) (e : Env) (nx : P) (h : Hp) (k : Kv) (c : List DV) (b : P) (o : Nat) : Res :=
  wOk wm b .fail fun _ => ownK b h .fail fun l => sprK o l c .fail fun l => Tr.setK b h (some (.cells l)) fun h => k e (.tup []) nx h
def stF (e : Env) (nx : P) (h : Hp) (k : Kv) (c : List DV) (p : P) (o : Nat) : Res :=
  varK p e .fail fun l => sprK o l c .fail fun l => Tr.setK p e (some (.var l)) fun e => k e (.tup []) nx h
def iSt (n : Nat) (a v : Opd) : Run := fun _ _ wm e nx h k => ovK v e fun v => cellsK v .fail fun c => chk (isLen c n) fun _ =>
  asP (ev a e) (asFl (ev a e) .fail (stF e nx h k c)) (stP wm e nx h k c)
def iNc (a : Opd) : Run := fun _ _ _ e nx h k => solid (ev a e) .fail fun v => k e v nx h

def bAdd (k : IntKind) (x y : Int) (K : DV → Res) : Res := mkI k (iadd x y) K
def bSub (k : IntKind) (x y : Int) (K : DV → Res) : Res := mkI k (iadd x (ineg y)) K
def bMul (k : IntKind) (x y : Int) (K : DV → Res) : Res := mkI k (imul x y) K
def bQuo (k : IntKind) (x y : Int) (K : DV → Res) : Res := Bool.rec (motive := fun _ => Res) (mkI k (idiv x y) K) .fail (ieq y (.ofNat (nat_lit 0)))
def bRem (k : IntKind) (x y : Int) (K : DV → Res) : Res := Bool.rec (motive := fun _ => Res) (mkI2 k (imod x y) K) .fail (ieq y (.ofNat (nat_lit 0)))
def bl (b : Bool) (K : DV → Res) : Res := Bool.rec (motive := fun _ => Res) (K (.bool false)) (K (.bool true)) b
def blN (b : Bool) (K : DV → Res) : Res := Bool.rec (motive := fun _ => Res) (K (.bool true)) (K (.bool false)) b
theorem bl_eq (b : Bool) (K : DV → Res) : bl b K = K (.bool b) := by cases b <;> rfl
theorem blN_eq (b : Bool) (K : DV → Res) : blN b K = K (.bool (!b)) := by cases b <;> rfl
def bEq (_ : IntKind) (x y : Int) (K : DV → Res) : Res := bl (ieq x y) K
def bNe (_ : IntKind) (x y : Int) (K : DV → Res) : Res := blN (ieq x y) K
def bLt (_ : IntKind) (x y : Int) (K : DV → Res) : Res := bl (ilt x y) K
def bLe (_ : IntKind) (x y : Int) (K : DV → Res) : Res := blN (ilt y x) K
def bGt (_ : IntKind) (x y : Int) (K : DV → Res) : Res := bl (ilt y x) K
def bGe (_ : IntKind) (x y : Int) (K : DV → Res) : Res := blN (ilt x y) K
def binK (b : Bo) : IntKind → Int → Int → (DV → Res) → Res := Bo.rec bAdd bSub bMul bQuo bRem bEq bNe bLt bLe bGt bGe b
def bin2 (b : Bo) (j : IntKind) (x : Int) (K : DV → Res) (k : IntKind) (y : Int) : Res := chk (sameK j k) fun _ => binK b j x y K
def natI (i : Int) (K : Nat → Res) : Res := Int.rec (motive := fun _ => Res) K (fun _ => .fail) i
theorem natI_eq (i : Int) (K : Nat → Res) : natI i K = if 0 ≤ i then K i.toNat else .fail := by
  cases i with
  | ofNat a => rw [if_pos (by simp)]; rfl
  | negSucc a => rw [if_neg (by simp [Int.negSucc_eq])]; rfl
def isRem (b : Bo) : Bool := Bo.rec (motive := fun _ => Bool) false false false false true false false false false false false b
def isAdd (b : Bo) : Bool := Bo.rec (motive := fun _ => Bool) true false false false false false false false false false false b
def isEq (b : Bo) : Bool := Bo.rec (motive := fun _ => Bool) false false false false false true false false false false false b
def hdK (t : List (Nat × Nat)) (K : Nat → Nat → Res) : Res := List.rec (motive := fun _ => Res) .fail (fun p _ _ => K p.1 p.2) t
/-- A number that is not known against one that is beyond all of them ('up': above). -/
def farK (b : Bo) (up : Bool) (K : DV → Res) : Res := Bo.rec (motive := fun _ => Res) .fail .fail .fail .fail .fail .fail .fail (bl up K) (bl up K) (blN up K) (blN up K) b
def symC (b : Bo) (y : Int) (K : DV → Res) : Res := Int.rec (motive := fun _ => Res) (fun n => chk (Nat.ble (nat_lit 20001) n) fun _ => farK b true K) (fun n => chk (Nat.ble (nat_lit 20001) n) fun _ => farK b false K) y
def symA (a b c d : Nat) (K : DV → Res) : Res := Bool.rec (motive := fun _ => Res) (chk (Nat.beq d a) fun _ => K (.sy true [(c, b)])) (K (.sy true [(a, d)])) (Nat.beq b c)
def symE (a b c d : Nat) (K : DV → Res) : Res := chk (Nat.beq a c) fun _ => chk (Nat.beq b d) fun _ => K (.bool true)
def symS (b : Bo) (t s : List (Nat × Nat)) (K : DV → Res) : Res := hdK t fun x y => hdK s fun z w => Bool.rec (motive := fun _ => Res) (chk (isEq b) fun _ => symE x y z w K) (symA x y z w K) (isAdd b)
def symR (b : Bo) (t : List (Nat × Nat)) (w : DV) (K : DV → Res) : Res := asI w .fail fun k y => chk (isRem b) fun _ => chk (sameK .i64 k) fun _ => chk (ieq y (.ofNat (nat_lit 1000))) fun _ => K (.sy true t)
def symT (b : Bo) (t : List (Nat × Nat)) (w : DV) (K : DV → Res) : Res := asI w (asSy w .fail fun u s => chk u fun _ => symS b t s K) fun k y => chk (sameK .i64 k) fun _ => symC b y K
def remS (b : Bo) (v w : DV) (K : DV → Res) : Res := asSy v .fail fun u t => Bool.rec (motive := fun _ => Res) (symR b t w K) (symT b t w K) u
def symZ (b : Bo) (w : DV) (j : IntKind) (x : Int) (K : DV → Res) : Res := asSy w .fail fun u t => chk u fun _ => chk (isAdd b) fun _ => chk (sameK .i64 j) fun _ => chk (ieq x (.ofNat (nat_lit 0))) fun _ => K (.sy true t)
def bin1 (b : Bo) (w : DV) (K : DV → Res) (j : IntKind) (x : Int) : Res := asI w (symZ b w j x K) (bin2 b j x K)
def iBin (b : Bo) (x y : Opd) : Run := fun _ _ _ e nx h k => asI (ev x e) (remS b (ev x e) (ev y e) fun v => k e v nx h) (bin1 b (ev y e) fun v => k e v nx h)

/-- Are two rows of numbers and bools the same? none: it is not known. -/
def eqI (v w : DV) (F : Res) (K : Bool → Res) : Res := asI v F fun k x => asI w F fun j y => Bool.rec (motive := fun _ => Res) F (K (ieq x y)) (sameK k j)
def beqB (a b : Bool) : Bool := Bool.rec (motive := fun _ => Bool) (Bool.rec (motive := fun _ => Bool) true false b) b a
def eqB (v w : DV) (F : Res) (K : Bool → Res) : Res := asB v F fun a => asB w F fun b => K (beqB a b)
def eq1 (k : Bool) : DV → DV → Res → (Bool → Res) → Res := Bool.rec (motive := fun _ => DV → DV → Res → (Bool → Res) → Res) eqI eqB k
def eqsNN (F : Res) (K : Bool → Res) (m : List DV) : Res := List.rec (motive := fun _ => Res) (K true) (fun _ _ _ => F) m
def eqsN (l m : List DV) (F : Res) (K : Bool → Res) : Res := List.rec (motive := fun _ => Res) (eqsNN F K m) (fun _ _ _ => F) l
def eqsT (ih : List DV → List DV → Res → (Bool → Res) → Res) (t u : List DV) (F : Res) (K : Bool → Res) (b : Bool) : Res := Bool.rec (motive := fun _ => Res) (K false) (ih t u F K) b
def eqsL (k : Bool) (ih : List DV → List DV → Res → (Bool → Res) → Res) (m : List DV) (F : Res) (K : Bool → Res) (v : DV) (t : List DV) : Res :=
  List.rec (motive := fun _ => Res) F (fun w u _ => eq1 k v w F (eqsT ih t u F K)) m
def eqsC (k : Bool) (_ : List Bool) (ih : List DV → List DV → Res → (Bool → Res) → Res) (l m : List DV) (F : Res) (K : Bool → Res) : Res :=
  List.rec (motive := fun _ => Res) F (fun v t _ => eqsL k ih m F K v t) l
def eqsK (ks : List Bool) : List DV → List DV → Res → (Bool → Res) → Res := List.rec (motive := fun _ => List DV → List DV → Res → (Bool → Res) → Res) eqsN eqsC ks
def negK (neg t : Bool) (K : DV → Res) : Res := Bool.rec (motive := fun _ => Res) (bl t K) (blN t K) neg
theorem negK_eq (neg t : Bool) (K : DV → Res) : negK neg t K = K (.bool (neg != t)) := by cases neg <;> cases t <;> rfl
def iAeq (ks : List Bool) (neg : Bool) (x y : Opd) : Run := fun _ _ _ e nx h k => asA (ev x e) .fail fun a => asA (ev y e) .fail fun b => eqsK ks a b .fail fun t => negK neg t fun v => k e v nx h
def iBeq (neg : Bool) (x y : Opd) : Run := fun _ _ _ e nx h k => asB (ev x e) .fail fun a => asB (ev y e) .fail fun b => negK neg (beqB a b) fun v => k e v nx h
def iNil (neg : Bool) (x : Opd) : Run := fun _ _ _ e nx h k => asSl (ev x e) (nilsK (ev x e) .fail fun _ => negK neg true fun v => k e v nx h) fun _ _ _ _ _ => negK neg false fun v => k e v nx h
def iNeg (a : Opd) : Run := fun _ _ _ e nx h k => asI (ev a e) .fail fun j x => mkI j (ineg x) fun v => k e v nx h
def iNot (a : Opd) : Run := fun _ _ _ e nx h k => asB (ev a e) .fail fun b => blN b fun v => k e v nx h
def iCv (j : IntKind) (a : Opd) : Run := fun _ _ _ e nx h k => asI (ev a e) .fail fun _ x => mkI j x fun v => k e v nx h
def iMfn (f : P) (cs : List Opd) : Run := fun _ _ _ e nx h k => ovsK cs e fun vs => k e (.fn f vs) nx h
def iMbf (f : P) (fs : List Opd) : Run := fun _ _ _ e nx h k => ovsK fs e fun vs => k e (.bf f vs) nx h
def iFa (o : Nat) (a : Opd) : Run := fun _ _ _ e nx h k =>
  asP (ev a e) (asFl (ev a e) .fail fun p i => forceN (Nat.add i o) fun i => k e (.fld p i) nx h) fun b i => forceN (Nat.add i o) fun i => k e (.ptr b i) nx h
def iFi (o : Nat) (a : Opd) : Run := fun _ _ _ e nx h k => asA (ev a e) .fail fun l => nthK l o .fail fun v => fV v fun v => k e v nx h
def iFia (o n : Nat) (a : Opd) : Run := fun _ _ _ e nx h k => asA (ev a e) .fail fun l => dropK o l .fail fun t => takeK n t .fail fun r => k e (.agg r) nx h
def iaAt (sz : Nat) (e : Env) (nx : P) (h : Hp) (k : Kv) (b : P) (o n : Nat) (i : Nat) : Res :=
  chk (Nat.ble (Nat.succ i) n) fun _ => forceN (Nat.add o (Nat.mul i sz)) fun i => k e (.ptr b i) nx h
def iIa (sz : Nat) (a i : Opd) : Run := fun _ _ _ e nx h k => asSl (ev a e) .fail fun b o n _ s => chk (Nat.beq s sz) fun _ =>
  asI (ev i e) .fail fun _ x => natI x (iaAt sz e nx h k b o n)
def repN (K : List DV → Res) : Res := K []
def repZ (z : List DV) (n : Nat) : (List DV → Res) → Res := Nat.rec (motive := fun _ => (List DV → Res) → Res) repN (fun _ ih K => ih fun r => catK z r K) n
def reps (z : List DV) (n : Nat) : List DV := (List.replicate n z).flatten
theorem repZ_eq (z : List DV) (n : Nat) : ∀ (K : List DV → Res), repZ z n K = K (reps z n) := by
  induction n with
  | zero => intro K; rfl
  | succ n ih => intro K; show repZ z n (fun r => catK z r K) = _; rw [ih, catK_eq]; rfl
def iMsl (sz bt : Nat) (z : List DV) (len cap : Opd) : Run := fun _ _ _ e nx h k =>
  asI (ev len e) .fail fun _ x => natI x fun n => asI (ev cap e) .fail fun _ y => natI y fun c => chk (Nat.ble n c) fun _ =>
  chk (Nat.ble (Nat.mul bt c) (nat_lit 1073741824)) fun _ => repZ z c fun l => forceN n fun n => forceN c fun c => newK l e nx h (fun b => .sl b (nat_lit 0) n (some c) sz) k

/-! slicing: of what is at most so long -/
def bdN (d : Nat) (_ : Env) (_ : Nat) (K : Nat → Res) : Res := K d
def bdS (o : Opd) (_ : Nat) (e : Env) (y : Nat) (K : Nat → Res) : Res := asI (ev o e) .fail fun _ x => natI x fun i => chk (Nat.ble i y) fun _ => K i
/-- A bound: 'd', if it is not told; else at most 'y'. -/
def bd (o : Option Opd) (d : Nat) (e : Env) (y : Nat) (K : Nat → Res) : Res := Option.rec (motive := fun _ => Nat → Env → Nat → (Nat → Res) → Res) bdN bdS o d e y K
def capN (n : Nat) : Nat := n
def capS (c _ : Nat) : Nat := c
def capOf (c : Option Nat) (n : Nat) : Nat := Option.rec (motive := fun _ => Nat → Nat) capN capS c n
def slEnd (e : Env) (nx : P) (h : Hp) (k : Kv) (b : P) (o sz l hi : Nat) (c : Option Nat) : Res :=
  forceN (Nat.add o (Nat.mul l sz)) fun o => forceN (Nat.sub hi l) fun n => k e (.sl b o n c sz) nx h
def slMxN (cp : Option Nat) (l : Nat) (_ : Env) (_ : Nat) (_ : Nat) (K : Option Nat → Res) : Res := Option.rec (motive := fun _ => Res) (K none) (fun c => forceN (Nat.sub c l) fun c => K (some c)) cp
def slSl (sz : Nat) (lo hi mx : Option Opd) (e : Env) (nx : P) (h : Hp) (k : Kv) (b : P) (o n : Nat) (cp : Option Nat) (s : Nat) : Res :=
  chk (Nat.beq s sz) fun _ =>
  Option.rec (motive := fun _ => Res)
    (bd hi n e (capOf cp n) fun hi => bd lo (nat_lit 0) e hi fun l =>
      Option.rec (motive := fun _ => Res) (slEnd e nx h k b o sz l hi none) (fun c => forceN (Nat.sub c l) fun c => slEnd e nx h k b o sz l hi (some c)) cp)
    (fun m => bd (some m) (nat_lit 0) e (capOf cp n) fun m => bd hi n e m fun hi => chk (Nat.ble hi m) fun _ => bd lo (nat_lit 0) e hi fun l =>
      forceN (Nat.sub m l) fun c => slEnd e nx h k b o sz l hi (some c))
    mx
def iSla (sz : Nat) (x : Opd) (lo hi mx : Option Opd) : Run := fun _ _ _ e nx h k =>
  asSl (ev x e) (nilsK (ev x e) .fail fun _ => bd hi (nat_lit 0) e (nat_lit 0) fun _ => bd lo (nat_lit 0) e (nat_lit 0) fun _ => bd mx (nat_lit 0) e (nat_lit 0) fun _ => evK x e fun v => k e v nx h) (slSl sz lo hi mx e nx h k)

def iEx (a : Opd) (i : Nat) : Run := fun _ _ _ e nx h k => asT (ev a e) .fail fun l => nthK l i .fail fun v => fV v fun v => k e v nx h

/-! shifts to the right -/
def bitsK (k : IntKind) : Nat := IntKind.rec (nat_lit 8) (nat_lit 16) (nat_lit 32) (nat_lit 64) (nat_lit 8) (nat_lit 16) (nat_lit 32) (nat_lit 64) k
theorem bitsK_eq (k : IntKind) : bitsK k = k.bits := by cases k <;> rfl
def ishr (x : Int) (n : Nat) : Int := Int.rec (motive := fun _ => Int) (fun a => .ofNat (Nat.div a (Nat.pow (nat_lit 2) n))) (fun a => .negSucc (Nat.div a (Nat.pow (nat_lit 2) n))) x
theorem ishr_eq (x : Int) (n : Nat) : ishr x n = x.fdiv (2 ^ n) := by
  have hp : 0 < 2 ^ n := Nat.pow_pos (by omega)
  cases x with
  | ofNat a =>
    show Int.ofNat (a / 2 ^ n) = _
    rw [Int.fdiv_eq_ediv_of_nonneg _ (by exact_mod_cast Nat.zero_le _)]
    simp
  | negSucc a =>
    show Int.negSucc (a / 2 ^ n) = _
    rw [Int.fdiv_eq_ediv_of_nonneg _ (by exact_mod_cast Nat.zero_le _)]
    rw [Int.negSucc_ediv _ (by exact_mod_cast hp)]
    rfl
def shrN (j : IntKind) (x : Int) (K : DV → Res) (n : Nat) : Res := chk (Nat.ble n (bitsK j)) fun _ => mkI2 j (ishr x n) K
def iShr (x y : Opd) : Run := fun _ _ _ e nx h k => asI (ev x e) .fail fun j a => asI (ev y e) .fail fun _ n => natI n (shrN j a fun v => k e v nx h)

def mayB : Option P → P → Bool
  | none, _ => true
  | some m, k => Nat.ble m.n k.n
/-! ### What is worked out of values alone -/

/-- Are two rows of cells the same? 0: numbers, 1: bools, 2: strings. -/
def ceV : List Nat → List DV → List DV → Option Bool
  | [], [], [] => some true
  | 0 :: ks, .int j x :: l, .int k y :: m => match sameK j k with
    | true => (match ieq x y with | true => ceV ks l m | false => (match ceV ks l m with | some _ => some false | none => none))
    | false => none
  | 1 :: ks, .bool a :: l, .bool b :: m => (match beqB a b with | true => ceV ks l m | false => (match ceV ks l m with | some _ => some false | none => none))
  | 2 :: ks, .str a x :: l, .str b y :: m => (match Nat.beq a b && Nat.beq x y with | true => ceV ks l m | false => (match ceV ks l m with | some _ => some false | none => none))
  | _, _, _ => none
/-- a number's bits -/
def twB (k : IntKind) (x : Int) : Nat := (x % (2 ^ bitsK k : Nat)).toNat
def xb (neg b : Bool) : DV := .bool (beqB neg (!b))
/-- is a string of these bytes less? -/
def ltB : Nat → Nat → Nat → Nat → Nat → Bool
  | 0, _, _, _, _ => false
  | f + 1, n, x, m, y => match m with
    | 0 => false
    | m + 1 => match n with
      | 0 => true
      | n + 1 => match Nat.beq (x % 256) (y % 256) with
        | true => ltB f n (x / 256) m (y / 256)
        | false => Nat.ble (x % 256 + 1) (y % 256)
def natV : Int → Option Nat
  | .ofNat n => some n
  | .negSucc _ => none
def pxV : Px → List DV → Option DV
  | .slen, [.str n _] => some (.int .i64 (.ofNat n))
  | .sidx, [.str n c, .int _ i] => (match natV i with | some i => (match Nat.ble (i + 1) n with | true => some (.int .u8 (.ofNat (c / 256 ^ i % 256))) | false => none) | none => none)
  | .ssl false false, [.str n c] => some (.str n c)
  | .ssl true false, [.str n c, .int _ lo] => (match natV lo with | some lo => (match Nat.ble lo n with | true => some (.str (n - lo) (c / 256 ^ lo)) | false => none) | none => none)
  | .ssl false true, [.str n c, .int _ hi] => (match natV hi with | some hi => (match Nat.ble hi n with | true => some (.str hi (c % 256 ^ hi)) | false => none) | none => none)
  | .ssl true true, [.str n c, .int _ lo, .int _ hi] => (match natV lo, natV hi with
    | some lo, some hi => (match Nat.ble hi n && Nat.ble lo hi with | true => some (.str (hi - lo) (c / 256 ^ lo % 256 ^ (hi - lo))) | false => none)
    | _, _ => none)
  | .seq neg, [.str n c, .str m d] => some (xb neg (Nat.beq n m && Nat.beq c d))
  | .slt, [.str n c, .str m d] => some (.bool (ltB (n + m) n c m d))
  | .scat, [.str n c, .str m d] => (match Nat.ble (n + m) 1000000 with | true => some (.str (n + m) (c + 256 ^ n * d)) | false => none)
  | .band, [.int j x, .int k y] => (match sameK j k with | true => some (.int j (j.wrap (twB j x &&& twB j y : Nat))) | false => none)
  | .bor, [.int j x, .int k y] => (match sameK j k with | true => some (.int j (j.wrap (twB j x ||| twB j y : Nat))) | false => none)
  | .bxor, [.int j x, .int k y] => (match sameK j k with | true => some (.int j (j.wrap (twB j x ^^^ twB j y : Nat))) | false => none)
  | .bandn, [.int j x, .int k y] => (match sameK j k with | true => some (.int j (j.wrap (twB j x &&& (2 ^ bitsK j - 1 - twB j y) : Nat))) | false => none)
  | .shl, [.int j x, .int _ n] => (match natV n with | some n => (match Nat.ble n (bitsK j) with | true => some (.int j (j.wrap (imul x (.ofNat (2 ^ n))))) | false => none) | none => none)
  | .com, [.int j x] => some (.int j (j.wrap (2 ^ bitsK j - 1 - twB j x : Nat)))
  | .ifc t, [v] => some (.ifc t v)
  | .inil neg, [.nili] => some (xb neg true)
  | .inil neg, [.ifc _ _] => some (xb neg false)
  | .ceq ks neg, [.agg l, .agg m] => (match ceV ks l m with | some b => some (xb neg b) | none => none)
  | .ixa len sz, [.ptr k o, .int _ i] => (match natV i with | some i => (match Nat.ble (i + 1) len with | true => some (.ptr k (o + i * sz)) | false => none) | none => none)
  | _, _ => none
/-- Its number, if it is one, worked out. -/
def forceV (v : DV) (K : DV → Res) : Res :=
  asI v (asS v (fV v K) fun n c => forceN n fun n => forceN c fun c => K (.str n c)) fun j x => forceI x fun x => K (.int j x)
theorem forceV_eq (v : DV) (K : DV → Res) : forceV v K = K v := by
  unfold forceV
  rw [asI_eq, asS_eq, fV_eq]
  cases v <;> first | rfl | (simp only [forceN_eq, forceI_eq])
def optV (o : Option DV) (K : DV → Res) : Res := Option.rec (motive := fun _ => Res) .fail (fun v => forceV v K) o
theorem optV_eq (o : Option DV) (K : DV → Res) : optV o K = match o with | some v => K v | none => .fail := by
  cases o with
  | none => rfl
  | some v => exact forceV_eq v K
def iPx (p : Px) (as : List Opd) : Run := fun _ _ _ e nx h k => ovsK as e fun vs => optV (pxV p vs) fun v => k e v nx h

/-! ### What looks at memory, or turns it -/

def mapOf (h : Hp) (m : P) : Option (List (DV × DV)) := match Tr.get? m h with | some (.mp l) => some l | _ => none
/-- Are two keys the same? 'st': they are structs. -/
def ceK : Bool → List Nat → DV → DV → Option Bool
  | true, ks, .agg l, .agg m => ceV ks l m
  | false, ks, a, b => ceV ks [a] [b]
  | _, _, _, _ => none
/-- a key's place and value: none: it is not known -/
def findV (st : Bool) (ks : List Nat) (key : DV) : List (DV × DV) → Nat → Option (Option (Nat × DV))
  | [], _ => some none
  | (k, v) :: l, i => match ceK st ks key k with
    | some true => some (some (i, v))
    | some false => findV st ks key l (i + 1)
    | none => none
def setAt (y : DV × DV) : List (DV × DV) → Nat → List (DV × DV)
  | [], _ => []
  | _ :: l, 0 => y :: l
  | x :: l, i + 1 => x :: setAt y l i
def zeroV (agg : Bool) (z : List DV) : DV := match agg, z with | false, [v] => v | _, z => .agg z
def okV2 (ok : Bool) (v : DV) (b : Bool) : DV := match ok with | true => .tup [v, .bool b] | false => v
/-- the bytes of a string -/
def bytesV : Nat → Nat → List DV
  | 0, _ => []
  | n + 1, c => .int .u8 (.ofNat (c % 256)) :: bytesV n (c / 256)
def codeV : List DV → Option Nat
  | [] => some 0
  | .int .u8 (.ofNat b) :: l => (match codeV l with | some c => (match Nat.ble b 255 with | true => some (b + 256 * c) | false => none) | none => none)
  | _ => none
def cutV (l : List DV) (o n : Nat) : Option (List DV) := match Nat.ble (o + n) l.length with | true => some ((l.drop o).take n) | false => none
def blockV (h : Hp) (k : P) : Option (List DV) := match Tr.get? k h with | some (.cells l) => some l | some (.ro l) => some l | _ => none
def mxV : Mx → Option P → List DV → P → Hp → Option (DV × Ef)
  | .mmk, _, [], nx, _ => some (.mp nx, .new (.mp []))
  | .mmk, _, [.int _ _], nx, _ => some (.mp nx, .new (.mp []))
  | .mlk st ks z agg ok, _, [.nilm, key], _, _ => (match ceK st ks key key with | some _ => some (okV2 ok (zeroV agg z) false, .no) | none => none)
  | .mlk st ks z agg ok, _, [.mp m, key], _, h => (match ceK st ks key key, mapOf h m with
    | some _, some l => (match findV st ks key l 0 with
      | some (some (_, v)) => some (okV2 ok v true, .no)
      | some none => some (okV2 ok (zeroV agg z) false, .no)
      | none => none)
    | _, _ => none)
  | .mup st ks, wm, [.mp m, key, v], _, h => (match mayB wm m && (ceK st ks key key).isSome, mapOf h m with
    | true, some l => (match findV st ks key l 0 with
      | some (some (i, _)) => some (.tup [], .set m (.mp (setAt (key, v) l i)))
      | some none => some (.tup [], .set m (.mp (l ++ [(key, v)])))
      | none => none)
    | _, _ => none)
  | .men st ks z agg, wm, [.mp m, key], _, h => (match mayB wm m && (ceK st ks key key).isSome, mapOf h m with
    | true, some l => (match findV st ks key l 0 with
      | some (some (i, v)) => some (.tup [v, .int .i64 (.ofNat i)], .set m (.mp (setAt (key, v) l i)))
      | some none => some (.tup [zeroV agg z, .int .i64 (.ofNat l.length)], .set m (.mp (l ++ [(key, zeroV agg z)])))
      | none => none)
    | _, _ => none)
  | .mes, wm, [.mp m, .int .i64 (.ofNat i), v], _, h => (match mayB wm m, mapOf h m with
    | true, some l => (match l[i]? with
      | some (k, _) => some (.tup [], .set m (.mp (setAt (k, v) l i)))
      | none => none)
    | _, _ => none)
  | .mln, _, [.mp m], _, h => (match mapOf h m with | some l => some (.int .i64 (.ofNat l.length), .no) | none => none)
  | .s2b, _, [.str n c], nx, _ => (match Nat.ble n 1000000 with | true => some (.sl nx 0 n none 1, .new (.cells (bytesV n c))) | false => none)
  | .b2s, _, [.nils], _, _ => some (.str 0 0, .no)
  | .b2s, _, [.sl k o n _ s], _, h => (match Nat.beq s 1, blockV h k with
    | true, some l => (match cutV l o n with | some bs => (match codeV bs with | some c => some (.str n c, .no) | none => none) | none => none)
    | _, _ => none)
  | .cpy _, _, [.sl _ _ _ _ _, .sl _ _ 0 _ _], _, _ => some (.int .i64 (.ofNat 0), .no)
  | .cpy sz, wm, [.sl k o n _ s, .sl k2 o2 n2 _ s2], _, h => (match Nat.beq s sz && Nat.beq s2 sz && mayB wm k && Nat.ble n2 n, blockV h k2, Tr.get? k h with
    | true, some l2, some (.cells l) => (match cutV l2 o2 (n2 * sz) with
      | some c => (match Nat.ble (o + n2 * sz) l.length with | true => some (.int .i64 (.ofNat n2), .set k (.cells (l.take o ++ c ++ l.drop (o + n2 * sz)))) | false => none)
      | none => none)
    | _, _, _ => none)
  | _, _, _, _, _ => none
/-! worked out, and put into memory -/
def flN (K : List DV → Res) : Res := K []
def flC (v : DV) (_ : List DV) (ih : (List DV → Res) → Res) (K : List DV → Res) : Res := forceV v fun v => ih fun r => K (v :: r)
def forceL (l : List DV) : (List DV → Res) → Res := List.rec (motive := fun _ => (List DV → Res) → Res) flN flC l
theorem forceL_eq (l : List DV) : ∀ K : List DV → Res, forceL l K = K l := by
  induction l with
  | nil => intro K; rfl
  | cons v l ih => intro K; show forceV v (fun v => forceL l fun r => K (v :: r)) = _; rw [forceV_eq, ih]
def fmN (K : List (DV × DV) → Res) : Res := K []
def fmC (x : DV × DV) (_ : List (DV × DV)) (ih : (List (DV × DV) → Res) → Res) (K : List (DV × DV) → Res) : Res :=
  Prod.rec (motive := fun _ => Res) (fun a b => fV a fun a => fV b fun b => ih fun r => K ((a, b) :: r)) x
def forceMp (l : List (DV × DV)) : (List (DV × DV) → Res) → Res := List.rec (motive := fun _ => (List (DV × DV) → Res) → Res) fmN fmC l
theorem forceMp_eq (l : List (DV × DV)) : ∀ K : List (DV × DV) → Res, forceMp l K = K l := by
  induction l with
  | nil => intro K; rfl
  | cons x l ih => intro K; obtain ⟨a, b⟩ := x; show fV a (fun a => fV b fun b => forceMp l fun r => K ((a, b) :: r)) = _; rw [fV_eq, fV_eq, ih]
def obC (l : List DV) (K : Ob → Res) : Res := forceL l fun l => K (.cells l)
def obM (l : List (DV × DV)) (K : Ob → Res) : Res := forceMp l fun l => K (.mp l)
def forceOb (o : Ob) : (Ob → Res) → Res := Ob.rec (motive := fun _ => (Ob → Res) → Res) obC (fun l K => K (.ro l)) (fun K => K .dead) obM o
theorem forceOb_eq (o : Ob) (K : Ob → Res) : forceOb o K = K o := by
  cases o with
  | cells l => show forceL l (fun l => K (.cells l)) = _; rw [forceL_eq]
  | ro l => rfl
  | dead => rfl
  | mp l => show forceMp l (fun l => K (.mp l)) = _; rw [forceMp_eq]
def efN (e : Env) (nx : P) (h : Hp) (k : Kv) (v : DV) : Res := forceV v fun v => k e v nx h
def efS (m : P) (o : Ob) (e : Env) (nx : P) (h : Hp) (k : Kv) (v : DV) : Res := forceV v fun v => forceOb o fun o => Tr.setK m h (some o) fun h => k e v nx h
def efW (o : Ob) (e : Env) (nx : P) (h : Hp) (k : Kv) (v : DV) : Res := forceV v fun v => forceOb o fun o => Tr.setK nx h (some o) fun h => nx.sucK fun n => k e v n h
def efK (f : Ef) : Env → P → Hp → Kv → DV → Res := Ef.rec (motive := fun _ => Env → P → Hp → Kv → DV → Res) efN efS efW f
def efP (e : Env) (nx : P) (h : Hp) (k : Kv) (v : DV) (f : Ef) : Res := efK f e nx h k v
def optE (o : Option (DV × Ef)) (e : Env) (nx : P) (h : Hp) (k : Kv) : Res := Option.rec (motive := fun _ => Res) .fail (fun x => Prod.rec (motive := fun _ => Res) (efP e nx h k) x) o
/-- the next key, memory, behind it -/
def Ef.nx (f : Ef) (nx : P) : P := match f with | .new _ => nx.suc | _ => nx
def Ef.hp (f : Ef) (nx : P) (h : Hp) : Hp := match f with | .no => h | .set k o => Tr.set k h (some o) | .new o => Tr.set nx h (some o)
theorem optE_eq (o : Option (DV × Ef)) (e : Env) (nx : P) (h : Hp) (k : Kv) : optE o e nx h k = match o with | some (v, f) => k e v (f.nx nx) (f.hp nx h) | none => .fail := by
  cases o with
  | none => rfl
  | some x =>
    obtain ⟨v, f⟩ := x
    cases f with
    | no => exact forceV_eq _ _
    | set m o => show forceV v (fun v => forceOb o fun o => Tr.setK m h (some o) fun h => k e v nx h) = _; rw [forceV_eq, forceOb_eq, Tr.setK_eq]; rfl
    | new o => show forceV v (fun v => forceOb o fun o => Tr.setK nx h (some o) fun h => nx.sucK fun n => k e v n h) = _; rw [forceV_eq, forceOb_eq, Tr.setK_eq, P.sucK_eq]; rfl
def iMm (m : Mx) (as : List Opd) : Run := fun _ _ wm e nx h k => ovsK as e fun vs => optE (mxV m wm vs nx h) e nx h k

/-! ### Calls -/

def bindN (vs : List DV) (e : Env) (K : Env → Res) : Res := List.rec (motive := fun _ => Res) (K e) (fun _ _ _ => .fail) vs
def bindC (p : P) (_ : List P) (ih : List DV → Env → (Env → Res) → Res) (vs : List DV) (e : Env) (K : Env → Res) : Res :=
  List.rec (motive := fun _ => Res) .fail (fun v t _ => Tr.setK p e (some v) fun e => ih t e K) vs
def bindK (ps : List P) : List DV → Env → (Env → Res) → Res := List.rec (motive := fun _ => List DV → Env → (Env → Res) → Res) bindN bindC ps
def binds : List P → List DV → Env → Option Env
  | [], [], e => some e
  | p :: ps, v :: vs, e => binds ps vs (Tr.set p e (some v))
  | _, _, _ => none
theorem bindK_eq (ps : List P) : ∀ (vs : List DV) (e : Env) (K : Env → Res), bindK ps vs e K = match binds ps vs e with | some e => K e | none => .fail := by
  induction ps with
  | nil => intro vs e K; cases vs <;> rfl
  | cons p ps ih => intro vs e K; cases vs with
    | nil => rfl
    | cons v vs => show Tr.setK p e (some v) (fun e => bindK ps vs e K) = _; rw [Tr.setK_eq, ih]; rfl

def rsT (p : P) (e : Env) (_ : Hp) (K : DV → Res) : Res := oV (evT p e) K
def rsCN (p : P) (e : Env) (h : Hp) (K : DV → Res) : Res := readK (evT p e) e h .fail fun l o => nthK l o .fail fun v => fV v K
def rsCS (n : Nat) (p : P) (e : Env) (h : Hp) (K : DV → Res) : Res := readK (evT p e) e h .fail fun l o => dropK o l .fail fun t => takeK n t .fail fun r => K (.agg r)
def rsC (p : P) (n : Option Nat) : Env → Hp → (DV → Res) → Res := Option.rec (motive := fun _ => P → Env → Hp → (DV → Res) → Res) rsCN rsCS n p
def rs1 (r : Rs) : Env → Hp → (DV → Res) → Res := Rs.rec (motive := fun _ => Env → Hp → (DV → Res) → Res) rsT rsC r
def rsLN (_ : Env) (_ : Hp) (K : List DV → Res) : Res := K []
def rsLC (r : Rs) (_ : List Rs) (ih : Env → Hp → (List DV → Res) → Res) (e : Env) (h : Hp) (K : List DV → Res) : Res := rs1 r e h fun v => ih e h fun vs => K (v :: vs)
def rsL (l : List Rs) : Env → Hp → (List DV → Res) → Res := List.rec (motive := fun _ => Env → Hp → (List DV → Res) → Res) rsLN rsLC l
def oneK (vs : List DV) (K : DV → Res) : Res := List.rec (motive := fun _ => Res) (K (.tup [])) (fun v t _ => List.rec (motive := fun _ => Res) (K v) (fun w u _ => K (.tup (v :: w :: u))) t) vs
def one (vs : List DV) : DV := match vs with | [v] => v | vs => .tup vs
theorem oneK_eq (vs : List DV) (K : DV → Res) : oneK vs K = K (one vs) := by
  cases vs with
  | nil => rfl
  | cons v t => cases t <;> rfl
def rs1v (r : Rs) (e : Env) (h : Hp) : Option DV :=
  match r with
  | .t p => some (outer (evT p e) ())
  | .cell p none => match look (evT p e) e h with | some (l, o) => l[o]? | none => none
  | .cell p (some n) => match look (evT p e) e h with | some (l, o) => if o ≤ l.length ∧ n ≤ (l.drop o).length then some (.agg ((l.drop o).take n)) else none | none => none
theorem rs1_eq (r : Rs) (e : Env) (h : Hp) (K : DV → Res) : rs1 r e h K = match rs1v r e h with | some v => K v | none => .fail := by
  cases r with
  | t p => exact oV_eq _ _
  | cell p n =>
    cases n with
    | none =>
      show readK (evT p e) e h .fail (fun l o => nthK l o .fail fun v => fV v K) = _
      rw [readK_eq]; simp only [rs1v]
      cases look (evT p e) e h with
      | none => rfl
      | some x =>
        obtain ⟨l, o⟩ := x
        show nthK l o .fail (fun v => fV v K) = _
        rw [nthK_eq]; simp only [fV_eq]
        all_goals (show _ = match l[o]? with | some v => K v | none => Res.fail)
        all_goals (cases l[o]? <;> rfl)
    | some n =>
      show readK (evT p e) e h .fail (fun l o => dropK o l .fail fun t => takeK n t .fail fun r => K (.agg r)) = _
      rw [readK_eq]; simp only [rs1v]
      cases look (evT p e) e h with
      | none => rfl
      | some x =>
        obtain ⟨l, o⟩ := x
        show dropK o l .fail (fun t => takeK n t .fail fun r => K (.agg r)) = match (if o ≤ l.length ∧ n ≤ (l.drop o).length then some (DV.agg ((l.drop o).take n)) else none) with | some v => K v | none => Res.fail
        rw [dropK_eq]
        by_cases h1 : o ≤ l.length
        · rw [if_pos h1, takeK_eq]
          by_cases h2 : n ≤ (l.drop o).length
          · rw [if_pos h2, if_pos ⟨h1, h2⟩]
          · rw [if_neg h2, if_neg (fun h => h2 h.2)]
        · rw [if_neg h1, if_neg (fun h => h1 h.1)]
def rsv (e : Env) (h : Hp) : List Rs → Option (List DV)
  | [] => some []
  | r :: l => match rs1v r e h with | some v => (rsv e h l).map (v :: ·) | none => none
theorem rsL_eq (l : List Rs) : ∀ (e : Env) (h : Hp) (K : List DV → Res), rsL l e h K = match rsv e h l with | some vs => K vs | none => .fail := by
  induction l with
  | nil => intro e h K; rfl
  | cons r l ih =>
    intro e h K
    show rs1 r e h (fun v => rsL l e h fun vs => K (v :: vs)) = _
    rw [rs1_eq]; simp only [rsv, ih]
    cases rs1v r e h with
    | none => rfl
    | some v =>
      show (match rsv e h l with | some vs => K (v :: vs) | none => Res.fail) = match (rsv e h l).map (v :: ·) with | some vs => K vs | none => Res.fail
      cases rsv e h l <;> rfl

def retE (rs : List Rs) (e0 : Env) (k : Kv) (e : Env) (nx : P) (h : Hp) : Res := rsL rs e h fun vs => oneK vs fun v => fV v fun v => k e0 v nx h
def retO (rs : List Rs) (e0 : Env) (k : Kv) (o : Out) : Env → P → Hp → Res := Out.rec (motive := fun _ => Env → P → Hp → Res) (retE rs e0 k) (fun _ _ _ _ => .fail) (retE rs e0 k) o
def retR (r : Res) (rs : List Rs) (e0 : Env) (k : Kv) : Res := Res.rec (motive := fun _ => Res) .fail (retO rs e0 k) r
def callB (ih : Ih) (wm : Option P) (vs : List DV) (e0 : Env) (nx : P) (h : Hp) (k : Kv) (ps : List P) (body : C) (rs : List Rs) : Res :=
  bindK ps vs .nl fun e => retR (ih body wm e nx h) rs e0 k
/-- Numbers in order. -/
def insI (x : Int) : List Int → List Int
  | [] => [x]
  | y :: t => match ilt y x with | true => y :: insI x t | false => x :: y :: t
def sortI : List Int → List Int
  | [] => []
  | x :: l => insI x (sortI l)
def intsOf : List DV → Option (List Int)
  | [] => some []
  | .int .i64 x :: l => match intsOf l with | some r => some (x :: r) | none => none
  | _ => none
def delZ : Nat → List DV
  | 0 => []
  | n + 1 => .int .i64 0 :: .nils :: .bool false :: delZ n
/-- What a function does that is told by what it does: 0: it puts a row of numbers in order; 1: it takes elements of three cells out of a row. -/
def primV : Nat → Option P → List DV → P → Hp → Option (DV × P × Hp)
  | 0, wm, [.sl b o n _ s], nx, h => match Nat.beq s 1 && mayB wm b && Nat.ble n 1000000, Tr.get? b h with
    | true, some (.cells l) => (match Nat.ble (o + n) l.length, intsOf ((l.drop o).take n) with
      | true, some xs => some (.tup [], nx, Tr.set b h (some (.cells (l.take o ++ (sortI xs).map (DV.int .i64) ++ l.drop (o + n)))))
      | _, _ => none)
    | _, _ => none
  | 0, _, [.nils], nx, h => some (.tup [], nx, h)
  | 1, wm, [.sl b o n _ s, .int .i64 i, .int .i64 j], nx, h => match Nat.beq s 3 && mayB wm b && Nat.ble n 1000000 && (!ilt i 0 && ilt i j && !ilt (Int.ofNat n) j), Tr.get? b h with
    | true, some (.cells l) => (match Nat.ble (o + n * 3) l.length with
      | true => some (.sl b o (n - (j.toNat - i.toNat)) none 3, nx, Tr.set b h (some (.cells (l.take (o + i.toNat * 3) ++ ((l.drop (o + j.toNat * 3)).take ((n - j.toNat) * 3) ++ delZ (j.toNat - i.toNat)) ++ l.drop (o + n * 3)))))
      | false => none)
    | _, _ => none
  | _, _, _, _, _ => none
def primO (e0 : Env) (k : Kv) : Option (DV × P × Hp) → Res
  | none => .fail
  | some (v, nx, h) => k e0 v nx h
def callP (wm : Option P) (vs : List DV) (e0 : Env) (nx : P) (h : Hp) (k : Kv) (n : Nat) : Res := primO e0 k (primV n wm vs nx h)
/-- what stands where the function is to be called once: its done, its lock -/
def oncN (vs : List DV) (K : P → Nat → DV → Res) : Res := List.rec (motive := fun _ => Res) .fail (fun a t _ => List.rec (motive := fun _ => Res) .fail (fun f u _ => List.rec (motive := fun _ => Res) (asP a .fail fun b o => K b o f) (fun _ _ _ => .fail) u) t) vs
def onc3 (e0 : Env) (k : Kv) (b : P) (o : Nat) (nx : P) (h : Hp) : Res :=
  ownK b h .fail fun l => nthK l o .fail fun d => asI d .fail fun kd x => chk (sameK kd .u32) fun _ => chk (ieq x (.ofNat (nat_lit 0))) fun _ => nthK l (Nat.succ o) .fail fun s => asI s .fail fun ks y => chk (sameK ks .i32) fun _ => chk (ieq y (.ofNat (nat_lit 1))) fun _ =>
  sprK o l [.int .u32 (.ofNat (nat_lit 1)), .int .i32 (.ofNat (nat_lit 0))] .fail fun l => Tr.setK b h (some (.cells l)) fun h => k e0 (.tup []) nx h
def onc2 (cal : P → List DV → P → Hp → Kv → Res) (wm : Option P) (e0 : Env) (nx : P) (h : Hp) (k : Kv) (b : P) (o : Nat) (f : DV) (l : List DV) : Res :=
  wOk wm b .fail fun _ => ownK b h .fail fun _ => nthK l (Nat.succ o) .fail fun s => asI s .fail fun ks y => chk (sameK ks .i32) fun _ => chk (ieq y (.ofNat (nat_lit 0))) fun _ =>
  sprK (Nat.succ o) l [.int .i32 (.ofNat (nat_lit 1))] .fail fun l => Tr.setK b h (some (.cells l)) fun h =>
  asF f (asBf f .fail fun g fs => cal g fs nx h fun e _ nx h => onc3 e k b o nx h) fun g cs => cal g cs nx h fun e _ nx h => onc3 e k b o nx h
def onc1 (cal : P → List DV → P → Hp → Kv → Res) (wm : Option P) (e0 : Env) (nx : P) (h : Hp) (k : Kv) (b : P) (o : Nat) (f : DV) : Res :=
  objK b h .fail fun l => nthK l o .fail fun d => asI d .fail fun kd x => chk (sameK kd .u32) fun _ => Bool.rec (motive := fun _ => Res) (k e0 (.tup []) nx h) (onc2 cal wm e0 nx h k b o f l) (ieq x (.ofNat (nat_lit 0)))
def callO (cal : P → List DV → P → Hp → Kv → Res) (wm : Option P) (vs : List DV) (e0 : Env) (nx : P) (h : Hp) (k : Kv) : Res := oncN vs (onc1 cal wm e0 nx h k)
def noItb (_ : Nat) (_ : Bool) : Res := .fail
/-! ### Functions that are told by tables -/

def okF (b : Bool) (F : Res) (K : Unit → Res) : Res := Bool.rec (motive := fun _ => Res) F (K ()) b
def eqY2 (t s : List (Nat × Nat)) (F : Res) (K : Unit → Res) : Res := List.rec (motive := fun _ => Res) F (fun p _ _ => List.rec (motive := fun _ => Res) F (fun q _ _ => okF (Nat.beq p.1 q.1) F fun _ => okF (Nat.beq p.2 q.2) F K) s) t
def eqY (d x : DV) (F : Res) (K : Unit → Res) : Res := asSy d F fun u t => okF u F fun _ => asSy x F fun w s => okF w F fun _ => eqY2 t s F K
/-- Are the two the same, plain values? -/
def eqS (d x : DV) (F : Res) (K : Unit → Res) : Res :=
  asI d (asB d (asS d (nilsK d (eqY d x F K) fun _ => nilsK x F K) fun n c => asS x F fun m b => okF (Nat.beq n m) F fun _ => okF (Nat.beq c b) F K) fun b => asB x F fun c => okF (beqB b c) F K) fun k n => asI x F fun j m => okF (sameK k j) F fun _ => okF (ieq n m) F K
/-- Do the cells begin so? -/
def eqL (g : List DV) : List DV → Res → (Unit → Res) → Res :=
  List.rec (motive := fun _ => List DV → Res → (Unit → Res) → Res) (fun _ _ K => K ()) (fun d _ ih l F K => List.rec (motive := fun _ => Res) F (fun x t _ => eqS d x F fun _ => ih t F K) l) g
/-- Do the program's variables, from key 'k' on, begin so? -/
def gchk (gl : List (List DV)) : P → Hp → Res → (Unit → Res) → Res :=
  List.rec (motive := fun _ => P → Hp → Res → (Unit → Res) → Res) (fun _ _ _ K => K ()) (fun g _ ih k h F K => objK k h F fun c => eqL g c F fun _ => k.sucK fun k' => ih k' h F K) gl
def T.len (t : T) : Nat := T.rec (motive := fun _ => Nat) (nat_lit 0) (fun _ _ _ n => Nat.succ n) (fun _ => nat_lit 0) (nat_lit 0) (fun _ _ => nat_lit 0) (fun _ _ _ _ => nat_lit 0) (fun _ _ => nat_lit 0) (fun _ _ => nat_lit 0) t
abbrev RunT := Hp → List DV → Res → (Unit → Res) → Res
def onL (l : List DV) (F : Res) (K : DV → Res) : Res := List.rec (motive := fun _ => Res) F (fun x t _ => List.rec (motive := fun _ => Res) (K x) (fun _ _ _ => F) t) l
def rdN : RunT := fun _ l F K => List.rec (motive := fun _ => Res) (K ()) (fun _ _ _ => F) l
def rdC (_ _ : T) (a t : RunT) : RunT := fun h l F K => List.rec (motive := fun _ => Res) F (fun x xs _ => a h [x] F fun _ => t h xs F K) l
def rdV (d : DV) : RunT := fun _ l F K => onL l F fun x => eqS d x F K
def rdY : RunT := fun _ l F K => onL l F fun _ => K ()
def rdP (l : T) (r : RunT) : RunT := fun h xs F K => onL xs F fun x => asP x F fun k o => objK k h F fun c => dropK o c F fun t => takeK (T.len l) t F fun c => r h c F K
def rdS (n sz : Nat) (_ : T) (r : RunT) : RunT := fun h xs F K => onL xs F fun x => asSl x F fun k o m _ s => okF (Nat.beq n m) F fun _ => okF (Nat.beq sz s) F fun _ => okF (Nat.ble (nat_lit 1) n) F fun _ => objK k h F fun c => dropK o c F fun t => takeK (Nat.mul n sz) t F fun c => r h c F K
def rdG (_ : T) (r : RunT) : RunT := fun h xs F K => onL xs F fun x => asA x F fun c => r h c F K
def rdU (_ : T) (r : RunT) : RunT := fun h xs F K => onL xs F fun x => asT x F fun c => r h c F K
/-- Do the cells read so? -/
def rdT (t : T) : RunT := T.rec (motive := fun _ => RunT) rdN rdC rdV rdY rdP rdS rdG rdU t
/-- The same, of blocks that may be written. -/
def rwP (l : T) (r : RunT) : RunT := fun h xs F K => onL xs F fun x => asP x F fun k o => ownK k h F fun c => dropK o c F fun t => takeK (T.len l) t F fun c => r h c F K
def rwS (n sz : Nat) (_ : T) (r : RunT) : RunT := fun h xs F K => onL xs F fun x => asSl x F fun k o m _ s => okF (Nat.beq n m) F fun _ => okF (Nat.beq sz s) F fun _ => okF (Nat.ble (nat_lit 1) n) F fun _ => ownK k h F fun c => dropK o c F fun t => takeK (Nat.mul n sz) t F fun c => r h c F K
def rwT (t : T) : RunT := T.rec (motive := fun _ => RunT) rdN rdC rdV rdY rwP rwS rdG rdU t
abbrev RunL := P → Hp → (List DV → P → Hp → Res) → Res
def appL (x xs : List DV) : List DV := List.rec (motive := fun _ => List DV) xs (fun a _ ih => a :: ih) x
def lyN : RunL := fun nx h K => K [] nx h
def lyC (_ _ : T) (a t : RunL) : RunL := fun nx h K => a nx h fun x nx h => t nx h fun xs nx h => K (appL x xs) nx h
def lyV (d : DV) : RunL := fun nx h K => K [d] nx h
def lyY : RunL := fun nx h K => K [.unk] nx h
def lyP (_ : T) (r : RunL) : RunL := fun nx h K => r nx h fun ds nx h => Tr.setK nx h (some (.ro ds)) fun h => nx.sucK fun n => K [.ptr nx (nat_lit 0)] n h
def lyS (n sz : Nat) (_ : T) (r : RunL) : RunL := fun nx h K => r nx h fun ds nx h => Tr.setK nx h (some (.ro ds)) fun h => nx.sucK fun m => K [.sl nx (nat_lit 0) n none sz] m h
def lyG (_ : T) (r : RunL) : RunL := fun nx h K => r nx h fun ds nx h => K [.agg ds] nx h
def lyU (_ : T) (r : RunL) : RunL := fun nx h K => r nx h fun ds nx h => K [.tup ds] nx h
/-- They are laid, to be read alone. -/
def lyT (t : T) : RunL := T.rec (motive := fun _ => RunL) lyN lyC lyV lyY lyP lyS lyG lyU t
def tabC (vs : List DV) (e0 : Env) (nx : P) (h : Hp) (k : Kv) (l : List (T × T)) : Res :=
  List.rec (motive := fun _ => Res) .fail (fun p _ ih => rdT p.1 h vs ih fun _ => lyT p.2 nx h fun ds nx h => onL ds .fail fun d => k e0 d nx h) l
def callT (vs : List DV) (e0 : Env) (nx : P) (h : Hp) (k : Kv) (gl : List (List DV)) (l : List (T × T)) : Res := gchk gl .z h .fail fun _ => tabC vs e0 nx h k l
/-- One that is called at once by what is called once. -/
def callG (ih : Ih) (wm : Option P) (vs : List DV) (e0 : Env) (nx : P) (h : Hp) (k : Kv) (fd : Fd) : Res := Fd.rec (motive := fun _ => Res) (callB ih wm vs e0 nx h k) (callP wm vs e0 nx h k) .fail noItb (callT vs e0 nx h k) fd
def call1 (F : Tr Fd) (ih : Ih) (wm : Option P) (e0 : Env) (f : P) (vs : List DV) (nx : P) (h : Hp) (k : Kv) : Res := Option.rec (motive := fun _ => Res) .fail (callG ih wm vs e0 nx h k) (Tr.get? f F)
def callF (F : Tr Fd) (ih : Ih) (wm : Option P) (vs : List DV) (e0 : Env) (nx : P) (h : Hp) (k : Kv) (fd : Fd) : Res := Fd.rec (motive := fun _ => Res) (callB ih wm vs e0 nx h k) (callP wm vs e0 nx h k) (callO (call1 F ih wm e0) wm vs e0 nx h k) noItb (callT vs e0 nx h k) fd
def callK (F : Tr Fd) (ih : Ih) (wm : Option P) (f : P) (vs : List DV) (e0 : Env) (nx : P) (h : Hp) (k : Kv) : Res :=
  Option.rec (motive := fun _ => Res) .fail (callF F ih wm vs e0 nx h k) (Tr.get? f F)
def iCall (f : P) (as : List Opd) : Run := fun F ih wm e nx h k => ovsK as e fun vs => callK F ih wm f vs e nx h k
def iCallv (f : Opd) (as : List Opd) : Run := fun F ih wm e nx h k => asF (ev f e) (asBf (ev f e) .fail fun f fs => ovsK as e fun vs => catK fs vs fun vs => callK F ih wm f vs e nx h k) fun f cs => ovsK as e fun vs => catK vs cs fun vs => callK F ih wm f vs e nx h k

/-! ### Builtins -/

def lenOf (n : Nat) (e : Env) (nx : P) (h : Hp) (k : Kv) : Res := forceN n fun n => k e (.int .i64 (.ofNat n)) nx h
def iLen (a : Opd) : Run := fun _ _ _ e nx h k => asSl (ev a e) (nilsK (ev a e) .fail fun _ => lenOf (nat_lit 0) e nx h k) fun _ _ n _ _ => lenOf n e nx h k
def iCap (a : Opd) : Run := fun _ _ _ e nx h k => asSl (ev a e) (nilsK (ev a e) .fail fun _ => lenOf (nat_lit 0) e nx h k) fun _ _ _ c _ =>
  Option.rec (motive := fun _ => Res) .fail (fun c => lenOf c e nx h k) c
/-- the cells of a slice -/
def slcK (h : Hp) (b : P) (o n sz : Nat) (K : List DV → Res) : Res := objK b h .fail fun l => dropK o l .fail fun t => takeK (Nat.mul n sz) t .fail K
def apNew (sz n m : Nat) (old new : List DV) (e : Env) (nx : P) (h : Hp) (k : Kv) : Res :=
  catK old new fun l => forceN (Nat.add n m) fun n => newK l e nx h (fun b => .sl b (nat_lit 0) n none sz) k
def apKill (sz : Nat) (e : Env) (nx : P) (h : Hp) (k : Kv) (wm : Option P) (b : P) (o n : Nat) (m : Nat) (new : List DV) : Res :=
  wOk wm b .fail fun _ => ownK b h .fail fun l => dropK o l .fail fun t => takeK (Nat.mul n sz) t .fail fun old =>
    Tr.setK b h (some .dead) fun h => apNew sz n m old new e nx h k
def apIn (sz : Nat) (e : Env) (nx : P) (h : Hp) (k : Kv) (wm : Option P) (b : P) (o n : Nat) (c m : Nat) (new : List DV) : Res :=
  wOk wm b .fail fun _ => ownK b h .fail fun l => sprK (Nat.add o (Nat.mul n sz)) l new .fail fun l => Tr.setK b h (some (.cells l)) fun h =>
    forceN (Nat.add n m) fun n => k e (.sl b o n (some c) sz) nx h
def apSl (sz bt : Nat) (e : Env) (nx : P) (h : Hp) (k : Kv) (wm : Option P) (m : Nat) (new : List DV) (b : P) (o n : Nat) (cp : Option Nat) (s : Nat) : Res :=
  chk (Nat.beq s sz) fun _ => chk (Nat.ble (Nat.mul (Nat.add n m) bt) (nat_lit 35184372088832)) fun _ =>
  Option.rec (motive := fun _ => Res) (apKill sz e nx h k wm b o n m new)
    (fun c => Bool.rec (motive := fun _ => Res) (slcK h b o n sz fun old => apNew sz n m old new e nx h k) (apIn sz e nx h k wm b o n c m new) (Nat.ble (Nat.add n m) c)) cp
def apX (sz bt : Nat) (s : DV) (e : Env) (nx : P) (h : Hp) (k : Kv) (wm : Option P) (m : Nat) (new : List DV) : Res :=
  Bool.rec (motive := fun _ => Res)
    (asSl s (nilsK s .fail fun _ => chk (Nat.ble (Nat.mul m bt) (nat_lit 35184372088832)) fun _ => apNew sz (nat_lit 0) m [] new e nx h k) (apSl sz bt e nx h k wm m new))
    (asSl s (nilsK s .fail fun _ => fV s fun v => k e v nx h) fun _ _ _ _ _ => fV s fun v => k e v nx h) (Nat.beq m (nat_lit 0))
def iApp (sz bt : Nat) (s x : Opd) : Run := fun _ _ wm e nx h k =>
  asSl (ev x e) (nilsK (ev x e) .fail fun _ => apX sz bt (ev s e) e nx h k wm (nat_lit 0) [])
    fun b o n _ s2 => chk (Nat.beq s2 sz) fun _ => slcK h b o n sz fun new => apX sz bt (ev s e) e nx h k wm n new
/-- noughts put behind a nil slice: 'append(s, make([]T, n)...)' -/
def apzN (sz : Nat) (z : List DV) (n : Nat) (e : Env) (nx : P) (h : Hp) (k : Kv) : Res := repZ z n fun new => apNew sz (nat_lit 0) n [] new e nx h k
def iApz (sz bt : Nat) (z : List DV) (s n : Opd) : Run := fun _ _ _ e nx h k => nilsK (ev s e) .fail fun _ => asI (ev n e) .fail fun _ x => natI x fun n => chk (Nat.ble (Nat.mul n bt) (nat_lit 1073741824)) fun _ =>
  Bool.rec (motive := fun _ => Res) (apzN sz z n e nx h k) (k e .nils nx h) (Nat.beq n (nat_lit 0))
def mxB (k : IntKind) (x y : Int) (K : IntKind → Int → Res) (t : Bool) : Res := Bool.rec (motive := fun _ => Res) (K k x) (K k y) t
def mxN (k : IntKind) (x : Int) (_ : Env) (K : IntKind → Int → Res) : Res := K k x
def mxC (o : Opd) (_ : List Opd) (ih : IntKind → Int → Env → (IntKind → Int → Res) → Res) (k : IntKind) (x : Int) (e : Env) (K : IntKind → Int → Res) : Res :=
  asI (ev o e) .fail fun j y => chk (sameK k j) fun _ => mxB k x y (fun k x => ih k x e K) (ilt x y)
def mxK (l : List Opd) : IntKind → Int → Env → (IntKind → Int → Res) → Res := List.rec (motive := fun _ => IntKind → Int → Env → (IntKind → Int → Res) → Res) mxN mxC l
def mnC (o : Opd) (_ : List Opd) (ih : IntKind → Int → Env → (IntKind → Int → Res) → Res) (k : IntKind) (x : Int) (e : Env) (K : IntKind → Int → Res) : Res :=
  asI (ev o e) .fail fun j y => chk (sameK k j) fun _ => mxB k x y (fun k x => ih k x e K) (ilt y x)
def mnK (l : List Opd) : IntKind → Int → Env → (IntKind → Int → Res) → Res := List.rec (motive := fun _ => IntKind → Int → Env → (IntKind → Int → Res) → Res) mxN mnC l
def iMx (a : Opd) (l : List Opd) : Run := fun _ _ _ e nx h k => asI (ev a e) .fail fun j x => mxK l j x e fun j x => k e (.int j x) nx h
def iMn (a : Opd) (l : List Opd) : Run := fun _ _ _ e nx h k => asI (ev a e) .fail fun j x => mnK l j x e fun j x => k e (.int j x) nx h

/-- noughts put over a slice's cells -/
def clrB (wm : Option P) (z : List DV) (e : Env) (nx : P) (h : Hp) (k : Kv) (b : P) (o n : Nat) : Res :=
  wOk wm b .fail fun _ => ownK b h .fail fun l => repZ z n fun c => sprK o l c .fail fun l => Tr.setK b h (some (.cells l)) fun h => k e (.tup []) nx h
def iClr (sz : Nat) (z : List DV) (a : Opd) : Run := fun _ _ wm e nx h k =>
  asSl (ev a e) (nilsK (ev a e) .fail fun _ => k e (.tup []) nx h) fun b o n _ s => chk (Nat.beq s sz) fun _ => chk (isLen z sz) fun _ =>
    Bool.rec (motive := fun _ => Res) (clrB wm z e nx h k b o n) (k e (.tup []) nx h) (Nat.beq n (nat_lit 0))

/-- What the small machine does not take. -/
def iBad : Run := fun _ _ _ _ _ _ _ => .fail

end Go.Proofs.YtnoekfkfinjfgaaGreatDoor.Dx
