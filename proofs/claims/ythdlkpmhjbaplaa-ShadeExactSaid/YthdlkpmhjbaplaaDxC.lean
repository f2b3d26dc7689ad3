/- How the small machine runs each instruction, each piece of code, each call. No statement of this seat is proved here. -/
import Derived.Test.YthdlkpmhjbaplaaDxB
set_option autoImplicit false
set_option linter.unusedSimpArgs false
set_option linter.unusedVariables false
noncomputable section
namespace Go.Proofs.Ythdlkpmhjbaplaa.Dx
open Go

abbrev Kv := Env → DV → P → Hp → Res
abbrev Ih := C → Option P → Env → P → Hp → Res
abbrev Run := Tr Fd → Ih → Option P → Env → P → Hp → Kv → Res

/-! ### Operands -/

def evN (_ : P) : DV := .unk
def evS (v : DV) (p : P) : DV := place v p
def evT (p : P) (e : Env) : DV := Option.rec (motive := fun _ => P → DV) evN evS (Tr.get? p e) p
def evC (v : DV) (_ : Env) : DV := v
def ev (o : Opd) (e : Env) : DV := Opd.rec (motive := fun _ => Env → DV) evT evC o e
def evK (o : Opd) (e : Env) (K : DV → Res) : Res := fV (ev o e) K
def ovK (o : Opd) (e : Env) (K : DV → Res) : Res := oV (ev o e) K
def ovsN (_ : Env) (K : List DV → Res) : Res := K []
def ovsC (o : Opd) (_ : List Opd) (ih : Env → (List DV → Res) → Res) (e : Env) (K : List DV → Res) : Res := ovK o e fun v => ih e fun vs => K (v :: vs)
def ovsK (l : List Opd) : Env → (List DV → Res) → Res := List.rec (motive := fun _ => Env → (List DV → Res) → Res) ovsN ovsC l
def ov (o : Opd) (e : Env) : DV := outer (ev o e) ()
theorem evK_eq (o : Opd) (e : Env) (K : DV → Res) : evK o e K = K (ev o e) := fV_eq _ _
theorem ovK_eq (o : Opd) (e : Env) (K : DV → Res) : ovK o e K = K (ov o e) := oV_eq _ _
theorem ovsK_eq (l : List Opd) : ∀ (e : Env) (K : List DV → Res), ovsK l e K = K (l.map fun o => ov o e) := by
  induction l with
  | nil => intro e K; rfl
  | cons o l ih => intro e K; show ovK o e (fun v => ovsK l e fun vs => K (v :: vs)) = _; rw [ovK_eq, ih]; rfl

/-! ### Memory -/

def obD (F : Res) (_ : List DV → Res) : Res := F
def obL (l : List DV) (_ : Res) (K : List DV → Res) : Res := K l
def obN (F : Res) (_ : List DV → Res) : Res := F
def obS (o : Ob) : Res → (List DV → Res) → Res := Ob.rec (motive := fun _ => Res → (List DV → Res) → Res) obL obL obD o
/-- The cells of a block that may be read. -/
def objK (k : P) (h : Hp) (F : Res) (K : List DV → Res) : Res := Option.rec (motive := fun _ => Res → (List DV → Res) → Res) obN obS (Tr.get? k h) F K
def owL (_ : List DV) (F : Res) (_ : List DV → Res) : Res := F
def owS (o : Ob) : Res → (List DV → Res) → Res := Ob.rec (motive := fun _ => Res → (List DV → Res) → Res) obL owL obD o
/-- The cells of a block that may be written. -/
def ownK (k : P) (h : Hp) (F : Res) (K : List DV → Res) : Res := Option.rec (motive := fun _ => Res → (List DV → Res) → Res) obN owS (Tr.get? k h) F K
theorem objK_eq (k : P) (h : Hp) (F : Res) (K : List DV → Res) : objK k h F K = match Tr.get? k h with | some (.cells l) => K l | some (.ro l) => K l | _ => F := by
  unfold objK; cases Tr.get? k h with
  | none => rfl
  | some o => cases o <;> rfl
theorem ownK_eq (k : P) (h : Hp) (F : Res) (K : List DV → Res) : ownK k h F K = match Tr.get? k h with | some (.cells l) => K l | _ => F := by
  unfold ownK; cases Tr.get? k h with
  | none => rfl
  | some o => cases o <;> rfl
def vaN (F : Res) (_ : List DV → Res) : Res := F
/-- The cells of a variable of the frame. -/
def varK (p : P) (e : Env) (F : Res) (K : List DV → Res) : Res := Option.rec (motive := fun _ => Res → (List DV → Res) → Res) vaN asV (Tr.get? p e) F K
theorem varK_eq (p : P) (e : Env) (F : Res) (K : List DV → Res) : varK p e F K = match Tr.get? p e with | some (.var l) => K l | _ => F := by
  unfold varK; cases Tr.get? p e with
  | none => rfl
  | some v => show asV v F K = _; rw [asV_eq]; cases v <;> rfl
/-- Where an address leads: the cells, and at which of them. -/
def readP (h : Hp) (F : Res) (K : List DV → Nat → Res) (k : P) (o : Nat) : Res := objK k h F fun l => K l o
def readF (e : Env) (F : Res) (K : List DV → Nat → Res) (p : P) (o : Nat) : Res := varK p e F fun l => K l o
def readK (v : DV) (e : Env) (h : Hp) (F : Res) (K : List DV → Nat → Res) : Res := asP v (asFl v F (readF e F K)) (readP h F K)
def look (v : DV) (e : Env) (h : Hp) : Option (List DV × Nat) :=
  match v with
  | .ptr k o => match Tr.get? k h with | some (.cells l) => some (l, o) | some (.ro l) => some (l, o) | _ => none
  | .fld p o => match Tr.get? p e with | some (.var l) => some (l, o) | _ => none
  | _ => none
theorem readK_eq (v : DV) (e : Env) (h : Hp) (F : Res) (K : List DV → Nat → Res) : readK v e h F K = match look v e h with | some (l, o) => K l o | none => F := by
  unfold readK; rw [asP_eq, asFl_eq]
  cases v <;> try rfl
  case ptr k o =>
    show objK k h F (fun l => K l o) = _
    rw [objK_eq]; simp only [look]; cases Tr.get? k h with
    | none => rfl
    | some b => cases b <;> rfl
  case fld p o =>
    show varK p e F (fun l => K l o) = _
    rw [varK_eq]; simp only [look]; cases Tr.get? p e with
    | none => rfl
    | some b => cases b <;> rfl
def wOkN (_ : P) (_ : Res) (K : Unit → Res) : Res := K ()
def wOkS (m : P) (k : P) (F : Res) (K : Unit → Res) : Res := Bool.rec (motive := fun _ => Res) F (K ()) (Nat.ble m.n k.n)
/-- May a block be written? -/
def wOk (wm : Option P) (k : P) (F : Res) (K : Unit → Res) : Res := Option.rec (motive := fun _ => P → Res → (Unit → Res) → Res) wOkN wOkS wm k F K
def may (wm : Option P) (k : P) : Prop := ∀ m, wm = some m → m.n ≤ k.n
theorem wOk_eq (wm : Option P) (k : P) (F : Res) (K : Unit → Res) : wOk wm k F K = (open Classical in if may wm k then K () else F) := by
  cases wm with
  | none => rw [if_pos (show may none k from fun m h => nomatch h)]; rfl
  | some m =>
    show Bool.rec (motive := fun _ => Res) F (K ()) (Nat.ble m.n k.n) = _
    cases h : Nat.ble m.n k.n with
    | false => rw [if_neg]; intro hm; have := hm m rfl; rw [← Nat.ble_eq, h] at this; cases this
    | true => rw [if_pos]; intro m' hm'; cases hm'; exact Nat.ble_eq.mp h
/-- A new block. -/
def newK (l : List DV) (e : Env) (nx : P) (h : Hp) (mk : P → DV) (k : Kv) : Res := Tr.setK nx h (some (.cells l)) fun h => nx.sucK fun n => k e (mk nx) n h
theorem newK_eq (l : List DV) (e : Env) (nx : P) (h : Hp) (mk : P → DV) (k : Kv) : newK l e nx h mk k = k e (mk nx) nx.suc (Tr.set nx h (some (.cells l))) := by
  unfold newK; rw [Tr.setK_eq, P.sucK_eq]

/-! ### Instructions -/

def iMv (a : Opd) : Run := fun _ _ _ e nx h k => evK a e fun v => k e v nx h
def iPick (c a b : Opd) : Run := fun _ _ _ e nx h k => asB (ev c e) .fail fun t => Bool.rec (motive := fun _ => Res) (evK b e fun v => k e v nx h) (evK a e fun v => k e v nx h) t
def iAl (z : List DV) : Run := fun _ _ _ e nx h k => newK z e nx h (fun n => .ptr n (nat_lit 0)) k
def iBx (a : Opd) : Run := fun _ _ _ e nx h k => ovK a e fun v => cellsK v .fail fun l => newK l e nx h (fun n => .ptr n (nat_lit 0)) k

def lenN (n : Nat) : Bool := Nat.rec (motive := fun _ => Bool) true (fun _ _ => false) n
def lenC (_ : DV) (_ : List DV) (ih : Nat → Bool) (n : Nat) : Bool := Nat.rec (motive := fun _ => Bool) false (fun m _ => ih m) n
def isLen (l : List DV) : Nat → Bool := List.rec (motive := fun _ => Nat → Bool) lenN lenC l
theorem isLen_eq (l : List DV) : ∀ n, isLen l n = decide (l.length = n) := by
  induction l with
  | nil => intro n; cases n <;> rfl
  | cons a l ih => intro n; cases n with
    | zero => rfl
    | succ n => show isLen l n = _; rw [ih]; simp
def chk (b : Bool) (K : Unit → Res) : Res := Bool.rec (motive := fun _ => Res) .fail (K ()) b
theorem chk_eq (b : Bool) (K : Unit → Res) : chk b K = if b = true then K () else .fail := by cases b <;> rfl

def fillN (z : List DV) (_ : Env) (K : List DV → Res) : Res := K z
def fillP (ih : List DV → Env → (List DV → Res) → Res) (z : List DV) (e : Env) (K : List DV → Res) (off : Nat) (x : Nat × Opd) : Res :=
  Prod.rec (motive := fun _ => Res) (fun size o => ovK o e fun v => cellsK v .fail fun l => chk (isLen l size) fun _ => sprK off z l .fail fun z => ih z e K) x
def fillC (x : Nat × Nat × Opd) (_ : List (Nat × Nat × Opd)) (ih : List DV → Env → (List DV → Res) → Res) (z : List DV) (e : Env) (K : List DV → Res) : Res :=
  Prod.rec (motive := fun _ => Res) (fillP ih z e K) x
def fillK (ps : List (Nat × Nat × Opd)) : List DV → Env → (List DV → Res) → Res := List.rec (motive := fun _ => List DV → Env → (List DV → Res) → Res) fillN fillC ps
def fills (e : Env) : List (Nat × Nat × Opd) → List DV → Option (List DV)
  | [], z => some z
  | (off, size, o) :: ps, z =>
    match (ov o e).cells with
    | some l => if l.length = size ∧ off + l.length ≤ z.length then fills e ps (z.take off ++ l ++ z.drop (off + l.length)) else none
    | none => none
theorem fillK_eq (ps : List (Nat × Nat × Opd)) : ∀ (z : List DV) (e : Env) (K : List DV → Res), fillK ps z e K = match fills e ps z with | some z => K z | none => .fail := by
  induction ps with
  | nil => intro z e K; rfl
  | cons x ps ih =>
    obtain ⟨off, size, o⟩ := x
    intro z e K
    show ovK o e (fun v => cellsK v .fail fun l => chk (isLen l size) fun _ => sprK off z l .fail fun z => fillK ps z e K) = _
    rw [ovK_eq, cellsK_eq]
    simp only [fills]
    cases (ov o e).cells with
    | none => rfl
    | some l =>
      show chk (isLen l size) (fun _ => sprK off z l .fail fun z => fillK ps z e K) = _
      rw [chk_eq, isLen_eq, sprK_eq]
      simp only [ih]
      by_cases h1 : l.length = size
      · by_cases h2 : off + l.length ≤ z.length
        · rw [if_pos (by simpa using h1), if_pos h2, if_pos ⟨h1, h2⟩]
        · rw [if_pos (by simpa using h1), if_neg h2, if_neg (fun h => h2 h.2)]
      · rw [if_neg (by simpa using h1), if_neg (fun h => h1 h.1)]

def iBld (z : List DV) (ps : List (Nat × Nat × Opd)) : Run := fun _ _ _ e nx h k => fillK ps z e fun l => k e (.agg l) nx h
def iBsl (len sz : Nat) (z : List DV) (ps : List (Nat × Nat × Opd)) : Run := fun _ _ _ e nx h k => fillK ps z e fun l => newK l e nx h (fun n => .sl n (nat_lit 0) len (some len) sz) k
def iLd (a : Opd) : Run := fun _ _ _ e nx h k => readK (ev a e) e h .fail fun l o => nthK l o .fail fun v => fV v fun v => k e v nx h
def iLda (n : Nat) (a : Opd) : Run := fun _ _ _ e nx h k => readK (ev a e) e h .fail fun l o => dropK o l .fail fun t => takeK n t .fail fun r => k e (.agg r) nx h
def stP (wm : Option P) (e : Env) (nx : P) (h : Hp) (k : Kv) (c : List DV) (b : P) (o : Nat) : Res :=
  wOk wm b .fail fun _ => ownK b h .fail fun l => sprK o l c .fail fun l => Tr.setK b h (some (.cells l)) fun h => k e (.tup []) nx h
def stF (e : Env) (nx : P) (h : Hp) (k : Kv) (c : List DV) (p : P) (o : Nat) : Res :=
  varK p e .fail fun l => sprK o l c .fail fun l => Tr.setK p e (some (.var l)) fun e => k e (.tup []) nx h
def iSt (n : Nat) (a v : Opd) : Run := fun _ _ wm e nx h k => ovK v e fun v => cellsK v .fail fun c => chk (isLen c n) fun _ =>
  asP (ev a e) (asFl (ev a e) .fail (stF e nx h k c)) (stP wm e nx h k c)
def iNc (a : Opd) : Run := fun _ _ _ e nx h k => solid (ev a e) .fail fun v => k e v nx h

def bAdd (k : IntKind) (x y : Int) (K : DV → Res) : Res := mkI k (iadd x y) K
def bSub (k : IntKind) (x y : Int) (K : DV → Res) : Res := mkI k (iadd x (ineg y)) K
def bMul (k : IntKind) (x y : Int) (K : DV → Res) : Res := mkI k (imul x y) K
def bQuo (k : IntKind) (x y : Int) (K : DV → Res) : Res := Bool.rec (motive := fun _ => Res) (mkI k (idiv x y) K) .fail (ieq y (.ofNat (nat_lit 0)))
def bRem (k : IntKind) (x y : Int) (K : DV → Res) : Res := Bool.rec (motive := fun _ => Res) (mkI2 k (imod x y) K) .fail (ieq y (.ofNat (nat_lit 0)))
def bl (b : Bool) (K : DV → Res) : Res := Bool.rec (motive := fun _ => Res) (K (.bool false)) (K (.bool true)) b
def blN (b : Bool) (K : DV → Res) : Res := Bool.rec (motive := fun _ => Res) (K (.bool true)) (K (.bool false)) b
theorem bl_eq (b : Bool) (K : DV → Res) : bl b K = K (.bool b) := by cases b <;> rfl
theorem blN_eq (b : Bool) (K : DV → Res) : blN b K = K (.bool (!b)) := by cases b <;> rfl
def bEq (_ : IntKind) (x y : Int) (K : DV → Res) : Res := bl (ieq x y) K
def bNe (_ : IntKind) (x y : Int) (K : DV → Res) : Res := blN (ieq x y) K
def bLt (_ : IntKind) (x y : Int) (K : DV → Res) : Res := bl (ilt x y) K
def bLe (_ : IntKind) (x y : Int) (K : DV → Res) : Res := blN (ilt y x) K
def bGt (_ : IntKind) (x y : Int) (K : DV → Res) : Res := bl (ilt y x) K
def bGe (_ : IntKind) (x y : Int) (K : DV → Res) : Res := blN (ilt x y) K
def binK (b : Bo) : IntKind → Int → Int → (DV → Res) → Res := Bo.rec bAdd bSub bMul bQuo bRem bEq bNe bLt bLe bGt bGe b
def bin2 (b : Bo) (j : IntKind) (x : Int) (K : DV → Res) (k : IntKind) (y : Int) : Res := chk (sameK j k) fun _ => binK b j x y K
def bin1 (b : Bo) (w : DV) (K : DV → Res) (j : IntKind) (x : Int) : Res := asI w .fail (bin2 b j x K)
def iBin (b : Bo) (x y : Opd) : Run := fun _ _ _ e nx h k => asI (ev x e) .fail (bin1 b (ev y e) fun v => k e v nx h)

/-- Are two rows of numbers and bools the same? none: it is not known. -/
def eqI (v w : DV) (F : Res) (K : Bool → Res) : Res := asI v F fun k x => asI w F fun j y => Bool.rec (motive := fun _ => Res) F (K (ieq x y)) (sameK k j)
def beqB (a b : Bool) : Bool := Bool.rec (motive := fun _ => Bool) (Bool.rec (motive := fun _ => Bool) true false b) b a
def eqB (v w : DV) (F : Res) (K : Bool → Res) : Res := asB v F fun a => asB w F fun b => K (beqB a b)
def eq1 (k : Bool) : DV → DV → Res → (Bool → Res) → Res := Bool.rec (motive := fun _ => DV → DV → Res → (Bool → Res) → Res) eqI eqB k
def eqsNN (F : Res) (K : Bool → Res) (m : List DV) : Res := List.rec (motive := fun _ => Res) (K true) (fun _ _ _ => F) m
def eqsN (l m : List DV) (F : Res) (K : Bool → Res) : Res := List.rec (motive := fun _ => Res) (eqsNN F K m) (fun _ _ _ => F) l
def eqsT (ih : List DV → List DV → Res → (Bool → Res) → Res) (t u : List DV) (F : Res) (K : Bool → Res) (b : Bool) : Res := Bool.rec (motive := fun _ => Res) (K false) (ih t u F K) b
def eqsL (k : Bool) (ih : List DV → List DV → Res → (Bool → Res) → Res) (m : List DV) (F : Res) (K : Bool → Res) (v : DV) (t : List DV) : Res :=
  List.rec (motive := fun _ => Res) F (fun w u _ => eq1 k v w F (eqsT ih t u F K)) m
def eqsC (k : Bool) (_ : List Bool) (ih : List DV → List DV → Res → (Bool → Res) → Res) (l m : List DV) (F : Res) (K : Bool → Res) : Res :=
  List.rec (motive := fun _ => Res) F (fun v t _ => eqsL k ih m F K v t) l
def eqsK (ks : List Bool) : List DV → List DV → Res → (Bool → Res) → Res := List.rec (motive := fun _ => List DV → List DV → Res → (Bool → Res) → Res) eqsN eqsC ks
def negK (neg t : Bool) (K : DV → Res) : Res := Bool.rec (motive := fun _ => Res) (bl t K) (blN t K) neg
theorem negK_eq (neg t : Bool) (K : DV → Res) : negK neg t K = K (.bool (neg != t)) := by cases neg <;> cases t <;> rfl
def iAeq (ks : List Bool) (neg : Bool) (x y : Opd) : Run := fun _ _ _ e nx h k => asA (ev x e) .fail fun a => asA (ev y e) .fail fun b => eqsK ks a b .fail fun t => negK neg t fun v => k e v nx h
def iBeq (neg : Bool) (x y : Opd) : Run := fun _ _ _ e nx h k => asB (ev x e) .fail fun a => asB (ev y e) .fail fun b => negK neg (beqB a b) fun v => k e v nx h
def iNil (neg : Bool) (x : Opd) : Run := fun _ _ _ e nx h k => asSl (ev x e) (nilsK (ev x e) .fail fun _ => negK neg true fun v => k e v nx h) fun _ _ _ _ _ => negK neg false fun v => k e v nx h
def iNeg (a : Opd) : Run := fun _ _ _ e nx h k => asI (ev a e) .fail fun j x => mkI j (ineg x) fun v => k e v nx h
def iNot (a : Opd) : Run := fun _ _ _ e nx h k => asB (ev a e) .fail fun b => blN b fun v => k e v nx h
def iCv (j : IntKind) (a : Opd) : Run := fun _ _ _ e nx h k => asI (ev a e) .fail fun _ x => mkI j x fun v => k e v nx h
def iMfn (f : P) (cs : List Opd) : Run := fun _ _ _ e nx h k => ovsK cs e fun vs => k e (.fn f vs) nx h
def iFa (o : Nat) (a : Opd) : Run := fun _ _ _ e nx h k =>
  asP (ev a e) (asFl (ev a e) .fail fun p i => forceN (Nat.add i o) fun i => k e (.fld p i) nx h) fun b i => forceN (Nat.add i o) fun i => k e (.ptr b i) nx h
def iFi (o : Nat) (a : Opd) : Run := fun _ _ _ e nx h k => asA (ev a e) .fail fun l => nthK l o .fail fun v => fV v fun v => k e v nx h
def iFia (o n : Nat) (a : Opd) : Run := fun _ _ _ e nx h k => asA (ev a e) .fail fun l => dropK o l .fail fun t => takeK n t .fail fun r => k e (.agg r) nx h
def iaAt (sz : Nat) (e : Env) (nx : P) (h : Hp) (k : Kv) (b : P) (o n : Nat) (i : Nat) : Res :=
  chk (Nat.ble (Nat.succ i) n) fun _ => forceN (Nat.add o (Nat.mul i sz)) fun i => k e (.ptr b i) nx h
def natI (i : Int) (K : Nat → Res) : Res := Int.rec (motive := fun _ => Res) K (fun _ => .fail) i
theorem natI_eq (i : Int) (K : Nat → Res) : natI i K = if 0 ≤ i then K i.toNat else .fail := by
  cases i with
  | ofNat a => rw [if_pos (by simp)]; rfl
  | negSucc a => rw [if_neg (by simp [Int.negSucc_eq])]; rfl
def iIa (sz : Nat) (a i : Opd) : Run := fun _ _ _ e nx h k => asSl (ev a e) .fail fun b o n _ s => chk (Nat.beq s sz) fun _ =>
  asI (ev i e) .fail fun _ x => natI x (iaAt sz e nx h k b o n)
def repN (K : List DV → Res) : Res := K []
def repZ (z : List DV) (n : Nat) : (List DV → Res) → Res := Nat.rec (motive := fun _ => (List DV → Res) → Res) repN (fun _ ih K => ih fun r => catK z r K) n
def reps (z : List DV) (n : Nat) : List DV := (List.replicate n z).flatten
theorem repZ_eq (z : List DV) (n : Nat) : ∀ (K : List DV → Res), repZ z n K = K (reps z n) := by
  induction n with
  | zero => intro K; rfl
  | succ n ih => intro K; show repZ z n (fun r => catK z r K) = _; rw [ih, catK_eq]; rfl
def iMsl (sz bt : Nat) (z : List DV) (len cap : Opd) : Run := fun _ _ _ e nx h k =>
  asI (ev len e) .fail fun _ x => natI x fun n => asI (ev cap e) .fail fun _ y => natI y fun c => chk (Nat.ble n c) fun _ =>
  chk (Nat.ble (Nat.mul bt c) (nat_lit 1073741824)) fun _ => repZ z c fun l => forceN n fun n => forceN c fun c => newK l e nx h (fun b => .sl b (nat_lit 0) n (some c) sz) k

/-! slicing: of what is at most so long -/
def bdN (d : Nat) (_ : Env) (_ : Nat) (K : Nat → Res) : Res := K d
def bdS (o : Opd) (_ : Nat) (e : Env) (y : Nat) (K : Nat → Res) : Res := asI (ev o e) .fail fun _ x => natI x fun i => chk (Nat.ble i y) fun _ => K i
/-- A bound: 'd', if it is not told; else at most 'y'. -/
def bd (o : Option Opd) (d : Nat) (e : Env) (y : Nat) (K : Nat → Res) : Res := Option.rec (motive := fun _ => Nat → Env → Nat → (Nat → Res) → Res) bdN bdS o d e y K
def capN (n : Nat) : Nat := n
def capS (c _ : Nat) : Nat := c
def capOf (c : Option Nat) (n : Nat) : Nat := Option.rec (motive := fun _ => Nat → Nat) capN capS c n
def slEnd (e : Env) (nx : P) (h : Hp) (k : Kv) (b : P) (o sz l hi : Nat) (c : Option Nat) : Res :=
  forceN (Nat.add o (Nat.mul l sz)) fun o => forceN (Nat.sub hi l) fun n => k e (.sl b o n c sz) nx h
def slMxN (cp : Option Nat) (l : Nat) (_ : Env) (_ : Nat) (_ : Nat) (K : Option Nat → Res) : Res := Option.rec (motive := fun _ => Res) (K none) (fun c => forceN (Nat.sub c l) fun c => K (some c)) cp
def slSl (sz : Nat) (lo hi mx : Option Opd) (e : Env) (nx : P) (h : Hp) (k : Kv) (b : P) (o n : Nat) (cp : Option Nat) (s : Nat) : Res :=
  chk (Nat.beq s sz) fun _ =>
  Option.rec (motive := fun _ => Res)
    (bd hi n e (capOf cp n) fun hi => bd lo (nat_lit 0) e hi fun l =>
      Option.rec (motive := fun _ => Res) (slEnd e nx h k b o sz l hi none) (fun c => forceN (Nat.sub c l) fun c => slEnd e nx h k b o sz l hi (some c)) cp)
    (fun m => bd (some m) (nat_lit 0) e (capOf cp n) fun m => bd hi n e m fun hi => chk (Nat.ble hi m) fun _ => bd lo (nat_lit 0) e hi fun l =>
      forceN (Nat.sub m l) fun c => slEnd e nx h k b o sz l hi (some c))
    mx
def iSla (sz : Nat) (x : Opd) (lo hi mx : Option Opd) : Run := fun _ _ _ e nx h k =>
  asSl (ev x e) (nilsK (ev x e) .fail fun _ => bd hi (nat_lit 0) e (nat_lit 0) fun _ => bd lo (nat_lit 0) e (nat_lit 0) fun _ => bd mx (nat_lit 0) e (nat_lit 0) fun _ => evK x e fun v => k e v nx h) (slSl sz lo hi mx e nx h k)

def iEx (a : Opd) (i : Nat) : Run := fun _ _ _ e nx h k => asT (ev a e) .fail fun l => nthK l i .fail fun v => fV v fun v => k e v nx h

/-! shifts to the right -/
def bitsK (k : IntKind) : Nat := IntKind.rec (nat_lit 8) (nat_lit 16) (nat_lit 32) (nat_lit 64) (nat_lit 8) (nat_lit 16) (nat_lit 32) (nat_lit 64) k
theorem bitsK_eq (k : IntKind) : bitsK k = k.bits := by cases k <;> rfl
def ishr (x : Int) (n : Nat) : Int := Int.rec (motive := fun _ => Int) (fun a => .ofNat (Nat.div a (Nat.pow (nat_lit 2) n))) (fun a => .negSucc (Nat.div a (Nat.pow (nat_lit 2) n))) x
theorem ishr_eq (x : Int) (n : Nat) : ishr x n = x.fdiv (2 ^ n) := by
  have hp : 0 < 2 ^ n := Nat.pow_pos (by omega)
  cases x with
  | ofNat a =>
    show Int.ofNat (a / 2 ^ n) = _
    rw [Int.fdiv_eq_ediv_of_nonneg _ (by exact_mod_cast Nat.zero_le _)]
    simp
  | negSucc a =>
    show Int.negSucc (a / 2 ^ n) = _
    rw [Int.fdiv_eq_ediv_of_nonneg _ (by exact_mod_cast Nat.zero_le _)]
    rw [Int.negSucc_ediv _ (by exact_mod_cast hp)]
    rfl
def shrN (j : IntKind) (x : Int) (K : DV → Res) (n : Nat) : Res := chk (Nat.ble n (bitsK j)) fun _ => mkI2 j (ishr x n) K
def iShr (x y : Opd) : Run := fun _ _ _ e nx h k => asI (ev x e) .fail fun j a => asI (ev y e) .fail fun _ n => natI n (shrN j a fun v => k e v nx h)

/-! ### Calls -/

def bindN (vs : List DV) (e : Env) (K : Env → Res) : Res := List.rec (motive := fun _ => Res) (K e) (fun _ _ _ => .fail) vs
def bindC (p : P) (_ : List P) (ih : List DV → Env → (Env → Res) → Res) (vs : List DV) (e : Env) (K : Env → Res) : Res :=
  List.rec (motive := fun _ => Res) .fail (fun v t _ => Tr.setK p e (some v) fun e => ih t e K) vs
def bindK (ps : List P) : List DV → Env → (Env → Res) → Res := List.rec (motive := fun _ => List DV → Env → (Env → Res) → Res) bindN bindC ps
def binds : List P → List DV → Env → Option Env
  | [], [], e => some e
  | p :: ps, v :: vs, e => binds ps vs (Tr.set p e (some v))
  | _, _, _ => none
theorem bindK_eq (ps : List P) : ∀ (vs : List DV) (e : Env) (K : Env → Res), bindK ps vs e K = match binds ps vs e with | some e => K e | none => .fail := by
  induction ps with
  | nil => intro vs e K; cases vs <;> rfl
  | cons p ps ih => intro vs e K; cases vs with
    | nil => rfl
    | cons v vs => show Tr.setK p e (some v) (fun e => bindK ps vs e K) = _; rw [Tr.setK_eq, ih]; rfl

def rsT (p : P) (e : Env) (_ : Hp) (K : DV → Res) : Res := oV (evT p e) K
def rsCN (p : P) (e : Env) (h : Hp) (K : DV → Res) : Res := readK (evT p e) e h .fail fun l o => nthK l o .fail fun v => fV v K
def rsCS (n : Nat) (p : P) (e : Env) (h : Hp) (K : DV → Res) : Res := readK (evT p e) e h .fail fun l o => dropK o l .fail fun t => takeK n t .fail fun r => K (.agg r)
def rsC (p : P) (n : Option Nat) : Env → Hp → (DV → Res) → Res := Option.rec (motive := fun _ => P → Env → Hp → (DV → Res) → Res) rsCN rsCS n p
def rs1 (r : Rs) : Env → Hp → (DV → Res) → Res := Rs.rec (motive := fun _ => Env → Hp → (DV → Res) → Res) rsT rsC r
def rsLN (_ : Env) (_ : Hp) (K : List DV → Res) : Res := K []
def rsLC (r : Rs) (_ : List Rs) (ih : Env → Hp → (List DV → Res) → Res) (e : Env) (h : Hp) (K : List DV → Res) : Res := rs1 r e h fun v => ih e h fun vs => K (v :: vs)
def rsL (l : List Rs) : Env → Hp → (List DV → Res) → Res := List.rec (motive := fun _ => Env → Hp → (List DV → Res) → Res) rsLN rsLC l
def oneK (vs : List DV) (K : DV → Res) : Res := List.rec (motive := fun _ => Res) (K (.tup [])) (fun v t _ => List.rec (motive := fun _ => Res) (K v) (fun w u _ => K (.tup (v :: w :: u))) t) vs
def one (vs : List DV) : DV := match vs with | [v] => v | vs => .tup vs
theorem oneK_eq (vs : List DV) (K : DV → Res) : oneK vs K = K (one vs) := by
  cases vs with
  | nil => rfl
  | cons v t => cases t <;> rfl
def rs1v (r : Rs) (e : Env) (h : Hp) : Option DV :=
  match r with
  | .t p => some (outer (evT p e) ())
  | .cell p none => match look (evT p e) e h with | some (l, o) => l[o]? | none => none
  | .cell p (some n) => match look (evT p e) e h with | some (l, o) => if o ≤ l.length ∧ n ≤ (l.drop o).length then some (.agg ((l.drop o).take n)) else none | none => none
theorem rs1_eq (r : Rs) (e : Env) (h : Hp) (K : DV → Res) : rs1 r e h K = match rs1v r e h with | some v => K v | none => .fail := by
  cases r with
  | t p => exact oV_eq _ _
  | cell p n =>
    cases n with
    | none =>
      show readK (evT p e) e h .fail (fun l o => nthK l o .fail fun v => fV v K) = _
      rw [readK_eq]; simp only [rs1v]
      cases look (evT p e) e h with
      | none => rfl
      | some x =>
        obtain ⟨l, o⟩ := x
        show nthK l o .fail (fun v => fV v K) = _
        rw [nthK_eq]; simp only [fV_eq]
        show _ = match l[o]? with | some v => K v | none => Res.fail
        cases l[o]? <;> rfl
    | some n =>
      show readK (evT p e) e h .fail (fun l o => dropK o l .fail fun t => takeK n t .fail fun r => K (.agg r)) = _
      rw [readK_eq]; simp only [rs1v]
      cases look (evT p e) e h with
      | none => rfl
      | some x =>
        obtain ⟨l, o⟩ := x
        show dropK o l .fail (fun t => takeK n t .fail fun r => K (.agg r)) = match (if o ≤ l.length ∧ n ≤ (l.drop o).length then some (DV.agg ((l.drop o).take n)) else none) with | some v => K v | none => Res.fail
        rw [dropK_eq]
        by_cases h1 : o ≤ l.length
        · rw [if_pos h1, takeK_eq]
          by_cases h2 : n ≤ (l.drop o).length
          · rw [if_pos h2, if_pos ⟨h1, h2⟩]
          · rw [if_neg h2, if_neg (fun h => h2 h.2)]
        · rw [if_neg h1, if_neg (fun h => h1 h.1)]
def rsv (e : Env) (h : Hp) : List Rs → Option (List DV)
  | [] => some []
  | r :: l => match rs1v r e h with | some v => (rsv e h l).map (v :: ·) | none => none
theorem rsL_eq (l : List Rs) : ∀ (e : Env) (h : Hp) (K : List DV → Res), rsL l e h K = match rsv e h l with | some vs => K vs | none => .fail := by
  induction l with
  | nil => intro e h K; rfl
  | cons r l ih =>
    intro e h K
    show rs1 r e h (fun v => rsL l e h fun vs => K (v :: vs)) = _
    rw [rs1_eq]; simp only [rsv, ih]
    cases rs1v r e h with
    | none => rfl
    | some v =>
      show (match rsv e h l with | some vs => K (v :: vs) | none => Res.fail) = match (rsv e h l).map (v :: ·) with | some vs => K vs | none => Res.fail
      cases rsv e h l <;> rfl

def retE (rs : List Rs) (e0 : Env) (k : Kv) (e : Env) (nx : P) (h : Hp) : Res := rsL rs e h fun vs => oneK vs fun v => fV v fun v => k e0 v nx h
def retO (rs : List Rs) (e0 : Env) (k : Kv) (o : Out) : Env → P → Hp → Res := Out.rec (motive := fun _ => Env → P → Hp → Res) (retE rs e0 k) (fun _ _ _ _ => .fail) (retE rs e0 k) o
def retR (r : Res) (rs : List Rs) (e0 : Env) (k : Kv) : Res := Res.rec (motive := fun _ => Res) .fail (retO rs e0 k) r
def callB (ih : Ih) (wm : Option P) (vs : List DV) (e0 : Env) (nx : P) (h : Hp) (k : Kv) (ps : List P) (body : C) (rs : List Rs) : Res :=
  bindK ps vs .nl fun e => retR (ih body wm e nx h) rs e0 k
/-- Numbers in order. -/
def insI (x : Int) : List Int → List Int
  | [] => [x]
  | y :: t => match ilt y x with | true => y :: insI x t | false => x :: y :: t
def sortI : List Int → List Int
  | [] => []
  | x :: l => insI x (sortI l)
def intsOf : List DV → Option (List Int)
  | [] => some []
  | .int .i64 x :: l => match intsOf l with | some r => some (x :: r) | none => none
  | _ => none
def mayB : Option P → P → Bool
  | none, _ => true
  | some m, k => Nat.ble m.n k.n
/-- What a function does that is told by what it does: 0: it puts a row of numbers in order. -/
def primV : Nat → Option P → List DV → P → Hp → Option (DV × P × Hp)
  | 0, wm, [.sl b o n _ s], nx, h => match Nat.beq s 1 && mayB wm b && Nat.ble n 1000000, Tr.get? b h with
    | true, some (.cells l) => (match Nat.ble (o + n) l.length, intsOf ((l.drop o).take n) with
      | true, some xs => some (.tup [], nx, Tr.set b h (some (.cells (l.take o ++ (sortI xs).map (DV.int .i64) ++ l.drop (o + n)))))
      | _, _ => none)
    | _, _ => none
  | 0, _, [.nils], nx, h => some (.tup [], nx, h)
  | _, _, _, _, _ => none
def primO (e0 : Env) (k : Kv) : Option (DV × P × Hp) → Res
  | none => .fail
  | some (v, nx, h) => k e0 v nx h
def callP (wm : Option P) (vs : List DV) (e0 : Env) (nx : P) (h : Hp) (k : Kv) (n : Nat) : Res := primO e0 k (primV n wm vs nx h)
def callF (ih : Ih) (wm : Option P) (vs : List DV) (e0 : Env) (nx : P) (h : Hp) (k : Kv) (fd : Fd) : Res := Fd.rec (motive := fun _ => Res) (callB ih wm vs e0 nx h k) (callP wm vs e0 nx h k) fd
def callK (F : Tr Fd) (ih : Ih) (wm : Option P) (f : P) (vs : List DV) (e0 : Env) (nx : P) (h : Hp) (k : Kv) : Res :=
  Option.rec (motive := fun _ => Res) .fail (callF ih wm vs e0 nx h k) (Tr.get? f F)
def iCall (f : P) (as : List Opd) : Run := fun F ih wm e nx h k => ovsK as e fun vs => callK F ih wm f vs e nx h k
def iCallv (f : Opd) (as : List Opd) : Run := fun F ih wm e nx h k => asF (ev f e) .fail fun f cs => ovsK as e fun vs => catK vs cs fun vs => callK F ih wm f vs e nx h k

/-! ### Builtins -/

def lenOf (n : Nat) (e : Env) (nx : P) (h : Hp) (k : Kv) : Res := forceN n fun n => k e (.int .i64 (.ofNat n)) nx h
def iLen (a : Opd) : Run := fun _ _ _ e nx h k => asSl (ev a e) (nilsK (ev a e) .fail fun _ => lenOf (nat_lit 0) e nx h k) fun _ _ n _ _ => lenOf n e nx h k
def iCap (a : Opd) : Run := fun _ _ _ e nx h k => asSl (ev a e) (nilsK (ev a e) .fail fun _ => lenOf (nat_lit 0) e nx h k) fun _ _ _ c _ =>
  Option.rec (motive := fun _ => Res) .fail (fun c => lenOf c e nx h k) c
/-- the cells of a slice -/
def slcK (h : Hp) (b : P) (o n sz : Nat) (K : List DV → Res) : Res := objK b h .fail fun l => dropK o l .fail fun t => takeK (Nat.mul n sz) t .fail K
def apNew (sz n m : Nat) (old new : List DV) (e : Env) (nx : P) (h : Hp) (k : Kv) : Res :=
  catK old new fun l => forceN (Nat.add n m) fun n => newK l e nx h (fun b => .sl b (nat_lit 0) n none sz) k
def apKill (sz : Nat) (e : Env) (nx : P) (h : Hp) (k : Kv) (wm : Option P) (b : P) (o n : Nat) (m : Nat) (new : List DV) : Res :=
  wOk wm b .fail fun _ => ownK b h .fail fun l => dropK o l .fail fun t => takeK (Nat.mul n sz) t .fail fun old =>
    Tr.setK b h (some .dead) fun h => apNew sz n m old new e nx h k
def apIn (sz : Nat) (e : Env) (nx : P) (h : Hp) (k : Kv) (wm : Option P) (b : P) (o n : Nat) (c m : Nat) (new : List DV) : Res :=
  wOk wm b .fail fun _ => ownK b h .fail fun l => sprK (Nat.add o (Nat.mul n sz)) l new .fail fun l => Tr.setK b h (some (.cells l)) fun h =>
    forceN (Nat.add n m) fun n => k e (.sl b o n (some c) sz) nx h
def apSl (sz bt : Nat) (e : Env) (nx : P) (h : Hp) (k : Kv) (wm : Option P) (m : Nat) (new : List DV) (b : P) (o n : Nat) (cp : Option Nat) (s : Nat) : Res :=
  chk (Nat.beq s sz) fun _ => chk (Nat.ble (Nat.mul (Nat.add n m) bt) (nat_lit 35184372088832)) fun _ =>
  Option.rec (motive := fun _ => Res) (apKill sz e nx h k wm b o n m new)
    (fun c => Bool.rec (motive := fun _ => Res) (slcK h b o n sz fun old => apNew sz n m old new e nx h k) (apIn sz e nx h k wm b o n c m new) (Nat.ble (Nat.add n m) c)) cp
def apX (sz bt : Nat) (s : DV) (e : Env) (nx : P) (h : Hp) (k : Kv) (wm : Option P) (m : Nat) (new : List DV) : Res :=
  Bool.rec (motive := fun _ => Res)
    (asSl s (nilsK s .fail fun _ => chk (Nat.ble (Nat.mul m bt) (nat_lit 35184372088832)) fun _ => apNew sz (nat_lit 0) m [] new e nx h k) (apSl sz bt e nx h k wm m new))
    (asSl s (nilsK s .fail fun _ => fV s fun v => k e v nx h) fun _ _ _ _ _ => fV s fun v => k e v nx h) (Nat.beq m (nat_lit 0))
def iApp (sz bt : Nat) (s x : Opd) : Run := fun _ _ wm e nx h k =>
  asSl (ev x e) (nilsK (ev x e) .fail fun _ => apX sz bt (ev s e) e nx h k wm (nat_lit 0) [])
    fun b o n _ s2 => chk (Nat.beq s2 sz) fun _ => slcK h b o n sz fun new => apX sz bt (ev s e) e nx h k wm n new
/-- noughts put behind a nil slice: 'append(s, make([]T, n)...)' -/
def apzN (sz : Nat) (z : List DV) (n : Nat) (e : Env) (nx : P) (h : Hp) (k : Kv) : Res := repZ z n fun new => apNew sz (nat_lit 0) n [] new e nx h k
def iApz (sz bt : Nat) (z : List DV) (s n : Opd) : Run := fun _ _ _ e nx h k => nilsK (ev s e) .fail fun _ => asI (ev n e) .fail fun _ x => natI x fun n => chk (Nat.ble (Nat.mul n bt) (nat_lit 1073741824)) fun _ =>
  Bool.rec (motive := fun _ => Res) (apzN sz z n e nx h k) (k e .nils nx h) (Nat.beq n (nat_lit 0))
def mxB (k : IntKind) (x y : Int) (K : IntKind → Int → Res) (t : Bool) : Res := Bool.rec (motive := fun _ => Res) (K k x) (K k y) t
def mxN (k : IntKind) (x : Int) (_ : Env) (K : IntKind → Int → Res) : Res := K k x
def mxC (o : Opd) (_ : List Opd) (ih : IntKind → Int → Env → (IntKind → Int → Res) → Res) (k : IntKind) (x : Int) (e : Env) (K : IntKind → Int → Res) : Res :=
  asI (ev o e) .fail fun j y => chk (sameK k j) fun _ => mxB k x y (fun k x => ih k x e K) (ilt x y)
def mxK (l : List Opd) : IntKind → Int → Env → (IntKind → Int → Res) → Res := List.rec (motive := fun _ => IntKind → Int → Env → (IntKind → Int → Res) → Res) mxN mxC l
def mnC (o : Opd) (_ : List Opd) (ih : IntKind → Int → Env → (IntKind → Int → Res) → Res) (k : IntKind) (x : Int) (e : Env) (K : IntKind → Int → Res) : Res :=
  asI (ev o e) .fail fun j y => chk (sameK k j) fun _ => mxB k x y (fun k x => ih k x e K) (ilt y x)
def mnK (l : List Opd) : IntKind → Int → Env → (IntKind → Int → Res) → Res := List.rec (motive := fun _ => IntKind → Int → Env → (IntKind → Int → Res) → Res) mxN mnC l
def iMx (a : Opd) (l : List Opd) : Run := fun _ _ _ e nx h k => asI (ev a e) .fail fun j x => mxK l j x e fun j x => k e (.int j x) nx h
def iMn (a : Opd) (l : List Opd) : Run := fun _ _ _ e nx h k => asI (ev a e) .fail fun j x => mnK l j x e fun j x => k e (.int j x) nx h

/-- noughts put over a slice's cells -/
def clrB (wm : Option P) (z : List DV) (e : Env) (nx : P) (h : Hp) (k : Kv) (b : P) (o n : Nat) : Res :=
  wOk wm b .fail fun _ => ownK b h .fail fun l => repZ z n fun c => sprK o l c .fail fun l => Tr.setK b h (some (.cells l)) fun h => k e (.tup []) nx h
def iClr (sz : Nat) (z : List DV) (a : Opd) : Run := fun _ _ wm e nx h k =>
  asSl (ev a e) (nilsK (ev a e) .fail fun _ => k e (.tup []) nx h) fun b o n _ s => chk (Nat.beq s sz) fun _ => chk (isLen z sz) fun _ =>
    Bool.rec (motive := fun _ => Res) (clrB wm z e nx h k b o n) (k e (.tup []) nx h) (Nat.beq n (nat_lit 0))

/-- What the small machine does not take. -/
def iBad : Run := fun _ _ _ _ _ _ _ => .fail

end Go.Proofs.Ythdlkpmhjbaplaa.Dx
