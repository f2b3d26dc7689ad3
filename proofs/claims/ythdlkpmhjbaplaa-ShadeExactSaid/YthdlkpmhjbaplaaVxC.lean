/- The value machine: what each instruction asks, and what it gives. No statement of this seat is proved here. -/
import Derived.Test.YthdlkpmhjbaplaaVxA
set_option autoImplicit false
set_option linter.unusedVariables false
noncomputable section
namespace Go.Proofs.Ythdlkpmhjbaplaa.Dx
open Go

def vplace (v : VV) (p : P) : VV := match v with | .var _ => .fld p 0 | v => v
def vouter : VV → VV | .var _ => .unk | .fld _ _ => .unk | v => v
/-- A number, a bool, a nil, a function: a constant. -/
def ofDV : DV → Option VV
  | .bool b => some (.bool b)
  | .int k n => some (.int k n)
  | .nilp => some .nilp | .nils => some .nils | .nilf => some .nilf | .nili => some .nili | .nilm => some .nilm
  | .fn f [] => some (.fn f [])
  | _ => none
def ofDVs : List DV → Option (List VV)
  | [] => some []
  | d :: l => match ofDV d, ofDVs l with | some v, some r => some (v :: r) | _, _ => none
def vev (o : Opd) (e : VEnv) : Option VV :=
  match o with
  | .t p => match Tr.get? p e with | some v => some (vplace v p) | none => none
  | .c d => ofDV d
def vov (o : Opd) (e : VEnv) : Option VV := match vev o e with | some v => some (vouter v) | none => none
def vovs : List Opd → VEnv → Option (List VV)
  | [], _ => some []
  | o :: l, e => match vov o e with | some v => (match vovs l e with | some r => some (v :: r) | none => none) | none => none
def vcells : VV → Option (List VV) | .agg l => some l | .unk => none | .tup _ => none | .var _ => none | .fld _ _ => none | v => some [v]
def spl (l : List VV) (o : Nat) (c : List VV) : List VV := l.take o ++ c ++ l.drop (o + c.length)
def vfills (e : VEnv) : List (Nat × Nat × Opd) → List VV → Option (List VV)
  | [], z => some z
  | (off, size, o) :: ps, z =>
    match vov o e with
    | some v => (match vcells v with
      | some l => if l.length = size ∧ off + l.length ≤ z.length then vfills e ps (spl z off l) else none
      | none => none)
    | none => none

/-! ### What is one's own, told by its cells -/

mutual
def vw (h : VHp) : VV → Option VV
  | .ow k n sz => match hget h k with | some (.row l) => if l.length = n * sz then some (.fz n none sz l) else none | _ => none
  | .pt k m o => match hget h k with
    | some (.row l) => if l.length = m then some (.fp l o) else none
    | some (.obj l) => if l.length = m ∧ pureL l = true then some (.fp l o) else none
    | none => none
  | .os _ _ _ _ _ => none
  | .var _ => none
  | .fld _ _ => none
  | .fn f cs => match vwL h cs with | some cs => some (.fn f cs) | none => none
  | .ifc t v => match vw h v with | some v => some (.ifc t v) | none => none
  | .agg l => match vwL h l with | some l => some (.agg l) | none => none
  | .tup l => match vwL h l with | some l => some (.tup l) | none => none
  | .unk => some .unk | .bool b => some (.bool b) | .int k n => some (.int k n) | .nilp => some .nilp | .nils => some .nils | .nilf => some .nilf | .nili => some .nili | .nilm => some .nilm
  | .fz n c sz l => some (.fz n c sz l)
  | .fp l o => some (.fp l o)
def vwL (h : VHp) : List VV → Option (List VV)
  | [] => some []
  | v :: l => match vw h v with | some v => (match vwL h l with | some l => some (v :: l) | none => none) | none => none
end
mutual
def keysV : VV → List Nat
  | .ow k _ _ => [k]
  | .pt k _ _ => [k]
  | .os k _ _ _ _ => [k]
  | .fn _ cs => keysL cs
  | .ifc _ v => keysV v
  | .agg l => keysL l
  | .tup l => keysL l
  | .var l => keysL l
  | _ => []
def keysL : List VV → List Nat
  | [] => []
  | v :: l => keysV v ++ keysL l
end

/-! ### Calls and loops: by what the small machine does -/

def CRun (F : Tr Fd) (f : P) (c : Ctx) (d : DS) (args : List DV) (d' : DS) (v : DV) : Prop :=
  d'.e = d.e ∧ ∃ fuel, ∀ n, fuel ≤ n → ∀ (e0 : Env) (k : Kv), callK F (exec F n) c.wm f args e0 d.nx d.h k = k e0 v d'.nx d'.h
def IRun (F : Tr Fd) (i : Ins) (c : Ctx) (d d' : DS) (v : DV) : Prop :=
  ∃ fuel, ∀ n, fuel ≤ n → ∀ k : Kv, insK i F (exec F n) c.wm d.e d.nx d.h k = k d'.e v d'.nx d'.h
def ORun (F : Tr Fd) (o : Op) (c : Ctx) (d d' : DS) : Prop :=
  ∃ fuel, ∀ n, fuel ≤ n → ∀ k : Ko, opK o F (exec F n) c.wm d.e d.nx d.h k = k d'.e d'.nx d'.h
def GRun (F : Tr Fd) (cd : C) (c : Ctx) (d d' : DS) (o : Out) : Prop :=
  ∃ fuel, ∀ n, fuel ≤ n → step cd F (exec F n) c.wm d.e d.nx d.h = .ok o d'.e d'.nx d'.h

abbrev EvoS (s : VSt) (d : DS) (g : Gh) (s' : VSt) (d' : DS) (g' : Gh) : Prop := Evo s.nx s.h d.nx d.h g s'.nx s'.h d'.nx d'.h g'

def wCall (F : Tr Fd) (f : P) (args : List VV) (s : VSt) (K : VSt → VV → Prop) : Prop :=
  ∀ (c : Ctx) (d : DS) (g : Gh) (ds : List DV), RS c s d g → XRs g.Z d.h (mm s.nx s.h g) args ds →
    ∃ s' v d' x g', CRun F f c d ds d' x ∧ RS c s' d' g' ∧ s'.w = s.w ∧ XR g'.Z d'.h (mm s'.nx s'.h g') v x ∧ EvoS s d g s' d' g' ∧ K s' v
def CSem (F : Tr Fd) (cd : C) (s : VSt) (K : Out → VSt → Prop) : Prop :=
  ∀ (c : Ctx) (d : DS) (g : Gh), c.wm = c.wm0 → RS c s d g → ∃ o s' d' g', GRun F cd c d d' o ∧ RS c s' d' g' ∧ s'.w = s.w ∧ EvoS s d g s' d' g' ∧ K o s'
def wLoop (F : Tr Fd) (lv : List P) (a : C) (s : VSt) (K : Out → VSt → Prop) : Prop := CSem F (.loop lv a) s K
theorem wCall_congr {F : Tr Fd} {f : P} {args args' : List VV} {s s' : VSt} {K : VSt → VV → Prop} (h1 : args = args') (h2 : s = s') : wCall F f args s K = wCall F f args' s' K := by rw [h1, h2]
theorem wLoop_congr {F : Tr Fd} {lv : List P} {a : C} {s s' : VSt} {K : Out → VSt → Prop} (h2 : s = s') : wLoop F lv a s K = wLoop F lv a s' K := by rw [h2]

/-! ### Instructions -/

/-- Is a block there, of so many cells? -/
def live (h : VHp) (k m : Nat) : Option VOb := match hget h k with | some o => if o.cells.length = m then some o else none | none => none

def wBin (b : Bo) (j : IntKind) (x y : Int) (K : VV → Prop) : Prop :=
  match b with
  | .add => K (.int j (j.wrap (x + y)))
  | .sub => K (.int j (j.wrap (x - y)))
  | .mul => K (.int j (j.wrap (x * y)))
  | .quo => y ≠ 0 ∧ K (.int j (j.wrap (x.tdiv y)))
  | .rem => y ≠ 0 ∧ K (.int j (x.tmod y))
  | .eq => K (.bool (decide (x = y)))
  | .ne => K (.bool (!decide (x = y)))
  | .lt => K (.bool (decide (x < y)))
  | .le => K (.bool (decide (x ≤ y)))
  | .gt => K (.bool (decide (y < x)))
  | .ge => K (.bool (decide (y ≤ x)))
def veqs : List Bool → List VV → List VV → Option Bool
  | [], [], [] => some true
  | false :: ks, .int j a :: l, .int j' b :: m => if j = j' then (match veqs ks l m with | some t => some (decide (a = b) && t) | none => none) else none
  | true :: ks, .bool a :: l, .bool b :: m => match veqs ks l m with | some t => some ((a == b) && t) | none => none
  | _, _, _ => none
def vmx : List Opd → IntKind → Int → VEnv → Option Int
  | [], _, x, _ => some x
  | o :: l, k, x, e => match vev o e with | some (.int j y) => if j = k then vmx l k (max x y) e else none | _ => none
def vmn : List Opd → IntKind → Int → VEnv → Option Int
  | [], _, x, _ => some x
  | o :: l, k, x, e => match vev o e with | some (.int j y) => if j = k then vmn l k (min x y) e else none | _ => none
/-- The cells of a row that is put behind another. -/
def vsrc (h : VHp) (sz : Nat) : VV → Option (Nat × List VV)
  | .nils => some (0, [])
  | .fz n _ sz' l => if sz' = sz then some (n, l) else none
  | .ow k n sz' => match live h k (n * sz') with | some (.row l) => if sz' = sz then some (n, l) else none | _ => none
  | _ => none
def wBd (o : Option Opd) (d : Int) (e : VEnv) (K : Int → Prop) : Prop :=
  match o with
  | none => K d
  | some o => match vev o e with | some (.int _ x) => K x | _ => False
def reps' (z : List VV) (n : Nat) : List VV := (List.replicate n z).flatten
def vsub (l : List VV) (sz : Nat) (lo hi : Nat) : List VV := (l.drop (lo * sz)).take ((hi - lo) * sz)

/-- Two ways, by a bool. -/
def gSplit (t g : Bool) (A B : Prop) : Prop := (t = g → A) ∧ (t = !g → B)
def wI (F : Tr Fd) (i : Ins) (s : VSt) (K : VSt → VV → Prop) : Prop :=
  match i with
  | .mv a => match vev a s.e with | some v => K s v | none => False
  | .pick c a b => match vev c s.e with
    | some (.bool t) => gSplit t true (match vev a s.e with | some v => K s v | none => False) (match vev b s.e with | some v => K s v | none => False)
    | _ => False
  | .al z => match ofDVs z with | some l => K ⟨s.e, s.nx + 1, s.w, (s.nx, .obj l) :: s.h⟩ (.pt s.nx l.length 0) | none => False
  | .bx a => match vov a s.e with
    | some v => (match vcells v with | some l => K ⟨s.e, s.nx + 1, s.w, (s.nx, .obj l) :: s.h⟩ (.pt s.nx l.length 0) | none => False)
    | none => False
  | .bld z ps => match ofDVs z with
    | some z => (match vfills s.e ps z with | some l => K s (.agg l) | none => False)
    | none => False
  | .bsl len sz z ps => match ofDVs z with
    | some z => (match vfills s.e ps z with
      | some l => (match vwL s.h l with | some l' => l.length = len * sz ∧ K ⟨s.e, s.nx + 1, s.w, (s.nx, .row l') :: hdels s.h (keysL l)⟩ (.ow s.nx len sz) | none => False)
      | none => False)
    | none => False
  | .ld a => match vev a s.e with
    | some (.fp l o) => (match l[o]? with | some v => K s v | none => False)
    | some (.pt k m o) => (match live s.h k m with | some ob => (match ob.cells[o]? with | some v => K s v | none => False) | none => False)
    | some (.fld p o) => (match Tr.get? p s.e with | some (.var l) => (match l[o]? with | some v => K s v | none => False) | _ => False)
    | _ => False
  | .lda n a => match vev a s.e with
    | some (.fp l o) => o + n ≤ l.length ∧ K s (.agg ((l.drop o).take n))
    | some (.pt k m o) => (match live s.h k m with | some ob => o + n ≤ ob.cells.length ∧ K s (.agg ((ob.cells.drop o).take n)) | none => False)
    | some (.fld p o) => (match Tr.get? p s.e with | some (.var l) => o + n ≤ l.length ∧ K s (.agg ((l.drop o).take n)) | _ => False)
    | _ => False
  | .st n a v => match vov v s.e with
    | some x => (match vcells x with
      | some c => c.length = n ∧ (match vev a s.e with
        | some (.fld p o) => (match Tr.get? p s.e with | some (.var l) => o + c.length ≤ l.length ∧ K ⟨Tr.set p s.e (some (.var (spl l o c))), s.nx, s.w, s.h⟩ (.tup []) | _ => False)
        | some (.pt k m o) => s.w ≤ k ∧ (match live s.h k m with
          | some (.obj l) => o + c.length ≤ l.length ∧ K ⟨s.e, s.nx, s.w, hset s.h k (.obj (spl l o c))⟩ (.tup [])
          | some (.row l) => o + c.length ≤ l.length ∧ pureL c = true ∧ K ⟨s.e, s.nx, s.w, hset s.h k (.row (spl l o c))⟩ (.tup [])
          | none => False)
        | _ => False)
      | none => False)
    | none => False
  | .nc a => match vev a s.e with
    | some (.fp l o) => K s (.fp l o)
    | some (.pt k m o) => (match live s.h k m with | some _ => K s (.pt k m o) | none => False)
    | some (.fld p o) => K s (.fld p o)
    | some (.fn f cs) => K s (.fn f cs)
    | _ => False
  | .bin b x y => match vev x s.e with
    | some (.int j a) => (match vev y s.e with | some (.int j' c) => j = j' ∧ wBin b j a c (K s) | _ => False)
    | _ => False
  | .aeq ks neg x y => match vev x s.e with
    | some (.agg a) => (match vev y s.e with | some (.agg b) => (match veqs ks a b with | some t => K s (.bool (neg != t)) | none => False) | _ => False)
    | _ => False
  | .beq neg x y => match vev x s.e with
    | some (.bool a) => (match vev y s.e with | some (.bool b) => K s (.bool (neg != (a == b))) | _ => False)
    | _ => False
  | .isnil neg x => match vev x s.e with
    | some .nils => K s (.bool (neg != true))
    | some (.fz n _ _ _) => ∀ b : Bool, (b = true → n = 0) → K s (.bool (neg != b))
    | some (.ow k n sz) => (match live s.h k (n * sz) with | some o => ∀ b : Bool, (b = true → o.cells = []) → K s (.bool (neg != b)) | none => False)
    | _ => False
  | .neg a => match vev a s.e with | some (.int j x) => K s (.int j (j.wrap (-x))) | _ => False
  | .not a => match vev a s.e with | some (.bool b) => K s (.bool (!b)) | _ => False
  | .cv k a => match vev a s.e with | some (.int _ x) => K s (.int k (k.wrap x)) | _ => False
  | .mfn f cs => match vovs cs s.e with | some vs => K s (.fn f vs) | none => False
  | .fa o a => match vev a s.e with
    | some (.fp l i) => K s (.fp l (i + o))
    | some (.pt k m i) => (match live s.h k m with | some _ => K s (.pt k m (i + o)) | none => False)
    | some (.fld p i) => K s (.fld p (i + o))
    | _ => False
  | .fi o a => match vev a s.e with | some (.agg l) => (match l[o]? with | some v => K s v | none => False) | _ => False
  | .fia o n a => match vev a s.e with | some (.agg l) => o + n ≤ l.length ∧ K s (.agg ((l.drop o).take n)) | _ => False
  | .ia sz a i => match vev a s.e with
    | some (.fz n _ sz' l) => (match vev i s.e with | some (.int _ x) => sz' = sz ∧ (0 ≤ x ∧ x < n) ∧ K s (.fp l (x.toNat * sz)) | _ => False)
    | some (.ow k n sz') => (match vev i s.e with
      | some (.int _ x) => sz' = sz ∧ 0 < sz ∧ (0 ≤ x ∧ x < n) ∧ (match live s.h k (n * sz) with | some _ => K s (.pt k (n * sz) (x.toNat * sz)) | none => False)
      | _ => False)
    | some (.os k m o n sz') => (match vev i s.e with
      | some (.int _ x) => sz' = sz ∧ (0 ≤ x ∧ x < n) ∧ (match live s.h k m with | some _ => K s (.pt k m (o + x.toNat * sz)) | none => False)
      | _ => False)
    | _ => False
  | .msl sz bt z len cap => match ofDVs z with
    | some z => (match vev len s.e with
      | some (.int _ x) => (match vev cap s.e with
        | some (.int _ y) => z.length = sz ∧ (0 ≤ x ∧ x ≤ y ∧ bt * y ≤ 1073741824) ∧ K ⟨s.e, s.nx + 1, s.w, (s.nx, .row (reps' z x.toNat)) :: s.h⟩ (.ow s.nx x.toNat sz)
        | _ => False)
      | _ => False)
    | none => False
  | .sla sz x lo hi mx => match vev x s.e with
    | some .nils => wBd hi 0 s.e fun b => b = 0 ∧ wBd lo 0 s.e fun a => a = 0 ∧ wBd mx 0 s.e fun m => m = 0 ∧ K s .nils
    | some (.fz n _ sz' l) => sz' = sz ∧ wBd hi n s.e fun b => wBd lo 0 s.e fun a => (match mx with
      | none => (0 ≤ a ∧ a ≤ b ∧ b ≤ n) ∧ K s (.fz (b.toNat - a.toNat) none sz (vsub l sz a.toNat b.toNat))
      | some m => wBd (some m) 0 s.e fun m => (0 ≤ a ∧ a ≤ b ∧ b ≤ m ∧ m ≤ n) ∧ K s (.fz (b.toNat - a.toNat) (some (m.toNat - a.toNat)) sz (vsub l sz a.toNat b.toNat)))
    | some (.ow k n sz') => sz' = sz ∧ mx = none ∧ s.w ≤ k ∧ (match live s.h k (n * sz) with
      | some (.row l) => (match hi, lo with
        | none, some lo => wBd (some lo) 0 s.e fun a => (0 ≤ a ∧ a ≤ n) ∧ K s (.os k (n * sz) (a.toNat * sz) (n - a.toNat) sz)
        | hi, lo => wBd hi n s.e fun b => wBd lo 0 s.e fun a => (0 ≤ a ∧ a ≤ b ∧ b ≤ n) ∧ K ⟨s.e, s.nx + 1, s.w, (s.nx, .row (vsub l sz a.toNat b.toNat)) :: hdel s.h k⟩ (.ow s.nx (b.toNat - a.toNat) sz))
      | _ => False)
    | _ => False
  | .ex a i => match vev a s.e with | some (.tup l) => (match l[i]? with | some v => K s v | none => False) | _ => False
  | .call f as => match vovs as s.e with | some args => wCall F f args s K | none => False
  | .callv f as => match vev f s.e with
    | some (.fn f cs) => (match vovs as s.e with | some args => wCall F f (args ++ cs) s K | none => False)
    | _ => False
  | .len a => match vev a s.e with
    | some .nils => K s (.int .i64 0)
    | some (.fz n _ _ _) => K s (.int .i64 n)
    | some (.ow k n sz) => 0 < sz ∧ (match live s.h k (n * sz) with | some _ => K s (.int .i64 n) | none => False)
    | some (.os k m _ n _) => (match live s.h k m with | some _ => K s (.int .i64 n) | none => False)
    | _ => False
  | .cap a => match vev a s.e with
    | some .nils => K s (.int .i64 0)
    | some (.fz n (some c) _ _) => K s (.int .i64 c)
    | _ => False
  | .app sz bt a x => match vev x s.e with
    | some vx => (match vsrc s.h sz vx with
      | some (m, new) => (match vev a s.e with
        | some .nils => (m * bt ≤ 35184372088832 ∧ new.length = m * sz) ∧ K ⟨s.e, s.nx + 1, s.w, (s.nx, .row new) :: s.h⟩ (.ow s.nx m sz)
        | some (.ow k n sz') => sz' = sz ∧ 0 < sz ∧ s.w ≤ k ∧ ((n + m) * bt ≤ 35184372088832 ∧ new.length = m * sz) ∧ (match live s.h k (n * sz) with
          | some (.row l) => K ⟨s.e, s.nx, s.w, hset s.h k (.row (l ++ new))⟩ (.ow k (n + m) sz)
          | _ => False)
        | _ => False)
      | none => False)
    | none => False
  | .mx a l => match vev a s.e with | some (.int j x) => (match vmx l j x s.e with | some r => K s (.int j r) | none => False) | _ => False
  | .mn a l => match vev a s.e with | some (.int j x) => (match vmn l j x s.e with | some r => K s (.int j r) | none => False) | _ => False
  | .apz sz bt z a n => match ofDVs z with
    | some z => (match vev a s.e with
      | some .nils => (match vev n s.e with
        | some (.int _ x) => z.length = sz ∧ (0 ≤ x ∧ x * bt ≤ 1073741824) ∧ K ⟨s.e, s.nx + 1, s.w, (s.nx, .row (reps' z x.toNat)) :: s.h⟩ (.ow s.nx x.toNat sz)
        | _ => False)
      | _ => False)
    | none => False
  | .clr sz z a => match ofDVs z with
    | some z => (match vev a s.e with
      | some (.os k m o n sz') => s.w ≤ k ∧ (match live s.h k m with
        | some (.row l) => (z.length = sz ∧ sz' = sz) ∧ o + n * sz ≤ l.length ∧ pureL z = true ∧ K ⟨s.e, s.nx, s.w, hset s.h k (.row (spl l o (reps' z n)))⟩ (.tup [])
        | _ => False)
      | _ => False)
    | none => False
  | .shr x y => match vev x s.e with
    | some (.int j a) => (match vev y s.e with | some (.int _ c) => (0 ≤ c ∧ c.toNat ≤ j.bits) ∧ K s (.int j (a.fdiv (2 ^ c.toNat))) | _ => False)
    | _ => False
  | .bad => False
theorem wI_congr {F : Tr Fd} {i : Ins} {s s' : VSt} {K : VSt → VV → Prop} (h : s = s') : wI F i s K = wI F i s' K := by rw [h]

/-! ### Operations, code -/

def vput (dst : Option P) (v : VV) (s : VSt) : VSt := match dst with | some d => ⟨Tr.set d s.e (some v), s.nx, s.w, s.h⟩ | none => s
def isVarV (p : P) (e : VEnv) : Bool := match Tr.get? p e with | some (.var _) => true | _ => false
def wO (F : Tr Fd) (o : Op) (s : VSt) (K : VSt → Prop) : Prop :=
  match o with
  | .mk dst none i => wI F i s fun s' v => K (vput dst v s')
  | .mk dst (some (p, b)) i => match vev (.t p) s.e with
    | some (.bool t) => gSplit t b (wI F i ⟨Tr.set p s.e (some (.bool b)), s.nx, s.w, s.h⟩ fun s' v => K (vput dst v s')) (K (vput dst (.tup []) ⟨Tr.set p s.e (some (.bool !b)), s.nx, s.w, s.h⟩))
    | some (.tup []) => K (vput dst (.tup []) s)
    | _ => False
  | .loc p z => match ofDVs z with
    | some l => isVarV p s.e = false ∧ K ⟨Tr.set p s.e (some (.var l)), s.nx, s.w, s.h⟩
    | none => False
  | .locb p a => match vov a s.e with
    | some v => (match vcells v with | some l => isVarV p s.e = false ∧ K ⟨Tr.set p s.e (some (.var l)), s.nx, s.w, s.h⟩ | none => False)
    | none => False
theorem wO_congr {F : Tr Fd} {o : Op} {s s' : VSt} {K : VSt → Prop} (h : s = s') : wO F o s K = wO F o s' K := by rw [h]
def wOs (F : Tr Fd) : List Op → VSt → (VSt → Prop) → Prop
  | [], s, K => K s
  | o :: l, s, K => wO F o s fun s => wOs F l s K
theorem wOs_congr {F : Tr Fd} {o : List Op} {s s' : VSt} {K : VSt → Prop} (h : s = s') : wOs F o s K = wOs F o s' K := by rw [h]

def vbare : VV → VV | .var _ => .var [] | v => v
def vuseP (c : Bool) (p : P) (e acc : VEnv) : VEnv :=
  match Tr.get? p e with
  | none => acc
  | some (.fld q o) => (match Tr.get? q acc with | some (.var _) => Tr.set p acc (some (.fld q o)) | _ => acc)
  | some v => Tr.set p acc (some (match c with | true => v | false => vbare v))
def vuse (c : Bool) (e : VEnv) : List P → VEnv → VEnv
  | [], acc => acc
  | p :: l, acc => vuse c e l (vuseP c p e acc)
def vbackP (p : P) (r e : VEnv) : VEnv := match Tr.get? p r with | some v => Tr.set p e (some v) | none => e
def vback (r : VEnv) : List P → VEnv → VEnv
  | [], e => e
  | p :: l, e => vback r l (vbackP p r e)
def wOf (r : Bool) (nx w : Nat) : Nat := match r with | true => nx | false => w
def wDr (F : Tr Fd) (x : Dop) (s : VSt) (K : VSt → Prop) : Prop :=
  match x with
  | .mk c u b r o => wO F o ⟨vuse c s.e u .nl, s.nx, wOf r s.nx s.w, s.h⟩ fun s1 => K ⟨vback s1.e b s.e, s1.nx, s.w, s1.h⟩
/-- Where a guard is not known, both ways are gone, each with the guard told. -/
def wDg (F : Tr Fd) (x : Dop) (s : VSt) (p : P) (g : Bool) (K : VSt → Prop) : Prop :=
  match vev (.t p) s.e with
  | some (.bool t) => gSplit t g (wDr F x ⟨Tr.set p s.e (some (.bool g)), s.nx, s.w, s.h⟩ K) (wDr F x ⟨Tr.set p s.e (some (.bool !g)), s.nx, s.w, s.h⟩ K)
  | _ => wDr F x s K
def wD (F : Tr Fd) (x : Dop) (s : VSt) (K : VSt → Prop) : Prop :=
  match x with
  | .mk _ _ _ _ (.mk _ (some (p, g)) _) => wDg F x s p g K
  | x => wDr F x s K
def wDs (F : Tr Fd) : List Dop → VSt → (VSt → Prop) → Prop
  | [], s, K => K s
  | o :: l, s, K => wD F o s fun s => wDs F l s K
theorem wDs_congr {F : Tr Fd} {o : List Dop} {s s' : VSt} {K : VSt → Prop} (h : s = s') : wDs F o s K = wDs F o s' K := by rw [h]

def vkeep (e : VEnv) : List P → VEnv → VEnv
  | [], acc => acc
  | p :: l, acc => match Tr.get? p e with
    | some (.fld _ _) => vkeep e l acc
    | some v => vkeep e l (Tr.set p acc (some v))
    | none => vkeep e l acc

def wC (F : Tr Fd) : C → VSt → (Out → VSt → Prop) → Prop
  | .skip, s, K => K .norm s
  | .reg l, s, K => wOs F l s (K .norm)
  | .drw l, s, K => wDs F l s (K .norm)
  | .seq a b, s, K => wC F a s fun o s' => match o with | .norm => wC F b s' K | .exit i => K (.exit i) s' | .ret => K .ret s'
  | .cond c a b, s, K => match vev c s.e with | some (.bool t) => gSplit t true (wC F a s K) (wC F b s K) | _ => False
  | .block id a, s, K => wC F a s fun o s' => match o with | .norm => K .norm s' | .exit i => if i = id then K .norm s' else K (.exit i) s' | .ret => K .ret s'
  | .loop lv a, s, K => wLoop F lv a s K
  | .exit id, s, K => K (.exit id) s
  | .ret, s, K => K .ret s
theorem wC_congr {F : Tr Fd} {o : C} {s s' : VSt} {K : Out → VSt → Prop} (h : s = s') : wC F o s K = wC F o s' K := by rw [h]

end Go.Proofs.Ythdlkpmhjbaplaa.Dx

/- The value machine: what keeps its relation. No statement of this seat is proved here. -/
set_option autoImplicit false
set_option linter.unusedVariables false
namespace Go.Proofs.Ythdlkpmhjbaplaa.Dx
open Go

section
variable {Z : P → Prop} {h : Hp} {M : Option MM}

/-! ### Operands -/

theorem evT_some {p : P} {e : Env} {y : DV} (hy : Tr.get? p e = some y) : evT p e = place y p := by
  unfold evT; rw [hy]; rfl
theorem XR.place {v : VV} {y : DV} (x : XR Z h M v y) (p : P) : XR Z h M (vplace v p) (Dx.place y p) := by
  rw [place_eq]
  cases x
  case var hl => exact .fld p 0
  case unk hd => cases y <;> first | exact .unk hd | exact hd.elim
  case ow hk hd hf => rcases hd with rfl | ⟨k, o, n, c, s, rfl⟩ <;> exact .ow (by first | exact .inl rfl | exact .inr ⟨_, _, _, _, _, rfl⟩) hk hf
  case pt hk hd hf => obtain ⟨k, o, rfl⟩ := hd; exact .pt ⟨_, _, rfl⟩ hk hf
  case os hk hd hf => rcases hd with rfl | ⟨k, o, n, c, s, rfl⟩ <;> exact .os (by first | exact .inl rfl | exact .inr ⟨_, _, _, _, _, rfl⟩) hk hf
  all_goals first
    | exact .bool _ | exact .int _ _ | exact .nilp | exact .nils | exact .nilf | exact .nili | exact .nilm | exact .fz0 ‹_› | exact .fz ‹_› ‹_› ‹_› ‹_› ‹_› ‹_› ‹_› | exact .fp ‹_› ‹_› ‹_› ‹_›
    | exact .fn ‹_› | exact .ifc ‹_› | exact .agg ‹_› | exact .tup ‹_› | exact .fld _ _
theorem XR.outer {v : VV} {y : DV} (x : XR Z h M v y) : XR Z h M (vouter v) (Dx.outer y ()) := by
  rw [outer_eq]
  cases x
  case var hl => exact .unk trivial
  case fld p o => exact .unk trivial
  case unk hd => cases y <;> first | exact .unk hd | exact hd.elim
  case ow hk hd hf => rcases hd with rfl | ⟨k, o, n, c, s, rfl⟩ <;> exact .ow (by first | exact .inl rfl | exact .inr ⟨_, _, _, _, _, rfl⟩) hk hf
  case pt hk hd hf => obtain ⟨k, o, rfl⟩ := hd; exact .pt ⟨_, _, rfl⟩ hk hf
  case os hk hd hf => rcases hd with rfl | ⟨k, o, n, c, s, rfl⟩ <;> exact .os (by first | exact .inl rfl | exact .inr ⟨_, _, _, _, _, rfl⟩) hk hf
  all_goals first
    | exact .bool _ | exact .int _ _ | exact .nilp | exact .nils | exact .nilf | exact .nili | exact .nilm | exact .fz0 ‹_› | exact .fz ‹_› ‹_› ‹_› ‹_› ‹_› ‹_› ‹_› | exact .fp ‹_› ‹_› ‹_› ‹_›
    | exact .fn ‹_› | exact .ifc ‹_› | exact .agg ‹_› | exact .tup ‹_›
theorem ofDV_sound {d : DV} {v : VV} (e : ofDV d = some v) : XR Z h M v d := by
  unfold ofDV at e
  split at e <;> first | cases e | (injection e with e; subst e)
  · exact .bool _
  · exact .int _ _
  · exact .nilp
  · exact .nils
  · exact .nilf
  · exact .nili
  · exact .nilm
  · exact .fn .nil
theorem ofDVs_sound : ∀ {l : List DV} {r : List VV}, ofDVs l = some r → XRs Z h M r l
  | [], r, e => by simp only [ofDVs, Option.some.injEq] at e; subst e; exact .nil
  | d :: l, r, e => by
    simp only [ofDVs] at e
    cases h1 : ofDV d <;> cases h2 : ofDVs l <;> simp only [h1, h2, reduceCtorEq] at e
    injection e with e; subst e
    exact .cons (ofDV_sound h1) (ofDVs_sound h2)
theorem vev_sound {o : Opd} {e : VEnv} {d : Env} {v : VV} (x : EnvR Z h M e d) (hv : vev o e = some v) : XR Z h M v (ev o d) := by
  cases o with
  | t p =>
    simp only [vev] at hv
    cases hp : Tr.get? p e with
    | none => simp only [hp, reduceCtorEq] at hv
    | some u =>
      simp only [hp, Option.some.injEq] at hv; subst hv
      obtain ⟨y, hy, hx⟩ := x.get hp
      show XR Z h M _ (evT p d)
      rw [evT_some hy]; exact hx.place p
  | c dv => exact ofDV_sound hv
theorem vov_sound {o : Opd} {e : VEnv} {d : Env} {v : VV} (x : EnvR Z h M e d) (hv : vov o e = some v) : XR Z h M v (ov o d) := by
  simp only [vov] at hv
  cases hp : vev o e with
  | none => simp only [hp, reduceCtorEq] at hv
  | some u => simp only [hp, Option.some.injEq] at hv; subst hv; exact (vev_sound x hp).outer
theorem vovs_sound {e : VEnv} {d : Env} (x : EnvR Z h M e d) : ∀ {l : List Opd} {r : List VV}, vovs l e = some r → XRs Z h M r (l.map fun o => ov o d)
  | [], r, hv => by simp only [vovs, Option.some.injEq] at hv; subst hv; exact .nil
  | o :: l, r, hv => by
    simp only [vovs] at hv
    cases h1 : vov o e with
    | none => simp only [h1, reduceCtorEq] at hv
    | some v =>
      simp only [h1] at hv
      cases h2 : vovs l e with
      | none => simp only [h2, reduceCtorEq] at hv
      | some t => simp only [h2, Option.some.injEq] at hv; subst hv; exact .cons (vov_sound x h1) (vovs_sound x h2)
theorem vcells_sound {v : VV} {d : DV} {l : List VV} (x : XR Z h M v d) (hl : vcells v = some l) : ∃ l', d.cells = some l' ∧ XRs Z h M l l' := by
  cases x <;> simp only [vcells, Option.some.injEq, reduceCtorEq] at hl <;> subst hl
  case agg l' hl' => exact ⟨_, rfl, hl'⟩
  case ow hk hd hf => rcases hd with rfl | ⟨k, o, n, c, s, rfl⟩ <;> exact ⟨_, rfl, .cons (.ow (by first | exact .inl rfl | exact .inr ⟨_, _, _, _, _, rfl⟩) hk hf) .nil⟩
  case pt hk hd hf => obtain ⟨k, o, rfl⟩ := hd; exact ⟨_, rfl, .cons (.pt ⟨_, _, rfl⟩ hk hf) .nil⟩
  case os hk hd hf => rcases hd with rfl | ⟨k, o, n, c, s, rfl⟩ <;> exact ⟨_, rfl, .cons (.os (by first | exact .inl rfl | exact .inr ⟨_, _, _, _, _, rfl⟩) hk hf) .nil⟩
  all_goals first
    | exact ⟨_, rfl, .cons (.bool _) .nil⟩ | exact ⟨_, rfl, .cons (.int _ _) .nil⟩ | exact ⟨_, rfl, .cons .nilp .nil⟩ | exact ⟨_, rfl, .cons .nils .nil⟩ | exact ⟨_, rfl, .cons .nilf .nil⟩ | exact ⟨_, rfl, .cons .nili .nil⟩ | exact ⟨_, rfl, .cons .nilm .nil⟩
    | exact ⟨_, rfl, .cons (.fz0 ‹_›) .nil⟩ | exact ⟨_, rfl, .cons (.fz ‹_› ‹_› ‹_› ‹_› ‹_› ‹_› ‹_›) .nil⟩ | exact ⟨_, rfl, .cons (.fp ‹_› ‹_› ‹_› ‹_›) .nil⟩
    | exact ⟨_, rfl, .cons (.fn ‹_›) .nil⟩ | exact ⟨_, rfl, .cons (.ifc ‹_›) .nil⟩
theorem XRs.spl {l : List VV} {l' : List DV} {c : List VV} {c' : List DV} (a : XRs Z h M l l') (b : XRs Z h M c c') (o : Nat) : XRs Z h M (Dx.spl l o c) (l'.take o ++ c' ++ l'.drop (o + c'.length)) := by
  unfold Dx.spl
  rw [← b.length]
  exact ((a.take o).append b).append (a.drop _)
theorem vfills_sound {e : VEnv} {d : Env} (x : EnvR Z h M e d) : ∀ {ps : List (Nat × Nat × Opd)} {z r : List VV} {z' : List DV}, XRs Z h M z z' → vfills e ps z = some r → ∃ r', fills d ps z' = some r' ∧ XRs Z h M r r'
  | [], z, r, z', hz, hv => by simp only [vfills, Option.some.injEq] at hv; subst hv; exact ⟨z', rfl, hz⟩
  | (off, size, o) :: ps, z, r, z', hz, hv => by
    simp only [vfills] at hv
    cases h1 : vov o e with
    | none => simp only [h1, reduceCtorEq] at hv
    | some v =>
      simp only [h1] at hv
      cases h2 : vcells v with
      | none => simp only [h2, reduceCtorEq] at hv
      | some l =>
        simp only [h2] at hv
        obtain ⟨l', h3, h4⟩ := vcells_sound (vov_sound x h1) h2
        by_cases hc : l.length = size ∧ off + l.length ≤ z.length
        · rw [if_pos hc] at hv
          simp only [fills, h3]
          rw [if_pos (by rw [← h4.length, ← hz.length]; exact hc)]
          exact vfills_sound x (hz.spl h4 off) hv
        · rw [if_neg hc] at hv; cases hv

/-! ### Rows -/

theorem XR.fz_cells {n : Nat} {c : Option Nat} {sz : Nat} {l : List VV} {d : DV} (x : XR Z h M (.fz n c sz l) d) :
    (d = .nils ∧ n = 0 ∧ l = [] ∧ (c = none ∨ c = some 0)) ∨ ∃ k o c' cells, d = .sl k o n c' sz ∧ l.length = n * sz ∧ Z k ∧ objAt k h = some cells ∧ o + n * sz ≤ cells.length ∧ XRs Z h none l ((cells.drop o).take (n * sz)) ∧ (∀ x, c = some x → c' = some x) ∧ ∀ x, c' = some x → n ≤ x := by
  cases x with
  | fz0 hc => exact .inl ⟨rfl, rfl, rfl, hc⟩
  | @fz _ _ _ _ _ k o c' cells hn hz hk ho hl hc hx => exact .inr ⟨k, o, c', cells, rfl, hn, hz, hk, ho, hl, hc, hx⟩
end

/-! ### Blocks of one's own -/

def upd (μ : Nat → Option DV) (k : Nat) (r : DV) : Nat → Option DV := fun i => if i = k then some r else μ i
theorem upd_self (μ : Nat → Option DV) (k : Nat) (r : DV) : upd μ k r k = some r := by simp [upd]
theorem upd_ne {μ : Nat → Option DV} {k i : Nat} {r : DV} (hi : i ≠ k) : upd μ k r i = μ i := by simp [upd, hi]

theorem mof_some {h : VHp} {μ : Nat → Option DV} {k m : Nat} {r : DV} (e : mof h μ k = some (m, r)) : ∃ o, hget h k = some o ∧ μ k = some r ∧ o.cells.length = m := by
  unfold mof at e
  cases h1 : hget h k <;> cases h2 : μ k <;> simp only [h1, h2, reduceCtorEq] at e
  simp only [Option.some.injEq, Prod.mk.injEq] at e
  exact ⟨_, rfl, by rw [e.2], e.1⟩
theorem mof_eq {h : VHp} {μ : Nat → Option DV} {k : Nat} {o : VOb} {r : DV} (h1 : hget h k = some o) (h2 : μ k = some r) : mof h μ k = some (o.cells.length, r) := by
  unfold mof; rw [h1, h2]
theorem live_some {h : VHp} {k m : Nat} {o : VOb} (e : live h k m = some o) : hget h k = some o ∧ o.cells.length = m := by
  unfold live at e
  cases h1 : hget h k with
  | none => simp only [h1, reduceCtorEq] at e
  | some o' =>
    simp only [h1] at e
    by_cases hm : o'.cells.length = m
    · rw [if_pos hm] at e; cases e; exact ⟨rfl, hm⟩
    · rw [if_neg hm] at e; cases e

theorem VOb.m_le {M M' : Option MM} (h : MLe M M') : ∀ o : VOb, MLe (o.m M) (o.m M')
  | .row _ => trivial
  | .obj _ => h
theorem Blk.mono {Z Z' : P → Prop} {h h' : Hp} {M M' : Option MM} {o : VOb} {r : DV} (hZ : ∀ k, Z k → Z' k) (hh : ∀ k, Z k → objAt k h' = objAt k h) (hM : MLe M M')
    (hr : ∀ b q, refAt r = some (b, q) → Tr.get? b h' = Tr.get? b h) (B : Blk Z h M o r) : Blk Z' h' M' o r := by
  rcases B with ⟨rfl, rfl⟩ | ⟨b, q, n, cp, sz, cells, rfl, h1, h2, h3, h4, h5⟩ | ⟨b, q, cells, rfl, h1, h3, h5⟩
  · exact .inl ⟨rfl, rfl⟩
  · exact .inr (.inl ⟨b, q, n, cp, sz, cells, rfl, (hr b q rfl).trans h1, h2, h3, h4, XRs.mono hZ hh (o.m_le hM) h5⟩)
  · exact .inr (.inr ⟨b, q, cells, rfl, (hr b q rfl).trans h1, h3, XRs.mono hZ hh (o.m_le hM) h5⟩)
/-- The cells that a block of one's own has in the small machine. -/
theorem Blk.read {Z : P → Prop} {h : Hp} {M : Option MM} {o : VOb} {r : DV} (B : Blk Z h M o r) {b : P} {q : Nat} (hr : refAt r = some (b, q)) :
    ∃ cells, Tr.get? b h = some (.cells cells) ∧ q + o.cells.length ≤ cells.length ∧ XRs Z h (o.m M) o.cells ((cells.drop q).take o.cells.length) := by
  rcases B with ⟨rfl, rfl⟩ | ⟨b, q, n, cp, sz, cells, rfl, h1, h2, h3, h4, h5⟩ | ⟨b, q, cells, rfl, h1, h3, h5⟩
  · cases hr
  · cases hr; exact ⟨cells, h1, by omega, h5⟩
  · cases hr; exact ⟨cells, h1, h3, h5⟩
theorem VOb.m_any {Z : P → Prop} {h : Hp} {M : Option MM} {l : List VV} {l' : List DV} : ∀ {o : VOb}, XRs Z h (o.m M) l l' → XRs Z h M l l'
  | .row _, x => x.none_any
  | .obj _, x => x

section
variable {c : Ctx} {nx w : Nat} {vh : VHp} {dnx : P} {dh : Hp} {g : Gh}

theorem HpR.lt (R : HpR c nx w vh dnx dh g) {k : Nat} {o : VOb} {r : DV} {b : P} {q : Nat} (hk : hget vh k = some o) (hr : g.μ k = some r) (hb : refAt r = some (b, q)) : b.n < dnx.n := by
  obtain ⟨_, r', e, B⟩ := R.blk k o hk
  rw [hr] at e; cases e
  obtain ⟨cells, h1, _⟩ := B.read hb
  rcases Nat.lt_or_ge b.n dnx.n with hlt | hge
  · exact hlt
  · rw [R.top b hge] at h1; cases h1
theorem P.ne_of_lt {a b : P} (h : a.n < b.n) : a ≠ b := by rintro rfl; omega

/-- A block's cells are still what they were, when a block is made at the next key. -/
theorem get_new {a : P} (x : Option Ob) (h : a.n < dnx.n) : Tr.get? a (Tr.set dnx dh x) = Tr.get? a dh := Tr.get_set_ne (P.ne_of_lt h) _ _

/-- A new block of one's own, at the next key. -/
theorem HpR.alloc (R : HpR c nx w vh dnx dh g) {cells : List DV} {ob : VOb} {r : DV} {q : Nat} (hr : refAt r = some (dnx, q))
    (hB : Blk g.Z (Tr.set dnx dh (some (.cells cells))) (mm (nx + 1) ((nx, ob) :: vh) ⟨g.Z, upd g.μ nx r⟩) ob r) :
    HpR c (nx + 1) w ((nx, ob) :: vh) dnx.suc (Tr.set dnx dh (some (.cells cells))) ⟨g.Z, upd g.μ nx r⟩ ∧ Evo nx vh dnx dh g (nx + 1) ((nx, ob) :: vh) dnx.suc (Tr.set dnx dh (some (.cells cells))) ⟨g.Z, upd g.μ nx r⟩ := by
  have hm : MLe (mm nx vh g) (mm (nx + 1) ((nx, ob) :: vh) ⟨g.Z, upd g.μ nx r⟩) := by
    refine ⟨by omega, fun k hk m' r' e => ?_⟩
    obtain ⟨o, h1, h2, h3⟩ := mof_some e
    simp only [hget, if_neg (show k ≠ nx by omega)] at h1
    simp only [upd_ne (show k ≠ nx by omega)] at h2
    exact ⟨m', r', by rw [mof_eq h1 h2, h3], Nat.le_refl _, fun _ => rfl⟩
  have ho : ∀ b, g.Z b → objAt b (Tr.set dnx dh (some (.cells cells))) = objAt b dh := fun b hb => objAt_of (get_new _ (R.zlt b hb))
  refine ⟨?_, ⟨hm, fun _ h => h, ho, by rw [P.n_suc]; omega⟩⟩
  have old : ∀ k o, hget ((nx, ob) :: vh) k = some o → k ≠ nx → hget vh k = some o ∧ k < nx := by
    intro k o hk hne
    simp only [hget, if_neg hne] at hk
    exact ⟨hk, (R.blk k o hk).1⟩
  constructor
  · intro k o hk
    by_cases hne : k = nx
    · subst hne
      simp only [hget, if_pos] at hk
      cases hk
      exact ⟨by omega, r, upd_self _ _ _, hB⟩
    · obtain ⟨hk', hlt⟩ := old k o hk hne
      obtain ⟨_, r1, e1, B1⟩ := R.blk k o hk'
      refine ⟨by omega, r1, (upd_ne hne).trans e1, B1.mono (fun _ h => h) ho hm fun b q hb => get_new _ (R.lt hk' e1 hb)⟩
  · intro k o r1 b q1 hk hr1 hb
    by_cases hne : k = nx
    · subst hne
      simp only [upd_self] at hr1; cases hr1
      rw [hr] at hb; cases hb
      refine ⟨fun hz => ?_, .inl R.le, fun _ m hm => R.wm m hm⟩
      have := R.zlt _ hz; omega
    · obtain ⟨hk', hlt⟩ := old k o hk hne
      simp only [upd_ne hne] at hr1
      exact R.own k o r1 b q1 hk' hr1 hb
  · intro k k' o o' r1 r2 b q1 q2 hk hk' hr1 hr2 hb hb'
    by_cases hne : k = nx
    · by_cases hne' : k' = nx
      · rw [hne, hne']
      · obtain ⟨hk2, _⟩ := old k' o' hk' hne'
        subst hne
        simp only [upd_self] at hr1; cases hr1
        rw [hr] at hb; cases hb
        simp only [upd_ne hne'] at hr2
        have := R.lt hk2 hr2 hb'; omega
    · obtain ⟨hk1, _⟩ := old k o hk hne
      by_cases hne' : k' = nx
      · subst hne'
        simp only [upd_self] at hr2; cases hr2
        rw [hr] at hb'; cases hb'
        simp only [upd_ne hne] at hr1
        have := R.lt hk1 hr1 hb; omega
      · obtain ⟨hk2, _⟩ := old k' o' hk' hne'
        simp only [upd_ne hne] at hr1; simp only [upd_ne hne'] at hr2
        exact R.inj k k' o o' r1 r2 b q1 q2 hk1 hk2 hr1 hr2 hb hb'
  · intro b hb; rw [P.n_suc]; have := R.zlt b hb; omega
  · exact R.zold
  · intro b hb
    rw [P.n_suc] at hb
    rw [Tr.get_set_ne (by rintro rfl; omega)]; exact R.top b (by omega)
  · intro b hb hn
    rw [get_new _ (Nat.lt_of_lt_of_le hb R.le)]; exact R.keep b hb hn
  · rw [P.n_suc]; have := R.le; omega
  · intro m hm; rw [P.n_suc]; have := R.wm m hm; omega
  · exact R.wf
/-- A new row of one's own that is nil. -/
theorem HpR.addNil (R : HpR c nx w vh dnx dh g) :
    HpR c (nx + 1) w ((nx, .row []) :: vh) dnx dh ⟨g.Z, upd g.μ nx .nils⟩ ∧ Evo nx vh dnx dh g (nx + 1) ((nx, .row []) :: vh) dnx dh ⟨g.Z, upd g.μ nx .nils⟩ := by
  have hm : MLe (mm nx vh g) (mm (nx + 1) ((nx, .row []) :: vh) ⟨g.Z, upd g.μ nx .nils⟩) := by
    refine ⟨by omega, fun k hk m' r' e => ?_⟩
    obtain ⟨o, h1, h2, h3⟩ := mof_some e
    simp only [hget, if_neg (show k ≠ nx by omega)] at h1
    simp only [upd_ne (show k ≠ nx by omega)] at h2
    exact ⟨m', r', by rw [mof_eq h1 h2, h3], Nat.le_refl _, fun _ => rfl⟩
  have old : ∀ k o, hget ((nx, .row []) :: vh) k = some o → k ≠ nx → hget vh k = some o ∧ k < nx := by
    intro k o hk hne
    simp only [hget, if_neg hne] at hk
    exact ⟨hk, (R.blk k o hk).1⟩
  refine ⟨?_, ⟨hm, fun _ h => h, fun _ _ => rfl, Nat.le_refl _⟩⟩
  constructor
  · intro k o hk
    by_cases hne : k = nx
    · subst hne
      simp only [hget, if_pos] at hk
      cases hk
      exact ⟨by omega, .nils, upd_self _ _ _, .inl ⟨rfl, rfl⟩⟩
    · obtain ⟨hk', hlt⟩ := old k o hk hne
      obtain ⟨_, r1, e1, B1⟩ := R.blk k o hk'
      exact ⟨by omega, r1, (upd_ne hne).trans e1, B1.mono (fun _ h => h) (fun _ _ => rfl) hm fun b q hb => rfl⟩
  · intro k o r1 b q1 hk hr1 hb
    by_cases hne : k = nx
    · subst hne
      simp only [upd_self] at hr1; cases hr1
      cases hb
    · obtain ⟨hk', hlt⟩ := old k o hk hne
      simp only [upd_ne hne] at hr1
      exact R.own k o r1 b q1 hk' hr1 hb
  · intro k k' o o' r1 r2 b q1 q2 hk hk' hr1 hr2 hb hb'
    by_cases hne : k = nx
    · subst hne
      simp only [upd_self] at hr1; cases hr1; cases hb
    · obtain ⟨hk1, _⟩ := old k o hk hne
      by_cases hne' : k' = nx
      · subst hne'
        simp only [upd_self] at hr2; cases hr2; cases hb'
      · obtain ⟨hk2, _⟩ := old k' o' hk' hne'
        simp only [upd_ne hne] at hr1; simp only [upd_ne hne'] at hr2
        exact R.inj k k' o o' r1 r2 b q1 q2 hk1 hk2 hr1 hr2 hb hb'
  · exact R.zlt
  · exact R.zold
  · exact R.top
  · exact R.keep
  · exact R.le
  · exact R.wm
  · exact R.wf
/-- Some blocks are forgotten. -/
theorem HpR.sub (R : HpR c nx w vh dnx dh g) {vh' : VHp} (hs : ∀ k o, hget vh' k = some o → hget vh k = some o) : HpR c nx w vh' dnx dh g ∧ Evo nx vh dnx dh g nx vh' dnx dh g := by
  have hm : MLe (mm nx vh g) (mm nx vh' g) := by
    refine ⟨Nat.le_refl _, fun k hk m' r' e => ?_⟩
    obtain ⟨o, h1, h2, h3⟩ := mof_some e
    exact ⟨m', r', by rw [mof_eq (hs k o h1) h2, h3], Nat.le_refl _, fun _ => rfl⟩
  refine ⟨?_, ⟨hm, fun _ h => h, fun _ _ => rfl, Nat.le_refl _⟩⟩
  constructor
  · intro k o hk
    obtain ⟨h1, r1, e1, B1⟩ := R.blk k o (hs k o hk)
    exact ⟨h1, r1, e1, B1.mono (fun _ h => h) (fun _ _ => rfl) hm fun b q hb => rfl⟩
  · intro k o r1 b q1 hk; exact R.own k o r1 b q1 (hs k o hk)
  · intro k k' o o' r1 r2 b q1 q2 hk hk'; exact R.inj k k' o o' r1 r2 b q1 q2 (hs k o hk) (hs k' o' hk')
  · exact R.zlt
  · exact R.zold
  · exact R.top
  · exact R.keep
  · exact R.le
  · exact R.wm
  · exact R.wf
theorem HpR.dels (R : HpR c nx w vh dnx dh g) (ks : List Nat) : HpR c nx w (hdels vh ks) dnx dh g ∧ Evo nx vh dnx dh g nx (hdels vh ks) dnx dh g := by
  refine R.sub fun k o hk => ?_
  rw [hget_dels] at hk
  by_cases h : k ∈ ks
  · rw [if_pos h] at hk; cases hk
  · rw [if_neg h] at hk; exact hk
/-- Some blocks are written no more. -/
theorem HpR.freeze (R : HpR c nx w vh dnx dh g) (ks : List Nat) (Z' : P → Prop) (hZ : ∀ b, Z' b ↔ g.Z b ∨ ∃ k ∈ ks, ∃ o r q, hget vh k = some o ∧ g.μ k = some r ∧ refAt r = some (b, q)) :
    HpR c nx w (hdels vh ks) dnx dh ⟨Z', g.μ⟩ ∧ Evo nx vh dnx dh g nx (hdels vh ks) dnx dh ⟨Z', g.μ⟩ := by
  have hd : ∀ k o, hget (hdels vh ks) k = some o → hget vh k = some o ∧ k ∉ ks := by
    intro k o hk
    rw [hget_dels] at hk
    by_cases h : k ∈ ks
    · rw [if_pos h] at hk; cases hk
    · rw [if_neg h] at hk; exact ⟨hk, h⟩
  have hm : MLe (mm nx vh g) (mm nx (hdels vh ks) ⟨Z', g.μ⟩) := by
    refine ⟨Nat.le_refl _, fun k hk m' r' e => ?_⟩
    obtain ⟨o, h1, h2, h3⟩ := mof_some e
    exact ⟨m', r', by rw [mof_eq (hd k o h1).1 h2, h3], Nat.le_refl _, fun _ => rfl⟩
  have hz : ∀ b, g.Z b → Z' b := fun b h => (hZ b).2 (.inl h)
  refine ⟨?_, ⟨hm, hz, fun _ _ => rfl, Nat.le_refl _⟩⟩
  constructor
  · intro k o hk
    obtain ⟨h1, r1, e1, B1⟩ := R.blk k o (hd k o hk).1
    exact ⟨h1, r1, e1, B1.mono hz (fun _ _ => rfl) hm fun b q hb => rfl⟩
  · intro k o r1 b q1 hk hr hb
    obtain ⟨hk1, hk2⟩ := hd k o hk
    obtain ⟨a1, a2, a3⟩ := R.own k o r1 b q1 hk1 hr hb
    refine ⟨fun h => ?_, a2, a3⟩
    rcases (hZ b).1 h with h | ⟨k', hk', o', r', q', e1, e2, e3⟩
    · exact a1 h
    · exact hk2 (R.inj k k' o o' r1 r' b q1 q' hk1 e1 hr e2 hb e3 ▸ hk')
  · intro k k' o o' r1 r2 b q1 q2 hk hk'; exact R.inj k k' o o' r1 r2 b q1 q2 (hd k o hk).1 (hd k' o' hk').1
  · intro b hb
    rcases (hZ b).1 hb with h | ⟨k', hk', o', r', q', e1, e2, e3⟩
    · exact R.zlt b h
    · exact R.lt e1 e2 e3
  · intro b hb
    rcases (hZ b).1 hb with h | ⟨k', hk', o', r', q', e1, e2, e3⟩
    · exact R.zold b h
    · exact .inr (R.own k' o' r' b q' e1 e2 e3).2.1
  · exact R.top
  · exact R.keep
  · exact R.le
  · exact R.wm
  · exact R.wf
end

/-! ### A block of one's own, told by its cells -/

section
variable {c : Ctx} {nx w : Nat} {vh : VHp} {dnx : P} {dh : Hp} {g : Gh}

/-- The blocks behind some keys. -/
def zOf (vh : VHp) (g : Gh) (ks : List Nat) (b : P) : Prop := g.Z b ∨ ∃ k ∈ ks, ∃ o r q, hget vh k = some o ∧ g.μ k = some r ∧ refAt r = some (b, q)

mutual
theorem vw_sound (R : HpR c nx w vh dnx dh g) : ∀ {v v' : VV} {d : DV} {ks : List Nat}, XR g.Z dh (mm nx vh g) v d → vw vh v = some v' → (∀ k ∈ keysV v, k ∈ ks) → XR (zOf vh g ks) dh none v' d
  | .ow k n sz, v', d, ks, x, e, hk => by
    simp only [vw] at e
    cases h1 : hget vh k with
    | none => simp only [h1, reduceCtorEq] at e
    | some o =>
      cases o with
      | obj l => simp only [h1, reduceCtorEq] at e
      | row l =>
        simp only [h1] at e
        by_cases hn : l.length = n * sz
        · rw [if_pos hn] at e
          injection e with e; subst e
          obtain ⟨_, r, hr, B⟩ := R.blk k _ h1
          cases x with
          | ow hd hlt hf =>
            obtain ⟨_, h2⟩ := hf _ _ (mof_eq h1 hr)
            obtain ⟨rfl, h3⟩ := h2 hn
            rcases B with ⟨rfl, h4⟩ | ⟨b, q, n', cp, sz', cells, rfl, h4, h5, h6, h7, h8⟩ | ⟨b, q, cells, rfl, _⟩
            · injection h4 with h4; subst h4
              rcases h3 with ⟨_, rfl⟩ | ⟨b', o', c', h3⟩
              · exact .fz0 (.inl rfl)
              · cases h3
            · rcases h3 with ⟨h3, _⟩ | ⟨b', o', c', h3⟩
              · cases h3
              · cases h3
                refine .fz hn (.inr ⟨k, hk k (by simp [keysV]), _, _, q, h1, hr, rfl⟩) (by unfold objAt; rw [h4]) h6 ?_ (fun x h => by cases h) (fun x h => (h7 x h).1)
                have h9 : (VOb.row l).cells.length = n * sz := hn
                rw [h9] at h8
                exact XRs.mono (M := none) (M' := none) (fun b hb => .inl hb) (fun _ _ => rfl) trivial h8
            · rcases h3 with ⟨h3, _⟩ | ⟨b', o', c', h3⟩ <;> cases h3
        · rw [if_neg hn] at e; cases e
  | .os _ _ _ _ _, v', d, ks, x, e, hk => by simp only [vw, reduceCtorEq] at e
  | .pt k m o, v', d, ks, x, e, hk => by
    simp only [vw] at e
    have main : ∀ (ob : VOb) (l : List VV), hget vh k = some ob → ob.cells = l → l.length = m → (∀ l', XRs g.Z dh (ob.m (mm nx vh g)) l l' → XRs g.Z dh none l l') → v' = .fp l o → XR (zOf vh g ks) dh none v' d := by
      rintro ob l h1 rfl hm hp rfl
      obtain ⟨_, r, hr, B⟩ := R.blk k _ h1
      cases x with
      | pt hd hlt hf =>
        obtain ⟨_, h2⟩ := hf _ _ (mof_eq h1 hr)
        obtain ⟨b, o', h3, rfl⟩ := h2 hm
        obtain ⟨cells, h4, h5, h6⟩ := B.read h3
        exact .fp (.inr ⟨k, hk k (by simp [keysV]), _, _, o', h1, hr, h3⟩) (by unfold objAt; rw [h4]) h5 (XRs.mono (M := none) (M' := none) (fun b hb => .inl hb) (fun _ _ => rfl) trivial (hp _ h6))
    cases h1 : hget vh k with
    | none => simp only [h1, reduceCtorEq] at e
    | some ob =>
      cases ob with
      | row l =>
        simp only [h1] at e
        by_cases hn : l.length = m
        · rw [if_pos hn] at e; injection e with e
          exact main _ l h1 rfl hn (fun l' x => x) e.symm
        · rw [if_neg hn] at e; cases e
      | obj l =>
        simp only [h1] at e
        by_cases hn : l.length = m ∧ pureL l = true
        · rw [if_pos hn] at e; injection e with e
          exact main _ l h1 rfl hn.1 (fun l' x => XRs.pure x hn.2) e.symm
        · rw [if_neg hn] at e; cases e
  | .var l, v', d, ks, x, e, hk => by simp [vw] at e
  | .fld p o, v', d, ks, x, e, hk => by simp [vw] at e
  | .fn f cs, v', d, ks, x, e, hk => by
    simp only [vw] at e
    cases h1 : vwL vh cs with
    | none => simp only [h1, reduceCtorEq] at e
    | some r =>
      simp only [h1] at e; injection e with e; subst e
      cases x with
      | fn hl => exact .fn (vwL_sound R hl h1 hk)
  | .ifc t v, v', d, ks, x, e, hk => by
    simp only [vw] at e
    cases h1 : vw vh v with
    | none => simp only [h1, reduceCtorEq] at e
    | some r =>
      simp only [h1] at e; injection e with e; subst e
      cases x with
      | ifc hv => exact .ifc (vw_sound R hv h1 hk)
  | .agg l, v', d, ks, x, e, hk => by
    simp only [vw] at e
    cases h1 : vwL vh l with
    | none => simp only [h1, reduceCtorEq] at e
    | some r =>
      simp only [h1] at e; injection e with e; subst e
      cases x with
      | agg hl => exact .agg (vwL_sound R hl h1 hk)
  | .tup l, v', d, ks, x, e, hk => by
    simp only [vw] at e
    cases h1 : vwL vh l with
    | none => simp only [h1, reduceCtorEq] at e
    | some r =>
      simp only [h1] at e; injection e with e; subst e
      cases x with
      | tup hl => exact .tup (vwL_sound R hl h1 hk)
  | .unk, v', d, ks, x, e, hk => by simp only [vw] at e; injection e with e; subst e; cases x; exact .unk ‹_›
  | .bool b, v', d, ks, x, e, hk => by simp only [vw] at e; injection e with e; subst e; cases x; exact .bool _
  | .int k n, v', d, ks, x, e, hk => by simp only [vw] at e; injection e with e; subst e; cases x; exact .int _ _
  | .nilp, v', d, ks, x, e, hk => by simp only [vw] at e; injection e with e; subst e; cases x; exact .nilp
  | .nils, v', d, ks, x, e, hk => by simp only [vw] at e; injection e with e; subst e; cases x; exact .nils
  | .nilf, v', d, ks, x, e, hk => by simp only [vw] at e; injection e with e; subst e; cases x; exact .nilf
  | .nili, v', d, ks, x, e, hk => by simp only [vw] at e; injection e with e; subst e; cases x; exact .nili
  | .nilm, v', d, ks, x, e, hk => by simp only [vw] at e; injection e with e; subst e; cases x; exact .nilm
  | .fz n c sz l, v', d, ks, x, e, hk => by
    simp only [vw] at e; injection e with e; subst e
    exact XR.mono (M := none) (M' := none) (fun b hb => .inl hb) (fun _ _ => rfl) trivial (x.pure rfl)
  | .fp l o, v', d, ks, x, e, hk => by
    simp only [vw] at e; injection e with e; subst e
    exact XR.mono (M := none) (M' := none) (fun b hb => .inl hb) (fun _ _ => rfl) trivial (x.pure rfl)
theorem vwL_sound (R : HpR c nx w vh dnx dh g) : ∀ {l l' : List VV} {d : List DV} {ks : List Nat}, XRs g.Z dh (mm nx vh g) l d → vwL vh l = some l' → (∀ k ∈ keysL l, k ∈ ks) → XRs (zOf vh g ks) dh none l' d
  | [], l', d, ks, x, e, hk => by simp only [vwL] at e; injection e with e; subst e; cases x; exact .nil
  | v :: l, l', d, ks, x, e, hk => by
    simp only [vwL] at e
    cases h1 : vw vh v with
    | none => simp only [h1, reduceCtorEq] at e
    | some v1 =>
      simp only [h1] at e
      cases h2 : vwL vh l with
      | none => simp only [h2, reduceCtorEq] at e
      | some l1 =>
        simp only [h2] at e; injection e with e; subst e
        cases x with
        | cons hv hl => exact .cons (vw_sound R hv h1 fun k h => hk k (by simp [keysL, h])) (vwL_sound R hl h2 fun k h => hk k (by simp [keysL, h]))
end
end

end Go.Proofs.Ythdlkpmhjbaplaa.Dx
