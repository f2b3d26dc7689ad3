/- A small machine for Go's code without draws: its values, its memory, its code, how it runs. No statement of this seat is proved here. -/
import Derived.WalkKit
set_option autoImplicit false
set_option linter.unusedSimpArgs false
noncomputable section
namespace Go.Proofs.YtnoekfkfinjfgaaGreatDoor.Dx
open Go

/-! ### Keys, tries -/

inductive P where | z | l (p : P) | r (p : P)

def P.n (p : P) : Nat := P.rec 0 (fun _ i => 2 * i + 1) (fun _ i => 2 * i + 2) p

inductive Tr (α : Type) where
  | nl
  | nd (v : Option α) (l r : Tr α)

namespace Tr
variable {α β : Type}
def gz (t : Tr α) : Option α := Tr.rec none (fun v _ _ _ _ => v) t
def gl (ih : Tr α → Option α) (t : Tr α) : Option α := Tr.rec none (fun _ l _ _ _ => ih l) t
def gr (ih : Tr α → Option α) (t : Tr α) : Option α := Tr.rec none (fun _ _ r _ _ => ih r) t
def get? (p : P) : Tr α → Option α :=
  P.rec (motive := fun _ => Tr α → Option α) gz (fun _ ih => gl ih) (fun _ ih => gr ih) p
def szE (x : Option α) (k : Tr α → β) : β := k (.nd x .nl .nl)
def szN (_ : Option α) (l r : Tr α) (_ _ : Option α → (Tr α → β) → β) (x : Option α) (k : Tr α → β) : β := k (.nd x l r)
def sz (t : Tr α) : Option α → (Tr α → β) → β := Tr.rec szE szN t
def slE (ih : Tr α → Option α → (Tr α → β) → β) (x : Option α) (k : Tr α → β) : β := ih .nl x fun l => k (.nd none l .nl)
def slN (v : Option α) (l r : Tr α) (_ _ : (Tr α → Option α → (Tr α → β) → β) → Option α → (Tr α → β) → β) (ih : Tr α → Option α → (Tr α → β) → β)
    (x : Option α) (k : Tr α → β) : β := ih l x fun l => k (.nd v l r)
def sl (_ : P) (ih : Tr α → Option α → (Tr α → β) → β) (t : Tr α) : Option α → (Tr α → β) → β := Tr.rec slE slN t ih
def srE (ih : Tr α → Option α → (Tr α → β) → β) (x : Option α) (k : Tr α → β) : β := ih .nl x fun r => k (.nd none .nl r)
def srN (v : Option α) (l r : Tr α) (_ _ : (Tr α → Option α → (Tr α → β) → β) → Option α → (Tr α → β) → β) (ih : Tr α → Option α → (Tr α → β) → β)
    (x : Option α) (k : Tr α → β) : β := ih r x fun r => k (.nd v l r)
def sr (_ : P) (ih : Tr α → Option α → (Tr α → β) → β) (t : Tr α) : Option α → (Tr α → β) → β := Tr.rec srE srN t ih
/-- The tree with 'x' at 'p', handed on. -/
def setK (p : P) : Tr α → Option α → (Tr α → β) → β :=
  P.rec (motive := fun _ => Tr α → Option α → (Tr α → β) → β) sz sl sr p
def set (p : P) (t : Tr α) (x : Option α) : Tr α := setK p t x id

theorem get_e (p : P) : get? p (.nl : Tr α) = none := by cases p <;> rfl
theorem get_z (v : Option α) (l r : Tr α) : get? .z (.nd v l r) = v := rfl
theorem get_l (p : P) (v : Option α) (l r : Tr α) : get? (.l p) (.nd v l r) = get? p l := rfl
theorem get_r (p : P) (v : Option α) (l r : Tr α) : get? (.r p) (.nd v l r) = get? p r := rfl

theorem setK_eq (p : P) : ∀ {β : Type} (t : Tr α) (x : Option α) (k : Tr α → β), setK p t x k = k (set p t x) := by
  induction p with
  | z => intro β t x k; cases t <;> rfl
  | l p ih =>
    intro β t x k
    cases t with
    | nl =>
      show setK p .nl x (fun l => k (.nd none l .nl)) = k (setK p .nl x (fun l => id (.nd none l .nl)))
      rw [ih, ih]; rfl
    | nd v l r =>
      show setK p l x (fun l => k (.nd v l r)) = k (setK p l x (fun l => id (.nd v l r)))
      rw [ih, ih]; rfl
  | r p ih =>
    intro β t x k
    cases t with
    | nl =>
      show setK p .nl x (fun l => k (.nd none .nl l)) = k (setK p .nl x (fun l => id (.nd none .nl l)))
      rw [ih, ih]; rfl
    | nd v l r =>
      show setK p r x (fun r => k (.nd v l r)) = k (setK p r x (fun r => id (.nd v l r)))
      rw [ih, ih]; rfl
theorem set_l_e (p : P) (x : Option α) : set (.l p) .nl x = .nd none (set p .nl x) .nl := by
  show setK p .nl x (fun l => id (Tr.nd none l .nl)) = _; rw [setK_eq]; rfl
theorem set_l_n (p : P) (v : Option α) (l r : Tr α) (x : Option α) : set (.l p) (.nd v l r) x = .nd v (set p l x) r := by
  show setK p l x (fun l => id (Tr.nd v l r)) = _; rw [setK_eq]; rfl
theorem set_r_e (p : P) (x : Option α) : set (.r p) .nl x = .nd none .nl (set p .nl x) := by
  show setK p .nl x (fun l => id (Tr.nd none .nl l)) = _; rw [setK_eq]; rfl
theorem set_r_n (p : P) (v : Option α) (l r : Tr α) (x : Option α) : set (.r p) (.nd v l r) x = .nd v l (set p r x) := by
  show setK p r x (fun l => id (Tr.nd v _ l)) = _; rw [setK_eq]; rfl
theorem get_set (p : P) : ∀ (q : P) (t : Tr α) (x : Option α), get? q (set p t x) = (open Classical in if q = p then x else get? q t) := by
  induction p with
  | z =>
    intro q t x
    cases t <;> cases q <;> first | (rw [if_pos rfl]; rfl) | (rw [if_neg (by simp)]; first | rfl | (rw [get_e]; exact get_e _))
  | l p ih =>
    intro q t x
    cases t with
    | nl => rw [set_l_e]; cases q with
      | z => rw [if_neg (by simp)]; rfl
      | l q => rw [get_l, ih]; by_cases h : q = p <;> simp [h, get_e]
      | r q => rw [get_r, if_neg (by simp), get_e, get_e]
    | nd v l r => rw [set_l_n]; cases q with
      | z => rw [if_neg (by simp)]; rfl
      | l q => rw [get_l, ih]; by_cases h : q = p <;> simp [h, get_l]
      | r q => rw [get_r, if_neg (by simp), get_r]
  | r p ih =>
    intro q t x
    cases t with
    | nl => rw [set_r_e]; cases q with
      | z => rw [if_neg (by simp)]; rfl
      | r q => rw [get_r, ih]; by_cases h : q = p <;> simp [h, get_e]
      | l q => rw [get_l, if_neg (by simp), get_e, get_e]
    | nd v l r => rw [set_r_n]; cases q with
      | z => rw [if_neg (by simp)]; rfl
      | r q => rw [get_r, ih]; by_cases h : q = p <;> simp [h, get_r]
      | l q => rw [get_l, if_neg (by simp), get_l]
theorem get_set_self (p : P) (t : Tr α) (x : Option α) : get? p (set p t x) = x := by rw [get_set, if_pos rfl]
theorem get_set_ne {p q : P} (h : q ≠ p) (t : Tr α) (x : Option α) : get? q (set p t x) = get? q t := by rw [get_set, if_neg h]
end Tr

theorem P.n_z : P.n .z = 0 := rfl
theorem P.n_l (p : P) : P.n (.l p) = 2 * p.n + 1 := rfl
theorem P.n_r (p : P) : P.n (.r p) = 2 * p.n + 2 := rfl
theorem P.n_inj : ∀ {p q : P}, p.n = q.n → p = q := by
  intro p
  induction p with
  | z => intro q h; cases q with
    | z => rfl
    | l q => rw [P.n_z, P.n_l] at h; omega
    | r q => rw [P.n_z, P.n_r] at h; omega
  | l p ih => intro q h; cases q with
    | z => rw [P.n_z, P.n_l] at h; omega
    | l q => rw [P.n_l, P.n_l] at h; exact congrArg P.l (ih (by omega))
    | r q => rw [P.n_l, P.n_r] at h; omega
  | r p ih => intro q h; cases q with
    | z => rw [P.n_z, P.n_r] at h; omega
    | l q => rw [P.n_r, P.n_l] at h; omega
    | r q => rw [P.n_r, P.n_r] at h; exact congrArg P.r (ih (by omega))
def P.suZ {β : Type} (k : P → β) : β := k (.l .z)
def P.suL {β : Type} (p : P) (_ : (P → β) → β) (k : P → β) : β := k (.r p)
def P.suR {β : Type} (_ : P) (ih : (P → β) → β) (k : P → β) : β := ih fun q => k (.l q)
def P.sucK {β : Type} (p : P) : (P → β) → β := P.rec (motive := fun _ => (P → β) → β) P.suZ P.suL P.suR p
def P.suc (p : P) : P := P.sucK p id
theorem P.sucK_eq (p : P) : ∀ {β : Type} (k : P → β), P.sucK p k = k p.suc := by
  induction p with
  | z => intro β k; rfl
  | l p ih => intro β k; rfl
  | r p ih =>
    intro β k
    show P.sucK p (fun q => k (.l q)) = k (P.sucK p fun q => id (.l q))
    rw [ih, ih]; rfl
theorem P.n_suc (p : P) : p.suc.n = p.n + 1 := by
  induction p with
  | z => rfl
  | l p ih => rfl
  | r p ih =>
    have : (P.r p).suc = .l p.suc := by show P.sucK p (fun q => id (P.l q)) = _; rw [P.sucK_eq]; rfl
    rw [this, P.n_l, P.n_r, ih]; omega

/-! ### Values, memory, code -/

inductive DV where
  | unk | bool (b : Bool) | int (k : IntKind) (n : Int) | str (n c : Nat)
  | nilp | ptr (k : P) (o : Nat)
  | nils | sl (k : P) (o n : Nat) (c : Option Nat) (sz : Nat)
  | fn (f : P) (cs : List DV) | bf (f : P) (fs : List DV) | nilf
  | ifc (t : Nat) (v : DV) | nili
  | agg (l : List DV) | tup (l : List DV)
  | mp (k : P) | nilm
  | var (l : List DV) | fld (p : P) (o : Nat)
  | sy (u : Bool) (t : List (Nat × Nat))

/-- 'mp': a map's entries, in the order in which their keys came. -/
inductive Ob where
  | cells (l : List DV) | ro (l : List DV) | dead | mp (l : List (DV × DV))

/-- What becomes of memory. -/
inductive Ef where | no | set (k : P) (o : Ob) | new (o : Ob)

abbrev Env := Tr DV
abbrev Hp := Tr Ob

inductive Opd where | t (p : P) | c (v : DV)

inductive Bo where | add | sub | mul | quo | rem | eq | ne | lt | le | gt | ge

/-- What is worked out of values alone: strings, bits, interfaces, pointers. -/
inductive Px where
  | slen | sidx | ssl (lo hi : Bool) | seq (neg : Bool) | slt | scat
  | band | bor | bxor | bandn | shl | com
  | ifc (t : Nat) | inil (neg : Bool) | peq (neg : Bool) | ceq (ks : List Nat) (neg : Bool)
  | ixa (len sz : Nat)

/-- What looks at memory, or turns it: maps, bytes of strings, rows copied, a row of an array's. 'ks': the key's cells: 0: numbers, 1: bools, 2: strings. -/
inductive Mx where
  | mmk | mlk (st : Bool) (ks : List Nat) (z : List DV) (agg ok : Bool) | mup (st : Bool) (ks : List Nat) | men (st : Bool) (ks : List Nat) (z : List DV) (agg : Bool) | mes | mln
  | s2b | b2s | aps | cpy (sz : Nat) | asl (len sz : Nat) (lo hi : Bool)

inductive Ins where
  | mv (a : Opd) | pick (c a b : Opd) | al (z : List DV) | bx (a : Opd)
  | bld (z : List DV) (ps : List (Nat × Nat × Opd)) | bsl (len sz : Nat) (z : List DV) (ps : List (Nat × Nat × Opd))
  | ld (a : Opd) | lda (n : Nat) (a : Opd) | st (n : Nat) (a v : Opd) | nc (a : Opd)
  | bin (b : Bo) (x y : Opd) | aeq (ks : List Bool) (neg : Bool) (x y : Opd) | beq (neg : Bool) (x y : Opd) | isnil (neg : Bool) (x : Opd) | neg (a : Opd) | not (a : Opd) | cv (k : IntKind) (a : Opd)
  | mfn (f : P) (cs : List Opd) | mbf (f : P) (fs : List Opd) | fa (o : Nat) (a : Opd) | fi (o : Nat) (a : Opd) | fia (o n : Nat) (a : Opd) | ia (sz : Nat) (a i : Opd)
  | msl (sz bt : Nat) (z : List DV) (len cap : Opd) | sla (sz : Nat) (x : Opd) (lo hi mx : Option Opd) | ex (a : Opd) (i : Nat)
  | call (f : P) (as : List Opd) | callv (f : Opd) (as : List Opd)
  | len (a : Opd) | cap (a : Opd) | app (sz bt : Nat) (s x : Opd) | mx (a : Opd) (l : List Opd) | mn (a : Opd) (l : List Opd)
  | apz (sz bt : Nat) (z : List DV) (s n : Opd) | clr (sz : Nat) (z : List DV) (a : Opd) | shr (x y : Opd) | vla (n : Nat) (a : Opd) | px (p : Px) (as : List Opd) | mm (m : Mx) (as : List Opd) | bad

/-- 'mk': an instruction; 'loc', 'locb': a variable of the frame's own begins, of noughts, of a value. -/
inductive Op where
  | mk (dst : Option P) (g : Option (P × Bool)) (i : Ins)
  | loc (p : P) (z : List DV)
  | locb (p : P) (a : Opd)

/-- An operation of a region whose order Go leaves open: 'u': what it looks at (the variables' contents too, if 'c'), 'b': what it may turn, 'r': it writes to nothing that was there when it began. -/
inductive Dop where
  | mk (c : Bool) (u b : List P) (r : Bool) (o : Op)

inductive C where
  | skip
  | reg (ops : List Op)
  | drw (ops : List Dop)
  | seq (a b : C)
  | cond (c : Opd) (a b : C)
  | block (id : Nat) (a : C)
  | loop (lv : List P) (a : C)
  | exit (id : Nat)
  | ret
  | rng (lv : List P) (g : Opd) (pi pv : P) (a b : C)
  | bad

inductive Rs where | t (p : P) | cell (p : P) (n : Option Nat)

/-- Values, memory alone: what is read, made. 'any': it is not told. -/
inductive T where | nil | cons (a t : T) | v (d : DV) | any | ptr (l : T) | sl (n sz : Nat) (l : T) | agg (l : T) | tup (l : T)
/-- A function: its code, or one of those that are told by what they do ('onc': it calls a function once; 'itb': what goes backward through a row, its elements of so many cells). -/
inductive Fd where | mk (ps : List P) (body : C) (rs : List Rs) | prim (n : Nat) | onc | itb (sz : Nat) (agg : Bool) | tab (gl : List (List DV)) (l : List (T × T))

inductive Out where | norm | exit (id : Nat) | ret

inductive Res where | fail | ok (o : Out) (e : Env) (nx : P) (h : Hp)

end Go.Proofs.YtnoekfkfinjfgaaGreatDoor.Dx
