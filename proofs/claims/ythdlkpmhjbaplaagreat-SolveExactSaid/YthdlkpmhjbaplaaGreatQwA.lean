/- A part of the proof of ExactS: a small machine, what its functions come to, plain laws. No statement of this seat is proved here. -/
import Derived.WalkKit
set_option autoImplicit false
set_option linter.unusedSimpArgs false
set_option linter.unusedVariables false
noncomputable section
namespace Go.Proofs.YthdlkpmhjbaplaaGreat.Dx
open Go
inductive P where|z|l (p:P)|r (p:P)
def P.n (p:P):Nat:=P.rec 0 (fun _ i=>2*i+1) (fun _ i=>2*i+2) p
inductive Tr (α:Type) where
 | nl
 | nd (v:Option α) (l r:Tr α)
namespace Tr
variable {α β:Type}
def gz (t:Tr α):Option α:=Tr.rec none (fun v _ _ _ _=>v) t
def gl (ih:Tr α→Option α) (t:Tr α):Option α:=Tr.rec none (fun _ l _ _ _=>ih l) t
def gr (ih:Tr α→Option α) (t:Tr α):Option α:=Tr.rec none (fun _ _ r _ _=>ih r) t
def get? (p:P):Tr α→Option α:=
 P.rec (motive:=fun _=>Tr α→Option α) gz (fun _ ih=>gl ih) (fun _ ih=>gr ih) p
def szE (x:Option α) (k:Tr α→β):β:=k (.nd x .nl .nl)
def szN (_:Option α) (l r:Tr α) (_ _:Option α→(Tr α→β)→β) (x:Option α) (k:Tr α→β):β:=k (.nd x l r)
def sz (t:Tr α):Option α→(Tr α→β)→β:=Tr.rec szE szN t
def slE (ih:Tr α→Option α→(Tr α→β)→β) (x:Option α) (k:Tr α→β):β:=ih .nl x fun l=>k (.nd none l .nl)
def slN (v:Option α) (l r:Tr α) (_ _:(Tr α→Option α→(Tr α→β)→β)→Option α→(Tr α→β)→β) (ih:Tr α→Option α→(Tr α→β)→β)
 (x:Option α) (k:Tr α→β):β:=ih l x fun l=>k (.nd v l r)
def sl (_:P) (ih:Tr α→Option α→(Tr α→β)→β) (t:Tr α):Option α→(Tr α→β)→β:=Tr.rec slE slN t ih
def srE (ih:Tr α→Option α→(Tr α→β)→β) (x:Option α) (k:Tr α→β):β:=ih .nl x fun r=>k (.nd none .nl r)
def srN (v:Option α) (l r:Tr α) (_ _:(Tr α→Option α→(Tr α→β)→β)→Option α→(Tr α→β)→β) (ih:Tr α→Option α→(Tr α→β)→β)
 (x:Option α) (k:Tr α→β):β:=ih r x fun r=>k (.nd v l r)
def sr (_:P) (ih:Tr α→Option α→(Tr α→β)→β) (t:Tr α):Option α→(Tr α→β)→β:=Tr.rec srE srN t ih
def setK (p:P):Tr α→Option α→(Tr α→β)→β:=
 P.rec (motive:=fun _=>Tr α→Option α→(Tr α→β)→β) sz sl sr p
def set (p:P) (t:Tr α) (x:Option α):Tr α:=setK p t x id
theorem get_e (p:P):get? p (.nl:Tr α)=none:=by cases p<;>rfl
theorem get_z (v:Option α) (l r:Tr α):get? .z (.nd v l r)=v:=rfl
theorem get_l (p:P) (v:Option α) (l r:Tr α):get? (.l p) (.nd v l r)=get? p l:=rfl
theorem get_r (p:P) (v:Option α) (l r:Tr α):get? (.r p) (.nd v l r)=get? p r:=rfl
theorem setK_eq (p:P):∀ {β:Type} (t:Tr α) (x:Option α) (k:Tr α→β),setK p t x k=k (set p t x):=by
 induction p with
 | z=>intro β t x k;cases t<;>rfl
 | l p ih=>
  intro β t x k
  cases t with
  | nl=>
   show setK p .nl x (fun l=>k (.nd none l .nl))=k (setK p .nl x (fun l=>id (.nd none l .nl)))
   rw [ih,ih];rfl
  | nd v l r=>
   show setK p l x (fun l=>k (.nd v l r))=k (setK p l x (fun l=>id (.nd v l r)))
   rw [ih,ih];rfl
 | r p ih=>
  intro β t x k
  cases t with
  | nl=>
   show setK p .nl x (fun l=>k (.nd none .nl l))=k (setK p .nl x (fun l=>id (.nd none .nl l)))
   rw [ih,ih];rfl
  | nd v l r=>
   show setK p r x (fun r=>k (.nd v l r))=k (setK p r x (fun r=>id (.nd v l r)))
   rw [ih,ih];rfl
theorem set_l_e (p:P) (x:Option α):set (.l p) .nl x=.nd none (set p .nl x) .nl:=by
 show setK p .nl x (fun l=>id (Tr.nd none l .nl))=_;rw [setK_eq];rfl
theorem set_l_n (p:P) (v:Option α) (l r:Tr α) (x:Option α):set (.l p) (.nd v l r) x=.nd v (set p l x) r:=by
 show setK p l x (fun l=>id (Tr.nd v l r))=_;rw [setK_eq];rfl
theorem set_r_e (p:P) (x:Option α):set (.r p) .nl x=.nd none .nl (set p .nl x):=by
 show setK p .nl x (fun l=>id (Tr.nd none .nl l))=_;rw [setK_eq];rfl
theorem set_r_n (p:P) (v:Option α) (l r:Tr α) (x:Option α):set (.r p) (.nd v l r) x=.nd v l (set p r x):=by
 show setK p r x (fun l=>id (Tr.nd v _ l))=_;rw [setK_eq];rfl
theorem get_set (p:P):∀ (q:P) (t:Tr α) (x:Option α),get? q (set p t x)=(open Classical in if q=p then x else get? q t):=by
 induction p with
 | z=>
  intro q t x
  cases t<;>cases q<;>first|(rw [if_pos rfl];rfl)|(rw [if_neg (by simp)];first|rfl|(rw [get_e];exact get_e _))
 | l p ih=>
  intro q t x
  cases t with
  | nl=>rw [set_l_e];cases q with
   | z=>rw [if_neg (by simp)];rfl
   | l q=>rw [get_l,ih];by_cases h:q=p<;>simp [h,get_e]
   | r q=>rw [get_r,if_neg (by simp),get_e,get_e]
  | nd v l r=>rw [set_l_n];cases q with
   | z=>rw [if_neg (by simp)];rfl
   | l q=>rw [get_l,ih];by_cases h:q=p<;>simp [h,get_l]
   | r q=>rw [get_r,if_neg (by simp),get_r]
 | r p ih=>
  intro q t x
  cases t with
  | nl=>rw [set_r_e];cases q with
   | z=>rw [if_neg (by simp)];rfl
   | r q=>rw [get_r,ih];by_cases h:q=p<;>simp [h,get_e]
   | l q=>rw [get_l,if_neg (by simp),get_e,get_e]
  | nd v l r=>rw [set_r_n];cases q with
   | z=>rw [if_neg (by simp)];rfl
   | r q=>rw [get_r,ih];by_cases h:q=p<;>simp [h,get_r]
   | l q=>rw [get_l,if_neg (by simp),get_l]
theorem get_set_self (p:P) (t:Tr α) (x:Option α):get? p (set p t x)=x:=by rw [get_set,if_pos rfl]
theorem get_set_ne {p q:P} (h:q≠p) (t:Tr α) (x:Option α):get? q (set p t x)=get? q t:=by rw [get_set,if_neg h]
end Tr
theorem P.n_z:P.n .z=0:=rfl
theorem P.n_l (p:P):P.n (.l p)=2*p.n+1:=rfl
theorem P.n_r (p:P):P.n (.r p)=2*p.n+2:=rfl
theorem P.n_inj:∀ {p q:P},p.n=q.n→p=q:=by
 intro p
 induction p with
 | z=>intro q h;cases q with
  | z=>rfl
  | l q=>rw [P.n_z,P.n_l] at h;omega
  | r q=>rw [P.n_z,P.n_r] at h;omega
 | l p ih=>intro q h;cases q with
  | z=>rw [P.n_z,P.n_l] at h;omega
  | l q=>rw [P.n_l,P.n_l] at h;exact congrArg P.l (ih (by omega))
  | r q=>rw [P.n_l,P.n_r] at h;omega
 | r p ih=>intro q h;cases q with
  | z=>rw [P.n_z,P.n_r] at h;omega
  | l q=>rw [P.n_r,P.n_l] at h;omega
  | r q=>rw [P.n_r,P.n_r] at h;exact congrArg P.r (ih (by omega))
def P.suZ {β:Type} (k:P→β):β:=k (.l .z)
def P.suL {β:Type} (p:P) (_:(P→β)→β) (k:P→β):β:=k (.r p)
def P.suR {β:Type} (_:P) (ih:(P→β)→β) (k:P→β):β:=ih fun q=>k (.l q)
def P.sucK {β:Type} (p:P):(P→β)→β:=P.rec (motive:=fun _=>(P→β)→β) P.suZ P.suL P.suR p
def P.suc (p:P):P:=P.sucK p id
theorem P.sucK_eq (p:P):∀ {β:Type} (k:P→β),P.sucK p k=k p.suc:=by
 induction p with
 | z=>intro β k;rfl
 | l p ih=>intro β k;rfl
 | r p ih=>
  intro β k
  show P.sucK p (fun q=>k (.l q))=k (P.sucK p fun q=>id (.l q))
  rw [ih,ih];rfl
theorem P.n_suc (p:P):p.suc.n=p.n+1:=by
 induction p with
 | z=>rfl
 | l p ih=>rfl
 | r p ih=>
  have:(P.r p).suc=.l p.suc:=by show P.sucK p (fun q=>id (P.l q))=_;rw [P.sucK_eq];rfl
  rw [this,P.n_l,P.n_r,ih];omega
inductive DV where
 | unk|bool (b:Bool)|int (k:IntKind) (n:Int)|str (n c:Nat)
 | nilp|ptr (k:P) (o:Nat)
 | nils|sl (k:P) (o n:Nat) (c:Option Nat) (sz:Nat)
 | fn (f:P) (cs:List DV)|nilf
 | ifc (t:Nat) (v:DV)|nili
 | agg (l:List DV)|tup (l:List DV)
 | mp (k:P)|nilm
 | var (l:List DV)|fld (p:P) (o:Nat)
inductive Ob where
 | cells (l:List DV)|ro (l:List DV)|dead
abbrev Env:=Tr DV
abbrev Hp:=Tr Ob
inductive Opd where|t (p:P)|c (v:DV)
inductive Bo where|add|sub|mul|quo|rem|eq|ne|lt|le|gt|ge
inductive Ins where
 | mv (a:Opd)|pick (c a b:Opd)|al (z:List DV)|bx (a:Opd)
 | bld (z:List DV) (ps:List (Nat × Nat × Opd))|bsl (len sz:Nat) (z:List DV) (ps:List (Nat × Nat × Opd))
 | ld (a:Opd)|lda (n:Nat) (a:Opd)|st (n:Nat) (a v:Opd)|nc (a:Opd)
 | bin (b:Bo) (x y:Opd)|aeq (ks:List Bool) (neg:Bool) (x y:Opd)|beq (neg:Bool) (x y:Opd)|isnil (neg:Bool) (x:Opd)|neg (a:Opd)|not (a:Opd)|cv (k:IntKind) (a:Opd)
 | mfn (f:P) (cs:List Opd)|fa (o:Nat) (a:Opd)|fi (o:Nat) (a:Opd)|fia (o n:Nat) (a:Opd)|ia (sz:Nat) (a i:Opd)
 | msl (sz bt:Nat) (z:List DV) (len cap:Opd)|sla (sz:Nat) (x:Opd) (lo hi mx:Option Opd)|ex (a:Opd) (i:Nat)
 | call (f:P) (as:List Opd)|callv (f:Opd) (as:List Opd)
 | len (a:Opd)|cap (a:Opd)|app (sz bt:Nat) (s x:Opd)|mx (a:Opd) (l:List Opd)|mn (a:Opd) (l:List Opd)
 | apz (sz bt:Nat) (z:List DV) (s n:Opd)|clr (sz:Nat) (z:List DV) (a:Opd)|shr (x y:Opd)|vla (n:Nat) (a:Opd)|bad
inductive Op where
 | mk (dst:Option P) (g:Option (P × Bool)) (i:Ins)
 | loc (p:P) (z:List DV)
 | locb (p:P) (a:Opd)
inductive Dop where
 | mk (c:Bool) (u b:List P) (r:Bool) (o:Op)
inductive C where
 | skip
 | reg (ops:List Op)
 | drw (ops:List Dop)
 | seq (a b:C)
 | cond (c:Opd) (a b:C)
 | block (id:Nat) (a:C)
 | loop (lv:List P) (a:C)
 | exit (id:Nat)
 | ret
inductive Rs where|t (p:P)|cell (p:P) (n:Option Nat)
inductive Fd where|mk (ps:List P) (body:C) (rs:List Rs)|prim (n:Nat)
inductive Out where|norm|exit (id:Nat)|ret
inductive Res where|fail|ok (o:Out) (e:Env) (nx:P) (h:Hp)
def asB (v:DV):Res→(Bool→Res)→Res:=
 DV.rec (motive_1:=fun _=>Res→(Bool→Res)→Res) (motive_2:=fun _=>PUnit) (fun F _=>F) (fun b _ K=>K b) (fun _ _ F _=>F) (fun _ _ F _=>F) (fun F _=>F) (fun _ _ F _=>F) (fun F _=>F) (fun _ _ _ _ _ F _=>F) (fun _ _ _ F _=>F) (fun F _=>F) (fun _ _ _ F _=>F) (fun F _=>F) (fun _ _ F _=>F) (fun _ _ F _=>F) (fun _ F _=>F) (fun F _=>F) (fun _ _ F _=>F) (fun _ _ F _=>F) PUnit.unit (fun _ _ _ _=>PUnit.unit) v
theorem asB_eq (v:DV) (F:Res) (K:Bool→Res):asB v F K=match v with | .bool b=>K b|_=>F:=by cases v<;>rfl
def asI (v:DV):Res→(IntKind→Int→Res)→Res:=
 DV.rec (motive_1:=fun _=>Res→(IntKind→Int→Res)→Res) (motive_2:=fun _=>PUnit) (fun F _=>F) (fun _ F _=>F) (fun k n _ K=>K k n) (fun _ _ F _=>F) (fun F _=>F) (fun _ _ F _=>F) (fun F _=>F) (fun _ _ _ _ _ F _=>F) (fun _ _ _ F _=>F) (fun F _=>F) (fun _ _ _ F _=>F) (fun F _=>F) (fun _ _ F _=>F) (fun _ _ F _=>F) (fun _ F _=>F) (fun F _=>F) (fun _ _ F _=>F) (fun _ _ F _=>F) PUnit.unit (fun _ _ _ _=>PUnit.unit) v
theorem asI_eq (v:DV) (F:Res) (K:IntKind→Int→Res):asI v F K=match v with | .int k n=>K k n|_=>F:=by cases v<;>rfl
def asP (v:DV):Res→(P→Nat→Res)→Res:=
 DV.rec (motive_1:=fun _=>Res→(P→Nat→Res)→Res) (motive_2:=fun _=>PUnit) (fun F _=>F) (fun _ F _=>F) (fun _ _ F _=>F) (fun _ _ F _=>F) (fun F _=>F) (fun k o _ K=>K k o) (fun F _=>F) (fun _ _ _ _ _ F _=>F) (fun _ _ _ F _=>F) (fun F _=>F) (fun _ _ _ F _=>F) (fun F _=>F) (fun _ _ F _=>F) (fun _ _ F _=>F) (fun _ F _=>F) (fun F _=>F) (fun _ _ F _=>F) (fun _ _ F _=>F) PUnit.unit (fun _ _ _ _=>PUnit.unit) v
theorem asP_eq (v:DV) (F:Res) (K:P→Nat→Res):asP v F K=match v with | .ptr k o=>K k o|_=>F:=by cases v<;>rfl
def asSl (v:DV):Res→(P→Nat→Nat→Option Nat→Nat→Res)→Res:=
 DV.rec (motive_1:=fun _=>Res→(P→Nat→Nat→Option Nat→Nat→Res)→Res) (motive_2:=fun _=>PUnit) (fun F _=>F) (fun _ F _=>F) (fun _ _ F _=>F) (fun _ _ F _=>F) (fun F _=>F) (fun _ _ F _=>F) (fun F _=>F) (fun k o n c sz _ K=>K k o n c sz) (fun _ _ _ F _=>F) (fun F _=>F) (fun _ _ _ F _=>F) (fun F _=>F) (fun _ _ F _=>F) (fun _ _ F _=>F) (fun _ F _=>F) (fun F _=>F) (fun _ _ F _=>F) (fun _ _ F _=>F) PUnit.unit (fun _ _ _ _=>PUnit.unit) v
theorem asSl_eq (v:DV) (F:Res) (K:P→Nat→Nat→Option Nat→Nat→Res):asSl v F K=match v with | .sl k o n c sz=>K k o n c sz|_=>F:=by cases v<;>rfl
def asF (v:DV):Res→(P→List DV→Res)→Res:=
 DV.rec (motive_1:=fun _=>Res→(P→List DV→Res)→Res) (motive_2:=fun _=>PUnit) (fun F _=>F) (fun _ F _=>F) (fun _ _ F _=>F) (fun _ _ F _=>F) (fun F _=>F) (fun _ _ F _=>F) (fun F _=>F) (fun _ _ _ _ _ F _=>F) (fun f cs _ _ K=>K f cs) (fun F _=>F) (fun _ _ _ F _=>F) (fun F _=>F) (fun _ _ F _=>F) (fun _ _ F _=>F) (fun _ F _=>F) (fun F _=>F) (fun _ _ F _=>F) (fun _ _ F _=>F) PUnit.unit (fun _ _ _ _=>PUnit.unit) v
theorem asF_eq (v:DV) (F:Res) (K:P→List DV→Res):asF v F K=match v with | .fn f cs=>K f cs|_=>F:=by cases v<;>rfl
def asA (v:DV):Res→(List DV→Res)→Res:=
 DV.rec (motive_1:=fun _=>Res→(List DV→Res)→Res) (motive_2:=fun _=>PUnit) (fun F _=>F) (fun _ F _=>F) (fun _ _ F _=>F) (fun _ _ F _=>F) (fun F _=>F) (fun _ _ F _=>F) (fun F _=>F) (fun _ _ _ _ _ F _=>F) (fun _ _ _ F _=>F) (fun F _=>F) (fun _ _ _ F _=>F) (fun F _=>F) (fun l _ _ K=>K l) (fun _ _ F _=>F) (fun _ F _=>F) (fun F _=>F) (fun _ _ F _=>F) (fun _ _ F _=>F) PUnit.unit (fun _ _ _ _=>PUnit.unit) v
theorem asA_eq (v:DV) (F:Res) (K:List DV→Res):asA v F K=match v with | .agg l=>K l|_=>F:=by cases v<;>rfl
def asT (v:DV):Res→(List DV→Res)→Res:=
 DV.rec (motive_1:=fun _=>Res→(List DV→Res)→Res) (motive_2:=fun _=>PUnit) (fun F _=>F) (fun _ F _=>F) (fun _ _ F _=>F) (fun _ _ F _=>F) (fun F _=>F) (fun _ _ F _=>F) (fun F _=>F) (fun _ _ _ _ _ F _=>F) (fun _ _ _ F _=>F) (fun F _=>F) (fun _ _ _ F _=>F) (fun F _=>F) (fun _ _ F _=>F) (fun l _ _ K=>K l) (fun _ F _=>F) (fun F _=>F) (fun _ _ F _=>F) (fun _ _ F _=>F) PUnit.unit (fun _ _ _ _=>PUnit.unit) v
theorem asT_eq (v:DV) (F:Res) (K:List DV→Res):asT v F K=match v with | .tup l=>K l|_=>F:=by cases v<;>rfl
def asV (v:DV):Res→(List DV→Res)→Res:=
 DV.rec (motive_1:=fun _=>Res→(List DV→Res)→Res) (motive_2:=fun _=>PUnit) (fun F _=>F) (fun _ F _=>F) (fun _ _ F _=>F) (fun _ _ F _=>F) (fun F _=>F) (fun _ _ F _=>F) (fun F _=>F) (fun _ _ _ _ _ F _=>F) (fun _ _ _ F _=>F) (fun F _=>F) (fun _ _ _ F _=>F) (fun F _=>F) (fun _ _ F _=>F) (fun _ _ F _=>F) (fun _ F _=>F) (fun F _=>F) (fun l _ _ K=>K l) (fun _ _ F _=>F) PUnit.unit (fun _ _ _ _=>PUnit.unit) v
theorem asV_eq (v:DV) (F:Res) (K:List DV→Res):asV v F K=match v with | .var l=>K l|_=>F:=by cases v<;>rfl
def asFl (v:DV):Res→(P→Nat→Res)→Res:=
 DV.rec (motive_1:=fun _=>Res→(P→Nat→Res)→Res) (motive_2:=fun _=>PUnit) (fun F _=>F) (fun _ F _=>F) (fun _ _ F _=>F) (fun _ _ F _=>F) (fun F _=>F) (fun _ _ F _=>F) (fun F _=>F) (fun _ _ _ _ _ F _=>F) (fun _ _ _ F _=>F) (fun F _=>F) (fun _ _ _ F _=>F) (fun F _=>F) (fun _ _ F _=>F) (fun _ _ F _=>F) (fun _ F _=>F) (fun F _=>F) (fun _ _ F _=>F) (fun p o _ K=>K p o) PUnit.unit (fun _ _ _ _=>PUnit.unit) v
theorem asFl_eq (v:DV) (F:Res) (K:P→Nat→Res):asFl v F K=match v with | .fld p o=>K p o|_=>F:=by cases v<;>rfl
def place (v:DV):P→DV:=
 DV.rec (motive_1:=fun _=>P→DV) (motive_2:=fun _=>PUnit) (fun _=>.unk) (fun b _=>.bool b) (fun k n _=>.int k n) (fun n c _=>.str n c) (fun _=>.nilp) (fun k o _=>.ptr k o) (fun _=>.nils) (fun k o n c sz _=>.sl k o n c sz) (fun f cs _ _=>.fn f cs) (fun _=>.nilf) (fun t v _ _=>.ifc t v) (fun _=>.nili) (fun l _ _=>.agg l) (fun l _ _=>.tup l) (fun k _=>.mp k) (fun _=>.nilm) (fun _ _ p=>.fld p (nat_lit 0)) (fun p o _=>.fld p o) PUnit.unit (fun _ _ _ _=>PUnit.unit) v
theorem place_eq (v:DV) (p:P):place v p=match v with | .var _=>.fld p 0|v=>v:=by cases v<;>rfl
def outer (v:DV):Unit→DV:=
 DV.rec (motive_1:=fun _=>Unit→DV) (motive_2:=fun _=>PUnit) (fun _=>.unk) (fun b _=>.bool b) (fun k n _=>.int k n) (fun n c _=>.str n c) (fun _=>.nilp) (fun k o _=>.ptr k o) (fun _=>.nils) (fun k o n c sz _=>.sl k o n c sz) (fun f cs _ _=>.fn f cs) (fun _=>.nilf) (fun t v _ _=>.ifc t v) (fun _=>.nili) (fun l _ _=>.agg l) (fun l _ _=>.tup l) (fun k _=>.mp k) (fun _=>.nilm) (fun _ _ _=>.unk) (fun _ _ _=>.unk) PUnit.unit (fun _ _ _ _=>PUnit.unit) v
theorem outer_eq (v:DV):outer v ()=match v with | .var _=>.unk | .fld _ _=>.unk|v=>v:=by cases v<;>rfl
def fV (v:DV):(DV→Res)→Res:=
 DV.rec (motive_1:=fun _=>(DV→Res)→Res) (motive_2:=fun _=>PUnit) (fun K=>K (.unk)) (fun b K=>K (.bool b)) (fun k n K=>K (.int k n)) (fun n c K=>K (.str n c)) (fun K=>K (.nilp)) (fun k o K=>K (.ptr k o)) (fun K=>K (.nils)) (fun k o n c sz K=>K (.sl k o n c sz)) (fun f cs _ K=>K (.fn f cs)) (fun K=>K (.nilf)) (fun t v _ K=>K (.ifc t v)) (fun K=>K (.nili)) (fun l _ K=>K (.agg l)) (fun l _ K=>K (.tup l)) (fun k K=>K (.mp k)) (fun K=>K (.nilm)) (fun l _ K=>K (.var l)) (fun p o K=>K (.fld p o)) PUnit.unit (fun _ _ _ _=>PUnit.unit) v
theorem fV_eq (v:DV) (K:DV→Res):fV v K=K v:=by cases v<;>rfl
def oV (v:DV):(DV→Res)→Res:=
 DV.rec (motive_1:=fun _=>(DV→Res)→Res) (motive_2:=fun _=>PUnit) (fun K=>K (.unk)) (fun b K=>K (.bool b)) (fun k n K=>K (.int k n)) (fun n c K=>K (.str n c)) (fun K=>K (.nilp)) (fun k o K=>K (.ptr k o)) (fun K=>K (.nils)) (fun k o n c sz K=>K (.sl k o n c sz)) (fun f cs _ K=>K (.fn f cs)) (fun K=>K (.nilf)) (fun t v _ K=>K (.ifc t v)) (fun K=>K (.nili)) (fun l _ K=>K (.agg l)) (fun l _ K=>K (.tup l)) (fun k K=>K (.mp k)) (fun K=>K (.nilm)) (fun _ _ K=>K .unk) (fun _ _ K=>K .unk) PUnit.unit (fun _ _ _ _=>PUnit.unit) v
theorem oV_eq (v:DV) (K:DV→Res):oV v K=K (outer v ()):=by cases v<;>rfl
def cellsK (v:DV):Res→(List DV→Res)→Res:=
 DV.rec (motive_1:=fun _=>Res→(List DV→Res)→Res) (motive_2:=fun _=>PUnit) (fun F _=>F) (fun b _ K=>K [.bool b]) (fun k n _ K=>K [.int k n]) (fun n c _ K=>K [.str n c]) (fun _ K=>K [.nilp]) (fun k o _ K=>K [.ptr k o]) (fun _ K=>K [.nils]) (fun k o n c sz _ K=>K [.sl k o n c sz]) (fun f cs _ _ K=>K [.fn f cs]) (fun _ K=>K [.nilf]) (fun t v _ _ K=>K [.ifc t v]) (fun _ K=>K [.nili]) (fun l _ _ K=>K l) (fun _ _ F _=>F) (fun k _ K=>K [.mp k]) (fun _ K=>K [.nilm]) (fun _ _ F _=>F) (fun _ _ F _=>F) PUnit.unit (fun _ _ _ _=>PUnit.unit) v
def DV.cells:DV→Option (List DV) | .agg l=>some l | .unk=>none | .tup _=>none | .var _=>none | .fld _ _=>none|v=>some [v]
theorem cellsK_eq (v:DV) (F:Res) (K:List DV→Res):cellsK v F K=match v.cells with|some l=>K l|none=>F:=by cases v<;>rfl
def solid (v:DV):Res→(DV→Res)→Res:=
 DV.rec (motive_1:=fun _=>Res→(DV→Res)→Res) (motive_2:=fun _=>PUnit) (fun F _=>F) (fun b _ K=>K (.bool b)) (fun k n _ K=>K (.int k n)) (fun n c _ K=>K (.str n c)) (fun F _=>F) (fun k o _ K=>K (.ptr k o)) (fun _ K=>K (.nils)) (fun k o n c sz _ K=>K (.sl k o n c sz)) (fun f cs _ _ K=>K (.fn f cs)) (fun F _=>F) (fun t v _ _ K=>K (.ifc t v)) (fun F _=>F) (fun l _ _ K=>K (.agg l)) (fun l _ _ K=>K (.tup l)) (fun k _ K=>K (.mp k)) (fun _ K=>K (.nilm)) (fun _ _ F _=>F) (fun p o _ K=>K (.fld p o)) PUnit.unit (fun _ _ _ _=>PUnit.unit) v
theorem solid_eq (v:DV) (F:Res) (K:DV→Res):solid v F K=match v with | .unk=>F | .nilp=>F | .nilf=>F | .nili=>F | .var _=>F|v=>K v:=by cases v<;>rfl
def nilsK (v:DV):Res→(Unit→Res)→Res:=
 DV.rec (motive_1:=fun _=>Res→(Unit→Res)→Res) (motive_2:=fun _=>PUnit) (fun F _=>F) (fun _ F _=>F) (fun _ _ F _=>F) (fun _ _ F _=>F) (fun F _=>F) (fun _ _ F _=>F) (fun _ K=>K ()) (fun _ _ _ _ _ F _=>F) (fun _ _ _ F _=>F) (fun F _=>F) (fun _ _ _ F _=>F) (fun F _=>F) (fun _ _ F _=>F) (fun _ _ F _=>F) (fun _ F _=>F) (fun F _=>F) (fun _ _ F _=>F) (fun _ _ F _=>F) PUnit.unit (fun _ _ _ _=>PUnit.unit) v
theorem nilsK_eq (v:DV) (F:Res) (K:Unit→Res):nilsK v F K=match v with | .nils=>K ()|_=>F:=by cases v<;>rfl
def forceN (n:Nat) (k:Nat→Res):Res:=Nat.rec (motive:=fun _=>Res) (k (nat_lit 0)) (fun m _=>k (Nat.succ m)) n
theorem forceN_eq (n:Nat) (k:Nat→Res):forceN n k=k n:=by cases n<;>rfl
def forceP (k:Int→Res) (m:Nat):Res:=forceN m fun m=>k (.ofNat m)
def forceM (k:Int→Res) (m:Nat):Res:=forceN m fun m=>k (.negSucc m)
def forceI (n:Int) (k:Int→Res):Res:=Int.rec (motive:=fun _=>Res) (forceP k) (forceM k) n
theorem forceI_eq (n:Int) (k:Int→Res):forceI n k=k n:=by
 cases n with
 | ofNat m=>show forceN m (fun m=>k (.ofNat m))=_;rw [forceN_eq]
 | negSucc m=>show forceN m (fun m=>k (.negSucc m))=_;rw [forceN_eq]
def subNN (a b:Nat):Int:=Nat.rec (motive:=fun _=>Int) (.ofNat (Nat.sub a b)) (fun m _=>.negSucc m) (Nat.sub b a)
theorem subNN_eq (a b:Nat):subNN a b=(a:Int)-(b:Int):=by
 rw [←Int.subNatNat_eq_coe]
 unfold subNN Int.subNatNat
 show _=match b-a with|0=>Int.ofNat (a-b)|Nat.succ k=>Int.negSucc k
 cases h:(b-a) with
 | zero=>have h':Nat.sub b a=0:=h;rw [h'];rfl
 | succ m=>have h':Nat.sub b a=m+1:=h;rw [h']
def iaddP (a:Nat) (y:Int):Int:=Int.rec (motive:=fun _=>Int) (fun b=>.ofNat (Nat.add a b)) (fun b=>subNN a (Nat.succ b)) y
def iaddM (a:Nat) (y:Int):Int:=Int.rec (motive:=fun _=>Int) (fun b=>subNN b (Nat.succ a)) (fun b=>.negSucc (Nat.succ (Nat.add a b))) y
def iadd (x y:Int):Int:=Int.rec (motive:=fun _=>Int→Int) iaddP iaddM x y
theorem iadd_eq (x y:Int):iadd x y=x+y:=by
 cases x with
 | ofNat a=>cases y with
  | ofNat b=>rfl
  | negSucc b=>show subNN a (b+1)=_;rw [subNN_eq];simp only [Int.ofNat_eq_natCast,Int.negSucc_eq];omega
 | negSucc a=>cases y with
  | ofNat b=>show subNN b (a+1)=_;rw [subNN_eq];simp only [Int.ofNat_eq_natCast,Int.negSucc_eq];omega
  | negSucc b=>rfl
def inegP (a:Nat):Int:=Nat.rec (motive:=fun _=>Int) (.ofNat (nat_lit 0)) (fun m _=>.negSucc m) a
def inegM (a:Nat):Int:=.ofNat (Nat.succ a)
def ineg (x:Int):Int:=Int.rec (motive:=fun _=>Int) inegP inegM x
theorem ineg_eq (x:Int):ineg x=-x:=by
 cases x with
 | ofNat a=>cases a<;>rfl
 | negSucc a=>rfl
def imulP (a:Nat) (y:Int):Int:=Int.rec (motive:=fun _=>Int) (fun b=>.ofNat (Nat.mul a b)) (fun b=>inegP (Nat.mul a (Nat.succ b))) y
def imulM (a:Nat) (y:Int):Int:=Int.rec (motive:=fun _=>Int) (fun b=>inegP (Nat.mul (Nat.succ a) b)) (fun b=>.ofNat (Nat.mul (Nat.succ a) (Nat.succ b))) y
def imul (x y:Int):Int:=Int.rec (motive:=fun _=>Int→Int) imulP imulM x y
theorem inegP_eq (a:Nat):inegP a=-(a:Int):=ineg_eq (.ofNat a)
theorem imul_eq (x y:Int):imul x y=x*y:=by
 cases x with
 | ofNat a=>cases y with
  | ofNat b=>rfl
  | negSucc b=>show inegP (a*(b+1))=_;rw [inegP_eq];rfl
 | negSucc a=>cases y with
  | ofNat b=>show inegP ((a+1)*b)=_;rw [inegP_eq];rfl
  | negSucc b=>rfl
def idivP (a:Nat) (y:Int):Int:=Int.rec (motive:=fun _=>Int) (fun b=>.ofNat (Nat.div a b)) (fun b=>inegP (Nat.div a (Nat.succ b))) y
def idivM (a:Nat) (y:Int):Int:=Int.rec (motive:=fun _=>Int) (fun b=>inegP (Nat.div (Nat.succ a) b)) (fun b=>.ofNat (Nat.div (Nat.succ a) (Nat.succ b))) y
def idiv (x y:Int):Int:=Int.rec (motive:=fun _=>Int→Int) idivP idivM x y
theorem idiv_eq (x y:Int):idiv x y=x.tdiv y:=by
 cases x with
 | ofNat a=>cases y with
  | ofNat b=>rfl
  | negSucc b=>show inegP (a / (b+1))=_;rw [inegP_eq];rfl
 | negSucc a=>cases y with
  | ofNat b=>show inegP ((a+1) / b)=_;rw [inegP_eq];rfl
  | negSucc b=>rfl
def imodP (a:Nat) (y:Int):Int:=Int.rec (motive:=fun _=>Int) (fun b=>.ofNat (Nat.mod a b)) (fun b=>.ofNat (Nat.mod a (Nat.succ b))) y
def imodM (a:Nat) (y:Int):Int:=Int.rec (motive:=fun _=>Int) (fun b=>inegP (Nat.mod (Nat.succ a) b)) (fun b=>inegP (Nat.mod (Nat.succ a) (Nat.succ b))) y
def imod (x y:Int):Int:=Int.rec (motive:=fun _=>Int→Int) imodP imodM x y
theorem imod_eq (x y:Int):imod x y=x.tmod y:=by
 cases x with
 | ofNat a=>cases y with
  | ofNat b=>rfl
  | negSucc b=>rfl
 | negSucc a=>cases y with
  | ofNat b=>show inegP ((a+1) % b)=_;rw [inegP_eq];rfl
  | negSucc b=>show inegP ((a+1) % (b+1))=_;rw [inegP_eq];rfl
def iltP (a:Nat) (y:Int):Bool:=Int.rec (motive:=fun _=>Bool) (fun b=>Nat.ble (Nat.succ a) b) (fun _=>false) y
def iltM (a:Nat) (y:Int):Bool:=Int.rec (motive:=fun _=>Bool) (fun _=>true) (fun b=>Nat.ble (Nat.succ b) a) y
def ilt (x y:Int):Bool:=Int.rec (motive:=fun _=>Int→Bool) iltP iltM x y
theorem ilt_eq (x y:Int):ilt x y=decide (x<y):=by
 cases x with
 | ofNat a=>cases y with
  | ofNat b=>show Nat.ble (a+1) b=_;rw [Bool.eq_iff_iff,Nat.ble_eq];simp only [Int.ofNat_eq_natCast,decide_eq_true_eq];omega
  | negSucc b=>symm;show decide _=false;simp only [Int.ofNat_eq_natCast,Int.negSucc_eq,decide_eq_false_iff_not];omega
 | negSucc a=>cases y with
  | ofNat b=>symm;show decide _=true;simp only [Int.ofNat_eq_natCast,Int.negSucc_eq,decide_eq_true_eq];omega
  | negSucc b=>show Nat.ble (b+1) a=_;rw [Bool.eq_iff_iff,Nat.ble_eq];simp only [Int.negSucc_eq,decide_eq_true_eq];omega
def ieqP (a:Nat) (y:Int):Bool:=Int.rec (motive:=fun _=>Bool) (fun b=>Nat.beq a b) (fun _=>false) y
def ieqM (a:Nat) (y:Int):Bool:=Int.rec (motive:=fun _=>Bool) (fun _=>false) (fun b=>Nat.beq a b) y
def ieq (x y:Int):Bool:=Int.rec (motive:=fun _=>Int→Bool) ieqP ieqM x y
theorem ieq_eq (x y:Int):ieq x y=decide (x=y):=by
 cases x with
 | ofNat a=>cases y with
  | ofNat b=>show Nat.beq a b=_;rw [Bool.eq_iff_iff,Nat.beq_eq];simp only [decide_eq_true_eq];exact ⟨fun h=>by rw [h],fun h=>by injection h⟩
  | negSucc b=>symm;show decide _=false;simp
 | negSucc a=>cases y with
  | ofNat b=>symm;show decide _=false;simp
  | negSucc b=>show Nat.beq a b=_;rw [Bool.eq_iff_iff,Nat.beq_eq];simp only [decide_eq_true_eq];exact ⟨fun h=>by rw [h],fun h=>by injection h⟩
def sg (k:IntKind):Bool:=IntKind.rec true true true true false false false false k
def top (k:IntKind):Nat:=IntKind.rec (nat_lit 127) (nat_lit 32767) (nat_lit 2147483647) (nat_lit 9223372036854775807) (nat_lit 255) (nat_lit 65535) (nat_lit 4294967295) (nat_lit 18446744073709551615) k
def fitsP (a:Nat) (k:IntKind):Bool:=Nat.ble a (top k)
def fitsM (a:Nat) (k:IntKind):Bool:=Bool.rec (motive:=fun _=>Bool) false (Nat.ble a (top k)) (sg k)
def fits (k:IntKind) (n:Int):Bool:=Int.rec (motive:=fun _=>IntKind→Bool) fitsP fitsM n k
theorem wrap_of_fits {k:IntKind} {n:Int} (h:fits k n=true):k.wrap n=n:=by
 cases n with
 | ofNat a=>
  have h':Nat.ble a (top k)=true:=h
  rw [Nat.ble_eq] at h'
  cases k<;>simp only [top] at h'<;>simp only [IntKind.wrap,IntKind.bits,IntKind.signed,Int.ofNat_eq_natCast]<;>simp<;>omega
 | negSucc a=>
  cases k with
  | i8|i16|i32|i64=>
   have h':Nat.ble a (top _)=true:=h
   rw [Nat.ble_eq] at h'
   simp only [top] at h';simp only [IntKind.wrap,IntKind.bits,IntKind.signed,Int.negSucc_eq];simp;omega
  | u8|u16|u32|u64=>exact absurd h (by simp [fits,fitsM,sg])
def mkI2 (k:IntKind) (n:Int) (K:DV→Res):Res:=forceI n fun n=>K (.int k n)
def mkI (k:IntKind) (n:Int) (K:DV→Res):Res:=Bool.rec (motive:=fun _=>Res) (mkI2 k (k.wrap n) K) (mkI2 k n K) (fits k n)
theorem mkI_eq (k:IntKind) (n:Int) (K:DV→Res):mkI k n K=K (.int k (k.wrap n)):=by
 unfold mkI
 cases h:fits k n with
 | false=>exact forceI_eq _ _
 | true=>rw [wrap_of_fits h];exact forceI_eq _ _
def sameK (a b:IntKind):Bool:=IntKind.rec (IntKind.rec true false false false false false false false b) (IntKind.rec false true false false false false false false b)
 (IntKind.rec false false true false false false false false b) (IntKind.rec false false false true false false false false b) (IntKind.rec false false false false true false false false b)
 (IntKind.rec false false false false false true false false b) (IntKind.rec false false false false false false true false b) (IntKind.rec false false false false false false false true b) a
theorem sameK_eq {a b:IntKind} (h:sameK a b=true):a=b:=by cases a<;>cases b<;>first|rfl|exact absurd h (by decide)
def nthE (_:Nat) (F:Res) (_:DV→Res):Res:=F
def nthC (a:DV) (_:List DV) (ih:Nat→Res→(DV→Res)→Res) (i:Nat) (F:Res) (K:DV→Res):Res:=Nat.rec (motive:=fun _=>Res) (K a) (fun j _=>ih j F K) i
def nthK (l:List DV):Nat→Res→(DV→Res)→Res:=List.rec (motive:=fun _=>Nat→Res→(DV→Res)→Res) nthE nthC l
theorem nthK_eq (l:List DV):∀ (i:Nat) (F:Res) (K:DV→Res),nthK l i F K=match l[i]? with|some v=>K v|none=>F:=by
 induction l with
 | nil=>intro i F K;rfl
 | cons a l ih=>intro i F K;cases i with
  | zero=>rfl
  | succ i=>show nthK l i F K=_;rw [ih];rfl
def takeZ (_:List DV) (_:Res) (K:List DV→Res):Res:=K []
def takeC (ih:List DV→Res→(List DV→Res)→Res) (a:DV) (t:List DV) (F:Res) (K:List DV→Res):Res:=ih t F fun r=>K (a::r)
def takeS (_:Nat) (ih:List DV→Res→(List DV→Res)→Res) (l:List DV) (F:Res) (K:List DV→Res):Res:=List.rec (motive:=fun _=>Res) F (fun a t _=>takeC ih a t F K) l
def takeK (n:Nat):List DV→Res→(List DV→Res)→Res:=Nat.rec (motive:=fun _=>List DV→Res→(List DV→Res)→Res) takeZ takeS n
theorem takeK_eq (n:Nat):∀ (l:List DV) (F:Res) (K:List DV→Res),takeK n l F K=if n≤l.length then K (l.take n) else F:=by
 induction n with
 | zero=>intro l F K;simp;rfl
 | succ n ih=>intro l F K;cases l with
  | nil=>simp;rfl
  | cons a l=>show takeK n l F (fun r=>K (a::r))=_;rw [ih];simp
def dropZ (l:List DV) (_:Res) (K:List DV→Res):Res:=K l
def dropS (_:Nat) (ih:List DV→Res→(List DV→Res)→Res) (l:List DV) (F:Res) (K:List DV→Res):Res:=List.rec (motive:=fun _=>Res) F (fun _ t _=>ih t F K) l
def dropK (n:Nat):List DV→Res→(List DV→Res)→Res:=Nat.rec (motive:=fun _=>List DV→Res→(List DV→Res)→Res) dropZ dropS n
theorem dropK_eq (n:Nat):∀ (l:List DV) (F:Res) (K:List DV→Res),dropK n l F K=if n≤l.length then K (l.drop n) else F:=by
 induction n with
 | zero=>intro l F K;simp;rfl
 | succ n ih=>intro l F K;cases l with
  | nil=>simp;rfl
  | cons a l=>show dropK n l F K=_;rw [ih];simp
def catN (m:List DV) (K:List DV→Res):Res:=K m
def catC (a:DV) (_:List DV) (ih:List DV→(List DV→Res)→Res) (m:List DV) (K:List DV→Res):Res:=ih m fun r=>K (a::r)
def catK (l:List DV):List DV→(List DV→Res)→Res:=List.rec (motive:=fun _=>List DV→(List DV→Res)→Res) catN catC l
theorem catK_eq (l:List DV):∀ (m:List DV) (K:List DV→Res),catK l m K=K (l++m):=by
 induction l with
 | nil=>intro m K;rfl
 | cons a l ih=>intro m K;show catK l m (fun r=>K (a::r))=_;rw [ih];rfl
def overN (l:List DV) (_:Res) (K:List DV→Res):Res:=K l
def overC (v:DV) (_:List DV) (ih:List DV→Res→(List DV→Res)→Res) (l:List DV) (F:Res) (K:List DV→Res):Res:=List.rec (motive:=fun _=>Res) F (fun _ t _=>ih t F fun r=>K (v::r)) l
def overK (vs:List DV):List DV→Res→(List DV→Res)→Res:=List.rec (motive:=fun _=>List DV→Res→(List DV→Res)→Res) overN overC vs
theorem overK_eq (vs:List DV):∀ (l:List DV) (F:Res) (K:List DV→Res),overK vs l F K=if vs.length≤l.length then K (vs++l.drop vs.length) else F:=by
 induction vs with
 | nil=>intro l F K;simp;rfl
 | cons v vs ih=>intro l F K;cases l with
  | nil=>simp;rfl
  | cons a l=>show overK vs l F (fun r=>K (v::r))=_;rw [ih];simp
def sprZ (l vs:List DV) (F:Res) (K:List DV→Res):Res:=overK vs l F K
def sprC (ih:List DV→List DV→Res→(List DV→Res)→Res) (a:DV) (t vs:List DV) (F:Res) (K:List DV→Res):Res:=ih t vs F fun r=>K (a::r)
def sprS (_:Nat) (ih:List DV→List DV→Res→(List DV→Res)→Res) (l vs:List DV) (F:Res) (K:List DV→Res):Res:=List.rec (motive:=fun _=>Res) F (fun a t _=>sprC ih a t vs F K) l
def sprK (o:Nat):List DV→List DV→Res→(List DV→Res)→Res:=Nat.rec (motive:=fun _=>List DV→List DV→Res→(List DV→Res)→Res) sprZ sprS o
theorem sprK_eq (o:Nat):∀ (l vs:List DV) (F:Res) (K:List DV→Res),
 sprK o l vs F K=if o+vs.length≤l.length then K (l.take o++vs++l.drop (o+vs.length)) else F:=by
 induction o with
 | zero=>intro l vs F K;show overK vs l F K=_;rw [overK_eq];simp
 | succ o ih=>intro l vs F K;cases l with
  | nil=>rw [if_neg (by simp)];rfl
  | cons a l=>
   show sprK o l vs F (fun r=>K (a::r))=_
   rw [ih]
   by_cases h:o+vs.length≤l.length
   ·rw [if_pos h,if_pos (by simp;omega)];congr 1;rw [show o+1+vs.length=(o+vs.length)+1 by omega];simp
   ·rw [if_neg h,if_neg (by simp;omega)]
abbrev Kv:=Env→DV→P→Hp→Res
abbrev Ih:=C→Option P→Env→P→Hp→Res
abbrev Run:=Tr Fd→Ih→Option P→Env→P→Hp→Kv→Res
def evN (_:P):DV:=.unk
def evS (v:DV) (p:P):DV:=place v p
def evT (p:P) (e:Env):DV:=Option.rec (motive:=fun _=>P→DV) evN evS (Tr.get? p e) p
def evC (v:DV) (_:Env):DV:=v
def ev (o:Opd) (e:Env):DV:=Opd.rec (motive:=fun _=>Env→DV) evT evC o e
def evK (o:Opd) (e:Env) (K:DV→Res):Res:=fV (ev o e) K
def ovK (o:Opd) (e:Env) (K:DV→Res):Res:=oV (ev o e) K
def ovsN (_:Env) (K:List DV→Res):Res:=K []
def ovsC (o:Opd) (_:List Opd) (ih:Env→(List DV→Res)→Res) (e:Env) (K:List DV→Res):Res:=ovK o e fun v=>ih e fun vs=>K (v::vs)
def ovsK (l:List Opd):Env→(List DV→Res)→Res:=List.rec (motive:=fun _=>Env→(List DV→Res)→Res) ovsN ovsC l
def ov (o:Opd) (e:Env):DV:=outer (ev o e) ()
theorem evK_eq (o:Opd) (e:Env) (K:DV→Res):evK o e K=K (ev o e):=fV_eq _ _
theorem ovK_eq (o:Opd) (e:Env) (K:DV→Res):ovK o e K=K (ov o e):=oV_eq _ _
theorem ovsK_eq (l:List Opd):∀ (e:Env) (K:List DV→Res),ovsK l e K=K (l.map fun o=>ov o e):=by
 induction l with
 | nil=>intro e K;rfl
 | cons o l ih=>intro e K;show ovK o e (fun v=>ovsK l e fun vs=>K (v::vs))=_;rw [ovK_eq,ih];rfl
def obD (F:Res) (_:List DV→Res):Res:=F
def obL (l:List DV) (_:Res) (K:List DV→Res):Res:=K l
def obN (F:Res) (_:List DV→Res):Res:=F
def obS (o:Ob):Res→(List DV→Res)→Res:=Ob.rec (motive:=fun _=>Res→(List DV→Res)→Res) obL obL obD o
def objK (k:P) (h:Hp) (F:Res) (K:List DV→Res):Res:=Option.rec (motive:=fun _=>Res→(List DV→Res)→Res) obN obS (Tr.get? k h) F K
def owL (_:List DV) (F:Res) (_:List DV→Res):Res:=F
def owS (o:Ob):Res→(List DV→Res)→Res:=Ob.rec (motive:=fun _=>Res→(List DV→Res)→Res) obL owL obD o
def ownK (k:P) (h:Hp) (F:Res) (K:List DV→Res):Res:=Option.rec (motive:=fun _=>Res→(List DV→Res)→Res) obN owS (Tr.get? k h) F K
theorem objK_eq (k:P) (h:Hp) (F:Res) (K:List DV→Res):objK k h F K=match Tr.get? k h with|some (.cells l)=>K l|some (.ro l)=>K l|_=>F:=by
 unfold objK;cases Tr.get? k h with
 | none=>rfl
 | some o=>cases o<;>rfl
theorem ownK_eq (k:P) (h:Hp) (F:Res) (K:List DV→Res):ownK k h F K=match Tr.get? k h with|some (.cells l)=>K l|_=>F:=by
 unfold ownK;cases Tr.get? k h with
 | none=>rfl
 | some o=>cases o<;>rfl
def vaN (F:Res) (_:List DV→Res):Res:=F
def varK (p:P) (e:Env) (F:Res) (K:List DV→Res):Res:=Option.rec (motive:=fun _=>Res→(List DV→Res)→Res) vaN asV (Tr.get? p e) F K
theorem varK_eq (p:P) (e:Env) (F:Res) (K:List DV→Res):varK p e F K=match Tr.get? p e with|some (.var l)=>K l|_=>F:=by
 unfold varK;cases Tr.get? p e with
 | none=>rfl
 | some v=>show asV v F K=_;rw [asV_eq];cases v<;>rfl
def readP (h:Hp) (F:Res) (K:List DV→Nat→Res) (k:P) (o:Nat):Res:=objK k h F fun l=>K l o
def readF (e:Env) (F:Res) (K:List DV→Nat→Res) (p:P) (o:Nat):Res:=varK p e F fun l=>K l o
def readK (v:DV) (e:Env) (h:Hp) (F:Res) (K:List DV→Nat→Res):Res:=asP v (asFl v F (readF e F K)) (readP h F K)
def look (v:DV) (e:Env) (h:Hp):Option (List DV × Nat):=
 match v with
 | .ptr k o=>match Tr.get? k h with|some (.cells l)=>some (l,o)|some (.ro l)=>some (l,o)|_=>none
 | .fld p o=>match Tr.get? p e with|some (.var l)=>some (l,o)|_=>none
 | _=>none
theorem readK_eq (v:DV) (e:Env) (h:Hp) (F:Res) (K:List DV→Nat→Res):readK v e h F K=match look v e h with|some (l,o)=>K l o|none=>F:=by
 unfold readK;rw [asP_eq,asFl_eq]
 cases v<;>try rfl
 case ptr k o=>
  show objK k h F (fun l=>K l o)=_
  rw [objK_eq];simp only [look];cases Tr.get? k h with
  | none=>rfl
  | some b=>cases b<;>rfl
 case fld p o=>
  show varK p e F (fun l=>K l o)=_
  rw [varK_eq];simp only [look];cases Tr.get? p e with
  | none=>rfl
  | some b=>cases b<;>rfl
def wOkN (_:P) (_:Res) (K:Unit→Res):Res:=K ()
def wOkS (m:P) (k:P) (F:Res) (K:Unit→Res):Res:=Bool.rec (motive:=fun _=>Res) F (K ()) (Nat.ble m.n k.n)
def wOk (wm:Option P) (k:P) (F:Res) (K:Unit→Res):Res:=Option.rec (motive:=fun _=>P→Res→(Unit→Res)→Res) wOkN wOkS wm k F K
def may (wm:Option P) (k:P):Prop:=∀ m,wm=some m→m.n≤k.n
theorem wOk_eq (wm:Option P) (k:P) (F:Res) (K:Unit→Res):wOk wm k F K=(open Classical in if may wm k then K () else F):=by
 cases wm with
 | none=>rw [if_pos (show may none k from fun m h=>nomatch h)];rfl
 | some m=>
  show Bool.rec (motive:=fun _=>Res) F (K ()) (Nat.ble m.n k.n)=_
  cases h:Nat.ble m.n k.n with
  | false=>rw [if_neg];intro hm;have:=hm m rfl;rw [←Nat.ble_eq,h] at this;cases this
  | true=>rw [if_pos];intro m' hm';cases hm';exact Nat.ble_eq.mp h
def newK (l:List DV) (e:Env) (nx:P) (h:Hp) (mk:P→DV) (k:Kv):Res:=Tr.setK nx h (some (.cells l)) fun h=>nx.sucK fun n=>k e (mk nx) n h
theorem newK_eq (l:List DV) (e:Env) (nx:P) (h:Hp) (mk:P→DV) (k:Kv):newK l e nx h mk k=k e (mk nx) nx.suc (Tr.set nx h (some (.cells l))):=by
 unfold newK;rw [Tr.setK_eq,P.sucK_eq]
def iMv (a:Opd):Run:=fun _ _ _ e nx h k=>evK a e fun v=>k e v nx h
def iPick (c a b:Opd):Run:=fun _ _ _ e nx h k=>asB (ev c e) .fail fun t=>Bool.rec (motive:=fun _=>Res) (evK b e fun v=>k e v nx h) (evK a e fun v=>k e v nx h) t
def iAl (z:List DV):Run:=fun _ _ _ e nx h k=>newK z e nx h (fun n=>.ptr n (nat_lit 0)) k
def iBx (a:Opd):Run:=fun _ _ _ e nx h k=>ovK a e fun v=>cellsK v .fail fun l=>newK l e nx h (fun n=>.ptr n (nat_lit 0)) k
def lenN (n:Nat):Bool:=Nat.rec (motive:=fun _=>Bool) true (fun _ _=>false) n
def lenC (_:DV) (_:List DV) (ih:Nat→Bool) (n:Nat):Bool:=Nat.rec (motive:=fun _=>Bool) false (fun m _=>ih m) n
def isLen (l:List DV):Nat→Bool:=List.rec (motive:=fun _=>Nat→Bool) lenN lenC l
theorem isLen_eq (l:List DV):∀ n,isLen l n=decide (l.length=n):=by
 induction l with
 | nil=>intro n;cases n<;>rfl
 | cons a l ih=>intro n;cases n with
  | zero=>rfl
  | succ n=>show isLen l n=_;rw [ih];simp
def chk (b:Bool) (K:Unit→Res):Res:=Bool.rec (motive:=fun _=>Res) .fail (K ()) b
theorem chk_eq (b:Bool) (K:Unit→Res):chk b K=if b=true then K () else .fail:=by cases b<;>rfl
def fillN (z:List DV) (_:Env) (K:List DV→Res):Res:=K z
def fillP (ih:List DV→Env→(List DV→Res)→Res) (z:List DV) (e:Env) (K:List DV→Res) (off:Nat) (x:Nat × Opd):Res:=
 Prod.rec (motive:=fun _=>Res) (fun size o=>ovK o e fun v=>cellsK v .fail fun l=>chk (isLen l size) fun _=>sprK off z l .fail fun z=>ih z e K) x
def fillC (x:Nat × Nat × Opd) (_:List (Nat × Nat × Opd)) (ih:List DV→Env→(List DV→Res)→Res) (z:List DV) (e:Env) (K:List DV→Res):Res:=
 Prod.rec (motive:=fun _=>Res) (fillP ih z e K) x
def fillK (ps:List (Nat × Nat × Opd)):List DV→Env→(List DV→Res)→Res:=List.rec (motive:=fun _=>List DV→Env→(List DV→Res)→Res) fillN fillC ps
def fills (e:Env):List (Nat × Nat × Opd)→List DV→Option (List DV)
 | [],z=>some z
 | (off,size,o)::ps,z=>
  match (ov o e).cells with
  | some l=>if l.length=size∧off+l.length≤z.length then fills e ps (z.take off++l++z.drop (off+l.length)) else none
  | none=>none
theorem fillK_eq (ps:List (Nat × Nat × Opd)):∀ (z:List DV) (e:Env) (K:List DV→Res),fillK ps z e K=match fills e ps z with|some z=>K z|none=>.fail:=by
 induction ps with
 | nil=>intro z e K;rfl
 | cons x ps ih=>
  obtain ⟨off,size,o⟩:=x
  intro z e K
  show ovK o e (fun v=>cellsK v .fail fun l=>chk (isLen l size) fun _=>sprK off z l .fail fun z=>fillK ps z e K)=_
  rw [ovK_eq,cellsK_eq]
  simp only [fills]
  cases (ov o e).cells with
  | none=>rfl
  | some l=>
   show chk (isLen l size) (fun _=>sprK off z l .fail fun z=>fillK ps z e K)=_
   rw [chk_eq,isLen_eq,sprK_eq]
   simp only [ih]
   by_cases h1:l.length=size
   ·by_cases h2:off+l.length≤z.length
    ·rw [if_pos (by simpa using h1),if_pos h2,if_pos ⟨h1,h2⟩]
    ·rw [if_pos (by simpa using h1),if_neg h2,if_neg (fun h=>h2 h.2)]
   ·rw [if_neg (by simpa using h1),if_neg (fun h=>h1 h.1)]
def iBld (z:List DV) (ps:List (Nat × Nat × Opd)):Run:=fun _ _ _ e nx h k=>fillK ps z e fun l=>k e (.agg l) nx h
def iBsl (len sz:Nat) (z:List DV) (ps:List (Nat × Nat × Opd)):Run:=fun _ _ _ e nx h k=>fillK ps z e fun l=>newK l e nx h (fun n=>.sl n (nat_lit 0) len (some len) sz) k
def iLd (a:Opd):Run:=fun _ _ _ e nx h k=>readK (ev a e) e h .fail fun l o=>nthK l o .fail fun v=>fV v fun v=>k e v nx h
def iLda (n:Nat) (a:Opd):Run:=fun _ _ _ e nx h k=>readK (ev a e) e h .fail fun l o=>dropK o l .fail fun t=>takeK n t .fail fun r=>k e (.agg r) nx h
def iVla (n:Nat) (a:Opd):Run:=fun _ _ _ e nx h k=>readK (ev a e) e .nl .fail fun l o=>dropK o l .fail fun t=>takeK n t .fail fun r=>k e (.agg r) nx h
def stP (wm:Option P) (e:Env) (nx:P) (h:Hp) (k:Kv) (c:List DV) (b:P) (o:Nat):Res:=
 wOk wm b .fail fun _=>ownK b h .fail fun l=>sprK o l c .fail fun l=>Tr.setK b h (some (.cells l)) fun h=>k e (.tup []) nx h
def stF (e:Env) (nx:P) (h:Hp) (k:Kv) (c:List DV) (p:P) (o:Nat):Res:=
 varK p e .fail fun l=>sprK o l c .fail fun l=>Tr.setK p e (some (.var l)) fun e=>k e (.tup []) nx h
def iSt (n:Nat) (a v:Opd):Run:=fun _ _ wm e nx h k=>ovK v e fun v=>cellsK v .fail fun c=>chk (isLen c n) fun _=>
 asP (ev a e) (asFl (ev a e) .fail (stF e nx h k c)) (stP wm e nx h k c)
def iNc (a:Opd):Run:=fun _ _ _ e nx h k=>solid (ev a e) .fail fun v=>k e v nx h
def bAdd (k:IntKind) (x y:Int) (K:DV→Res):Res:=mkI k (iadd x y) K
def bSub (k:IntKind) (x y:Int) (K:DV→Res):Res:=mkI k (iadd x (ineg y)) K
def bMul (k:IntKind) (x y:Int) (K:DV→Res):Res:=mkI k (imul x y) K
def bQuo (k:IntKind) (x y:Int) (K:DV→Res):Res:=Bool.rec (motive:=fun _=>Res) (mkI k (idiv x y) K) .fail (ieq y (.ofNat (nat_lit 0)))
def bRem (k:IntKind) (x y:Int) (K:DV→Res):Res:=Bool.rec (motive:=fun _=>Res) (mkI2 k (imod x y) K) .fail (ieq y (.ofNat (nat_lit 0)))
def bl (b:Bool) (K:DV→Res):Res:=Bool.rec (motive:=fun _=>Res) (K (.bool false)) (K (.bool true)) b
def blN (b:Bool) (K:DV→Res):Res:=Bool.rec (motive:=fun _=>Res) (K (.bool true)) (K (.bool false)) b
theorem bl_eq (b:Bool) (K:DV→Res):bl b K=K (.bool b):=by cases b<;>rfl
theorem blN_eq (b:Bool) (K:DV→Res):blN b K=K (.bool (!b)):=by cases b<;>rfl
def bEq (_:IntKind) (x y:Int) (K:DV→Res):Res:=bl (ieq x y) K
def bNe (_:IntKind) (x y:Int) (K:DV→Res):Res:=blN (ieq x y) K
def bLt (_:IntKind) (x y:Int) (K:DV→Res):Res:=bl (ilt x y) K
def bLe (_:IntKind) (x y:Int) (K:DV→Res):Res:=blN (ilt y x) K
def bGt (_:IntKind) (x y:Int) (K:DV→Res):Res:=bl (ilt y x) K
def bGe (_:IntKind) (x y:Int) (K:DV→Res):Res:=blN (ilt x y) K
def binK (b:Bo):IntKind→Int→Int→(DV→Res)→Res:=Bo.rec bAdd bSub bMul bQuo bRem bEq bNe bLt bLe bGt bGe b
def bin2 (b:Bo) (j:IntKind) (x:Int) (K:DV→Res) (k:IntKind) (y:Int):Res:=chk (sameK j k) fun _=>binK b j x y K
def bin1 (b:Bo) (w:DV) (K:DV→Res) (j:IntKind) (x:Int):Res:=asI w .fail (bin2 b j x K)
def iBin (b:Bo) (x y:Opd):Run:=fun _ _ _ e nx h k=>asI (ev x e) .fail (bin1 b (ev y e) fun v=>k e v nx h)
def eqI (v w:DV) (F:Res) (K:Bool→Res):Res:=asI v F fun k x=>asI w F fun j y=>Bool.rec (motive:=fun _=>Res) F (K (ieq x y)) (sameK k j)
def beqB (a b:Bool):Bool:=Bool.rec (motive:=fun _=>Bool) (Bool.rec (motive:=fun _=>Bool) true false b) b a
def eqB (v w:DV) (F:Res) (K:Bool→Res):Res:=asB v F fun a=>asB w F fun b=>K (beqB a b)
def eq1 (k:Bool):DV→DV→Res→(Bool→Res)→Res:=Bool.rec (motive:=fun _=>DV→DV→Res→(Bool→Res)→Res) eqI eqB k
def eqsNN (F:Res) (K:Bool→Res) (m:List DV):Res:=List.rec (motive:=fun _=>Res) (K true) (fun _ _ _=>F) m
def eqsN (l m:List DV) (F:Res) (K:Bool→Res):Res:=List.rec (motive:=fun _=>Res) (eqsNN F K m) (fun _ _ _=>F) l
def eqsT (ih:List DV→List DV→Res→(Bool→Res)→Res) (t u:List DV) (F:Res) (K:Bool→Res) (b:Bool):Res:=Bool.rec (motive:=fun _=>Res) (K false) (ih t u F K) b
def eqsL (k:Bool) (ih:List DV→List DV→Res→(Bool→Res)→Res) (m:List DV) (F:Res) (K:Bool→Res) (v:DV) (t:List DV):Res:=
 List.rec (motive:=fun _=>Res) F (fun w u _=>eq1 k v w F (eqsT ih t u F K)) m
def eqsC (k:Bool) (_:List Bool) (ih:List DV→List DV→Res→(Bool→Res)→Res) (l m:List DV) (F:Res) (K:Bool→Res):Res:=
 List.rec (motive:=fun _=>Res) F (fun v t _=>eqsL k ih m F K v t) l
def eqsK (ks:List Bool):List DV→List DV→Res→(Bool→Res)→Res:=List.rec (motive:=fun _=>List DV→List DV→Res→(Bool→Res)→Res) eqsN eqsC ks
def negK (neg t:Bool) (K:DV→Res):Res:=Bool.rec (motive:=fun _=>Res) (bl t K) (blN t K) neg
theorem negK_eq (neg t:Bool) (K:DV→Res):negK neg t K=K (.bool (neg != t)):=by cases neg<;>cases t<;>rfl
def iAeq (ks:List Bool) (neg:Bool) (x y:Opd):Run:=fun _ _ _ e nx h k=>asA (ev x e) .fail fun a=>asA (ev y e) .fail fun b=>eqsK ks a b .fail fun t=>negK neg t fun v=>k e v nx h
def iBeq (neg:Bool) (x y:Opd):Run:=fun _ _ _ e nx h k=>asB (ev x e) .fail fun a=>asB (ev y e) .fail fun b=>negK neg (beqB a b) fun v=>k e v nx h
def iNil (neg:Bool) (x:Opd):Run:=fun _ _ _ e nx h k=>asSl (ev x e) (nilsK (ev x e) .fail fun _=>negK neg true fun v=>k e v nx h) fun _ _ _ _ _=>negK neg false fun v=>k e v nx h
def iNeg (a:Opd):Run:=fun _ _ _ e nx h k=>asI (ev a e) .fail fun j x=>mkI j (ineg x) fun v=>k e v nx h
def iNot (a:Opd):Run:=fun _ _ _ e nx h k=>asB (ev a e) .fail fun b=>blN b fun v=>k e v nx h
def iCv (j:IntKind) (a:Opd):Run:=fun _ _ _ e nx h k=>asI (ev a e) .fail fun _ x=>mkI j x fun v=>k e v nx h
def iMfn (f:P) (cs:List Opd):Run:=fun _ _ _ e nx h k=>ovsK cs e fun vs=>k e (.fn f vs) nx h
def iFa (o:Nat) (a:Opd):Run:=fun _ _ _ e nx h k=>
 asP (ev a e) (asFl (ev a e) .fail fun p i=>forceN (Nat.add i o) fun i=>k e (.fld p i) nx h) fun b i=>forceN (Nat.add i o) fun i=>k e (.ptr b i) nx h
def iFi (o:Nat) (a:Opd):Run:=fun _ _ _ e nx h k=>asA (ev a e) .fail fun l=>nthK l o .fail fun v=>fV v fun v=>k e v nx h
def iFia (o n:Nat) (a:Opd):Run:=fun _ _ _ e nx h k=>asA (ev a e) .fail fun l=>dropK o l .fail fun t=>takeK n t .fail fun r=>k e (.agg r) nx h
def iaAt (sz:Nat) (e:Env) (nx:P) (h:Hp) (k:Kv) (b:P) (o n:Nat) (i:Nat):Res:=
 chk (Nat.ble (Nat.succ i) n) fun _=>forceN (Nat.add o (Nat.mul i sz)) fun i=>k e (.ptr b i) nx h
def natI (i:Int) (K:Nat→Res):Res:=Int.rec (motive:=fun _=>Res) K (fun _=>.fail) i
theorem natI_eq (i:Int) (K:Nat→Res):natI i K=if 0≤i then K i.toNat else .fail:=by
 cases i with
 | ofNat a=>rw [if_pos (by simp)];rfl
 | negSucc a=>rw [if_neg (by simp [Int.negSucc_eq])];rfl
def iIa (sz:Nat) (a i:Opd):Run:=fun _ _ _ e nx h k=>asSl (ev a e) .fail fun b o n _ s=>chk (Nat.beq s sz) fun _=>
 asI (ev i e) .fail fun _ x=>natI x (iaAt sz e nx h k b o n)
def repN (K:List DV→Res):Res:=K []
def repZ (z:List DV) (n:Nat):(List DV→Res)→Res:=Nat.rec (motive:=fun _=>(List DV→Res)→Res) repN (fun _ ih K=>ih fun r=>catK z r K) n
def reps (z:List DV) (n:Nat):List DV:=(List.replicate n z).flatten
theorem repZ_eq (z:List DV) (n:Nat):∀ (K:List DV→Res),repZ z n K=K (reps z n):=by
 induction n with
 | zero=>intro K;rfl
 | succ n ih=>intro K;show repZ z n (fun r=>catK z r K)=_;rw [ih,catK_eq];rfl
def iMsl (sz bt:Nat) (z:List DV) (len cap:Opd):Run:=fun _ _ _ e nx h k=>
 asI (ev len e) .fail fun _ x=>natI x fun n=>asI (ev cap e) .fail fun _ y=>natI y fun c=>chk (Nat.ble n c) fun _=>
 chk (Nat.ble (Nat.mul bt c) (nat_lit 1073741824)) fun _=>repZ z c fun l=>forceN n fun n=>forceN c fun c=>newK l e nx h (fun b=>.sl b (nat_lit 0) n (some c) sz) k
def bdN (d:Nat) (_:Env) (_:Nat) (K:Nat→Res):Res:=K d
def bdS (o:Opd) (_:Nat) (e:Env) (y:Nat) (K:Nat→Res):Res:=asI (ev o e) .fail fun _ x=>natI x fun i=>chk (Nat.ble i y) fun _=>K i
def bd (o:Option Opd) (d:Nat) (e:Env) (y:Nat) (K:Nat→Res):Res:=Option.rec (motive:=fun _=>Nat→Env→Nat→(Nat→Res)→Res) bdN bdS o d e y K
def capN (n:Nat):Nat:=n
def capS (c _:Nat):Nat:=c
def capOf (c:Option Nat) (n:Nat):Nat:=Option.rec (motive:=fun _=>Nat→Nat) capN capS c n
def slEnd (e:Env) (nx:P) (h:Hp) (k:Kv) (b:P) (o sz l hi:Nat) (c:Option Nat):Res:=
 forceN (Nat.add o (Nat.mul l sz)) fun o=>forceN (Nat.sub hi l) fun n=>k e (.sl b o n c sz) nx h
def slSl (sz:Nat) (lo hi mx:Option Opd) (e:Env) (nx:P) (h:Hp) (k:Kv) (b:P) (o n:Nat) (cp:Option Nat) (s:Nat):Res:=
 chk (Nat.beq s sz) fun _=>
 Option.rec (motive:=fun _=>Res)
  (bd hi n e (capOf cp n) fun hi=>bd lo (nat_lit 0) e hi fun l=>
   Option.rec (motive:=fun _=>Res) (slEnd e nx h k b o sz l hi none) (fun c=>forceN (Nat.sub c l) fun c=>slEnd e nx h k b o sz l hi (some c)) cp)
  (fun m=>bd (some m) (nat_lit 0) e (capOf cp n) fun m=>bd hi n e m fun hi=>chk (Nat.ble hi m) fun _=>bd lo (nat_lit 0) e hi fun l=>
   forceN (Nat.sub m l) fun c=>slEnd e nx h k b o sz l hi (some c))
  mx
def iSla (sz:Nat) (x:Opd) (lo hi mx:Option Opd):Run:=fun _ _ _ e nx h k=>
 asSl (ev x e) (nilsK (ev x e) .fail fun _=>bd hi (nat_lit 0) e (nat_lit 0) fun _=>bd lo (nat_lit 0) e (nat_lit 0) fun _=>bd mx (nat_lit 0) e (nat_lit 0) fun _=>evK x e fun v=>k e v nx h) (slSl sz lo hi mx e nx h k)
def iEx (a:Opd) (i:Nat):Run:=fun _ _ _ e nx h k=>asT (ev a e) .fail fun l=>nthK l i .fail fun v=>fV v fun v=>k e v nx h
def bitsK (k:IntKind):Nat:=IntKind.rec (nat_lit 8) (nat_lit 16) (nat_lit 32) (nat_lit 64) (nat_lit 8) (nat_lit 16) (nat_lit 32) (nat_lit 64) k
theorem bitsK_eq (k:IntKind):bitsK k=k.bits:=by cases k<;>rfl
def ishr (x:Int) (n:Nat):Int:=Int.rec (motive:=fun _=>Int) (fun a=>.ofNat (Nat.div a (Nat.pow (nat_lit 2) n))) (fun a=>.negSucc (Nat.div a (Nat.pow (nat_lit 2) n))) x
theorem ishr_eq (x:Int) (n:Nat):ishr x n=x.fdiv (2 ^ n):=by
 have hp:0<2 ^ n:=Nat.pow_pos (by omega)
 cases x with
 | ofNat a=>
  show Int.ofNat (a / 2 ^ n)=_
  rw [Int.fdiv_eq_ediv_of_nonneg _ (by exact_mod_cast Nat.zero_le _)]
  simp
 | negSucc a=>
  show Int.negSucc (a / 2 ^ n)=_
  rw [Int.fdiv_eq_ediv_of_nonneg _ (by exact_mod_cast Nat.zero_le _)]
  rw [Int.negSucc_ediv _ (by exact_mod_cast hp)]
  rfl
def shrN (j:IntKind) (x:Int) (K:DV→Res) (n:Nat):Res:=chk (Nat.ble n (bitsK j)) fun _=>mkI2 j (ishr x n) K
def iShr (x y:Opd):Run:=fun _ _ _ e nx h k=>asI (ev x e) .fail fun j a=>asI (ev y e) .fail fun _ n=>natI n (shrN j a fun v=>k e v nx h)
def bindN (vs:List DV) (e:Env) (K:Env→Res):Res:=List.rec (motive:=fun _=>Res) (K e) (fun _ _ _=>.fail) vs
def bindC (p:P) (_:List P) (ih:List DV→Env→(Env→Res)→Res) (vs:List DV) (e:Env) (K:Env→Res):Res:=
 List.rec (motive:=fun _=>Res) .fail (fun v t _=>Tr.setK p e (some v) fun e=>ih t e K) vs
def bindK (ps:List P):List DV→Env→(Env→Res)→Res:=List.rec (motive:=fun _=>List DV→Env→(Env→Res)→Res) bindN bindC ps
def binds:List P→List DV→Env→Option Env
 | [],[],e=>some e
 | p::ps,v::vs,e=>binds ps vs (Tr.set p e (some v))
 | _,_,_=>none
theorem bindK_eq (ps:List P):∀ (vs:List DV) (e:Env) (K:Env→Res),bindK ps vs e K=match binds ps vs e with|some e=>K e|none=>.fail:=by
 induction ps with
 | nil=>intro vs e K;cases vs<;>rfl
 | cons p ps ih=>intro vs e K;cases vs with
  | nil=>rfl
  | cons v vs=>show Tr.setK p e (some v) (fun e=>bindK ps vs e K)=_;rw [Tr.setK_eq,ih];rfl
def rsT (p:P) (e:Env) (_:Hp) (K:DV→Res):Res:=oV (evT p e) K
def rsCN (p:P) (e:Env) (h:Hp) (K:DV→Res):Res:=readK (evT p e) e h .fail fun l o=>nthK l o .fail fun v=>fV v K
def rsCS (n:Nat) (p:P) (e:Env) (h:Hp) (K:DV→Res):Res:=readK (evT p e) e h .fail fun l o=>dropK o l .fail fun t=>takeK n t .fail fun r=>K (.agg r)
def rsC (p:P) (n:Option Nat):Env→Hp→(DV→Res)→Res:=Option.rec (motive:=fun _=>P→Env→Hp→(DV→Res)→Res) rsCN rsCS n p
def rs1 (r:Rs):Env→Hp→(DV→Res)→Res:=Rs.rec (motive:=fun _=>Env→Hp→(DV→Res)→Res) rsT rsC r
def rsLN (_:Env) (_:Hp) (K:List DV→Res):Res:=K []
def rsLC (r:Rs) (_:List Rs) (ih:Env→Hp→(List DV→Res)→Res) (e:Env) (h:Hp) (K:List DV→Res):Res:=rs1 r e h fun v=>ih e h fun vs=>K (v::vs)
def rsL (l:List Rs):Env→Hp→(List DV→Res)→Res:=List.rec (motive:=fun _=>Env→Hp→(List DV→Res)→Res) rsLN rsLC l
def oneK (vs:List DV) (K:DV→Res):Res:=List.rec (motive:=fun _=>Res) (K (.tup [])) (fun v t _=>List.rec (motive:=fun _=>Res) (K v) (fun w u _=>K (.tup (v::w::u))) t) vs
def one (vs:List DV):DV:=match vs with|[v]=>v|vs=>.tup vs
theorem oneK_eq (vs:List DV) (K:DV→Res):oneK vs K=K (one vs):=by
 cases vs with
 | nil=>rfl
 | cons v t=>cases t<;>rfl
def rs1v (r:Rs) (e:Env) (h:Hp):Option DV:=
 match r with
 | .t p=>some (outer (evT p e) ())
 | .cell p none=>match look (evT p e) e h with|some (l,o)=>l[o]?|none=>none
 | .cell p (some n)=>match look (evT p e) e h with|some (l,o)=>if o≤l.length∧n≤(l.drop o).length then some (.agg ((l.drop o).take n)) else none|none=>none
theorem rs1_eq (r:Rs) (e:Env) (h:Hp) (K:DV→Res):rs1 r e h K=match rs1v r e h with|some v=>K v|none=>.fail:=by
 cases r with
 | t p=>exact oV_eq _ _
 | cell p n=>
  cases n with
  | none=>
   show readK (evT p e) e h .fail (fun l o=>nthK l o .fail fun v=>fV v K)=_
   rw [readK_eq];simp only [rs1v]
   cases look (evT p e) e h with
   | none=>rfl
   | some x=>
    obtain ⟨l,o⟩:=x
    show nthK l o .fail (fun v=>fV v K)=_
    rw [nthK_eq];simp only [fV_eq]
    all_goals (show _=match l[o]? with|some v=>K v|none=>Res.fail)
    all_goals (cases l[o]?<;>rfl)
  | some n=>
   show readK (evT p e) e h .fail (fun l o=>dropK o l .fail fun t=>takeK n t .fail fun r=>K (.agg r))=_
   rw [readK_eq];simp only [rs1v]
   cases look (evT p e) e h with
   | none=>rfl
   | some x=>
    obtain ⟨l,o⟩:=x
    show dropK o l .fail (fun t=>takeK n t .fail fun r=>K (.agg r))=match (if o≤l.length∧n≤(l.drop o).length then some (DV.agg ((l.drop o).take n)) else none) with|some v=>K v|none=>Res.fail
    rw [dropK_eq]
    by_cases h1:o≤l.length
    ·rw [if_pos h1,takeK_eq]
     by_cases h2:n≤(l.drop o).length
     ·rw [if_pos h2,if_pos ⟨h1,h2⟩]
     ·rw [if_neg h2,if_neg (fun h=>h2 h.2)]
    ·rw [if_neg h1,if_neg (fun h=>h1 h.1)]
def rsv (e:Env) (h:Hp):List Rs→Option (List DV)
 | []=>some []
 | r::l=>match rs1v r e h with|some v=>(rsv e h l).map (v::·)|none=>none
theorem rsL_eq (l:List Rs):∀ (e:Env) (h:Hp) (K:List DV→Res),rsL l e h K=match rsv e h l with|some vs=>K vs|none=>.fail:=by
 induction l with
 | nil=>intro e h K;rfl
 | cons r l ih=>
  intro e h K
  show rs1 r e h (fun v=>rsL l e h fun vs=>K (v::vs))=_
  rw [rs1_eq];simp only [rsv,ih]
  cases rs1v r e h with
  | none=>rfl
  | some v=>
   show (match rsv e h l with|some vs=>K (v::vs)|none=>Res.fail)=match (rsv e h l).map (v::·) with|some vs=>K vs|none=>Res.fail
   cases rsv e h l<;>rfl
def retE (rs:List Rs) (e0:Env) (k:Kv) (e:Env) (nx:P) (h:Hp):Res:=rsL rs e h fun vs=>oneK vs fun v=>fV v fun v=>k e0 v nx h
def retO (rs:List Rs) (e0:Env) (k:Kv) (o:Out):Env→P→Hp→Res:=Out.rec (motive:=fun _=>Env→P→Hp→Res) (retE rs e0 k) (fun _ _ _ _=>.fail) (retE rs e0 k) o
def retR (r:Res) (rs:List Rs) (e0:Env) (k:Kv):Res:=Res.rec (motive:=fun _=>Res) .fail (retO rs e0 k) r
def callB (ih:Ih) (wm:Option P) (vs:List DV) (e0:Env) (nx:P) (h:Hp) (k:Kv) (ps:List P) (body:C) (rs:List Rs):Res:=
 bindK ps vs .nl fun e=>retR (ih body wm e nx h) rs e0 k
def insI (x:Int):List Int→List Int
 | []=>[x]
 | y::t=>match ilt y x with|true=>y::insI x t|false=>x::y::t
def sortI:List Int→List Int
 | []=>[]
 | x::l=>insI x (sortI l)
def intsOf:List DV→Option (List Int)
 | []=>some []
 | .int .i64 x::l=>match intsOf l with|some r=>some (x::r)|none=>none
 | _=>none
def mayB:Option P→P→Bool
 | none,_=>true
 | some m,k=>Nat.ble m.n k.n
def delZ:Nat→List DV
 | 0=>[]
 | n+1=>.int .i64 0::.nils::.bool false::delZ n
def primV:Nat→Option P→List DV→P→Hp→Option (DV × P × Hp)
 | 0,wm,[.sl b o n _ s],nx,h=>match Nat.beq s 1&&mayB wm b&&Nat.ble n 1000000,Tr.get? b h with
  | true,some (.cells l)=>(match Nat.ble (o+n) l.length,intsOf ((l.drop o).take n) with
   | true,some xs=>some (.tup [],nx,Tr.set b h (some (.cells (l.take o++(sortI xs).map (DV.int .i64)++l.drop (o+n)))))
   | _,_=>none)
  | _,_=>none
 | 0,_,[.nils],nx,h=>some (.tup [],nx,h)
 | 1,wm,[.sl b o n _ s,.int .i64 i,.int .i64 j],nx,h=>match Nat.beq s 3&&mayB wm b&&Nat.ble n 1000000&&(!ilt i 0&&ilt i j&&!ilt (Int.ofNat n) j),Tr.get? b h with
  | true,some (.cells l)=>(match Nat.ble (o+n*3) l.length with
   | true=>some (.sl b o (n-(j.toNat-i.toNat)) none 3,nx,Tr.set b h (some (.cells (l.take (o+i.toNat*3)++((l.drop (o+j.toNat*3)).take ((n-j.toNat)*3)++delZ (j.toNat-i.toNat))++l.drop (o+n*3)))))
   | false=>none)
  | _,_=>none
 | _,_,_,_,_=>none
def primO (e0:Env) (k:Kv):Option (DV × P × Hp)→Res
 | none=>.fail
 | some (v,nx,h)=>k e0 v nx h
def callP (wm:Option P) (vs:List DV) (e0:Env) (nx:P) (h:Hp) (k:Kv) (n:Nat):Res:=primO e0 k (primV n wm vs nx h)
def callF (ih:Ih) (wm:Option P) (vs:List DV) (e0:Env) (nx:P) (h:Hp) (k:Kv) (fd:Fd):Res:=Fd.rec (motive:=fun _=>Res) (callB ih wm vs e0 nx h k) (callP wm vs e0 nx h k) fd
def callK (F:Tr Fd) (ih:Ih) (wm:Option P) (f:P) (vs:List DV) (e0:Env) (nx:P) (h:Hp) (k:Kv):Res:=
 Option.rec (motive:=fun _=>Res) .fail (callF ih wm vs e0 nx h k) (Tr.get? f F)
def iCall (f:P) (as:List Opd):Run:=fun F ih wm e nx h k=>ovsK as e fun vs=>callK F ih wm f vs e nx h k
def iCallv (f:Opd) (as:List Opd):Run:=fun F ih wm e nx h k=>asF (ev f e) .fail fun f cs=>ovsK as e fun vs=>catK vs cs fun vs=>callK F ih wm f vs e nx h k
def lenOf (n:Nat) (e:Env) (nx:P) (h:Hp) (k:Kv):Res:=forceN n fun n=>k e (.int .i64 (.ofNat n)) nx h
def iLen (a:Opd):Run:=fun _ _ _ e nx h k=>asSl (ev a e) (nilsK (ev a e) .fail fun _=>lenOf (nat_lit 0) e nx h k) fun _ _ n _ _=>lenOf n e nx h k
def iCap (a:Opd):Run:=fun _ _ _ e nx h k=>asSl (ev a e) (nilsK (ev a e) .fail fun _=>lenOf (nat_lit 0) e nx h k) fun _ _ _ c _=>
 Option.rec (motive:=fun _=>Res) .fail (fun c=>lenOf c e nx h k) c
def slcK (h:Hp) (b:P) (o n sz:Nat) (K:List DV→Res):Res:=objK b h .fail fun l=>dropK o l .fail fun t=>takeK (Nat.mul n sz) t .fail K
def apNew (sz n m:Nat) (old new:List DV) (e:Env) (nx:P) (h:Hp) (k:Kv):Res:=
 catK old new fun l=>forceN (Nat.add n m) fun n=>newK l e nx h (fun b=>.sl b (nat_lit 0) n none sz) k
def apKill (sz:Nat) (e:Env) (nx:P) (h:Hp) (k:Kv) (wm:Option P) (b:P) (o n:Nat) (m:Nat) (new:List DV):Res:=
 wOk wm b .fail fun _=>ownK b h .fail fun l=>dropK o l .fail fun t=>takeK (Nat.mul n sz) t .fail fun old=>
  Tr.setK b h (some .dead) fun h=>apNew sz n m old new e nx h k
def apIn (sz:Nat) (e:Env) (nx:P) (h:Hp) (k:Kv) (wm:Option P) (b:P) (o n:Nat) (c m:Nat) (new:List DV):Res:=
 wOk wm b .fail fun _=>ownK b h .fail fun l=>sprK (Nat.add o (Nat.mul n sz)) l new .fail fun l=>Tr.setK b h (some (.cells l)) fun h=>
  forceN (Nat.add n m) fun n=>k e (.sl b o n (some c) sz) nx h
def apSl (sz bt:Nat) (e:Env) (nx:P) (h:Hp) (k:Kv) (wm:Option P) (m:Nat) (new:List DV) (b:P) (o n:Nat) (cp:Option Nat) (s:Nat):Res:=
 chk (Nat.beq s sz) fun _=>chk (Nat.ble (Nat.mul (Nat.add n m) bt) (nat_lit 35184372088832)) fun _=>
 Option.rec (motive:=fun _=>Res) (apKill sz e nx h k wm b o n m new)
  (fun c=>Bool.rec (motive:=fun _=>Res) (slcK h b o n sz fun old=>apNew sz n m old new e nx h k) (apIn sz e nx h k wm b o n c m new) (Nat.ble (Nat.add n m) c)) cp
def apX (sz bt:Nat) (s:DV) (e:Env) (nx:P) (h:Hp) (k:Kv) (wm:Option P) (m:Nat) (new:List DV):Res:=
 Bool.rec (motive:=fun _=>Res)
  (asSl s (nilsK s .fail fun _=>chk (Nat.ble (Nat.mul m bt) (nat_lit 35184372088832)) fun _=>apNew sz (nat_lit 0) m [] new e nx h k) (apSl sz bt e nx h k wm m new))
  (asSl s (nilsK s .fail fun _=>fV s fun v=>k e v nx h) fun _ _ _ _ _=>fV s fun v=>k e v nx h) (Nat.beq m (nat_lit 0))
def iApp (sz bt:Nat) (s x:Opd):Run:=fun _ _ wm e nx h k=>
 asSl (ev x e) (nilsK (ev x e) .fail fun _=>apX sz bt (ev s e) e nx h k wm (nat_lit 0) [])
  fun b o n _ s2=>chk (Nat.beq s2 sz) fun _=>slcK h b o n sz fun new=>apX sz bt (ev s e) e nx h k wm n new
def apzN (sz:Nat) (z:List DV) (n:Nat) (e:Env) (nx:P) (h:Hp) (k:Kv):Res:=repZ z n fun new=>apNew sz (nat_lit 0) n [] new e nx h k
def iApz (sz bt:Nat) (z:List DV) (s n:Opd):Run:=fun _ _ _ e nx h k=>nilsK (ev s e) .fail fun _=>asI (ev n e) .fail fun _ x=>natI x fun n=>chk (Nat.ble (Nat.mul n bt) (nat_lit 1073741824)) fun _=>
 Bool.rec (motive:=fun _=>Res) (apzN sz z n e nx h k) (k e .nils nx h) (Nat.beq n (nat_lit 0))
def mxB (k:IntKind) (x y:Int) (K:IntKind→Int→Res) (t:Bool):Res:=Bool.rec (motive:=fun _=>Res) (K k x) (K k y) t
def mxN (k:IntKind) (x:Int) (_:Env) (K:IntKind→Int→Res):Res:=K k x
def mxC (o:Opd) (_:List Opd) (ih:IntKind→Int→Env→(IntKind→Int→Res)→Res) (k:IntKind) (x:Int) (e:Env) (K:IntKind→Int→Res):Res:=
 asI (ev o e) .fail fun j y=>chk (sameK k j) fun _=>mxB k x y (fun k x=>ih k x e K) (ilt x y)
def mxK (l:List Opd):IntKind→Int→Env→(IntKind→Int→Res)→Res:=List.rec (motive:=fun _=>IntKind→Int→Env→(IntKind→Int→Res)→Res) mxN mxC l
def mnC (o:Opd) (_:List Opd) (ih:IntKind→Int→Env→(IntKind→Int→Res)→Res) (k:IntKind) (x:Int) (e:Env) (K:IntKind→Int→Res):Res:=
 asI (ev o e) .fail fun j y=>chk (sameK k j) fun _=>mxB k x y (fun k x=>ih k x e K) (ilt y x)
def mnK (l:List Opd):IntKind→Int→Env→(IntKind→Int→Res)→Res:=List.rec (motive:=fun _=>IntKind→Int→Env→(IntKind→Int→Res)→Res) mxN mnC l
def iMx (a:Opd) (l:List Opd):Run:=fun _ _ _ e nx h k=>asI (ev a e) .fail fun j x=>mxK l j x e fun j x=>k e (.int j x) nx h
def iMn (a:Opd) (l:List Opd):Run:=fun _ _ _ e nx h k=>asI (ev a e) .fail fun j x=>mnK l j x e fun j x=>k e (.int j x) nx h
def clrB (wm:Option P) (z:List DV) (e:Env) (nx:P) (h:Hp) (k:Kv) (b:P) (o n:Nat):Res:=
 wOk wm b .fail fun _=>ownK b h .fail fun l=>repZ z n fun c=>sprK o l c .fail fun l=>Tr.setK b h (some (.cells l)) fun h=>k e (.tup []) nx h
def iClr (sz:Nat) (z:List DV) (a:Opd):Run:=fun _ _ wm e nx h k=>
 asSl (ev a e) (nilsK (ev a e) .fail fun _=>k e (.tup []) nx h) fun b o n _ s=>chk (Nat.beq s sz) fun _=>chk (isLen z sz) fun _=>
  Bool.rec (motive:=fun _=>Res) (clrB wm z e nx h k b o n) (k e (.tup []) nx h) (Nat.beq n (nat_lit 0))
def iBad:Run:=fun _ _ _ _ _ _ _=>.fail
def insK (i:Ins):Run:=
 Ins.rec (motive:=fun _=>Run) iMv iPick iAl iBx iBld iBsl iLd iLda iSt iNc iBin iAeq iBeq iNil iNeg iNot iCv iMfn iFa iFi iFia iIa iMsl iSla iEx iCall iCallv iLen iCap iApp iMx iMn iApz iClr iShr iVla iBad i
abbrev Ko:=Env→P→Hp→Res
abbrev RunO:=Tr Fd→Ih→Option P→Env→P→Hp→Ko→Res
def dsN (_:DV) (e:Env) (K:Env→Res):Res:=K e
def dsS (d:P) (v:DV) (e:Env) (K:Env→Res):Res:=Tr.setK d e (some v) K
def opDst (dst:Option P):DV→Env→(Env→Res)→Res:=Option.rec (motive:=fun _=>DV→Env→(Env→Res)→Res) dsN dsS dst
def dstE (dst:Option P) (v:DV) (e:Env):Env:=match dst with|some d=>Tr.set d e (some v)|none=>e
theorem opDst_eq (dst:Option P) (v:DV) (e:Env) (K:Env→Res):opDst dst v e K=K (dstE dst v e):=by
 cases dst with
 | none=>rfl
 | some d=>exact Tr.setK_eq _ _ _ _
def opRun (dst:Option P) (i:Ins):RunO:=fun F ih wm e nx h k=>insK i F ih wm e nx h fun e v nx h=>opDst dst v e fun e=>k e nx h
def opSkip (dst:Option P) (e:Env) (nx:P) (h:Hp) (k:Ko):Res:=opDst dst (.tup []) e fun e=>k e nx h
def opGt (dst:Option P) (i:Ins) (F:Tr Fd) (ih:Ih) (wm:Option P) (e:Env) (nx:P) (h:Hp) (k:Ko) (b t:Bool):Res:=
 Bool.rec (motive:=fun _=>Res) (opSkip dst e nx h k) (opRun dst i F ih wm e nx h k) (beqB t b)
def opGn (dst:Option P) (e:Env) (nx:P) (h:Hp) (k:Ko) (l:List DV):Res:=List.rec (motive:=fun _=>Res) (opSkip dst e nx h k) (fun _ _ _=>.fail) l
def opG1 (dst:Option P) (i:Ins) (p:P) (b:Bool):RunO:=fun F ih wm e nx h k=>
 asB (evT p e) (asT (evT p e) .fail (opGn dst e nx h k)) (opGt dst i F ih wm e nx h k b)
def opGS (g:P × Bool) (dst:Option P) (i:Ins):RunO:=Prod.rec (motive:=fun _=>RunO) (fun p b=>opG1 dst i p b) g
def opMk (dst:Option P) (g:Option (P × Bool)) (i:Ins):RunO:=Option.rec (motive:=fun _=>Option P→Ins→RunO) opRun opGS g dst i
def nvN (K:Unit→Res):Res:=K ()
def nvS (v:DV) (K:Unit→Res):Res:=asV v (K ()) fun _=>.fail
def notVar (p:P) (e:Env) (K:Unit→Res):Res:=Option.rec (motive:=fun _=>(Unit→Res)→Res) nvN nvS (Tr.get? p e) K
def isVar (p:P) (e:Env):Prop:=∃ l,Tr.get? p e=some (.var l)
theorem notVar_eq (p:P) (e:Env) (K:Unit→Res):notVar p e K=(open Classical in if isVar p e then .fail else K ()):=by
 unfold notVar isVar
 cases Tr.get? p e with
 | none=>rw [if_neg (fun ⟨_,h⟩=>nomatch h)];rfl
 | some v=>
  show asV v (K ()) (fun _=>.fail)=_
  rw [asV_eq]
  cases v<;>first|(rw [if_pos ⟨_,rfl⟩])|(rw [if_neg (fun ⟨_,h⟩=>nomatch h)])
def opLoc (p:P) (z:List DV):RunO:=fun _ _ _ e nx h k=>notVar p e fun _=>Tr.setK p e (some (.var z)) fun e=>k e nx h
def opLocb (p:P) (a:Opd):RunO:=fun _ _ _ e nx h k=>notVar p e fun _=>ovK a e fun v=>cellsK v .fail fun l=>Tr.setK p e (some (.var l)) fun e=>k e nx h
def opK (o:Op):RunO:=Op.rec (motive:=fun _=>RunO) opMk opLoc opLocb o
def opsN:RunO:=fun _ _ _ e nx h k=>k e nx h
def opsC (o:Op) (_:List Op) (ihl:RunO):RunO:=fun F ih wm e nx h k=>opK o F ih wm e nx h fun e nx h=>ihl F ih wm e nx h k
def opsK (l:List Op):RunO:=List.rec (motive:=fun _=>RunO) opsN opsC l
def bare (v:DV) (K:DV→Res):Res:=asV v (K v) fun _=>K (.var [])
def bareV:DV→DV | .var _=>.var []|v=>v
theorem bare_eq (v:DV) (K:DV→Res):bare v K=K (bareV v):=by unfold bare;rw [asV_eq];cases v<;>rfl
def lookN (_:P) (K:Unit→Res) (_:DV→Res):Res:=K ()
def lookS (v:DV) (_:P) (_:Unit→Res) (L:DV→Res):Res:=L v
def lookU (p:P) (e:Env) (K:Unit→Res) (L:DV→Res):Res:=Option.rec (motive:=fun _=>P→(Unit→Res)→(DV→Res)→Res) lookN lookS (Tr.get? p e) p K L
theorem lookU_eq (p:P) (e:Env) (K:Unit→Res) (L:DV→Res):lookU p e K L=match Tr.get? p e with|some v=>L v|none=>K ():=by
 unfold lookU;cases Tr.get? p e<;>rfl
def useN (_:Env) (acc:Env) (K:Env→Res):Res:=K acc
def useV2 (p:P) (c:Bool) (ih:Env→Env→(Env→Res)→Res) (e acc:Env) (K:Env→Res) (v:DV):Res:=
 asFl v (Bool.rec (motive:=fun _=>Res) (bare v fun v=>Tr.setK p acc (some v) fun acc=>ih e acc K) (Tr.setK p acc (some v) fun acc=>ih e acc K) c)
  fun q _=>varK q acc (ih e acc K) fun _=>Tr.setK p acc (some v) fun acc=>ih e acc K
def useC (c:Bool) (p:P) (_:List P) (ih:Env→Env→(Env→Res)→Res) (e acc:Env) (K:Env→Res):Res:=
 lookU p e (fun _=>ih e acc K) (useV2 p c ih e acc K)
def useK (c:Bool) (l:List P):Env→Env→(Env→Res)→Res:=List.rec (motive:=fun _=>Env→Env→(Env→Res)→Res) useN (useC c) l
def useP (c:Bool) (p:P) (e acc:Env):Env:=
 match Tr.get? p e with
 | none=>acc
 | some (.fld q o)=>match Tr.get? q acc with|some (.var _)=>Tr.set p acc (some (.fld q o))|_=>acc
 | some v=>Tr.set p acc (some (match c with|true=>v|false=>bareV v))
def use (c:Bool) (e:Env):List P→Env→Env
 | [],acc=>acc
 | p::l,acc=>use c e l (useP c p e acc)
theorem useK_eq (c:Bool) (l:List P):∀ (e acc:Env) (K:Env→Res),useK c l e acc K=K (use c e l acc):=by
 induction l with
 | nil=>intro e acc K;rfl
 | cons p l ih=>
  intro e acc K
  show lookU p e (fun _=>useK c l e acc K) (useV2 p c (useK c l) e acc K)=_
  rw [lookU_eq];simp only [use,useP]
  cases Tr.get? p e with
  | none=>exact ih _ _ _
  | some v=>
   show asFl v (Bool.rec (motive:=fun _=>Res) (bare v fun v=>Tr.setK p acc (some v) fun acc=>useK c l e acc K) (Tr.setK p acc (some v) fun acc=>useK c l e acc K) c)
    (fun q _=>varK q acc (useK c l e acc K) fun _=>Tr.setK p acc (some v) fun acc=>useK c l e acc K)=_
   rw [asFl_eq]
   cases v
   case fld q o=>
    show varK q acc (useK c l e acc K) (fun _=>Tr.setK p acc (some (.fld q o)) fun acc=>useK c l e acc K)=_
    rw [varK_eq,Tr.setK_eq,ih]
    simp only [ih]
    cases Tr.get? q acc with
    | none=>rfl
    | some w=>cases w<;>rfl
   all_goals
    cases c
    ·show bare _ (fun v=>Tr.setK p acc (some v) fun acc=>useK false l e acc K)=_
     rw [bare_eq,Tr.setK_eq,ih]
    ·show Tr.setK p acc (some _) (fun acc=>useK true l e acc K)=_
     rw [Tr.setK_eq,ih]
def bkN' (_ e:Env) (K:Env→Res):Res:=K e
def bkC' (p:P) (_:List P) (ih:Env→Env→(Env→Res)→Res) (r e:Env) (K:Env→Res):Res:=lookU p r (fun _=>ih r e K) fun v=>Tr.setK p e (some v) fun e=>ih r e K
def backK (l:List P):Env→Env→(Env→Res)→Res:=List.rec (motive:=fun _=>Env→Env→(Env→Res)→Res) bkN' bkC' l
def backP (p:P) (r e:Env):Env:=match Tr.get? p r with|some v=>Tr.set p e (some v)|none=>e
def back (r:Env):List P→Env→Env
 | [],e=>e
 | p::l,e=>back r l (backP p r e)
theorem backK_eq (l:List P):∀ (r e:Env) (K:Env→Res),backK l r e K=K (back r l e):=by
 induction l with
 | nil=>intro r e K;rfl
 | cons p l ih=>
  intro r e K
  show lookU p r (fun _=>backK l r e K) (fun v=>Tr.setK p e (some v) fun e=>backK l r e K)=_
  rw [lookU_eq];simp only [back,backP]
  cases Tr.get? p r with
  | none=>exact ih _ _ _
  | some v=>show Tr.setK p e (some v) (fun e=>backK l r e K)=_;rw [Tr.setK_eq,ih]
def wmOf (r:Bool) (nx:P) (wm:Option P):Option P:=Bool.rec (motive:=fun _=>Option P) wm (some nx) r
def dopD (c:Bool) (u b:List P) (r:Bool) (o:Op):RunO:=fun F ih wm e nx h k=>
 useK c u e .nl fun r0=>opK o F ih (wmOf r nx wm) r0 nx h fun r1 nx h=>backK b r1 e fun e=>k e nx h
def dopK (d:Dop):RunO:=Dop.rec (motive:=fun _=>RunO) dopD d
def dopsC (d:Dop) (_:List Dop) (ihl:RunO):RunO:=fun F ih wm e nx h k=>dopK d F ih wm e nx h fun e nx h=>ihl F ih wm e nx h k
def dopsK (l:List Dop):RunO:=List.rec (motive:=fun _=>RunO) opsN dopsC l
abbrev RunC:=Tr Fd→Ih→Option P→Env→P→Hp→Res
def okN:Ko:=fun e nx h=>.ok .norm e nx h
def cSkip:RunC:=fun _ _ _ e nx h=>.ok .norm e nx h
def cReg (l:List Op):RunC:=fun F ih wm e nx h=>opsK l F ih wm e nx h okN
def cDrw (l:List Dop):RunC:=fun F ih wm e nx h=>dopsK l F ih wm e nx h okN
def sqN (b:RunC) (F:Tr Fd) (ih:Ih) (wm:Option P):Ko:=fun e nx h=>b F ih wm e nx h
def sqX (i:Nat) (_:RunC) (_:Tr Fd) (_:Ih) (_:Option P):Ko:=fun e nx h=>.ok (.exit i) e nx h
def sqR (_:RunC) (_:Tr Fd) (_:Ih) (_:Option P):Ko:=fun e nx h=>.ok .ret e nx h
def sqO (b:RunC) (F:Tr Fd) (ih:Ih) (wm:Option P) (o:Out):Ko:=Out.rec (motive:=fun _=>RunC→Tr Fd→Ih→Option P→Ko) sqN sqX sqR o b F ih wm
def cSeq (_ _:C) (a b:RunC):RunC:=fun F ih wm e nx h=>Res.rec (motive:=fun _=>Res) .fail (sqO b F ih wm) (a F ih wm e nx h)
def cdB (a b:RunC) (F:Tr Fd) (ih:Ih) (wm:Option P) (e:Env) (nx:P) (h:Hp) (t:Bool):Res:=Bool.rec (motive:=fun _=>Res) (b F ih wm e nx h) (a F ih wm e nx h) t
def cCond (c:Opd) (_ _:C) (a b:RunC):RunC:=fun F ih wm e nx h=>asB (ev c e) .fail (cdB a b F ih wm e nx h)
def bkX (i:Nat) (id:Nat):Ko:=fun e nx h=>Bool.rec (motive:=fun _=>Res) (.ok (.exit i) e nx h) (.ok .norm e nx h) (Nat.beq i id)
def bkN (_:Nat):Ko:=fun e nx h=>.ok .norm e nx h
def bkR (_:Nat):Ko:=fun e nx h=>.ok .ret e nx h
def bkO (id:Nat) (o:Out):Ko:=Out.rec (motive:=fun _=>Nat→Ko) bkN bkX bkR o id
def cBlock (id:Nat) (_:C) (a:RunC):RunC:=fun F ih wm e nx h=>Res.rec (motive:=fun _=>Res) .fail (bkO id) (a F ih wm e nx h)
def rsN' (_:Env) (acc:Env) (K:Env→Res):Res:=K acc
def rvS (p:P) (ih:Env→Env→(Env→Res)→Res) (e acc:Env) (K:Env→Res) (v:DV):Res:=
 asFl v (Tr.setK p acc (some v) fun acc=>ih e acc K) fun _ _=>ih e acc K
def rsC' (p:P) (_:List P) (ih:Env→Env→(Env→Res)→Res) (e acc:Env) (K:Env→Res):Res:=
 Option.rec (motive:=fun _=>Res) (ih e acc K) (rvS p ih e acc K) (Tr.get? p e)
def keepK (l:List P):Env→Env→(Env→Res)→Res:=List.rec (motive:=fun _=>Env→Env→(Env→Res)→Res) rsN' rsC' l
def keep (e:Env):List P→Env→Env
 | [],acc=>acc
 | p::l,acc=>match Tr.get? p e with
  | some (.fld _ _)=>keep e l acc
  | some v=>keep e l (Tr.set p acc (some v))
  | none=>keep e l acc
theorem keepK_eq (l:List P):∀ (e acc:Env) (K:Env→Res),keepK l e acc K=K (keep e l acc):=by
 induction l with
 | nil=>intro e acc K;rfl
 | cons p l ih=>
  intro e acc K
  show Option.rec (motive:=fun _=>Res) (keepK l e acc K) (rvS p (keepK l) e acc K) (Tr.get? p e)=_
  simp only [keep]
  cases Tr.get? p e with
  | none=>exact ih _ _ _
  | some v=>
   show asFl v (Tr.setK p acc (some v) fun acc=>keepK l e acc K) (fun _ _=>keepK l e acc K)=_
   rw [asFl_eq,Tr.setK_eq]
   cases v<;>exact ih _ _ _
def lpN (c:C) (F:Tr Fd) (ih:Ih) (wm:Option P):Ko:=fun e nx h=>ih c wm e nx h
def lpX (i:Nat) (_:C) (_:Tr Fd) (_:Ih) (_:Option P):Ko:=fun e nx h=>.ok (.exit i) e nx h
def lpR (_:C) (_:Tr Fd) (_:Ih) (_:Option P):Ko:=fun e nx h=>.ok .ret e nx h
def lpO (c:C) (F:Tr Fd) (ih:Ih) (wm:Option P) (o:Out):Ko:=Out.rec (motive:=fun _=>C→Tr Fd→Ih→Option P→Ko) lpN lpX lpR o c F ih wm
def cLoop (lv:List P) (c:C) (a:RunC):RunC:=fun F ih wm e nx h=>keepK lv e .nl fun e=>Res.rec (motive:=fun _=>Res) .fail (lpO (.loop lv c) F ih wm) (a F ih wm e nx h)
def cExit (id:Nat):RunC:=fun _ _ _ e nx h=>.ok (.exit id) e nx h
def cRet:RunC:=fun _ _ _ e nx h=>.ok .ret e nx h
def step (c:C):RunC:=C.rec (motive:=fun _=>RunC) cSkip cReg cDrw cSeq cCond cBlock cLoop cExit cRet c
def exec (F:Tr Fd) (fuel:Nat):Ih:=Nat.rec (motive:=fun _=>Ih) (fun _ _ _ _ _=>.fail) (fun _ ih c wm e nx h=>step c F ih wm e nx h) fuel
def okV:Kv:=fun e v nx h=>.ok .norm (.nd (some v) .nl .nl) nx h
def call (F:Tr Fd) (fuel:Nat) (f:P) (vs:List DV) (nx:P) (h:Hp):Res:=callK F (exec F fuel) none f vs .nl nx h okV
def told (r:Res):Option DV:=Res.rec none (fun _ e _ _=>Tr.get? .z e) r
inductive VV where
 | unk|bool (b:Bool)|int (k:IntKind) (n:Int)
 | nilp|nils|nilf|nili|nilm
 | fz (n:Nat) (c:Option Nat) (sz:Nat) (l:List VV)
 | fp (l:List VV) (o:Nat)
 | ow (k n sz:Nat)
 | pt (k m o:Nat)
 | os (k m o n sz:Nat)
 | fn (f:P) (cs:List VV)
 | ifc (t:Nat) (v:VV)
 | agg (l:List VV)|tup (l:List VV)
 | var (l:List VV)|fld (p:P) (o:Nat)
inductive VOb where|row (l:List VV)|obj (l:List VV)
def VOb.cells:VOb→List VV | .row l=>l | .obj l=>l
abbrev VEnv:=Tr VV
abbrev VHp:=List (Nat × VOb)
abbrev MM:=Nat × (Nat→Option (Nat × DV))
def hget:VHp→Nat→Option VOb
 | [],_=>none
 | (k,o)::t,i=>if i=k then some o else hget t i
def hset:VHp→Nat→VOb→VHp
 | [],_,_=>[]
 | (k,o)::t,i,x=>if i=k then (k,x)::t else (k,o)::hset t i x
def hdel:VHp→Nat→VHp
 | [],_=>[]
 | (k,o)::t,i=>if i=k then hdel t i else (k,o)::hdel t i
def hdels (h:VHp):List Nat→VHp
 | []=>h
 | k::t=>hdels (hdel h k) t
theorem hget_set_ne {h:VHp} {k i:Nat} {x:VOb} (hne:i≠k):hget (hset h k x) i=hget h i:=by
 induction h with
 | nil=>rfl
 | cons a t ih=>
  obtain ⟨j,o⟩:=a
  simp only [hset]
  by_cases hj:k=j
  ·subst hj;rw [if_pos rfl];simp only [hget,if_neg hne]
  ·rw [if_neg hj];simp only [hget,ih]
theorem hget_set_self {h:VHp} {k:Nat} {x o:VOb} (hk:hget h k=some o):hget (hset h k x) k=some x:=by
 induction h with
 | nil=>cases hk
 | cons a t ih=>
  obtain ⟨j,o'⟩:=a
  simp only [hget] at hk
  simp only [hset]
  by_cases hj:k=j
  ·subst hj;rw [if_pos rfl];simp only [hget,if_pos]
  ·rw [if_neg hj] at hk ⊢;simp only [hget,if_neg hj];exact ih hk
theorem hget_del {h:VHp} {k i:Nat}:hget (hdel h k) i=if i=k then none else hget h i:=by
 induction h with
 | nil=>simp [hdel,hget]
 | cons a t ih=>
  obtain ⟨j,o⟩:=a
  simp only [hdel]
  by_cases hj:k=j
  ·subst hj;rw [if_pos rfl,ih]
   by_cases hi:i=k
   ·rw [if_pos hi,if_pos hi]
   ·rw [if_neg hi,if_neg hi];simp only [hget,if_neg hi]
  ·rw [if_neg hj];simp only [hget,ih]
   by_cases hi:i=k
   ·subst hi;rw [if_pos rfl,if_pos rfl];rw [if_neg hj]
   ·rw [if_neg hi,if_neg hi]
theorem hget_dels {ks:List Nat}:∀ {h:VHp} {i:Nat},hget (hdels h ks) i=(open Classical in if i∈ks then none else hget h i):=by
 induction ks with
 | nil=>intro h i;simp [hdels]
 | cons k t ih=>
  intro h i
  simp only [hdels]
  rw [ih,hget_del]
  by_cases h1:i∈t
  ·rw [if_pos h1,if_pos (List.mem_cons_of_mem _ h1)]
  ·rw [if_neg h1]
   by_cases h2:i=k
   ·subst h2;rw [if_pos rfl,if_pos (List.mem_cons_self)]
   ·rw [if_neg h2,if_neg (by simp [h1,h2])]
theorem hget_append {h h':VHp} {i:Nat}:hget (h++h') i=match hget h i with|some o=>some o|none=>hget h' i:=by
 induction h with
 | nil=>rfl
 | cons a t ih=>
  obtain ⟨j,o⟩:=a
  simp only [List.cons_append,hget]
  by_cases hi:i=j
  ·rw [if_pos hi,if_pos hi]
  ·rw [if_neg hi,if_neg hi,ih]
noncomputable def objAt (k:P) (h:Hp):Option (List DV):=match Tr.get? k h with|some (.cells l)=>some l|some (.ro l)=>some l|_=>none
theorem objAt_of {k:P} {h h':Hp} (e:Tr.get? k h'=Tr.get? k h):objAt k h'=objAt k h:=by unfold objAt;rw [e]
def refAt:DV→Option (P × Nat)
 | .ptr k o=>some (k,o)
 | .sl k o _ _ _=>some (k,o)
 | _=>none
def plain:DV→Prop | .var _=>False | .fld _ _=>False|_=>True
def slV (d:DV):Prop:=d=.nils∨∃ k o n c s,d=.sl k o n c s
def ptV (d:DV):Prop:=∃ k o,d=.ptr k o
mutual
inductive XR (Z:P→Prop) (h:Hp):Option MM→VV→DV→Prop
 | unk {M:Option MM} {d:DV} (hd:plain d):XR Z h M .unk d
 | bool {M:Option MM} (b:Bool):XR Z h M (.bool b) (.bool b)
 | int {M:Option MM} (k:IntKind) (n:Int):XR Z h M (.int k n) (.int k n)
 | nilp {M:Option MM}:XR Z h M .nilp .nilp
 | nils {M:Option MM}:XR Z h M .nils .nils
 | nilf {M:Option MM}:XR Z h M .nilf .nilf
 | nili {M:Option MM}:XR Z h M .nili .nili
 | nilm {M:Option MM}:XR Z h M .nilm .nilm
 | fz0 {M:Option MM} {c:Option Nat} {sz:Nat} (hc:c=none∨c=some 0):XR Z h M (.fz 0 c sz []) .nils
 | fz {M:Option MM} {n:Nat} {c:Option Nat} {sz:Nat} {l:List VV} {k:P} {o:Nat} {c':Option Nat} {cells:List DV} (hn:l.length=n*sz) (hz:Z k) (hk:objAt k h=some cells)
  (ho:o+n*sz≤cells.length) (hl:XRs Z h none l ((cells.drop o).take (n*sz))) (hc:∀ x,c=some x→c'=some x) (hn':∀ x,c'=some x→n≤x):XR Z h M (.fz n c sz l) (.sl k o n c' sz)
 | fp {M:Option MM} {l:List VV} {k:P} {o i:Nat} {cells:List DV} (hz:Z k) (hk:objAt k h=some cells) (ho:o+l.length≤cells.length)
  (hl:XRs Z h none l ((cells.drop o).take l.length)):XR Z h M (.fp l i) (.ptr k (o+i))
 | ow {N:Nat} {f:Nat→Option (Nat × DV)} {k n sz:Nat} {d:DV} (hd:slV d) (hk:k<N)
  (hf:∀ m r,f k=some (m,r)→n*sz≤m∧(m=n*sz→d=r∧((r=.nils∧n=0)∨∃ b o c,r=.sl b o n c sz))):XR Z h (some (N,f)) (.ow k n sz) d
 | pt {N:Nat} {f:Nat→Option (Nat × DV)} {k m o:Nat} {d:DV} (hd:ptV d) (hk:k<N)
  (hf:∀ m' r,f k=some (m',r)→m≤m'∧(m'=m→∃ b o',refAt r=some (b,o')∧d=.ptr b (o'+o))):XR Z h (some (N,f)) (.pt k m o) d
 | os {N:Nat} {f:Nat→Option (Nat × DV)} {k m o n sz:Nat} {d:DV} (hd:slV d) (hk:k<N)
  (hf:∀ m' r,f k=some (m',r)→m≤m'∧(m'=m→(r=.nils∧d=.nils∧n=0)∨∃ b o' c,refAt r=some (b,o')∧d=.sl b (o'+o) n c sz)):XR Z h (some (N,f)) (.os k m o n sz) d
 | fn {M:Option MM} {f:P} {cs:List VV} {cs':List DV} (hl:XRs Z h M cs cs'):XR Z h M (.fn f cs) (.fn f cs')
 | ifc {M:Option MM} {t:Nat} {v:VV} {d:DV} (hv:XR Z h M v d):XR Z h M (.ifc t v) (.ifc t d)
 | agg {M:Option MM} {l:List VV} {l':List DV} (hl:XRs Z h M l l'):XR Z h M (.agg l) (.agg l')
 | tup {M:Option MM} {l:List VV} {l':List DV} (hl:XRs Z h M l l'):XR Z h M (.tup l) (.tup l')
 | var {M:Option MM} {l:List VV} {l':List DV} (hl:XRs Z h M l l'):XR Z h M (.var l) (.var l')
 | fld {M:Option MM} (p:P) (o:Nat):XR Z h M (.fld p o) (.fld p o)
inductive XRs (Z:P→Prop) (h:Hp):Option MM→List VV→List DV→Prop
 | nil {M:Option MM}:XRs Z h M [] []
 | cons {M:Option MM} {v:VV} {d:DV} {l:List VV} {l':List DV} (hv:XR Z h M v d) (hl:XRs Z h M l l'):XRs Z h M (v::l) (d::l')
end
def MLe:Option MM→Option MM→Prop
 | none,_=>True
 | some _,none=>False
 | some (N,f),some (N',f')=>N≤N'∧∀ k,k<N→∀ m' r',f' k=some (m',r')→∃ m r,f k=some (m,r)∧m≤m'∧(m=m'→r'=r)
theorem MLe.refl:∀ M:Option MM,MLe M M
 | none=>trivial
 | some (N,f)=>⟨Nat.le_refl _,fun k _ m r h=>⟨m,r,h,Nat.le_refl _,fun _=>rfl⟩⟩
theorem MLe.trans:∀ {M M' M'':Option MM},MLe M M'→MLe M' M''→MLe M M''
 | none,_,_,_,_=>trivial
 | some _,none,_,h,_=>h.elim
 | some _,some _,none,_,h=>h.elim
 | some (N,f),some (N',f'),some (N'',f''),⟨h1,h2⟩,⟨h3,h4⟩=>⟨Nat.le_trans h1 h3,fun k hk m r h=>by
  obtain ⟨m1,r1,e1,l1,q1⟩:=h4 k (Nat.lt_of_lt_of_le hk h1) m r h
  obtain ⟨m2,r2,e2,l2,q2⟩:=h2 k hk m1 r1 e1
  refine ⟨m2,r2,e2,Nat.le_trans l2 l1,fun e=>?_⟩
  have:m1=m:=by omega
  rw [q1 this,q2 (by omega)]⟩
section
variable {Z Z':P→Prop} {h h':Hp}
mutual
theorem XR.mono (hZ:∀ k,Z k→Z' k) (hh:∀ k,Z k→objAt k h'=objAt k h):∀ {M M':Option MM} {v:VV} {d:DV},MLe M M'→XR Z h M v d→XR Z' h' M' v d
 | _,_,_,_,_,.unk hd=>.unk hd
 | _,_,_,_,_,.bool b=>.bool b
 | _,_,_,_,_,.int k n=>.int k n
 | _,_,_,_,_,.nilp=>.nilp
 | _,_,_,_,_,.nils=>.nils
 | _,_,_,_,_,.nilf=>.nilf
 | _,_,_,_,_,.nili=>.nili
 | _,_,_,_,_,.nilm=>.nilm
 | _,_,_,_,_,.fz0 hc=>.fz0 hc
 | _,_,_,_,_,.fz hn hz hk ho hl hc hx=>.fz hn (hZ _ hz) ((hh _ hz).trans hk) ho (XRs.mono hZ hh (M:=none) (M':=none) trivial hl) hc hx
 | _,_,_,_,_,.fp hz hk ho hl=>.fp (hZ _ hz) ((hh _ hz).trans hk) ho (XRs.mono hZ hh (M:=none) (M':=none) trivial hl)
 | _,none,_,_,hM,.ow hd hk hf=>hM.elim
 | _,some (N',f'),_,_,hM,.ow hd hk hf=>.ow hd (Nat.lt_of_lt_of_le hk hM.1) fun m' r' e=>by
  obtain ⟨m,r,e1,l1,q1⟩:=hM.2 _ hk m' r' e
  obtain ⟨a1,a2⟩:=hf m r e1
  refine ⟨Nat.le_trans a1 l1,fun e2=>?_⟩
  have e3:m=m':=by omega
  rw [q1 e3];exact a2 (by omega)
 | _,none,_,_,hM,.pt hd hk hf=>hM.elim
 | _,some (N',f'),_,_,hM,.pt hd hk hf=>.pt hd (Nat.lt_of_lt_of_le hk hM.1) fun m' r' e=>by
  obtain ⟨m,r,e1,l1,q1⟩:=hM.2 _ hk m' r' e
  obtain ⟨a1,a2⟩:=hf m r e1
  refine ⟨Nat.le_trans a1 l1,fun e2=>?_⟩
  have e3:m=m':=by omega
  rw [q1 e3];exact a2 (by omega)
 | _,none,_,_,hM,.os hd hk hf=>hM.elim
 | _,some (N',f'),_,_,hM,.os hd hk hf=>.os hd (Nat.lt_of_lt_of_le hk hM.1) fun m' r' e=>by
  obtain ⟨m,r,e1,l1,q1⟩:=hM.2 _ hk m' r' e
  obtain ⟨a1,a2⟩:=hf m r e1
  refine ⟨Nat.le_trans a1 l1,fun e2=>?_⟩
  have e3:m=m':=by omega
  rw [q1 e3];exact a2 (by omega)
 | _,_,_,_,hM,.fn hl=>.fn (XRs.mono hZ hh hM hl)
 | _,_,_,_,hM,.ifc hv=>.ifc (XR.mono hZ hh hM hv)
 | _,_,_,_,hM,.agg hl=>.agg (XRs.mono hZ hh hM hl)
 | _,_,_,_,hM,.tup hl=>.tup (XRs.mono hZ hh hM hl)
 | _,_,_,_,hM,.var hl=>.var (XRs.mono hZ hh hM hl)
 | _,_,_,_,_,.fld p o=>.fld p o
theorem XRs.mono (hZ:∀ k,Z k→Z' k) (hh:∀ k,Z k→objAt k h'=objAt k h):∀ {M M':Option MM} {l:List VV} {l':List DV},MLe M M'→XRs Z h M l l'→XRs Z' h' M' l l'
 | _,_,_,_,_,.nil=>.nil
 | _,_,_,_,hM,.cons hv hl=>.cons (XR.mono hZ hh hM hv) (XRs.mono hZ hh hM hl)
end
end
section
variable {Z:P→Prop} {h:Hp} {M:Option MM}
theorem XRs.length:∀ {l:List VV} {l':List DV},XRs Z h M l l'→l.length=l'.length
 | _,_,.nil=>rfl
 | _,_,.cons _ t=>by simp [XRs.length t]
theorem XRs.get:∀ {l:List VV} {l':List DV},XRs Z h M l l'→∀ (i:Nat) (v:VV),l[i]?=some v→∃ d,l'[i]?=some d∧XR Z h M v d
 | _,_,.nil,i,v,e=>by simp at e
 | _,_,.cons hv t,i,v,e=>by
  cases i with
  | zero=>simp at e;subst e;exact ⟨_,rfl,hv⟩
  | succ i=>simpa using XRs.get t i v (by simpa using e)
theorem XRs.append:∀ {l:List VV} {l':List DV} {m:List VV} {m':List DV},XRs Z h M l l'→XRs Z h M m m'→XRs Z h M (l++m) (l'++m')
 | _,_,_,_,.nil,t=>t
 | _,_,_,_,.cons hv t,t'=>.cons hv (XRs.append t t')
theorem XRs.take:∀ {l:List VV} {l':List DV} (n:Nat),XRs Z h M l l'→XRs Z h M (l.take n) (l'.take n)
 | _,_,0,_=>by simpa using XRs.nil
 | _,_,n+1,.nil=>by simpa using XRs.nil
 | _,_,n+1,.cons hv t=>by simpa using XRs.cons hv (XRs.take n t)
theorem XRs.drop:∀ {l:List VV} {l':List DV} (n:Nat),XRs Z h M l l'→XRs Z h M (l.drop n) (l'.drop n)
 | _,_,0,t=>by simpa using t
 | _,_,n+1,.nil=>by simpa using XRs.nil
 | _,_,n+1,.cons _ t=>by simpa using XRs.drop n t
theorem XRs.reps {l:List VV} {l':List DV} (t:XRs Z h M l l'):∀ n:Nat,XRs Z h M ((List.replicate n l).flatten) ((List.replicate n l').flatten)
 | 0=>.nil
 | n+1=>by simpa [List.replicate_succ] using XRs.append t (XRs.reps t n)
theorem XR.plain {v:VV} {d:DV} (x:XR Z h M v d) (h1:∀ l,v≠.var l) (h2:∀ p o,v≠.fld p o):Dx.plain d:=by
 cases x
 case ow hk hd hf=>rcases hd with rfl|⟨k,o,n,c,s,rfl⟩<;>trivial
 case pt hk hd hf=>obtain ⟨k,o,rfl⟩:=hd;trivial
 case os hk hd hf=>rcases hd with rfl|⟨k,o,n,c,s,rfl⟩<;>trivial
 all_goals first|trivial|assumption|exact absurd rfl (h1 _)|exact absurd rfl (h2 _ _)
theorem XR.none_any {v:VV} {d:DV} (x:XR Z h none v d):XR Z h M v d:=XR.mono (M:=none) (fun _ h=>h) (fun _ _=>rfl) trivial x
theorem XRs.none_any {l:List VV} {l':List DV} (x:XRs Z h none l l'):XRs Z h M l l':=XRs.mono (M:=none) (fun _ h=>h) (fun _ _=>rfl) trivial x
end
mutual
def pureV:VV→Bool
 | .ow _ _ _=>false
 | .pt _ _ _=>false
 | .os _ _ _ _ _=>false
 | .var _=>false
 | .fld _ _=>false
 | .fn _ cs=>pureL cs
 | .ifc _ v=>pureV v
 | .agg l=>pureL l
 | .tup l=>pureL l
 | _=>true
def pureL:List VV→Bool
 | []=>true
 | v::l=>pureV v&&pureL l
end
def scal1:VV→Bool
 | .unk=>true | .bool _=>true | .int _ _=>true | .nilp=>true | .nils=>true | .nilf=>true | .nili=>true | .nilm=>true
 | _=>false
def scalL:List VV→Bool
 | []=>true
 | v::l=>scal1 v&&scalL l
def scal:VV→Bool
 | .tup l=>scalL l
 | v=>scal1 v
section
variable {Z Z':P→Prop} {h h':Hp} {M M':Option MM}
mutual
theorem XR.pure:∀ {M:Option MM} {v:VV} {d:DV},XR Z h M v d→pureV v=true→XR Z h none v d
 | _,_,_,.unk hd,_=>.unk hd
 | _,_,_,.bool b,_=>.bool b
 | _,_,_,.int k n,_=>.int k n
 | _,_,_,.nilp,_=>.nilp
 | _,_,_,.nils,_=>.nils
 | _,_,_,.nilf,_=>.nilf
 | _,_,_,.nili,_=>.nili
 | _,_,_,.nilm,_=>.nilm
 | _,_,_,.fz0 hc,_=>.fz0 hc
 | _,_,_,.fz hn hz hk ho hl hc hx,_=>.fz hn hz hk ho hl hc hx
 | _,_,_,.fp hz hk ho hl,_=>.fp hz hk ho hl
 | _,_,_,.ow hd hk hf,hp=>by simp [pureV] at hp
 | _,_,_,.pt hd hk hf,hp=>by simp [pureV] at hp
 | _,_,_,.os hd hk hf,hp=>by simp [pureV] at hp
 | _,_,_,.fn hl,hp=>.fn (XRs.pure hl (by simpa [pureV] using hp))
 | _,_,_,.ifc hv,hp=>.ifc (XR.pure hv (by simpa [pureV] using hp))
 | _,_,_,.agg hl,hp=>.agg (XRs.pure hl (by simpa [pureV] using hp))
 | _,_,_,.tup hl,hp=>.tup (XRs.pure hl (by simpa [pureV] using hp))
 | _,_,_,.var hl,hp=>by simp [pureV] at hp
 | _,_,_,.fld p o,hp=>by simp [pureV] at hp
theorem XRs.pure:∀ {M:Option MM} {l:List VV} {l':List DV},XRs Z h M l l'→pureL l=true→XRs Z h none l l'
 | _,_,_,.nil,_=>.nil
 | _,_,_,.cons hv hl,hp=>by
  simp only [pureL,Bool.and_eq_true] at hp
  exact .cons (XR.pure hv hp.1) (XRs.pure hl hp.2)
end
theorem XR.scal1 {v:VV} {d:DV} (x:XR Z h M v d) (hs:scal1 v=true):XR Z' h' M' v d:=by
 cases x<;>first|exact .unk ‹_›|exact .bool _|exact .int _ _|exact .nilp|exact .nils|exact .nilf|exact .nili|exact .nilm|exact absurd hs (by simp [Dx.scal1])
theorem XRs.scal:∀ {l:List VV} {l':List DV},XRs Z h M l l'→scalL l=true→XRs Z' h' M' l l'
 | _,_,.nil,_=>.nil
 | _,_,.cons hv hl,hs=>by
  simp only [scalL,Bool.and_eq_true] at hs
  exact .cons (XR.scal1 hv hs.1) (XRs.scal hl hs.2)
theorem XR.scal {v:VV} {d:DV} (x:XR Z h M v d) (hs:scal v=true):XR Z' h' M' v d:=by
 cases v<;>first|exact XR.scal1 x hs|skip
 case tup l=>cases x with|tup hl=>exact .tup (XRs.scal hl hs)
end
structure VSt where
 e:VEnv
 nx:Nat
 w:Nat
 h:VHp
structure Ctx where
 wm:Option P
 wm0:Option P
 n0:P
 h0:Hp
 Z0:P→Prop
 own0:P→Prop
structure DS where
 e:Env
 nx:P
 h:Hp
structure Gh where
 Z:P→Prop
 μ:Nat→Option DV
def mof (h:VHp) (μ:Nat→Option DV) (k:Nat):Option (Nat × DV):=
 match hget h k,μ k with
 | some o,some r=>some (o.cells.length,r)
 | _,_=>none
abbrev mm (nx:Nat) (h:VHp) (g:Gh):Option MM:=some (nx,mof h g.μ)
def VOb.m (o:VOb) (M:Option MM):Option MM:=match o with | .row _=>none | .obj _=>M
def Blk (Z:P→Prop) (h:Hp) (M:Option MM) (o:VOb) (r:DV):Prop:=
 (r=.nils∧o=.row []) ∨
 (∃ b q n cp sz cells,r=.sl b q n cp sz∧Tr.get? b h=some (.cells cells)∧o.cells.length=n*sz∧q+n*sz≤cells.length∧(∀ c,cp=some c→n≤c∧q+c*sz≤cells.length)∧
  XRs Z h (o.m M) o.cells ((cells.drop q).take o.cells.length)) ∨
 (∃ b q cells,r=.ptr b q∧Tr.get? b h=some (.cells cells)∧q+o.cells.length≤cells.length∧XRs Z h (o.m M) o.cells ((cells.drop q).take o.cells.length))
structure HpR (c:Ctx) (nx w:Nat) (h:VHp) (dnx:P) (dh:Hp) (g:Gh):Prop where
 blk:∀ k o,hget h k=some o→k<nx∧∃ r,g.μ k=some r∧Blk g.Z dh (mm nx h g) o r
 own:∀ k o r b q,hget h k=some o→g.μ k=some r→refAt r=some (b,q)→¬ g.Z b∧(c.n0.n≤b.n∨c.own0 b)∧(w≤k→∀ m,c.wm=some m→m.n≤b.n)
 inj:∀ k k' o o' r r' b q q',hget h k=some o→hget h k'=some o'→g.μ k=some r→g.μ k'=some r'→refAt r=some (b,q)→refAt r'=some (b,q')→k=k'
 zlt:∀ b,g.Z b→b.n<dnx.n
 zold:∀ b,g.Z b→c.Z0 b∨c.n0.n≤b.n∨c.own0 b
 top:∀ b:P,dnx.n≤b.n→Tr.get? b dh=none
 keep:∀ b:P,b.n<c.n0.n→¬ c.own0 b→Tr.get? b dh=Tr.get? b c.h0
 le:c.n0.n≤dnx.n
 wm:∀ m,c.wm=some m→m.n≤dnx.n
 wf:∀ m,c.wm0=some m→m.n≤c.n0.n∧∀ b,c.own0 b→m.n≤b.n
def EnvR (Z:P→Prop) (h:Hp) (M:Option MM) (e:VEnv) (d:Env):Prop:=
 ∀ p,match Tr.get? p e,Tr.get? p d with
  | none,none=>True
  | some v,some x=>XR Z h M v x
  | _,_=>False
structure RS (c:Ctx) (s:VSt) (d:DS) (g:Gh):Prop where
 env:EnvR g.Z d.h (mm s.nx s.h g) s.e d.e
 hp:HpR c s.nx s.w s.h d.nx d.h g
structure Evo (nx:Nat) (h:VHp) (dnx:P) (dh:Hp) (g:Gh) (nx':Nat) (h':VHp) (dnx':P) (dh':Hp) (g':Gh):Prop where
 m:MLe (mm nx h g) (mm nx' h' g')
 z:∀ b,g.Z b→g'.Z b
 o:∀ b,g.Z b→objAt b dh'=objAt b dh
 nx:dnx.n≤dnx'.n
theorem Evo.refl (nx:Nat) (h:VHp) (dnx:P) (dh:Hp) (g:Gh):Evo nx h dnx dh g nx h dnx dh g:=⟨MLe.refl _,fun _ h=>h,fun _ _=>rfl,Nat.le_refl _⟩
theorem Evo.trans {n1 n2 n3:Nat} {h1 h2 h3:VHp} {x1 x2 x3:P} {e1 e2 e3:Hp} {g1 g2 g3:Gh} (a:Evo n1 h1 x1 e1 g1 n2 h2 x2 e2 g2) (b:Evo n2 h2 x2 e2 g2 n3 h3 x3 e3 g3):Evo n1 h1 x1 e1 g1 n3 h3 x3 e3 g3:=
 ⟨a.m.trans b.m,fun k h=>b.z k (a.z k h),fun k h=>(b.o k (a.z k h)).trans (a.o k h),Nat.le_trans a.nx b.nx⟩
theorem Evo.xr {n1 n2:Nat} {h1 h2:VHp} {x1 x2:P} {e1 e2:Hp} {g1 g2:Gh} (a:Evo n1 h1 x1 e1 g1 n2 h2 x2 e2 g2) {v:VV} {d:DV} (x:XR g1.Z e1 (mm n1 h1 g1) v d):XR g2.Z e2 (mm n2 h2 g2) v d:=
 XR.mono a.z a.o a.m x
theorem Evo.xrs {n1 n2:Nat} {h1 h2:VHp} {x1 x2:P} {e1 e2:Hp} {g1 g2:Gh} (a:Evo n1 h1 x1 e1 g1 n2 h2 x2 e2 g2) {v:List VV} {d:List DV} (x:XRs g1.Z e1 (mm n1 h1 g1) v d):XRs g2.Z e2 (mm n2 h2 g2) v d:=
 XRs.mono a.z a.o a.m x
theorem Evo.env {n1 n2:Nat} {h1 h2:VHp} {x1 x2:P} {e1 e2:Hp} {g1 g2:Gh} (a:Evo n1 h1 x1 e1 g1 n2 h2 x2 e2 g2) {e:VEnv} {d:Env} (x:EnvR g1.Z e1 (mm n1 h1 g1) e d):EnvR g2.Z e2 (mm n2 h2 g2) e d:=by
 intro p
 have:=x p
 cases h1:Tr.get? p e<;>cases h2:Tr.get? p d<;>simp only [h1,h2] at this ⊢
 exact a.xr this
theorem EnvR.get {Z:P→Prop} {h:Hp} {M:Option MM} {e:VEnv} {d:Env} (x:EnvR Z h M e d) {p:P} {v:VV} (hp:Tr.get? p e=some v):∃ y,Tr.get? p d=some y∧XR Z h M v y:=by
 have:=x p
 rw [hp] at this
 cases h2:Tr.get? p d with
 | none=>rw [h2] at this;exact this.elim
 | some y=>rw [h2] at this;exact ⟨y,rfl,this⟩
theorem EnvR.get_none {Z:P→Prop} {h:Hp} {M:Option MM} {e:VEnv} {d:Env} (x:EnvR Z h M e d) {p:P} (hp:Tr.get? p e=none):Tr.get? p d=none:=by
 have:=x p
 rw [hp] at this
 cases h2:Tr.get? p d with
 | none=>rfl
 | some y=>rw [h2] at this;exact this.elim
theorem EnvR.set {Z:P→Prop} {h:Hp} {M:Option MM} {e:VEnv} {d:Env} (x:EnvR Z h M e d) {p:P} {v:VV} {y:DV} (hv:XR Z h M v y):EnvR Z h M (Tr.set p e (some v)) (Tr.set p d (some y)):=by
 intro q
 rw [Tr.get_set,Tr.get_set]
 by_cases hq:q=p
 ·rw [if_pos hq,if_pos hq];exact hv
 ·rw [if_neg hq,if_neg hq];exact x q
theorem EnvR.nl {Z:P→Prop} {h:Hp} {M:Option MM}:EnvR Z h M .nl .nl:=by
 intro p;rw [Tr.get_e,Tr.get_e];trivial
def vplace (v:VV) (p:P):VV:=match v with | .var _=>.fld p 0|v=>v
def vouter:VV→VV | .var _=>.unk | .fld _ _=>.unk|v=>v
def ofDV:DV→Option VV
 | .bool b=>some (.bool b)
 | .int k n=>some (.int k n)
 | .nilp=>some .nilp | .nils=>some .nils | .nilf=>some .nilf | .nili=>some .nili | .nilm=>some .nilm
 | .fn f []=>some (.fn f [])
 | _=>none
def ofDVs:List DV→Option (List VV)
 | []=>some []
 | d::l=>match ofDV d,ofDVs l with|some v,some r=>some (v::r)|_,_=>none
def vev (o:Opd) (e:VEnv):Option VV:=
 match o with
 | .t p=>match Tr.get? p e with|some v=>some (vplace v p)|none=>none
 | .c d=>ofDV d
def vov (o:Opd) (e:VEnv):Option VV:=match vev o e with|some v=>some (vouter v)|none=>none
def vovs:List Opd→VEnv→Option (List VV)
 | [],_=>some []
 | o::l,e=>match vov o e with|some v=>(match vovs l e with|some r=>some (v::r)|none=>none)|none=>none
def vcells:VV→Option (List VV) | .agg l=>some l | .unk=>none | .tup _=>none | .var _=>none | .fld _ _=>none|v=>some [v]
def spl (l:List VV) (o:Nat) (c:List VV):List VV:=l.take o++c++l.drop (o+c.length)
def vfills (e:VEnv):List (Nat × Nat × Opd)→List VV→Option (List VV)
 | [],z=>some z
 | (off,size,o)::ps,z=>
  match vov o e with
  | some v=>(match vcells v with
   | some l=>if l.length=size∧off+l.length≤z.length then vfills e ps (spl z off l) else none
   | none=>none)
  | none=>none
mutual
def vw (h:VHp):VV→Option VV
 | .ow k n sz=>match hget h k with|some (.row l)=>if l.length=n*sz then some (.fz n none sz l) else none|_=>none
 | .pt k m o=>match hget h k with
  | some (.row l)=>if l.length=m then some (.fp l o) else none
  | some (.obj l)=>if l.length=m∧pureL l=true then some (.fp l o) else none
  | none=>none
 | .os _ _ _ _ _=>none
 | .var _=>none
 | .fld _ _=>none
 | .fn f cs=>match vwL h cs with|some cs=>some (.fn f cs)|none=>none
 | .ifc t v=>match vw h v with|some v=>some (.ifc t v)|none=>none
 | .agg l=>match vwL h l with|some l=>some (.agg l)|none=>none
 | .tup l=>match vwL h l with|some l=>some (.tup l)|none=>none
 | .unk=>some .unk | .bool b=>some (.bool b) | .int k n=>some (.int k n) | .nilp=>some .nilp | .nils=>some .nils | .nilf=>some .nilf | .nili=>some .nili | .nilm=>some .nilm
 | .fz n c sz l=>some (.fz n c sz l)
 | .fp l o=>some (.fp l o)
def vwL (h:VHp):List VV→Option (List VV)
 | []=>some []
 | v::l=>match vw h v with|some v=>(match vwL h l with|some l=>some (v::l)|none=>none)|none=>none
end
mutual
def keysV:VV→List Nat
 | .ow k _ _=>[k]
 | .pt k _ _=>[k]
 | .os k _ _ _ _=>[k]
 | .fn _ cs=>keysL cs
 | .ifc _ v=>keysV v
 | .agg l=>keysL l
 | .tup l=>keysL l
 | .var l=>keysL l
 | _=>[]
def keysL:List VV→List Nat
 | []=>[]
 | v::l=>keysV v++keysL l
end
def CRun (F:Tr Fd) (f:P) (c:Ctx) (d:DS) (args:List DV) (d':DS) (v:DV):Prop:=
 d'.e=d.e∧∃ fuel,∀ n,fuel≤n→∀ (e0:Env) (k:Kv),callK F (exec F n) c.wm f args e0 d.nx d.h k=k e0 v d'.nx d'.h
def IRun (F:Tr Fd) (i:Ins) (c:Ctx) (d d':DS) (v:DV):Prop:=
 ∃ fuel,∀ n,fuel≤n→∀ k:Kv,insK i F (exec F n) c.wm d.e d.nx d.h k=k d'.e v d'.nx d'.h
def ORun (F:Tr Fd) (o:Op) (c:Ctx) (d d':DS):Prop:=
 ∃ fuel,∀ n,fuel≤n→∀ k:Ko,opK o F (exec F n) c.wm d.e d.nx d.h k=k d'.e d'.nx d'.h
def GRun (F:Tr Fd) (cd:C) (c:Ctx) (d d':DS) (o:Out):Prop:=
 ∃ fuel,∀ n,fuel≤n→step cd F (exec F n) c.wm d.e d.nx d.h=.ok o d'.e d'.nx d'.h
abbrev EvoS (s:VSt) (d:DS) (g:Gh) (s':VSt) (d':DS) (g':Gh):Prop:=Evo s.nx s.h d.nx d.h g s'.nx s'.h d'.nx d'.h g'
def wCall (F:Tr Fd) (f:P) (args:List VV) (s:VSt) (K:VSt→VV→Prop):Prop:=
 ∀ (c:Ctx) (d:DS) (g:Gh) (ds:List DV),RS c s d g→XRs g.Z d.h (mm s.nx s.h g) args ds→
  ∃ s' v d' x g',CRun F f c d ds d' x∧RS c s' d' g'∧s'.w=s.w∧XR g'.Z d'.h (mm s'.nx s'.h g') v x∧EvoS s d g s' d' g'∧K s' v
def CSem (F:Tr Fd) (cd:C) (s:VSt) (K:Out→VSt→Prop):Prop:=
 ∀ (c:Ctx) (d:DS) (g:Gh),c.wm=c.wm0→RS c s d g→∃ o s' d' g',GRun F cd c d d' o∧RS c s' d' g'∧s'.w=s.w∧EvoS s d g s' d' g'∧K o s'
def wLoop (F:Tr Fd) (lv:List P) (a:C) (s:VSt) (K:Out→VSt→Prop):Prop:=CSem F (.loop lv a) s K
def live (h:VHp) (k m:Nat):Option VOb:=match hget h k with|some o=>if o.cells.length=m then some o else none|none=>none
def wBin (b:Bo) (j:IntKind) (x y:Int) (K:VV→Prop):Prop:=
 match b with
 | .add=>K (.int j (j.wrap (x+y)))
 | .sub=>K (.int j (j.wrap (x-y)))
 | .mul=>K (.int j (j.wrap (x*y)))
 | .quo=>y≠0∧K (.int j (j.wrap (x.tdiv y)))
 | .rem=>y≠0∧K (.int j (x.tmod y))
 | .eq=>K (.bool (decide (x=y)))
 | .ne=>K (.bool (!decide (x=y)))
 | .lt=>K (.bool (decide (x<y)))
 | .le=>K (.bool (decide (x≤y)))
 | .gt=>K (.bool (decide (y<x)))
 | .ge=>K (.bool (decide (y≤x)))
def veqs:List Bool→List VV→List VV→Option Bool
 | [],[],[]=>some true
 | false::ks,.int j a::l,.int j' b::m=>if j=j' then (match veqs ks l m with|some t=>some (decide (a=b)&&t)|none=>none) else none
 | true::ks,.bool a::l,.bool b::m=>match veqs ks l m with|some t=>some ((a == b)&&t)|none=>none
 | _,_,_=>none
def vmx:List Opd→IntKind→Int→VEnv→Option Int
 | [],_,x,_=>some x
 | o::l,k,x,e=>match vev o e with|some (.int j y)=>if j=k then vmx l k (max x y) e else none|_=>none
def vmn:List Opd→IntKind→Int→VEnv→Option Int
 | [],_,x,_=>some x
 | o::l,k,x,e=>match vev o e with|some (.int j y)=>if j=k then vmn l k (min x y) e else none|_=>none
def vsrc (h:VHp) (sz:Nat):VV→Option (Nat × List VV)
 | .nils=>some (0,[])
 | .fz n _ sz' l=>if sz'=sz then some (n,l) else none
 | .ow k n sz'=>match live h k (n*sz') with|some (.row l)=>if sz'=sz then some (n,l) else none|_=>none
 | _=>none
def wBd (o:Option Opd) (d:Int) (e:VEnv) (K:Int→Prop):Prop:=
 match o with
 | none=>K d
 | some o=>match vev o e with|some (.int _ x)=>K x|_=>False
def reps' (z:List VV) (n:Nat):List VV:=(List.replicate n z).flatten
def vsub (l:List VV) (sz:Nat) (lo hi:Nat):List VV:=(l.drop (lo*sz)).take ((hi-lo)*sz)
def gSplit (t g:Bool) (A B:Prop):Prop:=(t=g→A)∧(t=!g→B)
def wI (F:Tr Fd) (i:Ins) (s:VSt) (K:VSt→VV→Prop):Prop:=
 match i with
 | .mv a=>match vev a s.e with|some v=>K s v|none=>False
 | .pick c a b=>match vev c s.e with
  | some (.bool t)=>gSplit t true (match vev a s.e with|some v=>K s v|none=>False) (match vev b s.e with|some v=>K s v|none=>False)
  | _=>False
 | .al z=>match ofDVs z with|some l=>K ⟨s.e,s.nx+1,s.w,(s.nx,.obj l)::s.h⟩ (.pt s.nx l.length 0)|none=>False
 | .bx a=>match vov a s.e with
  | some v=>(match vcells v with|some l=>K ⟨s.e,s.nx+1,s.w,(s.nx,.obj l)::s.h⟩ (.pt s.nx l.length 0)|none=>False)
  | none=>False
 | .bld z ps=>match ofDVs z with
  | some z=>(match vfills s.e ps z with|some l=>K s (.agg l)|none=>False)
  | none=>False
 | .bsl len sz z ps=>match ofDVs z with
  | some z=>(match vfills s.e ps z with
   | some l=>(match vwL s.h l with|some l'=>l.length=len*sz∧K ⟨s.e,s.nx+1,s.w,(s.nx,.row l')::hdels s.h (keysL l)⟩ (.ow s.nx len sz)|none=>False)
   | none=>False)
  | none=>False
 | .ld a=>match vev a s.e with
  | some (.fp l o)=>(match l[o]? with|some v=>K s v|none=>False)
  | some (.pt k m o)=>(match live s.h k m with|some ob=>(match ob.cells[o]? with|some v=>K s v|none=>False)|none=>False)
  | some (.fld p o)=>(match Tr.get? p s.e with|some (.var l)=>(match l[o]? with|some v=>K s v|none=>False)|_=>False)
  | _=>False
 | .lda n a=>match vev a s.e with
  | some (.fp l o)=>o+n≤l.length∧K s (.agg ((l.drop o).take n))
  | some (.pt k m o)=>(match live s.h k m with|some ob=>o+n≤ob.cells.length∧K s (.agg ((ob.cells.drop o).take n))|none=>False)
  | some (.fld p o)=>(match Tr.get? p s.e with|some (.var l)=>o+n≤l.length∧K s (.agg ((l.drop o).take n))|_=>False)
  | _=>False
 | .vla n a=>match vev a s.e with
  | some (.fld p o)=>(match Tr.get? p s.e with|some (.var l)=>o+n≤l.length∧K s (.agg ((l.drop o).take n))|_=>False)
  | _=>False
 | .st n a v=>match vov v s.e with
  | some x=>(match vcells x with
   | some c=>c.length=n∧(match vev a s.e with
    | some (.fld p o)=>(match Tr.get? p s.e with|some (.var l)=>o+c.length≤l.length∧K ⟨Tr.set p s.e (some (.var (spl l o c))),s.nx,s.w,s.h⟩ (.tup [])|_=>False)
    | some (.pt k m o)=>s.w≤k∧(match live s.h k m with
     | some (.obj l)=>o+c.length≤l.length∧K ⟨s.e,s.nx,s.w,hset s.h k (.obj (spl l o c))⟩ (.tup [])
     | some (.row l)=>o+c.length≤l.length∧pureL c=true∧K ⟨s.e,s.nx,s.w,hset s.h k (.row (spl l o c))⟩ (.tup [])
     | none=>False)
    | _=>False)
   | none=>False)
  | none=>False
 | .nc a=>match vev a s.e with
  | some (.fp l o)=>K s (.fp l o)
  | some (.pt k m o)=>(match live s.h k m with|some _=>K s (.pt k m o)|none=>False)
  | some (.fld p o)=>K s (.fld p o)
  | some (.fn f cs)=>K s (.fn f cs)
  | _=>False
 | .bin b x y=>match vev x s.e with
  | some (.int j a)=>(match vev y s.e with|some (.int j' c)=>j=j'∧wBin b j a c (K s)|_=>False)
  | _=>False
 | .aeq ks neg x y=>match vev x s.e with
  | some (.agg a)=>(match vev y s.e with|some (.agg b)=>(match veqs ks a b with|some t=>K s (.bool (neg != t))|none=>False)|_=>False)
  | _=>False
 | .beq neg x y=>match vev x s.e with
  | some (.bool a)=>(match vev y s.e with|some (.bool b)=>K s (.bool (neg != (a == b)))|_=>False)
  | _=>False
 | .isnil neg x=>match vev x s.e with
  | some .nils=>K s (.bool (neg != true))
  | some (.fz n _ _ _)=>∀ b:Bool,(b=true→n=0)→K s (.bool (neg != b))
  | some (.ow k n sz)=>(match live s.h k (n*sz) with|some o=>∀ b:Bool,(b=true→o.cells=[])→K s (.bool (neg != b))|none=>False)
  | _=>False
 | .neg a=>match vev a s.e with|some (.int j x)=>K s (.int j (j.wrap (-x)))|_=>False
 | .not a=>match vev a s.e with|some (.bool b)=>K s (.bool (!b))|_=>False
 | .cv k a=>match vev a s.e with|some (.int _ x)=>K s (.int k (k.wrap x))|_=>False
 | .mfn f cs=>match vovs cs s.e with|some vs=>K s (.fn f vs)|none=>False
 | .fa o a=>match vev a s.e with
  | some (.fp l i)=>K s (.fp l (i+o))
  | some (.pt k m i)=>(match live s.h k m with|some _=>K s (.pt k m (i+o))|none=>False)
  | some (.fld p i)=>K s (.fld p (i+o))
  | _=>False
 | .fi o a=>match vev a s.e with|some (.agg l)=>(match l[o]? with|some v=>K s v|none=>False)|_=>False
 | .fia o n a=>match vev a s.e with|some (.agg l)=>o+n≤l.length∧K s (.agg ((l.drop o).take n))|_=>False
 | .ia sz a i=>match vev a s.e with
  | some (.fz n _ sz' l)=>(match vev i s.e with|some (.int _ x)=>sz'=sz∧(0≤x∧x<n)∧K s (.fp l (x.toNat*sz))|_=>False)
  | some (.ow k n sz')=>(match vev i s.e with
   | some (.int _ x)=>sz'=sz∧0<sz∧(0≤x∧x<n)∧(match live s.h k (n*sz) with|some _=>K s (.pt k (n*sz) (x.toNat*sz))|none=>False)
   | _=>False)
  | some (.os k m o n sz')=>(match vev i s.e with
   | some (.int _ x)=>sz'=sz∧(0≤x∧x<n)∧(match live s.h k m with|some _=>K s (.pt k m (o+x.toNat*sz))|none=>False)
   | _=>False)
  | _=>False
 | .msl sz bt z len cap=>match ofDVs z with
  | some z=>(match vev len s.e with
   | some (.int _ x)=>(match vev cap s.e with
    | some (.int _ y)=>z.length=sz∧(0≤x∧x≤y∧bt*y≤1073741824)∧K ⟨s.e,s.nx+1,s.w,(s.nx,.row (reps' z x.toNat))::s.h⟩ (.ow s.nx x.toNat sz)
    | _=>False)
   | _=>False)
  | none=>False
 | .sla sz x lo hi mx=>match vev x s.e with
  | some .nils=>wBd hi 0 s.e fun b=>b=0∧wBd lo 0 s.e fun a=>a=0∧wBd mx 0 s.e fun m=>m=0∧K s .nils
  | some (.fz n _ sz' l)=>sz'=sz∧wBd hi n s.e fun b=>wBd lo 0 s.e fun a=>(match mx with
   | none=>(0≤a∧a≤b∧b≤n)∧K s (.fz (b.toNat-a.toNat) none sz (vsub l sz a.toNat b.toNat))
   | some m=>wBd (some m) 0 s.e fun m=>(0≤a∧a≤b∧b≤m∧m≤n)∧K s (.fz (b.toNat-a.toNat) (some (m.toNat-a.toNat)) sz (vsub l sz a.toNat b.toNat)))
  | some (.ow k n sz')=>sz'=sz∧mx=none∧s.w≤k∧(match live s.h k (n*sz) with
   | some (.row l)=>(match hi,lo with
    | none,some lo=>wBd (some lo) 0 s.e fun a=>(0≤a∧a≤n)∧K s (.os k (n*sz) (a.toNat*sz) (n-a.toNat) sz)
    | hi,lo=>wBd hi n s.e fun b=>wBd lo 0 s.e fun a=>(0≤a∧a≤b∧b≤n)∧K ⟨s.e,s.nx+1,s.w,(s.nx,.row (vsub l sz a.toNat b.toNat))::hdel s.h k⟩ (.ow s.nx (b.toNat-a.toNat) sz))
   | _=>False)
  | _=>False
 | .ex a i=>match vev a s.e with|some (.tup l)=>(match l[i]? with|some v=>K s v|none=>False)|_=>False
 | .call f as=>match vovs as s.e with|some args=>wCall F f args s K|none=>False
 | .callv f as=>match vev f s.e with
  | some (.fn f cs)=>(match vovs as s.e with|some args=>wCall F f (args++cs) s K|none=>False)
  | _=>False
 | .len a=>match vev a s.e with
  | some .nils=>K s (.int .i64 0)
  | some (.fz n _ _ _)=>K s (.int .i64 n)
  | some (.ow k n sz)=>0<sz∧(match live s.h k (n*sz) with|some _=>K s (.int .i64 n)|none=>False)
  | some (.os k m _ n _)=>(match live s.h k m with|some _=>K s (.int .i64 n)|none=>False)
  | _=>False
 | .cap a=>match vev a s.e with
  | some .nils=>K s (.int .i64 0)
  | some (.fz n (some c) _ _)=>K s (.int .i64 c)
  | _=>False
 | .app sz bt a x=>match vev x s.e with
  | some vx=>(match vsrc s.h sz vx with
   | some (m,new)=>(match vev a s.e with
    | some .nils=>(m*bt≤35184372088832∧new.length=m*sz)∧K ⟨s.e,s.nx+1,s.w,(s.nx,.row new)::s.h⟩ (.ow s.nx m sz)
    | some (.ow k n sz')=>sz'=sz∧0<sz∧s.w≤k∧((n+m)*bt≤35184372088832∧new.length=m*sz)∧(match live s.h k (n*sz) with
     | some (.row l)=>K ⟨s.e,s.nx,s.w,hset s.h k (.row (l++new))⟩ (.ow k (n+m) sz)
     | _=>False)
    | _=>False)
   | none=>False)
  | none=>False
 | .mx a l=>match vev a s.e with|some (.int j x)=>(match vmx l j x s.e with|some r=>K s (.int j r)|none=>False)|_=>False
 | .mn a l=>match vev a s.e with|some (.int j x)=>(match vmn l j x s.e with|some r=>K s (.int j r)|none=>False)|_=>False
 | .apz sz bt z a n=>match ofDVs z with
  | some z=>(match vev a s.e with
   | some .nils=>(match vev n s.e with
    | some (.int _ x)=>z.length=sz∧(0≤x∧x*bt≤1073741824)∧K ⟨s.e,s.nx+1,s.w,(s.nx,.row (reps' z x.toNat))::s.h⟩ (.ow s.nx x.toNat sz)
    | _=>False)
   | _=>False)
  | none=>False
 | .clr sz z a=>match ofDVs z with
  | some z=>(match vev a s.e with
   | some (.os k m o n sz')=>s.w≤k∧(match live s.h k m with
    | some (.row l)=>(z.length=sz∧sz'=sz)∧o+n*sz≤l.length∧pureL z=true∧K ⟨s.e,s.nx,s.w,hset s.h k (.row (spl l o (reps' z n)))⟩ (.tup [])
    | _=>False)
   | _=>False)
  | none=>False
 | .shr x y=>match vev x s.e with
  | some (.int j a)=>(match vev y s.e with|some (.int _ c)=>(0≤c∧c.toNat≤j.bits)∧K s (.int j (a.fdiv (2 ^ c.toNat)))|_=>False)
  | _=>False
 | .bad=>False
def vput (dst:Option P) (v:VV) (s:VSt):VSt:=match dst with|some d=>⟨Tr.set d s.e (some v),s.nx,s.w,s.h⟩|none=>s
def isVarV (p:P) (e:VEnv):Bool:=match Tr.get? p e with|some (.var _)=>true|_=>false
def wO (F:Tr Fd) (o:Op) (s:VSt) (K:VSt→Prop):Prop:=
 match o with
 | .mk dst none i=>wI F i s fun s' v=>K (vput dst v s')
 | .mk dst (some (p,b)) i=>match vev (.t p) s.e with
  | some (.bool t)=>gSplit t b (wI F i ⟨Tr.set p s.e (some (.bool b)),s.nx,s.w,s.h⟩ fun s' v=>K (vput dst v s')) (K (vput dst (.tup []) ⟨Tr.set p s.e (some (.bool !b)),s.nx,s.w,s.h⟩))
  | some (.tup [])=>K (vput dst (.tup []) s)
  | _=>False
 | .loc p z=>match ofDVs z with
  | some l=>isVarV p s.e=false∧K ⟨Tr.set p s.e (some (.var l)),s.nx,s.w,s.h⟩
  | none=>False
 | .locb p a=>match vov a s.e with
  | some v=>(match vcells v with|some l=>isVarV p s.e=false∧K ⟨Tr.set p s.e (some (.var l)),s.nx,s.w,s.h⟩|none=>False)
  | none=>False
def wOs (F:Tr Fd):List Op→VSt→(VSt→Prop)→Prop
 | [],s,K=>K s
 | o::l,s,K=>wO F o s fun s=>wOs F l s K
def vbare:VV→VV | .var _=>.var []|v=>v
def vuseP (c:Bool) (p:P) (e acc:VEnv):VEnv:=
 match Tr.get? p e with
 | none=>acc
 | some (.fld q o)=>(match Tr.get? q acc with|some (.var _)=>Tr.set p acc (some (.fld q o))|_=>acc)
 | some v=>Tr.set p acc (some (match c with|true=>v|false=>vbare v))
def vuse (c:Bool) (e:VEnv):List P→VEnv→VEnv
 | [],acc=>acc
 | p::l,acc=>vuse c e l (vuseP c p e acc)
def vbackP (p:P) (r e:VEnv):VEnv:=match Tr.get? p r with|some v=>Tr.set p e (some v)|none=>e
def vback (r:VEnv):List P→VEnv→VEnv
 | [],e=>e
 | p::l,e=>vback r l (vbackP p r e)
def wOf (r:Bool) (nx w:Nat):Nat:=match r with|true=>nx|false=>w
def wDr (F:Tr Fd) (x:Dop) (s:VSt) (K:VSt→Prop):Prop:=
 match x with
 | .mk c u b r o=>wO F o ⟨vuse c s.e u .nl,s.nx,wOf r s.nx s.w,s.h⟩ fun s1=>K ⟨vback s1.e b s.e,s1.nx,s.w,s1.h⟩
def wDg (F:Tr Fd) (x:Dop) (s:VSt) (p:P) (g:Bool) (K:VSt→Prop):Prop:=
 match vev (.t p) s.e with
 | some (.bool t)=>gSplit t g (wDr F x ⟨Tr.set p s.e (some (.bool g)),s.nx,s.w,s.h⟩ K) (wDr F x ⟨Tr.set p s.e (some (.bool !g)),s.nx,s.w,s.h⟩ K)
 | _=>wDr F x s K
def wD (F:Tr Fd) (x:Dop) (s:VSt) (K:VSt→Prop):Prop:=
 match x with
 | .mk _ _ _ _ (.mk _ (some (p,g)) _)=>wDg F x s p g K
 | x=>wDr F x s K
def wDs (F:Tr Fd):List Dop→VSt→(VSt→Prop)→Prop
 | [],s,K=>K s
 | o::l,s,K=>wD F o s fun s=>wDs F l s K
def vkeep (e:VEnv):List P→VEnv→VEnv
 | [],acc=>acc
 | p::l,acc=>match Tr.get? p e with
  | some (.fld _ _)=>vkeep e l acc
  | some v=>vkeep e l (Tr.set p acc (some v))
  | none=>vkeep e l acc
def wC (F:Tr Fd):C→VSt→(Out→VSt→Prop)→Prop
 | .skip,s,K=>K .norm s
 | .reg l,s,K=>wOs F l s (K .norm)
 | .drw l,s,K=>wDs F l s (K .norm)
 | .seq a b,s,K=>wC F a s fun o s'=>match o with | .norm=>wC F b s' K | .exit i=>K (.exit i) s' | .ret=>K .ret s'
 | .cond c a b,s,K=>match vev c s.e with|some (.bool t)=>gSplit t true (wC F a s K) (wC F b s K)|_=>False
 | .block id a,s,K=>wC F a s fun o s'=>match o with | .norm=>K .norm s' | .exit i=>if i=id then K .norm s' else K (.exit i) s' | .ret=>K .ret s'
 | .loop lv a,s,K=>wLoop F lv a s K
 | .exit id,s,K=>K (.exit id) s
 | .ret,s,K=>K .ret s
section
variable {Z:P→Prop} {h:Hp} {M:Option MM}
theorem evT_some {p:P} {e:Env} {y:DV} (hy:Tr.get? p e=some y):evT p e=place y p:=by
 unfold evT;rw [hy];rfl
theorem XR.place {v:VV} {y:DV} (x:XR Z h M v y) (p:P):XR Z h M (vplace v p) (Dx.place y p):=by
 rw [place_eq]
 cases x
 case var hl=>exact .fld p 0
 case unk hd=>cases y<;>first|exact .unk hd|exact hd.elim
 case ow hk hd hf=>rcases hd with rfl|⟨k,o,n,c,s,rfl⟩<;>exact .ow (by first|exact .inl rfl|exact .inr ⟨_,_,_,_,_,rfl⟩) hk hf
 case pt hk hd hf=>obtain ⟨k,o,rfl⟩:=hd;exact .pt ⟨_,_,rfl⟩ hk hf
 case os hk hd hf=>rcases hd with rfl|⟨k,o,n,c,s,rfl⟩<;>exact .os (by first|exact .inl rfl|exact .inr ⟨_,_,_,_,_,rfl⟩) hk hf
 all_goals first
  | exact .bool _|exact .int _ _|exact .nilp|exact .nils|exact .nilf|exact .nili|exact .nilm|exact .fz0 ‹_›|exact .fz ‹_› ‹_› ‹_› ‹_› ‹_› ‹_› ‹_›|exact .fp ‹_› ‹_› ‹_› ‹_›
  | exact .fn ‹_›|exact .ifc ‹_›|exact .agg ‹_›|exact .tup ‹_›|exact .fld _ _
theorem XR.outer {v:VV} {y:DV} (x:XR Z h M v y):XR Z h M (vouter v) (Dx.outer y ()):=by
 rw [outer_eq]
 cases x
 case var hl=>exact .unk trivial
 case fld p o=>exact .unk trivial
 case unk hd=>cases y<;>first|exact .unk hd|exact hd.elim
 case ow hk hd hf=>rcases hd with rfl|⟨k,o,n,c,s,rfl⟩<;>exact .ow (by first|exact .inl rfl|exact .inr ⟨_,_,_,_,_,rfl⟩) hk hf
 case pt hk hd hf=>obtain ⟨k,o,rfl⟩:=hd;exact .pt ⟨_,_,rfl⟩ hk hf
 case os hk hd hf=>rcases hd with rfl|⟨k,o,n,c,s,rfl⟩<;>exact .os (by first|exact .inl rfl|exact .inr ⟨_,_,_,_,_,rfl⟩) hk hf
 all_goals first
  | exact .bool _|exact .int _ _|exact .nilp|exact .nils|exact .nilf|exact .nili|exact .nilm|exact .fz0 ‹_›|exact .fz ‹_› ‹_› ‹_› ‹_› ‹_› ‹_› ‹_›|exact .fp ‹_› ‹_› ‹_› ‹_›
  | exact .fn ‹_›|exact .ifc ‹_›|exact .agg ‹_›|exact .tup ‹_›
theorem ofDV_sound {d:DV} {v:VV} (e:ofDV d=some v):XR Z h M v d:=by
 unfold ofDV at e
 split at e<;>first|cases e|(injection e with e;subst e)
 ·exact .bool _
 ·exact .int _ _
 ·exact .nilp
 ·exact .nils
 ·exact .nilf
 ·exact .nili
 ·exact .nilm
 ·exact .fn .nil
theorem ofDVs_sound:∀ {l:List DV} {r:List VV},ofDVs l=some r→XRs Z h M r l
 | [],r,e=>by simp only [ofDVs,Option.some.injEq] at e;subst e;exact .nil
 | d::l,r,e=>by
  simp only [ofDVs] at e
  cases h1:ofDV d<;>cases h2:ofDVs l<;>simp only [h1,h2,reduceCtorEq] at e
  injection e with e;subst e
  exact .cons (ofDV_sound h1) (ofDVs_sound h2)
theorem vev_sound {o:Opd} {e:VEnv} {d:Env} {v:VV} (x:EnvR Z h M e d) (hv:vev o e=some v):XR Z h M v (ev o d):=by
 cases o with
 | t p=>
  simp only [vev] at hv
  cases hp:Tr.get? p e with
  | none=>simp only [hp,reduceCtorEq] at hv
  | some u=>
   simp only [hp,Option.some.injEq] at hv;subst hv
   obtain ⟨y,hy,hx⟩:=x.get hp
   show XR Z h M _ (evT p d)
   rw [evT_some hy];exact hx.place p
 | c dv=>exact ofDV_sound hv
theorem vov_sound {o:Opd} {e:VEnv} {d:Env} {v:VV} (x:EnvR Z h M e d) (hv:vov o e=some v):XR Z h M v (ov o d):=by
 simp only [vov] at hv
 cases hp:vev o e with
 | none=>simp only [hp,reduceCtorEq] at hv
 | some u=>simp only [hp,Option.some.injEq] at hv;subst hv;exact (vev_sound x hp).outer
theorem vovs_sound {e:VEnv} {d:Env} (x:EnvR Z h M e d):∀ {l:List Opd} {r:List VV},vovs l e=some r→XRs Z h M r (l.map fun o=>ov o d)
 | [],r,hv=>by simp only [vovs,Option.some.injEq] at hv;subst hv;exact .nil
 | o::l,r,hv=>by
  simp only [vovs] at hv
  cases h1:vov o e with
  | none=>simp only [h1,reduceCtorEq] at hv
  | some v=>
   simp only [h1] at hv
   cases h2:vovs l e with
   | none=>simp only [h2,reduceCtorEq] at hv
   | some t=>simp only [h2,Option.some.injEq] at hv;subst hv;exact .cons (vov_sound x h1) (vovs_sound x h2)
theorem vcells_sound {v:VV} {d:DV} {l:List VV} (x:XR Z h M v d) (hl:vcells v=some l):∃ l',d.cells=some l'∧XRs Z h M l l':=by
 cases x<;>simp only [vcells,Option.some.injEq,reduceCtorEq] at hl<;>subst hl
 case agg l' hl'=>exact ⟨_,rfl,hl'⟩
 case ow hk hd hf=>rcases hd with rfl|⟨k,o,n,c,s,rfl⟩<;>exact ⟨_,rfl,.cons (.ow (by first|exact .inl rfl|exact .inr ⟨_,_,_,_,_,rfl⟩) hk hf) .nil⟩
 case pt hk hd hf=>obtain ⟨k,o,rfl⟩:=hd;exact ⟨_,rfl,.cons (.pt ⟨_,_,rfl⟩ hk hf) .nil⟩
 case os hk hd hf=>rcases hd with rfl|⟨k,o,n,c,s,rfl⟩<;>exact ⟨_,rfl,.cons (.os (by first|exact .inl rfl|exact .inr ⟨_,_,_,_,_,rfl⟩) hk hf) .nil⟩
 all_goals first
  | exact ⟨_,rfl,.cons (.bool _) .nil⟩|exact ⟨_,rfl,.cons (.int _ _) .nil⟩|exact ⟨_,rfl,.cons .nilp .nil⟩|exact ⟨_,rfl,.cons .nils .nil⟩|exact ⟨_,rfl,.cons .nilf .nil⟩|exact ⟨_,rfl,.cons .nili .nil⟩|exact ⟨_,rfl,.cons .nilm .nil⟩
  | exact ⟨_,rfl,.cons (.fz0 ‹_›) .nil⟩|exact ⟨_,rfl,.cons (.fz ‹_› ‹_› ‹_› ‹_› ‹_› ‹_› ‹_›) .nil⟩|exact ⟨_,rfl,.cons (.fp ‹_› ‹_› ‹_› ‹_›) .nil⟩
  | exact ⟨_,rfl,.cons (.fn ‹_›) .nil⟩|exact ⟨_,rfl,.cons (.ifc ‹_›) .nil⟩
theorem XRs.spl {l:List VV} {l':List DV} {c:List VV} {c':List DV} (a:XRs Z h M l l') (b:XRs Z h M c c') (o:Nat):XRs Z h M (Dx.spl l o c) (l'.take o++c'++l'.drop (o+c'.length)):=by
 unfold Dx.spl
 rw [←b.length]
 exact ((a.take o).append b).append (a.drop _)
theorem vfills_sound {e:VEnv} {d:Env} (x:EnvR Z h M e d):∀ {ps:List (Nat × Nat × Opd)} {z r:List VV} {z':List DV},XRs Z h M z z'→vfills e ps z=some r→∃ r',fills d ps z'=some r'∧XRs Z h M r r'
 | [],z,r,z',hz,hv=>by simp only [vfills,Option.some.injEq] at hv;subst hv;exact ⟨z',rfl,hz⟩
 | (off,size,o)::ps,z,r,z',hz,hv=>by
  simp only [vfills] at hv
  cases h1:vov o e with
  | none=>simp only [h1,reduceCtorEq] at hv
  | some v=>
   simp only [h1] at hv
   cases h2:vcells v with
   | none=>simp only [h2,reduceCtorEq] at hv
   | some l=>
    simp only [h2] at hv
    obtain ⟨l',h3,h4⟩:=vcells_sound (vov_sound x h1) h2
    by_cases hc:l.length=size∧off+l.length≤z.length
    ·rw [if_pos hc] at hv
     simp only [fills,h3]
     rw [if_pos (by rw [←h4.length,←hz.length];exact hc)]
     exact vfills_sound x (hz.spl h4 off) hv
    ·rw [if_neg hc] at hv;cases hv
theorem XR.fz_cells {n:Nat} {c:Option Nat} {sz:Nat} {l:List VV} {d:DV} (x:XR Z h M (.fz n c sz l) d):
 (d=.nils∧n=0∧l=[]∧(c=none∨c=some 0))∨∃ k o c' cells,d=.sl k o n c' sz∧l.length=n*sz∧Z k∧objAt k h=some cells∧o+n*sz≤cells.length∧XRs Z h none l ((cells.drop o).take (n*sz))∧(∀ x,c=some x→c'=some x)∧∀ x,c'=some x→n≤x:=by
 cases x with
 | fz0 hc=>exact .inl ⟨rfl,rfl,rfl,hc⟩
 | @fz _ _ _ _ _ k o c' cells hn hz hk ho hl hc hx=>exact .inr ⟨k,o,c',cells,rfl,hn,hz,hk,ho,hl,hc,hx⟩
end
def upd (μ:Nat→Option DV) (k:Nat) (r:DV):Nat→Option DV:=fun i=>if i=k then some r else μ i
theorem upd_self (μ:Nat→Option DV) (k:Nat) (r:DV):upd μ k r k=some r:=by simp [upd]
theorem upd_ne {μ:Nat→Option DV} {k i:Nat} {r:DV} (hi:i≠k):upd μ k r i=μ i:=by simp [upd,hi]
theorem mof_some {h:VHp} {μ:Nat→Option DV} {k m:Nat} {r:DV} (e:mof h μ k=some (m,r)):∃ o,hget h k=some o∧μ k=some r∧o.cells.length=m:=by
 unfold mof at e
 cases h1:hget h k<;>cases h2:μ k<;>simp only [h1,h2,reduceCtorEq] at e
 simp only [Option.some.injEq,Prod.mk.injEq] at e
 exact ⟨_,rfl,by rw [e.2],e.1⟩
theorem mof_eq {h:VHp} {μ:Nat→Option DV} {k:Nat} {o:VOb} {r:DV} (h1:hget h k=some o) (h2:μ k=some r):mof h μ k=some (o.cells.length,r):=by
 unfold mof;rw [h1,h2]
theorem live_some {h:VHp} {k m:Nat} {o:VOb} (e:live h k m=some o):hget h k=some o∧o.cells.length=m:=by
 unfold live at e
 cases h1:hget h k with
 | none=>simp only [h1,reduceCtorEq] at e
 | some o'=>
  simp only [h1] at e
  by_cases hm:o'.cells.length=m
  ·rw [if_pos hm] at e;cases e;exact ⟨rfl,hm⟩
  ·rw [if_neg hm] at e;cases e
theorem VOb.m_le {M M':Option MM} (h:MLe M M'):∀ o:VOb,MLe (o.m M) (o.m M')
 | .row _=>trivial
 | .obj _=>h
theorem Blk.mono {Z Z':P→Prop} {h h':Hp} {M M':Option MM} {o:VOb} {r:DV} (hZ:∀ k,Z k→Z' k) (hh:∀ k,Z k→objAt k h'=objAt k h) (hM:MLe M M')
 (hr:∀ b q,refAt r=some (b,q)→Tr.get? b h'=Tr.get? b h) (B:Blk Z h M o r):Blk Z' h' M' o r:=by
 rcases B with ⟨rfl,rfl⟩|⟨b,q,n,cp,sz,cells,rfl,h1,h2,h3,h4,h5⟩|⟨b,q,cells,rfl,h1,h3,h5⟩
 ·exact .inl ⟨rfl,rfl⟩
 ·exact .inr (.inl ⟨b,q,n,cp,sz,cells,rfl,(hr b q rfl).trans h1,h2,h3,h4,XRs.mono hZ hh (o.m_le hM) h5⟩)
 ·exact .inr (.inr ⟨b,q,cells,rfl,(hr b q rfl).trans h1,h3,XRs.mono hZ hh (o.m_le hM) h5⟩)
theorem Blk.read {Z:P→Prop} {h:Hp} {M:Option MM} {o:VOb} {r:DV} (B:Blk Z h M o r) {b:P} {q:Nat} (hr:refAt r=some (b,q)):
 ∃ cells,Tr.get? b h=some (.cells cells)∧q+o.cells.length≤cells.length∧XRs Z h (o.m M) o.cells ((cells.drop q).take o.cells.length):=by
 rcases B with ⟨rfl,rfl⟩|⟨b,q,n,cp,sz,cells,rfl,h1,h2,h3,h4,h5⟩|⟨b,q,cells,rfl,h1,h3,h5⟩
 ·cases hr
 ·cases hr;exact ⟨cells,h1,by omega,h5⟩
 ·cases hr;exact ⟨cells,h1,h3,h5⟩
theorem VOb.m_any {Z:P→Prop} {h:Hp} {M:Option MM} {l:List VV} {l':List DV}:∀ {o:VOb},XRs Z h (o.m M) l l'→XRs Z h M l l'
 | .row _,x=>x.none_any
 | .obj _,x=>x
section
variable {c:Ctx} {nx w:Nat} {vh:VHp} {dnx:P} {dh:Hp} {g:Gh}
theorem HpR.lt (R:HpR c nx w vh dnx dh g) {k:Nat} {o:VOb} {r:DV} {b:P} {q:Nat} (hk:hget vh k=some o) (hr:g.μ k=some r) (hb:refAt r=some (b,q)):b.n<dnx.n:=by
 obtain ⟨_,r',e,B⟩:=R.blk k o hk
 rw [hr] at e;cases e
 obtain ⟨cells,h1,_⟩:=B.read hb
 rcases Nat.lt_or_ge b.n dnx.n with hlt|hge
 ·exact hlt
 ·rw [R.top b hge] at h1;cases h1
theorem P.ne_of_lt {a b:P} (h:a.n<b.n):a≠b:=by rintro rfl;omega
theorem get_new {a:P} (x:Option Ob) (h:a.n<dnx.n):Tr.get? a (Tr.set dnx dh x)=Tr.get? a dh:=Tr.get_set_ne (P.ne_of_lt h) _ _
theorem HpR.alloc (R:HpR c nx w vh dnx dh g) {cells:List DV} {ob:VOb} {r:DV} {q:Nat} (hr:refAt r=some (dnx,q))
 (hB:Blk g.Z (Tr.set dnx dh (some (.cells cells))) (mm (nx+1) ((nx,ob)::vh) ⟨g.Z,upd g.μ nx r⟩) ob r):
 HpR c (nx+1) w ((nx,ob)::vh) dnx.suc (Tr.set dnx dh (some (.cells cells))) ⟨g.Z,upd g.μ nx r⟩∧Evo nx vh dnx dh g (nx+1) ((nx,ob)::vh) dnx.suc (Tr.set dnx dh (some (.cells cells))) ⟨g.Z,upd g.μ nx r⟩:=by
 have hm:MLe (mm nx vh g) (mm (nx+1) ((nx,ob)::vh) ⟨g.Z,upd g.μ nx r⟩):=by
  refine ⟨by omega,fun k hk m' r' e=>?_⟩
  obtain ⟨o,h1,h2,h3⟩:=mof_some e
  simp only [hget,if_neg (show k≠nx by omega)] at h1
  simp only [upd_ne (show k≠nx by omega)] at h2
  exact ⟨m',r',by rw [mof_eq h1 h2,h3],Nat.le_refl _,fun _=>rfl⟩
 have ho:∀ b,g.Z b→objAt b (Tr.set dnx dh (some (.cells cells)))=objAt b dh:=fun b hb=>objAt_of (get_new _ (R.zlt b hb))
 refine ⟨?_,⟨hm,fun _ h=>h,ho,by rw [P.n_suc];omega⟩⟩
 have old:∀ k o,hget ((nx,ob)::vh) k=some o→k≠nx→hget vh k=some o∧k<nx:=by
  intro k o hk hne
  simp only [hget,if_neg hne] at hk
  exact ⟨hk,(R.blk k o hk).1⟩
 constructor
 ·intro k o hk
  by_cases hne:k=nx
  ·subst hne
   simp only [hget,if_pos] at hk
   cases hk
   exact ⟨by omega,r,upd_self _ _ _,hB⟩
  ·obtain ⟨hk',hlt⟩:=old k o hk hne
   obtain ⟨_,r1,e1,B1⟩:=R.blk k o hk'
   refine ⟨by omega,r1,(upd_ne hne).trans e1,B1.mono (fun _ h=>h) ho hm fun b q hb=>get_new _ (R.lt hk' e1 hb)⟩
 ·intro k o r1 b q1 hk hr1 hb
  by_cases hne:k=nx
  ·subst hne
   simp only [upd_self] at hr1;cases hr1
   rw [hr] at hb;cases hb
   refine ⟨fun hz=>?_,.inl R.le,fun _ m hm=>R.wm m hm⟩
   have:=R.zlt _ hz;omega
  ·obtain ⟨hk',hlt⟩:=old k o hk hne
   simp only [upd_ne hne] at hr1
   exact R.own k o r1 b q1 hk' hr1 hb
 ·intro k k' o o' r1 r2 b q1 q2 hk hk' hr1 hr2 hb hb'
  by_cases hne:k=nx
  ·by_cases hne':k'=nx
   ·rw [hne,hne']
   ·obtain ⟨hk2,_⟩:=old k' o' hk' hne'
    subst hne
    simp only [upd_self] at hr1;cases hr1
    rw [hr] at hb;cases hb
    simp only [upd_ne hne'] at hr2
    have:=R.lt hk2 hr2 hb';omega
  ·obtain ⟨hk1,_⟩:=old k o hk hne
   by_cases hne':k'=nx
   ·subst hne'
    simp only [upd_self] at hr2;cases hr2
    rw [hr] at hb';cases hb'
    simp only [upd_ne hne] at hr1
    have:=R.lt hk1 hr1 hb;omega
   ·obtain ⟨hk2,_⟩:=old k' o' hk' hne'
    simp only [upd_ne hne] at hr1;simp only [upd_ne hne'] at hr2
    exact R.inj k k' o o' r1 r2 b q1 q2 hk1 hk2 hr1 hr2 hb hb'
 ·intro b hb;rw [P.n_suc];have:=R.zlt b hb;omega
 ·exact R.zold
 ·intro b hb
  rw [P.n_suc] at hb
  rw [Tr.get_set_ne (by rintro rfl;omega)];exact R.top b (by omega)
 ·intro b hb hn
  rw [get_new _ (Nat.lt_of_lt_of_le hb R.le)];exact R.keep b hb hn
 ·rw [P.n_suc];have:=R.le;omega
 ·intro m hm;rw [P.n_suc];have:=R.wm m hm;omega
 ·exact R.wf
theorem HpR.addNil (R:HpR c nx w vh dnx dh g):
 HpR c (nx+1) w ((nx,.row [])::vh) dnx dh ⟨g.Z,upd g.μ nx .nils⟩∧Evo nx vh dnx dh g (nx+1) ((nx,.row [])::vh) dnx dh ⟨g.Z,upd g.μ nx .nils⟩:=by
 have hm:MLe (mm nx vh g) (mm (nx+1) ((nx,.row [])::vh) ⟨g.Z,upd g.μ nx .nils⟩):=by
  refine ⟨by omega,fun k hk m' r' e=>?_⟩
  obtain ⟨o,h1,h2,h3⟩:=mof_some e
  simp only [hget,if_neg (show k≠nx by omega)] at h1
  simp only [upd_ne (show k≠nx by omega)] at h2
  exact ⟨m',r',by rw [mof_eq h1 h2,h3],Nat.le_refl _,fun _=>rfl⟩
 have old:∀ k o,hget ((nx,.row [])::vh) k=some o→k≠nx→hget vh k=some o∧k<nx:=by
  intro k o hk hne
  simp only [hget,if_neg hne] at hk
  exact ⟨hk,(R.blk k o hk).1⟩
 refine ⟨?_,⟨hm,fun _ h=>h,fun _ _=>rfl,Nat.le_refl _⟩⟩
 constructor
 ·intro k o hk
  by_cases hne:k=nx
  ·subst hne
   simp only [hget,if_pos] at hk
   cases hk
   exact ⟨by omega,.nils,upd_self _ _ _,.inl ⟨rfl,rfl⟩⟩
  ·obtain ⟨hk',hlt⟩:=old k o hk hne
   obtain ⟨_,r1,e1,B1⟩:=R.blk k o hk'
   exact ⟨by omega,r1,(upd_ne hne).trans e1,B1.mono (fun _ h=>h) (fun _ _=>rfl) hm fun b q hb=>rfl⟩
 ·intro k o r1 b q1 hk hr1 hb
  by_cases hne:k=nx
  ·subst hne
   simp only [upd_self] at hr1;cases hr1
   cases hb
  ·obtain ⟨hk',hlt⟩:=old k o hk hne
   simp only [upd_ne hne] at hr1
   exact R.own k o r1 b q1 hk' hr1 hb
 ·intro k k' o o' r1 r2 b q1 q2 hk hk' hr1 hr2 hb hb'
  by_cases hne:k=nx
  ·subst hne
   simp only [upd_self] at hr1;cases hr1;cases hb
  ·obtain ⟨hk1,_⟩:=old k o hk hne
   by_cases hne':k'=nx
   ·subst hne'
    simp only [upd_self] at hr2;cases hr2;cases hb'
   ·obtain ⟨hk2,_⟩:=old k' o' hk' hne'
    simp only [upd_ne hne] at hr1;simp only [upd_ne hne'] at hr2
    exact R.inj k k' o o' r1 r2 b q1 q2 hk1 hk2 hr1 hr2 hb hb'
 ·exact R.zlt
 ·exact R.zold
 ·exact R.top
 ·exact R.keep
 ·exact R.le
 ·exact R.wm
 ·exact R.wf
theorem HpR.sub (R:HpR c nx w vh dnx dh g) {vh':VHp} (hs:∀ k o,hget vh' k=some o→hget vh k=some o):HpR c nx w vh' dnx dh g∧Evo nx vh dnx dh g nx vh' dnx dh g:=by
 have hm:MLe (mm nx vh g) (mm nx vh' g):=by
  refine ⟨Nat.le_refl _,fun k hk m' r' e=>?_⟩
  obtain ⟨o,h1,h2,h3⟩:=mof_some e
  exact ⟨m',r',by rw [mof_eq (hs k o h1) h2,h3],Nat.le_refl _,fun _=>rfl⟩
 refine ⟨?_,⟨hm,fun _ h=>h,fun _ _=>rfl,Nat.le_refl _⟩⟩
 constructor
 ·intro k o hk
  obtain ⟨h1,r1,e1,B1⟩:=R.blk k o (hs k o hk)
  exact ⟨h1,r1,e1,B1.mono (fun _ h=>h) (fun _ _=>rfl) hm fun b q hb=>rfl⟩
 ·intro k o r1 b q1 hk;exact R.own k o r1 b q1 (hs k o hk)
 ·intro k k' o o' r1 r2 b q1 q2 hk hk';exact R.inj k k' o o' r1 r2 b q1 q2 (hs k o hk) (hs k' o' hk')
 ·exact R.zlt
 ·exact R.zold
 ·exact R.top
 ·exact R.keep
 ·exact R.le
 ·exact R.wm
 ·exact R.wf
theorem HpR.freeze (R:HpR c nx w vh dnx dh g) (ks:List Nat) (Z':P→Prop) (hZ:∀ b,Z' b↔g.Z b∨∃ k∈ks,∃ o r q,hget vh k=some o∧g.μ k=some r∧refAt r=some (b,q)):
 HpR c nx w (hdels vh ks) dnx dh ⟨Z',g.μ⟩∧Evo nx vh dnx dh g nx (hdels vh ks) dnx dh ⟨Z',g.μ⟩:=by
 have hd:∀ k o,hget (hdels vh ks) k=some o→hget vh k=some o∧k ∉ ks:=by
  intro k o hk
  rw [hget_dels] at hk
  by_cases h:k∈ks
  ·rw [if_pos h] at hk;cases hk
  ·rw [if_neg h] at hk;exact ⟨hk,h⟩
 have hm:MLe (mm nx vh g) (mm nx (hdels vh ks) ⟨Z',g.μ⟩):=by
  refine ⟨Nat.le_refl _,fun k hk m' r' e=>?_⟩
  obtain ⟨o,h1,h2,h3⟩:=mof_some e
  exact ⟨m',r',by rw [mof_eq (hd k o h1).1 h2,h3],Nat.le_refl _,fun _=>rfl⟩
 have hz:∀ b,g.Z b→Z' b:=fun b h=>(hZ b).2 (.inl h)
 refine ⟨?_,⟨hm,hz,fun _ _=>rfl,Nat.le_refl _⟩⟩
 constructor
 ·intro k o hk
  obtain ⟨h1,r1,e1,B1⟩:=R.blk k o (hd k o hk).1
  exact ⟨h1,r1,e1,B1.mono hz (fun _ _=>rfl) hm fun b q hb=>rfl⟩
 ·intro k o r1 b q1 hk hr hb
  obtain ⟨hk1,hk2⟩:=hd k o hk
  obtain ⟨a1,a2,a3⟩:=R.own k o r1 b q1 hk1 hr hb
  refine ⟨fun h=>?_,a2,a3⟩
  rcases (hZ b).1 h with h|⟨k',hk',o',r',q',e1,e2,e3⟩
  ·exact a1 h
  ·exact hk2 (R.inj k k' o o' r1 r' b q1 q' hk1 e1 hr e2 hb e3▸hk')
 ·intro k k' o o' r1 r2 b q1 q2 hk hk';exact R.inj k k' o o' r1 r2 b q1 q2 (hd k o hk).1 (hd k' o' hk').1
 ·intro b hb
  rcases (hZ b).1 hb with h|⟨k',hk',o',r',q',e1,e2,e3⟩
  ·exact R.zlt b h
  ·exact R.lt e1 e2 e3
 ·intro b hb
  rcases (hZ b).1 hb with h|⟨k',hk',o',r',q',e1,e2,e3⟩
  ·exact R.zold b h
  ·exact .inr (R.own k' o' r' b q' e1 e2 e3).2.1
 ·exact R.top
 ·exact R.keep
 ·exact R.le
 ·exact R.wm
 ·exact R.wf
end
section
variable {c:Ctx} {nx w:Nat} {vh:VHp} {dnx:P} {dh:Hp} {g:Gh}
def zOf (vh:VHp) (g:Gh) (ks:List Nat) (b:P):Prop:=g.Z b∨∃ k∈ks,∃ o r q,hget vh k=some o∧g.μ k=some r∧refAt r=some (b,q)
mutual
theorem vw_sound (R:HpR c nx w vh dnx dh g):∀ {v v':VV} {d:DV} {ks:List Nat},XR g.Z dh (mm nx vh g) v d→vw vh v=some v'→(∀ k∈keysV v,k∈ks)→XR (zOf vh g ks) dh none v' d
 | .ow k n sz,v',d,ks,x,e,hk=>by
  simp only [vw] at e
  cases h1:hget vh k with
  | none=>simp only [h1,reduceCtorEq] at e
  | some o=>
   cases o with
   | obj l=>simp only [h1,reduceCtorEq] at e
   | row l=>
    simp only [h1] at e
    by_cases hn:l.length=n*sz
    ·rw [if_pos hn] at e
     injection e with e;subst e
     obtain ⟨_,r,hr,B⟩:=R.blk k _ h1
     cases x with
     | ow hd hlt hf=>
      obtain ⟨_,h2⟩:=hf _ _ (mof_eq h1 hr)
      obtain ⟨rfl,h3⟩:=h2 hn
      rcases B with ⟨rfl,h4⟩|⟨b,q,n',cp,sz',cells,rfl,h4,h5,h6,h7,h8⟩|⟨b,q,cells,rfl,_⟩
      ·injection h4 with h4;subst h4
       rcases h3 with ⟨_,rfl⟩|⟨b',o',c',h3⟩
       ·exact .fz0 (.inl rfl)
       ·cases h3
      ·rcases h3 with ⟨h3,_⟩|⟨b',o',c',h3⟩
       ·cases h3
       ·cases h3
        refine .fz hn (.inr ⟨k,hk k (by simp [keysV]),_,_,q,h1,hr,rfl⟩) (by unfold objAt;rw [h4]) h6 ?_ (fun x h=>by cases h) (fun x h=>(h7 x h).1)
        have h9:(VOb.row l).cells.length=n*sz:=hn
        rw [h9] at h8
        exact XRs.mono (M:=none) (M':=none) (fun b hb=>.inl hb) (fun _ _=>rfl) trivial h8
      ·rcases h3 with ⟨h3,_⟩|⟨b',o',c',h3⟩<;>cases h3
    ·rw [if_neg hn] at e;cases e
 | .os _ _ _ _ _,v',d,ks,x,e,hk=>by simp only [vw,reduceCtorEq] at e
 | .pt k m o,v',d,ks,x,e,hk=>by
  simp only [vw] at e
  have main:∀ (ob:VOb) (l:List VV),hget vh k=some ob→ob.cells=l→l.length=m→(∀ l',XRs g.Z dh (ob.m (mm nx vh g)) l l'→XRs g.Z dh none l l')→v'=.fp l o→XR (zOf vh g ks) dh none v' d:=by
   rintro ob l h1 rfl hm hp rfl
   obtain ⟨_,r,hr,B⟩:=R.blk k _ h1
   cases x with
   | pt hd hlt hf=>
    obtain ⟨_,h2⟩:=hf _ _ (mof_eq h1 hr)
    obtain ⟨b,o',h3,rfl⟩:=h2 hm
    obtain ⟨cells,h4,h5,h6⟩:=B.read h3
    exact .fp (.inr ⟨k,hk k (by simp [keysV]),_,_,o',h1,hr,h3⟩) (by unfold objAt;rw [h4]) h5 (XRs.mono (M:=none) (M':=none) (fun b hb=>.inl hb) (fun _ _=>rfl) trivial (hp _ h6))
  cases h1:hget vh k with
  | none=>simp only [h1,reduceCtorEq] at e
  | some ob=>
   cases ob with
   | row l=>
    simp only [h1] at e
    by_cases hn:l.length=m
    ·rw [if_pos hn] at e;injection e with e
     exact main _ l h1 rfl hn (fun l' x=>x) e.symm
    ·rw [if_neg hn] at e;cases e
   | obj l=>
    simp only [h1] at e
    by_cases hn:l.length=m∧pureL l=true
    ·rw [if_pos hn] at e;injection e with e
     exact main _ l h1 rfl hn.1 (fun l' x=>XRs.pure x hn.2) e.symm
    ·rw [if_neg hn] at e;cases e
 | .var l,v',d,ks,x,e,hk=>by simp [vw] at e
 | .fld p o,v',d,ks,x,e,hk=>by simp [vw] at e
 | .fn f cs,v',d,ks,x,e,hk=>by
  simp only [vw] at e
  cases h1:vwL vh cs with
  | none=>simp only [h1,reduceCtorEq] at e
  | some r=>
   simp only [h1] at e;injection e with e;subst e
   cases x with
   | fn hl=>exact .fn (vwL_sound R hl h1 hk)
 | .ifc t v,v',d,ks,x,e,hk=>by
  simp only [vw] at e
  cases h1:vw vh v with
  | none=>simp only [h1,reduceCtorEq] at e
  | some r=>
   simp only [h1] at e;injection e with e;subst e
   cases x with
   | ifc hv=>exact .ifc (vw_sound R hv h1 hk)
 | .agg l,v',d,ks,x,e,hk=>by
  simp only [vw] at e
  cases h1:vwL vh l with
  | none=>simp only [h1,reduceCtorEq] at e
  | some r=>
   simp only [h1] at e;injection e with e;subst e
   cases x with
   | agg hl=>exact .agg (vwL_sound R hl h1 hk)
 | .tup l,v',d,ks,x,e,hk=>by
  simp only [vw] at e
  cases h1:vwL vh l with
  | none=>simp only [h1,reduceCtorEq] at e
  | some r=>
   simp only [h1] at e;injection e with e;subst e
   cases x with
   | tup hl=>exact .tup (vwL_sound R hl h1 hk)
 | .unk,v',d,ks,x,e,hk=>by simp only [vw] at e;injection e with e;subst e;cases x;exact .unk ‹_›
 | .bool b,v',d,ks,x,e,hk=>by simp only [vw] at e;injection e with e;subst e;cases x;exact .bool _
 | .int k n,v',d,ks,x,e,hk=>by simp only [vw] at e;injection e with e;subst e;cases x;exact .int _ _
 | .nilp,v',d,ks,x,e,hk=>by simp only [vw] at e;injection e with e;subst e;cases x;exact .nilp
 | .nils,v',d,ks,x,e,hk=>by simp only [vw] at e;injection e with e;subst e;cases x;exact .nils
 | .nilf,v',d,ks,x,e,hk=>by simp only [vw] at e;injection e with e;subst e;cases x;exact .nilf
 | .nili,v',d,ks,x,e,hk=>by simp only [vw] at e;injection e with e;subst e;cases x;exact .nili
 | .nilm,v',d,ks,x,e,hk=>by simp only [vw] at e;injection e with e;subst e;cases x;exact .nilm
 | .fz n c sz l,v',d,ks,x,e,hk=>by
  simp only [vw] at e;injection e with e;subst e
  exact XR.mono (M:=none) (M':=none) (fun b hb=>.inl hb) (fun _ _=>rfl) trivial (x.pure rfl)
 | .fp l o,v',d,ks,x,e,hk=>by
  simp only [vw] at e;injection e with e;subst e
  exact XR.mono (M:=none) (M':=none) (fun b hb=>.inl hb) (fun _ _=>rfl) trivial (x.pure rfl)
theorem vwL_sound (R:HpR c nx w vh dnx dh g):∀ {l l':List VV} {d:List DV} {ks:List Nat},XRs g.Z dh (mm nx vh g) l d→vwL vh l=some l'→(∀ k∈keysL l,k∈ks)→XRs (zOf vh g ks) dh none l' d
 | [],l',d,ks,x,e,hk=>by simp only [vwL] at e;injection e with e;subst e;cases x;exact .nil
 | v::l,l',d,ks,x,e,hk=>by
  simp only [vwL] at e
  cases h1:vw vh v with
  | none=>simp only [h1,reduceCtorEq] at e
  | some v1=>
   simp only [h1] at e
   cases h2:vwL vh l with
   | none=>simp only [h2,reduceCtorEq] at e
   | some l1=>
    simp only [h2] at e;injection e with e;subst e
    cases x with
    | cons hv hl=>exact .cons (vw_sound R hv h1 fun k h=>hk k (by simp [keysL,h])) (vwL_sound R hl h2 fun k h=>hk k (by simp [keysL,h]))
end
end
theorem cut_get {α:Type} {l:List α} {q n i:Nat} {d:α} (h:((l.drop q).take n)[i]?=some d):l[q+i]?=some d:=by
 rw [List.getElem?_take] at h
 by_cases hi:i<n
 ·rw [if_pos hi,List.getElem?_drop] at h;exact h
 ·rw [if_neg hi] at h;cases h
theorem cut_cut {α:Type} (l:List α) {q n o m:Nat} (h:o+m≤n):(((l.drop q).take n).drop o).take m=(l.drop (q+o)).take m:=by
 rw [List.drop_take,List.drop_drop,List.take_take,Nat.min_eq_left (by omega)]
def ISem (F:Tr Fd) (i:Ins) (s:VSt) (K:VSt→VV→Prop):Prop:=
 ∀ (c:Ctx) (d:DS) (g:Gh),RS c s d g→∃ s' v d' x g',IRun F i c d d' x∧RS c s' d' g'∧s'.w=s.w∧XR g'.Z d'.h (mm s'.nx s'.h g') v x∧EvoS s d g s' d' g'∧K s' v
section
variable {F:Tr Fd} {s:VSt} {K:VSt→VV→Prop} {Z:P→Prop} {h:Hp} {M:Option MM}
theorem isem_val {i:Ins} {v:VV} {c:Ctx} {d:DS} {g:Gh} {x:DV} (R:RS c s d g) (hK:K s v) (hx:XR g.Z d.h (mm s.nx s.h g) v x)
 (run:∀ (n:Nat) (k:Kv),insK i F (exec F n) c.wm d.e d.nx d.h k=k d.e x d.nx d.h):
 ∃ s' v d' x g',IRun F i c d d' x∧RS c s' d' g'∧s'.w=s.w∧XR g'.Z d'.h (mm s'.nx s'.h g') v x∧EvoS s d g s' d' g'∧K s' v:=
 ⟨s,v,d,x,g,⟨0,fun n _ k=>run n k⟩,R,rfl,hx,Evo.refl _ _ _ _ _,hK⟩
theorem XR.bool_inv {t:Bool} {x:DV} (r:XR Z h M (.bool t) x):x=.bool t:=by cases r;rfl
theorem XR.int_inv {k:IntKind} {n:Int} {x:DV} (r:XR Z h M (.int k n) x):x=.int k n:=by cases r;rfl
theorem XR.nils_inv {x:DV} (r:XR Z h M .nils x):x=.nils:=by cases r;rfl
theorem XR.agg_inv {l:List VV} {x:DV} (r:XR Z h M (.agg l) x):∃ l',x=.agg l'∧XRs Z h M l l':=by cases r;exact ⟨_,rfl,‹_›⟩
theorem XR.tup_inv {l:List VV} {x:DV} (r:XR Z h M (.tup l) x):∃ l',x=.tup l'∧XRs Z h M l l':=by cases r;exact ⟨_,rfl,‹_›⟩
theorem XR.var_inv {l:List VV} {x:DV} (r:XR Z h M (.var l) x):∃ l',x=.var l'∧XRs Z h M l l':=by cases r;exact ⟨_,rfl,‹_›⟩
theorem XR.fld_inv {p:P} {o:Nat} {x:DV} (r:XR Z h M (.fld p o) x):x=.fld p o:=by cases r;rfl
theorem XR.fn_inv {f:P} {l:List VV} {x:DV} (r:XR Z h M (.fn f l) x):∃ l',x=.fn f l'∧XRs Z h M l l':=by cases r;exact ⟨_,rfl,‹_›⟩
theorem XR.fp_inv {l:List VV} {i:Nat} {x:DV} (r:XR Z h M (.fp l i) x):
 ∃ k o cells,x=.ptr k (o+i)∧Z k∧objAt k h=some cells∧o+l.length≤cells.length∧XRs Z h none l ((cells.drop o).take l.length):=by cases r;exact ⟨_,_,_,rfl,‹_›,‹_›,‹_›,‹_›⟩
theorem look_obj {k:P} {o:Nat} {e:Env} {cells:List DV} (hk:objAt k h=some cells):Dx.look (.ptr k o) e h=some (cells,o):=by
 unfold objAt at hk
 simp only [Dx.look]
 cases h1:Tr.get? k h with
 | none=>rw [h1] at hk;cases hk
 | some b=>cases b<;>simp only [h1,Option.some.injEq,reduceCtorEq] at hk ⊢<;>rw [hk]
theorem look_cells {k:P} {o:Nat} {e:Env} {cells:List DV} (hk:Tr.get? k h=some (.cells cells)):Dx.look (.ptr k o) e h=some (cells,o):=by
 simp only [Dx.look,hk]
theorem look_var {p:P} {o:Nat} {e:Env} {l:List DV} (hk:Tr.get? p e=some (.var l)):Dx.look (.fld p o) e h=some (l,o):=by
 simp only [Dx.look,hk]
theorem live_blk {c:Ctx} {d:DS} {g:Gh} (R:RS c s d g) {k m:Nat} {ob:VOb} (hl:live s.h k m=some ob):
 ∃ r,hget s.h k=some ob∧ob.cells.length=m∧g.μ k=some r∧Blk g.Z d.h (mm s.nx s.h g) ob r:=by
 obtain ⟨h1,h2⟩:=live_some hl
 obtain ⟨_,r,h3,h4⟩:=R.hp.blk k ob h1
 exact ⟨r,h1,h2,h3,h4⟩
theorem pt_blk {c:Ctx} {d:DS} {g:Gh} (R:RS c s d g) {k m o:Nat} {ob:VOb} {x:DV} (hl:live s.h k m=some ob) (hx:XR g.Z d.h (mm s.nx s.h g) (.pt k m o) x):
 ∃ r b q cells,x=.ptr b (q+o)∧hget s.h k=some ob∧ob.cells.length=m∧g.μ k=some r∧refAt r=some (b,q)∧Blk g.Z d.h (mm s.nx s.h g) ob r∧
  Tr.get? b d.h=some (.cells cells)∧q+m≤cells.length∧XRs g.Z d.h (ob.m (mm s.nx s.h g)) ob.cells ((cells.drop q).take m):=by
 obtain ⟨r,h1,h2,h3,h4⟩:=live_blk R hl
 cases hx with
 | pt hd hk hf=>
  obtain ⟨_,h5⟩:=hf _ _ (mof_eq h1 h3)
  obtain ⟨b,q,h6,rfl⟩:=h5 h2
  obtain ⟨cells,h7,h8,h9⟩:=h4.read h6
  rw [h2] at h8 h9
  exact ⟨r,b,q,cells,rfl,h1,h2,h3,h6,h4,h7,h8,h9⟩
theorem ow_blk {c:Ctx} {d:DS} {g:Gh} (R:RS c s d g) {k n sz:Nat} {ob:VOb} {x:DV} (hl:live s.h k (n*sz)=some ob) (hx:XR g.Z d.h (mm s.nx s.h g) (.ow k n sz) x):
 hget s.h k=some ob∧ob.cells.length=n*sz∧g.μ k=some x∧Blk g.Z d.h (mm s.nx s.h g) ob x∧((x=.nils∧n=0)∨∃ b o c,x=.sl b o n c sz):=by
 obtain ⟨r,h1,h2,h3,h4⟩:=live_blk R hl
 cases hx with
 | ow hd hk hf=>
  obtain ⟨_,h5⟩:=hf _ _ (mof_eq h1 h3)
  obtain ⟨rfl,h6⟩:=h5 h2
  exact ⟨h1,h2,h3,h4,h6⟩
theorem os_blk {c:Ctx} {d:DS} {g:Gh} (R:RS c s d g) {k m o n sz:Nat} {ob:VOb} {x:DV} (hl:live s.h k m=some ob) (hx:XR g.Z d.h (mm s.nx s.h g) (.os k m o n sz) x):
 (x=.nils∧n=0∧g.μ k=some .nils)∨∃ r b q cp cells,x=.sl b (q+o) n cp sz∧hget s.h k=some ob∧ob.cells.length=m∧g.μ k=some r∧refAt r=some (b,q)∧Blk g.Z d.h (mm s.nx s.h g) ob r∧
  Tr.get? b d.h=some (.cells cells)∧q+m≤cells.length∧XRs g.Z d.h (ob.m (mm s.nx s.h g)) ob.cells ((cells.drop q).take m):=by
 obtain ⟨r,h1,h2,h3,h4⟩:=live_blk R hl
 cases hx with
 | os hd hk hf=>
  obtain ⟨_,h5⟩:=hf _ _ (mof_eq h1 h3)
  rcases h5 h2 with ⟨rfl,rfl,rfl⟩|⟨b,q,cp,h6,rfl⟩
  ·exact .inl ⟨rfl,rfl,h3⟩
  ·obtain ⟨cells,h7,h8,h9⟩:=h4.read h6
   rw [h2] at h8 h9
   exact .inr ⟨r,b,q,cp,cells,rfl,h1,h2,h3,h6,h4,h7,h8,h9⟩
theorem s_mv {a:Opd} (H:wI F (.mv a) s K):ISem F (.mv a) s K:=by
 intro c d g R
 simp only [wI] at H
 cases ha:vev a s.e with
 | none=>simp only [ha] at H
 | some v=>
  simp only [ha] at H
  refine isem_val R H (vev_sound R.env ha) fun n k=>?_
  show evK a d.e (fun v=>k d.e v d.nx d.h)=_
  rw [evK_eq]
theorem s_pick {cc a b:Opd} (H:wI F (.pick cc a b) s K):ISem F (.pick cc a b) s K:=by
 intro c d g R
 simp only [wI] at H
 cases hc:vev cc s.e with
 | none=>simp only [hc] at H
 | some v=>
  cases v<;>simp only [hc] at H
  rename_i t
  have hx:=(vev_sound R.env hc).bool_inv
  cases t with
  | true=>
   have H:=H.1 rfl
   cases ha:vev a s.e with
   | none=>simp only [ha] at H
   | some v=>
    simp only [ha] at H
    refine isem_val R H (vev_sound R.env ha) fun n k=>?_
    show asB (ev cc d.e) .fail (fun t=>Bool.rec (motive:=fun _=>Res) (evK b d.e fun v=>k d.e v d.nx d.h) (evK a d.e fun v=>k d.e v d.nx d.h) t)=_
    rw [hx]
    show evK a d.e (fun v=>k d.e v d.nx d.h)=_
    rw [evK_eq]
  | false=>
   have H:=H.2 rfl
   cases ha:vev b s.e with
   | none=>simp only [ha] at H
   | some v=>
    simp only [ha] at H
    refine isem_val R H (vev_sound R.env ha) fun n k=>?_
    show asB (ev cc d.e) .fail (fun t=>Bool.rec (motive:=fun _=>Res) (evK b d.e fun v=>k d.e v d.nx d.h) (evK a d.e fun v=>k d.e v d.nx d.h) t)=_
    rw [hx]
    show evK b d.e (fun v=>k d.e v d.nx d.h)=_
    rw [evK_eq]
theorem s_bld {z:List DV} {ps:List (Nat × Nat × Opd)} (H:wI F (.bld z ps) s K):ISem F (.bld z ps) s K:=by
 intro c d g R
 simp only [wI] at H
 cases hz:ofDVs z with
 | none=>simp only [hz] at H
 | some z'=>
  simp only [hz] at H
  cases hf:vfills s.e ps z' with
  | none=>simp only [hf] at H
  | some l=>
   simp only [hf] at H
   obtain ⟨l',h1,h2⟩:=vfills_sound R.env (ofDVs_sound hz) hf
   refine isem_val R H (.agg h2) fun n k=>?_
   show fillK ps z d.e (fun l=>k d.e (.agg l) d.nx d.h)=_
   rw [fillK_eq,h1]
theorem s_fa {o:Nat} {a:Opd} (H:wI F (.fa o a) s K):ISem F (.fa o a) s K:=by
 intro c d g R
 simp only [wI] at H
 have run:∀ (b:P) (q:Nat) (n:Nat) (k:Kv),ev a d.e=.ptr b q→insK (.fa o a) F (exec F n) c.wm d.e d.nx d.h k=k d.e (.ptr b (q+o)) d.nx d.h:=by
  intro b q n k hx
  show asP (ev a d.e) (asFl (ev a d.e) .fail fun p i=>forceN (Nat.add i o) fun i=>k d.e (.fld p i) d.nx d.h) (fun b i=>forceN (Nat.add i o) fun i=>k d.e (.ptr b i) d.nx d.h)=_
  rw [hx,asP_eq]
  show forceN (Nat.add q o) (fun i=>k d.e (.ptr b i) d.nx d.h)=_
  rw [forceN_eq];rfl
 cases ha:vev a s.e with
 | none=>simp only [ha] at H
 | some v=>
  have hv:=vev_sound R.env ha
  cases v<;>simp only [ha] at H
  case fp l i=>
   obtain ⟨k0,q,cells,hx,hz,hk,ho,hl⟩:=hv.fp_inv
   have h1:XR g.Z d.h (mm s.nx s.h g) (.fp l (i+o)) (.ptr k0 (q+i+o)):=by rw [Nat.add_assoc];exact .fp hz hk ho hl
   exact isem_val R H h1 fun n k=>run _ _ n k hx
  case pt k m i=>
   cases hl:live s.h k m with
   | none=>simp only [hl] at H
   | some ob=>
    simp only [hl] at H
    obtain ⟨r,b,q,cells,hx,h1,h2,h3,h4,h5,h6,h7,h8⟩:=pt_blk R hl hv
    refine isem_val R H (x:=.ptr b (q+i+o)) ?_ fun n k=>run _ _ n k hx
    exact .pt ⟨_,_,rfl⟩ (R.hp.blk k ob h1).1 fun m' r' e=>by
     rw [mof_eq h1 h3] at e;cases e
     exact ⟨by omega,fun _=>⟨b,q,h4,by rw [Nat.add_assoc]⟩⟩
  case fld p i=>
   have hx:=hv.fld_inv
   refine isem_val R H (.fld _ _) fun n k=>?_
   show asP (ev a d.e) (asFl (ev a d.e) .fail fun p i=>forceN (Nat.add i o) fun i=>k d.e (.fld p i) d.nx d.h) (fun b i=>forceN (Nat.add i o) fun i=>k d.e (.ptr b i) d.nx d.h)=_
   rw [hx,asP_eq]
   show asFl (.fld p i) .fail (fun p i=>forceN (Nat.add i o) fun i=>k d.e (.fld p i) d.nx d.h)=_
   rw [asFl_eq]
   show forceN (Nat.add i o) (fun i=>k d.e (.fld p i) d.nx d.h)=_
   rw [forceN_eq];rfl
theorem s_ld {a:Opd} (H:wI F (.ld a) s K):ISem F (.ld a) s K:=by
 intro c d g R
 simp only [wI] at H
 have run:∀ (l:List DV) (o:Nat) (v:DV) (n:Nat) (k:Kv),Dx.look (ev a d.e) d.e d.h=some (l,o)→l[o]?=some v→insK (.ld a) F (exec F n) c.wm d.e d.nx d.h k=k d.e v d.nx d.h:=by
  intro l o v n k hx hv
  show readK (ev a d.e) d.e d.h .fail (fun l o=>nthK l o .fail fun v=>fV v fun v=>k d.e v d.nx d.h)=_
  rw [readK_eq,hx]
  show nthK l o .fail (fun v=>fV v fun v=>k d.e v d.nx d.h)=_
  rw [nthK_eq,hv]
  show fV v (fun v=>k d.e v d.nx d.h)=_
  rw [fV_eq]
 cases ha:vev a s.e with
 | none=>simp only [ha] at H
 | some v=>
  have hv:=vev_sound R.env ha
  cases v<;>simp only [ha] at H
  case fp l i=>
   obtain ⟨k0,q,cells,hx,hz,hk,ho,hl⟩:=hv.fp_inv
   cases hi:l[i]? with
   | none=>simp only [hi] at H
   | some u=>
    simp only [hi] at H
    obtain ⟨y,h1,h2⟩:=hl.get i u hi
    exact isem_val R H h2.none_any fun n k=>run _ _ _ n k (by rw [hx];exact look_obj hk) (cut_get h1)
  case pt k m i=>
   cases hl:live s.h k m with
   | none=>simp only [hl] at H
   | some ob=>
    simp only [hl] at H
    obtain ⟨r,b,q,cells,hx,h1,h2,h3,h4,h5,h6,h7,h8⟩:=pt_blk R hl hv
    cases hi:ob.cells[i]? with
    | none=>simp only [hi] at H
    | some u=>
     simp only [hi] at H
     obtain ⟨y,h9,h10⟩:=(VOb.m_any h8).get i u hi
     exact isem_val R H h10 fun n k=>run _ _ _ n k (by rw [hx];exact look_cells h6) (cut_get h9)
  case fld p i=>
   have hx:=hv.fld_inv
   cases hp:Tr.get? p s.e with
   | none=>simp only [hp] at H
   | some u=>
    cases u<;>simp only [hp] at H
    rename_i l
    obtain ⟨y,hy,hxy⟩:=R.env.get hp
    obtain ⟨l',rfl,hl⟩:=hxy.var_inv
    cases hi:l[i]? with
    | none=>simp only [hi] at H
    | some u=>
     simp only [hi] at H
     obtain ⟨y,h9,h10⟩:=hl.get i u hi
     exact isem_val R H h10 fun n k=>run _ _ _ n k (by rw [hx];exact look_var hy) h9
theorem s_lda {n0:Nat} {a:Opd} (H:wI F (.lda n0 a) s K):ISem F (.lda n0 a) s K:=by
 intro c d g R
 simp only [wI] at H
 have run:∀ (l:List DV) (o:Nat) (n:Nat) (k:Kv),Dx.look (ev a d.e) d.e d.h=some (l,o)→o+n0≤l.length→insK (.lda n0 a) F (exec F n) c.wm d.e d.nx d.h k=k d.e (.agg ((l.drop o).take n0)) d.nx d.h:=by
  intro l o n k hx hv
  show readK (ev a d.e) d.e d.h .fail (fun l o=>dropK o l .fail fun t=>takeK n0 t .fail fun r=>k d.e (.agg r) d.nx d.h)=_
  rw [readK_eq,hx]
  show dropK o l .fail (fun t=>takeK n0 t .fail fun r=>k d.e (.agg r) d.nx d.h)=_
  rw [dropK_eq,if_pos (by omega),takeK_eq,if_pos (by rw [List.length_drop];omega)]
 cases ha:vev a s.e with
 | none=>simp only [ha] at H
 | some v=>
  have hv:=vev_sound R.env ha
  cases v<;>simp only [ha] at H
  case fp l i=>
   obtain ⟨k0,q,cells,hx,hz,hk,ho,hl⟩:=hv.fp_inv
   refine isem_val R H.2 ?_ fun n k=>run _ _ n k (by rw [hx];exact look_obj hk) (by omega)
   refine .agg ?_
   have:=(hl.drop i).take n0
   rw [cut_cut _ (by omega)] at this
   exact this.none_any
  case pt k m i=>
   cases hl:live s.h k m with
   | none=>simp only [hl] at H
   | some ob=>
    simp only [hl] at H
    obtain ⟨r,b,q,cells,hx,h1,h2,h3,h4,h5,h6,h7,h8⟩:=pt_blk R hl hv
    refine isem_val R H.2 ?_ fun n k=>run _ _ n k (by rw [hx];exact look_cells h6) (by omega)
    refine .agg ?_
    have:=((VOb.m_any h8).drop i).take n0
    rw [cut_cut _ (by omega)] at this
    exact this
  case fld p i=>
   have hx:=hv.fld_inv
   cases hp:Tr.get? p s.e with
   | none=>simp only [hp] at H
   | some u=>
    cases u<;>simp only [hp] at H
    rename_i l
    obtain ⟨y,hy,hxy⟩:=R.env.get hp
    obtain ⟨l',rfl,hl⟩:=hxy.var_inv
    refine isem_val R H.2 (.agg ((hl.drop i).take n0)) fun n k=>run _ _ n k (by rw [hx];exact look_var hy) (by rw [←hl.length];exact H.1)
theorem s_vla {n0:Nat} {a:Opd} (H:wI F (.vla n0 a) s K):ISem F (.vla n0 a) s K:=by
 intro c d g R
 simp only [wI] at H
 cases ha:vev a s.e with
 | none=>simp only [ha] at H
 | some v=>
  have hv:=vev_sound R.env ha
  cases v<;>simp only [ha] at H
  case fld p i=>
   have hx:=hv.fld_inv
   cases hp:Tr.get? p s.e with
   | none=>simp only [hp] at H
   | some u=>
    cases u<;>simp only [hp] at H
    rename_i l
    obtain ⟨y,hy,hxy⟩:=R.env.get hp
    obtain ⟨l',rfl,hl⟩:=hxy.var_inv
    refine isem_val R H.2 (.agg ((hl.drop i).take n0)) fun n k=>?_
    have hlk:Dx.look (ev a d.e) d.e .nl=some (l',i):=by rw [hx];exact look_var hy
    have hle:i+n0≤l'.length:=by rw [←hl.length];exact H.1
    show readK (ev a d.e) d.e .nl .fail (fun l o=>dropK o l .fail fun t=>takeK n0 t .fail fun r=>k d.e (.agg r) d.nx d.h)=_
    rw [readK_eq,hlk]
    show dropK i l' .fail (fun t=>takeK n0 t .fail fun r=>k d.e (.agg r) d.nx d.h)=_
    rw [dropK_eq,if_pos (by omega),takeK_eq,if_pos (by rw [List.length_drop];omega)]
theorem s_nc {a:Opd} (H:wI F (.nc a) s K):ISem F (.nc a) s K:=by
 intro c d g R
 simp only [wI] at H
 have run:∀ (n:Nat) (k:Kv),(match ev a d.e with | .unk=>False | .nilp=>False | .nilf=>False | .nili=>False | .var _=>False|_=>True)→insK (.nc a) F (exec F n) c.wm d.e d.nx d.h k=k d.e (ev a d.e) d.nx d.h:=by
  intro n k hx
  show solid (ev a d.e) .fail (fun v=>k d.e v d.nx d.h)=_
  rw [solid_eq]
  cases he:ev a d.e<;>rw [he] at hx<;>first|rfl|exact hx.elim
 cases ha:vev a s.e with
 | none=>simp only [ha] at H
 | some v=>
  have hv:=vev_sound R.env ha
  cases v<;>simp only [ha] at H
  case fp l i=>
   obtain ⟨k0,q,cells,hx,hz,hk,ho,hl⟩:=hv.fp_inv
   exact isem_val R H hv fun n k=>run n k (by rw [hx];trivial)
  case pt k m i=>
   cases hl:live s.h k m with
   | none=>simp only [hl] at H
   | some ob=>
    simp only [hl] at H
    obtain ⟨r,b,q,cells,hx,_⟩:=pt_blk R hl hv
    exact isem_val R H hv fun n k=>run n k (by rw [hx];trivial)
  case fld p i=>exact isem_val R H hv fun n k=>run n k (by rw [hv.fld_inv];trivial)
  case fn f cs=>
   obtain ⟨l',hx,_⟩:=hv.fn_inv
   exact isem_val R H hv fun n k=>run n k (by rw [hx];trivial)
theorem sameK_self (k:IntKind):sameK k k=true:=by cases k<;>rfl
theorem s_bin {b:Bo} {x y:Opd} (H:wI F (.bin b x y) s K):ISem F (.bin b x y) s K:=by
 intro c d g R
 simp only [wI] at H
 cases hx:vev x s.e with
 | none=>simp only [hx] at H
 | some v=>
  cases v<;>simp only [hx] at H
  rename_i j n
  cases hy:vev y s.e with
  | none=>simp only [hy] at H
  | some v=>
   cases v<;>simp only [hy] at H
   rename_i j' m
   obtain ⟨rfl,H⟩:=H
   have e1:=(vev_sound R.env hx).int_inv
   have e2:=(vev_sound R.env hy).int_inv
   have run:∀ (nn:Nat) (k:Kv),insK (.bin b x y) F (exec F nn) c.wm d.e d.nx d.h k=binK b j n m fun v=>k d.e v d.nx d.h:=by
    intro nn k
    show asI (ev x d.e) .fail (bin1 b (ev y d.e) fun v=>k d.e v d.nx d.h)=_
    rw [e1,e2,asI_eq]
    show asI (.int j m) .fail (bin2 b j n fun v=>k d.e v d.nx d.h)=_
    rw [asI_eq]
    show chk (sameK j j) (fun _=>binK b j n m fun v=>k d.e v d.nx d.h)=_
    rw [chk_eq,if_pos (sameK_self j)]
   cases b<;>simp only [wBin] at H
   ·exact isem_val R H (.int _ _) fun nn k=>by rw [run];show mkI j (iadd n m) _=_;rw [mkI_eq,iadd_eq]
   ·exact isem_val R H (.int _ _) fun nn k=>by rw [run];show mkI j (iadd n (ineg m)) _=_;rw [mkI_eq,iadd_eq,ineg_eq];rfl
   ·exact isem_val R H (.int _ _) fun nn k=>by rw [run];show mkI j (imul n m) _=_;rw [mkI_eq,imul_eq]
   ·refine isem_val R H.2 (.int _ _) fun nn k=>?_
    rw [run];show Bool.rec (motive:=fun _=>Res) (mkI j (idiv n m) _) .fail (ieq m (.ofNat (nat_lit 0)))=_
    rw [ieq_eq]
    have:decide (m=Int.ofNat 0)=false:=by simpa using H.1
    rw [this];show mkI j (idiv n m) _=_;rw [mkI_eq,idiv_eq]
   ·refine isem_val R H.2 (.int _ _) fun nn k=>?_
    rw [run];show Bool.rec (motive:=fun _=>Res) (mkI2 j (imod n m) _) .fail (ieq m (.ofNat (nat_lit 0)))=_
    rw [ieq_eq]
    have:decide (m=Int.ofNat 0)=false:=by simpa using H.1
    rw [this];show mkI2 j (imod n m) _=_;unfold mkI2;rw [forceI_eq,imod_eq]
   ·exact isem_val R H (.bool _) fun nn k=>by rw [run];show bl (ieq n m) (fun v=>k d.e v d.nx d.h)=_;rw [bl_eq,ieq_eq]
   ·exact isem_val R H (.bool _) fun nn k=>by rw [run];show blN (ieq n m) (fun v=>k d.e v d.nx d.h)=_;rw [blN_eq,ieq_eq]
   ·exact isem_val R H (.bool _) fun nn k=>by rw [run];show bl (ilt n m) (fun v=>k d.e v d.nx d.h)=_;rw [bl_eq,ilt_eq]
   ·exact isem_val R H (.bool _) fun nn k=>by
     rw [run];show blN (ilt m n) (fun v=>k d.e v d.nx d.h)=_;rw [blN_eq,ilt_eq]
     congr 2;rw [←decide_not];congr 1;simp
   ·exact isem_val R H (.bool _) fun nn k=>by rw [run];show bl (ilt m n) (fun v=>k d.e v d.nx d.h)=_;rw [bl_eq,ilt_eq]
   ·exact isem_val R H (.bool _) fun nn k=>by
     rw [run];show blN (ilt n m) (fun v=>k d.e v d.nx d.h)=_;rw [blN_eq,ilt_eq]
     congr 2;rw [←decide_not];congr 1;simp
theorem veqs_sound:∀ {ks:List Bool} {a b:List VV} {a' b':List DV} {t:Bool},veqs ks a b=some t→XRs Z h M a a'→XRs Z h M b b'→∀ (F:Res) (K:Bool→Res),eqsK ks a' b' F K=K t:=by
 intro ks
 induction ks with
 | nil=>
  intro a b a' b' t e xa xb F K
  cases a<;>cases b<;>simp only [veqs,reduceCtorEq] at e
  injection e with e;subst e
  cases xa;cases xb;rfl
 | cons k ks ih=>
  intro a b a' b' t e xa xb F K
  cases k with
  | false=>
   cases a with
   | nil=>simp [veqs] at e
   | cons v l=>
    cases b with
    | nil=>cases v<;>simp [veqs] at e
    | cons u m=>
     cases v<;>cases u<;>simp only [veqs,reduceCtorEq] at e
     rename_i j x j' y
     by_cases hj:j=j'
     ·subst hj
      rw [if_pos rfl] at e
      cases he:veqs ks l m with
      | none=>simp only [he,reduceCtorEq] at e
      | some t'=>
       simp only [he,Option.some.injEq] at e;subst e
       cases xa with
       | cons h1 t1=>
        cases xb with
        | cons h2 t2=>
         cases h1.int_inv;cases h2.int_inv
         show eqI (.int j x) (.int j y) F (eqsT (eqsK ks) _ _ F K)=_
         unfold eqI
         rw [asI_eq]
         show asI (.int j y) F (fun j' y=>Bool.rec (motive:=fun _=>Res) F (eqsT (eqsK ks) _ _ F K (ieq x y)) (sameK j j'))=_
         rw [asI_eq]
         show Bool.rec (motive:=fun _=>Res) F (eqsT (eqsK ks) _ _ F K (ieq x y)) (sameK j j)=_
         rw [sameK_self,ieq_eq]
         show eqsT (eqsK ks) _ _ F K (decide (x=y))=_
         by_cases hxy:x=y
         ·rw [decide_eq_true hxy,Bool.true_and];exact ih he t1 t2 F K
         ·rw [decide_eq_false hxy,Bool.false_and];rfl
     ·rw [if_neg hj] at e;cases e
  | true=>
   cases a with
   | nil=>simp [veqs] at e
   | cons v l=>
    cases b with
    | nil=>cases v<;>simp [veqs] at e
    | cons u m=>
     cases v<;>cases u<;>simp only [veqs,reduceCtorEq] at e
     rename_i x y
     cases he:veqs ks l m with
     | none=>simp only [he,reduceCtorEq] at e
     | some t'=>
      simp only [he,Option.some.injEq] at e;subst e
      cases xa with
      | cons h1 t1=>
       cases xb with
       | cons h2 t2=>
        cases h1.bool_inv;cases h2.bool_inv
        show eqsT (eqsK ks) _ _ F K (beqB x y)=_
        cases x<;>cases y<;>first|exact ih he t1 t2 F K|rfl
theorem s_aeq {ks:List Bool} {neg:Bool} {x y:Opd} (H:wI F (.aeq ks neg x y) s K):ISem F (.aeq ks neg x y) s K:=by
 intro c d g R
 simp only [wI] at H
 cases hx:vev x s.e with
 | none=>simp only [hx] at H
 | some v=>
  cases v<;>simp only [hx] at H
  rename_i a
  cases hy:vev y s.e with
  | none=>simp only [hy] at H
  | some v=>
   cases v<;>simp only [hy] at H
   rename_i b
   cases ht:veqs ks a b with
   | none=>simp only [ht] at H
   | some t=>
    simp only [ht] at H
    obtain ⟨a',e1,r1⟩:=(vev_sound R.env hx).agg_inv
    obtain ⟨b',e2,r2⟩:=(vev_sound R.env hy).agg_inv
    refine isem_val R H (.bool _) fun n k=>?_
    show asA (ev x d.e) .fail (fun a=>asA (ev y d.e) .fail fun b=>eqsK ks a b .fail fun t=>negK neg t fun v=>k d.e v d.nx d.h)=_
    rw [e1,asA_eq]
    show asA (ev y d.e) .fail (fun b=>eqsK ks a' b .fail fun t=>negK neg t fun v=>k d.e v d.nx d.h)=_
    rw [e2,asA_eq]
    show eqsK ks a' b' .fail (fun t=>negK neg t fun v=>k d.e v d.nx d.h)=_
    rw [veqs_sound ht r1 r2,negK_eq]
theorem beqB_eq (a b:Bool):beqB a b=(a == b):=by cases a<;>cases b<;>rfl
theorem s_beq {neg:Bool} {x y:Opd} (H:wI F (.beq neg x y) s K):ISem F (.beq neg x y) s K:=by
 intro c d g R
 simp only [wI] at H
 cases hx:vev x s.e with
 | none=>simp only [hx] at H
 | some v=>
  cases v<;>simp only [hx] at H
  rename_i a
  cases hy:vev y s.e with
  | none=>simp only [hy] at H
  | some v=>
   cases v<;>simp only [hy] at H
   rename_i b
   have e1:=(vev_sound R.env hx).bool_inv
   have e2:=(vev_sound R.env hy).bool_inv
   refine isem_val R H (.bool _) fun n k=>?_
   show asB (ev x d.e) .fail (fun a=>asB (ev y d.e) .fail fun b=>negK neg (beqB a b) fun v=>k d.e v d.nx d.h)=_
   rw [e1,e2,asB_eq]
   show asB (.bool b) .fail (fun b=>negK neg (beqB a b) fun v=>k d.e v d.nx d.h)=_
   rw [asB_eq]
   show negK neg (beqB a b) (fun v=>k d.e v d.nx d.h)=_
   rw [negK_eq,beqB_eq]
theorem s_isnil {neg:Bool} {x:Opd} (H:wI F (.isnil neg x) s K):ISem F (.isnil neg x) s K:=by
 intro c d g R
 simp only [wI] at H
 have r1:∀ (n:Nat) (k:Kv),ev x d.e=.nils→insK (.isnil neg x) F (exec F n) c.wm d.e d.nx d.h k=k d.e (.bool (neg != true)) d.nx d.h:=by
  intro n k e
  show asSl (ev x d.e) (nilsK (ev x d.e) .fail fun _=>negK neg true fun v=>k d.e v d.nx d.h) (fun _ _ _ _ _=>negK neg false fun v=>k d.e v d.nx d.h)=_
  rw [e];show negK neg true (fun v=>k d.e v d.nx d.h)=_;rw [negK_eq]
 have r2:∀ (n:Nat) (k:Kv) (b:P) (o m:Nat) (cp:Option Nat) (sz:Nat),ev x d.e=.sl b o m cp sz→insK (.isnil neg x) F (exec F n) c.wm d.e d.nx d.h k=k d.e (.bool (neg != false)) d.nx d.h:=by
  intro n k b o m cp sz e
  show asSl (ev x d.e) (nilsK (ev x d.e) .fail fun _=>negK neg true fun v=>k d.e v d.nx d.h) (fun _ _ _ _ _=>negK neg false fun v=>k d.e v d.nx d.h)=_
  rw [e];show negK neg false (fun v=>k d.e v d.nx d.h)=_;rw [negK_eq]
 cases hx:vev x s.e with
 | none=>simp only [hx] at H
 | some v=>
  have hv:=vev_sound R.env hx
  cases v<;>simp only [hx] at H
  case nils=>exact isem_val R H (.bool _) fun n k=>r1 n k hv.nils_inv
  case fz n cp sz l=>
   rcases hv.fz_cells with ⟨e,h1,_⟩|⟨k0,o,c',cells,e,_⟩
   ·exact isem_val R (H true fun _=>h1) (.bool _) fun n k=>r1 n k e
   ·exact isem_val R (H false (fun h=>by cases h)) (.bool _) fun n k=>r2 n k _ _ _ _ _ e
  case ow k0 n sz=>
   cases hl:live s.h k0 (n*sz) with
   | none=>simp only [hl] at H
   | some ob=>
    simp only [hl] at H
    obtain ⟨h1,h2,h3,h4,h5⟩:=ow_blk R hl hv
    rcases h5 with ⟨e,rfl⟩|⟨b,o,cp,e⟩
    ·exact isem_val R (H true fun _=>by simpa using h2) (.bool _) fun n k=>r1 n k e
    ·exact isem_val R (H false (fun h=>by cases h)) (.bool _) fun n k=>r2 n k _ _ _ _ _ e
theorem s_neg {a:Opd} (H:wI F (.neg a) s K):ISem F (.neg a) s K:=by
 intro c d g R
 simp only [wI] at H
 cases hx:vev a s.e with
 | none=>simp only [hx] at H
 | some v=>
  cases v<;>simp only [hx] at H
  have e1:=(vev_sound R.env hx).int_inv
  refine isem_val R H (.int _ _) fun n k=>?_
  show asI (ev a d.e) .fail (fun j x=>mkI j (ineg x) fun v=>k d.e v d.nx d.h)=_
  rw [e1,asI_eq];show mkI _ (ineg _) _=_;rw [mkI_eq,ineg_eq]
theorem s_shr {x y:Opd} (H:wI F (.shr x y) s K):ISem F (.shr x y) s K:=by
 intro c d g R
 simp only [wI] at H
 cases hx:vev x s.e with
 | none=>simp only [hx] at H
 | some v=>
  cases v<;>simp only [hx] at H
  rename_i j a
  cases hy:vev y s.e with
  | none=>simp only [hy] at H
  | some v=>
   cases v<;>simp only [hy] at H
   rename_i j' b
   obtain ⟨⟨h1,h2⟩,H⟩:=H
   have e1:=(vev_sound R.env hx).int_inv
   have e2:=(vev_sound R.env hy).int_inv
   refine isem_val R H (.int _ _) fun n k=>?_
   show asI (ev x d.e) .fail (fun j a=>asI (ev y d.e) .fail fun _ n=>natI n (shrN j a fun v=>k d.e v d.nx d.h))=_
   rw [e1,asI_eq]
   show asI (ev y d.e) .fail (fun _ n=>natI n (shrN j a fun v=>k d.e v d.nx d.h))=_
   rw [e2,asI_eq]
   show natI b (shrN j a fun v=>k d.e v d.nx d.h)=_
   rw [natI_eq,if_pos h1]
   show chk (Nat.ble b.toNat (bitsK j)) (fun _=>mkI2 j (ishr a b.toNat) fun v=>k d.e v d.nx d.h)=_
   rw [chk_eq,bitsK_eq,if_pos (by rw [Nat.ble_eq];exact h2),ishr_eq]
   exact forceI_eq _ _
theorem s_not {a:Opd} (H:wI F (.not a) s K):ISem F (.not a) s K:=by
 intro c d g R
 simp only [wI] at H
 cases hx:vev a s.e with
 | none=>simp only [hx] at H
 | some v=>
  cases v<;>simp only [hx] at H
  have e1:=(vev_sound R.env hx).bool_inv
  refine isem_val R H (.bool _) fun n k=>?_
  show asB (ev a d.e) .fail (fun b=>blN b fun v=>k d.e v d.nx d.h)=_
  rw [e1,asB_eq];show blN _ _=_;rw [blN_eq]
theorem s_cv {j:IntKind} {a:Opd} (H:wI F (.cv j a) s K):ISem F (.cv j a) s K:=by
 intro c d g R
 simp only [wI] at H
 cases hx:vev a s.e with
 | none=>simp only [hx] at H
 | some v=>
  cases v<;>simp only [hx] at H
  have e1:=(vev_sound R.env hx).int_inv
  refine isem_val R H (.int _ _) fun n k=>?_
  show asI (ev a d.e) .fail (fun _ x=>mkI j x fun v=>k d.e v d.nx d.h)=_
  rw [e1,asI_eq];show mkI _ _ _=_;rw [mkI_eq]
theorem s_mfn {f:P} {cs:List Opd} (H:wI F (.mfn f cs) s K):ISem F (.mfn f cs) s K:=by
 intro c d g R
 simp only [wI] at H
 cases hx:vovs cs s.e with
 | none=>simp only [hx] at H
 | some vs=>
  simp only [hx] at H
  refine isem_val R H (.fn (vovs_sound R.env hx)) fun n k=>?_
  show ovsK cs d.e (fun vs=>k d.e (.fn f vs) d.nx d.h)=_
  rw [ovsK_eq]
theorem s_fi {o:Nat} {a:Opd} (H:wI F (.fi o a) s K):ISem F (.fi o a) s K:=by
 intro c d g R
 simp only [wI] at H
 cases hx:vev a s.e with
 | none=>simp only [hx] at H
 | some v=>
  cases v<;>simp only [hx] at H
  rename_i l
  obtain ⟨l',e1,r1⟩:=(vev_sound R.env hx).agg_inv
  cases hi:l[o]? with
  | none=>simp only [hi] at H
  | some u=>
   simp only [hi] at H
   obtain ⟨y,h1,h2⟩:=r1.get o u hi
   refine isem_val R H h2 fun n k=>?_
   show asA (ev a d.e) .fail (fun l=>nthK l o .fail fun v=>fV v fun v=>k d.e v d.nx d.h)=_
   rw [e1,asA_eq];show nthK l' o .fail (fun v=>fV v fun v=>k d.e v d.nx d.h)=_
   rw [nthK_eq,h1];show fV y (fun v=>k d.e v d.nx d.h)=_;rw [fV_eq]
theorem s_fia {o n0:Nat} {a:Opd} (H:wI F (.fia o n0 a) s K):ISem F (.fia o n0 a) s K:=by
 intro c d g R
 simp only [wI] at H
 cases hx:vev a s.e with
 | none=>simp only [hx] at H
 | some v=>
  cases v<;>simp only [hx] at H
  rename_i l
  obtain ⟨l',e1,r1⟩:=(vev_sound R.env hx).agg_inv
  have hle:=r1.length
  refine isem_val R H.2 (.agg ((r1.drop o).take n0)) fun n k=>?_
  show asA (ev a d.e) .fail (fun l=>dropK o l .fail fun t=>takeK n0 t .fail fun r=>k d.e (.agg r) d.nx d.h)=_
  rw [e1,asA_eq];show dropK o l' .fail (fun t=>takeK n0 t .fail fun r=>k d.e (.agg r) d.nx d.h)=_
  rw [dropK_eq,if_pos (by omega),takeK_eq,if_pos (by rw [List.length_drop];omega)]
theorem s_ex {a:Opd} {i:Nat} (H:wI F (.ex a i) s K):ISem F (.ex a i) s K:=by
 intro c d g R
 simp only [wI] at H
 cases hx:vev a s.e with
 | none=>simp only [hx] at H
 | some v=>
  cases v<;>simp only [hx] at H
  rename_i l
  obtain ⟨l',e1,r1⟩:=(vev_sound R.env hx).tup_inv
  cases hi:l[i]? with
  | none=>simp only [hi] at H
  | some u=>
   simp only [hi] at H
   obtain ⟨y,h1,h2⟩:=r1.get i u hi
   refine isem_val R H h2 fun n k=>?_
   show asT (ev a d.e) .fail (fun l=>nthK l i .fail fun v=>fV v fun v=>k d.e v d.nx d.h)=_
   rw [e1,asT_eq];show nthK l' i .fail (fun v=>fV v fun v=>k d.e v d.nx d.h)=_
   rw [nthK_eq,h1];show fV y (fun v=>k d.e v d.nx d.h)=_;rw [fV_eq]
theorem s_len {a:Opd} (H:wI F (.len a) s K):ISem F (.len a) s K:=by
 intro c d g R
 simp only [wI] at H
 have r1:∀ (n:Nat) (k:Kv),ev a d.e=.nils→insK (.len a) F (exec F n) c.wm d.e d.nx d.h k=k d.e (.int .i64 0) d.nx d.h:=by
  intro n k e
  show asSl (ev a d.e) (nilsK (ev a d.e) .fail fun _=>lenOf (nat_lit 0) d.e d.nx d.h k) (fun _ _ n _ _=>lenOf n d.e d.nx d.h k)=_
  rw [e];show forceN 0 (fun n=>k d.e (.int .i64 (.ofNat n)) d.nx d.h)=_;rw [forceN_eq];rfl
 have r2:∀ (n:Nat) (k:Kv) (b:P) (o m:Nat) (cp:Option Nat) (sz:Nat),ev a d.e=.sl b o m cp sz→insK (.len a) F (exec F n) c.wm d.e d.nx d.h k=k d.e (.int .i64 m) d.nx d.h:=by
  intro n k b o m cp sz e
  show asSl (ev a d.e) (nilsK (ev a d.e) .fail fun _=>lenOf (nat_lit 0) d.e d.nx d.h k) (fun _ _ n _ _=>lenOf n d.e d.nx d.h k)=_
  rw [e];show forceN m (fun n=>k d.e (.int .i64 (.ofNat n)) d.nx d.h)=_;rw [forceN_eq];rfl
 cases hx:vev a s.e with
 | none=>simp only [hx] at H
 | some v=>
  have hv:=vev_sound R.env hx
  cases v<;>simp only [hx] at H
  case nils=>exact isem_val R H (.int _ _) fun n k=>r1 n k hv.nils_inv
  case fz n cp sz l=>
   rcases hv.fz_cells with ⟨e,rfl,_⟩|⟨k0,o,c',cells,e,_⟩
   ·exact isem_val R H (.int _ _) fun n k=>r1 n k e
   ·exact isem_val R H (.int _ _) fun n k=>r2 n k _ _ _ _ _ e
  case ow k0 n sz=>
   cases hl:live s.h k0 (n*sz) with
   | none=>simp only [hl] at H;exact H.2.elim
   | some ob=>
    simp only [hl] at H
    obtain ⟨h1,h2,h3,h4,h5⟩:=ow_blk R hl hv
    rcases h5 with ⟨e,rfl⟩|⟨b,o,cp,e⟩
    ·exact isem_val R H.2 (.int _ _) fun n k=>r1 n k e
    ·exact isem_val R H.2 (.int _ _) fun n k=>r2 n k _ _ _ _ _ e
  case os k0 m o n sz=>
   cases hl:live s.h k0 m with
   | none=>simp only [hl] at H
   | some ob=>
    simp only [hl] at H
    rcases os_blk R hl hv with ⟨e,rfl,_⟩|⟨r,b,q,cp,cells,e,_⟩
    ·exact isem_val R H (.int _ _) fun n k=>r1 n k e
    ·exact isem_val R H (.int _ _) fun n k=>r2 n k _ _ _ _ _ e
theorem s_cap {a:Opd} (H:wI F (.cap a) s K):ISem F (.cap a) s K:=by
 intro c d g R
 simp only [wI] at H
 have r1:∀ (n:Nat) (k:Kv),ev a d.e=.nils→insK (.cap a) F (exec F n) c.wm d.e d.nx d.h k=k d.e (.int .i64 0) d.nx d.h:=by
  intro n k e
  show asSl (ev a d.e) (nilsK (ev a d.e) .fail fun _=>lenOf (nat_lit 0) d.e d.nx d.h k) (fun _ _ _ c _=>Option.rec (motive:=fun _=>Res) .fail (fun c=>lenOf c d.e d.nx d.h k) c)=_
  rw [e];show forceN 0 (fun n=>k d.e (.int .i64 (.ofNat n)) d.nx d.h)=_;rw [forceN_eq];rfl
 cases hx:vev a s.e with
 | none=>simp only [hx] at H
 | some v=>
  have hv:=vev_sound R.env hx
  cases v<;>simp only [hx] at H
  case nils=>exact isem_val R H (.int _ _) fun n k=>r1 n k hv.nils_inv
  case fz n cp sz l=>
   cases cp with
   | none=>exact H.elim
   | some cp=>
    simp only at H
    rcases hv.fz_cells with ⟨e,rfl,_,h1⟩|⟨k0,o,c',cells,e,_,_,_,_,_,h1,_⟩
    ·rcases h1 with h1|h1
     ·cases h1
     ·cases h1;exact isem_val R H (.int _ _) fun n k=>r1 n k e
    ·refine isem_val R H (.int _ _) fun n k=>?_
     show asSl (ev a d.e) (nilsK (ev a d.e) .fail fun _=>lenOf (nat_lit 0) d.e d.nx d.h k) (fun _ _ _ c _=>Option.rec (motive:=fun _=>Res) .fail (fun c=>lenOf c d.e d.nx d.h k) c)=_
     rw [e,h1 cp rfl];show forceN cp (fun n=>k d.e (.int .i64 (.ofNat n)) d.nx d.h)=_;rw [forceN_eq];rfl
theorem vmx_sound {e:VEnv} {d:Env} (x:EnvR Z h M e d):∀ {l:List Opd} {j:IntKind} {a r:Int},vmx l j a e=some r→∀ (K:IntKind→Int→Res),mxK l j a d K=K j r
 | [],j,a,r,hv,K=>by simp only [vmx,Option.some.injEq] at hv;subst hv;rfl
 | o::l,j,a,r,hv,K=>by
  simp only [vmx] at hv
  cases h1:vev o e with
  | none=>simp only [h1,reduceCtorEq] at hv
  | some v=>
   cases v<;>simp only [h1,reduceCtorEq] at hv
   rename_i j' y
   by_cases hj:j'=j
   ·subst hj
    rw [if_pos rfl] at hv
    have e2:=(vev_sound x h1).int_inv
    show asI (ev o d) .fail (fun j y=>chk (sameK j' j) fun _=>mxB j' a y (fun k x=>mxK l k x d K) (ilt a y))=_
    rw [e2,asI_eq]
    show chk (sameK j' j') (fun _=>mxB j' a y (fun k x=>mxK l k x d K) (ilt a y))=_
    rw [chk_eq,if_pos (sameK_self _),ilt_eq]
    by_cases hlt:a<y
    ·rw [decide_eq_true hlt];show mxK l j' y d K=_
     rw [Int.max_eq_right (by omega)] at hv;exact vmx_sound x hv K
    ·rw [decide_eq_false hlt];show mxK l j' a d K=_
     rw [Int.max_eq_left (by omega)] at hv;exact vmx_sound x hv K
   ·rw [if_neg hj] at hv;cases hv
theorem vmn_sound {e:VEnv} {d:Env} (x:EnvR Z h M e d):∀ {l:List Opd} {j:IntKind} {a r:Int},vmn l j a e=some r→∀ (K:IntKind→Int→Res),mnK l j a d K=K j r
 | [],j,a,r,hv,K=>by simp only [vmn,Option.some.injEq] at hv;subst hv;rfl
 | o::l,j,a,r,hv,K=>by
  simp only [vmn] at hv
  cases h1:vev o e with
  | none=>simp only [h1,reduceCtorEq] at hv
  | some v=>
   cases v<;>simp only [h1,reduceCtorEq] at hv
   rename_i j' y
   by_cases hj:j'=j
   ·subst hj
    rw [if_pos rfl] at hv
    have e2:=(vev_sound x h1).int_inv
    show asI (ev o d) .fail (fun j y=>chk (sameK j' j) fun _=>mxB j' a y (fun k x=>mnK l k x d K) (ilt y a))=_
    rw [e2,asI_eq]
    show chk (sameK j' j') (fun _=>mxB j' a y (fun k x=>mnK l k x d K) (ilt y a))=_
    rw [chk_eq,if_pos (sameK_self _),ilt_eq]
    by_cases hlt:y<a
    ·rw [decide_eq_true hlt];show mnK l j' y d K=_
     rw [Int.min_eq_right (by omega)] at hv;exact vmn_sound x hv K
    ·rw [decide_eq_false hlt];show mnK l j' a d K=_
     rw [Int.min_eq_left (by omega)] at hv;exact vmn_sound x hv K
   ·rw [if_neg hj] at hv;cases hv
theorem s_mx {a:Opd} {l:List Opd} (H:wI F (.mx a l) s K):ISem F (.mx a l) s K:=by
 intro c d g R
 simp only [wI] at H
 cases hx:vev a s.e with
 | none=>simp only [hx] at H
 | some v=>
  cases v<;>simp only [hx] at H
  rename_i j x
  cases hm:vmx l j x s.e with
  | none=>simp only [hm] at H
  | some r=>
   simp only [hm] at H
   have e1:=(vev_sound R.env hx).int_inv
   refine isem_val R H (.int _ _) fun n k=>?_
   show asI (ev a d.e) .fail (fun j x=>mxK l j x d.e fun j x=>k d.e (.int j x) d.nx d.h)=_
   rw [e1,asI_eq];show mxK l j x d.e (fun j x=>k d.e (.int j x) d.nx d.h)=_
   rw [vmx_sound R.env hm]
theorem s_mn {a:Opd} {l:List Opd} (H:wI F (.mn a l) s K):ISem F (.mn a l) s K:=by
 intro c d g R
 simp only [wI] at H
 cases hx:vev a s.e with
 | none=>simp only [hx] at H
 | some v=>
  cases v<;>simp only [hx] at H
  rename_i j x
  cases hm:vmn l j x s.e with
  | none=>simp only [hm] at H
  | some r=>
   simp only [hm] at H
   have e1:=(vev_sound R.env hx).int_inv
   refine isem_val R H (.int _ _) fun n k=>?_
   show asI (ev a d.e) .fail (fun j x=>mnK l j x d.e fun j x=>k d.e (.int j x) d.nx d.h)=_
   rw [e1,asI_eq];show mnK l j x d.e (fun j x=>k d.e (.int j x) d.nx d.h)=_
   rw [vmn_sound R.env hm]
end
section
variable {c:Ctx} {nx w:Nat} {vh:VHp} {dnx:P} {dh:Hp} {g:Gh}
theorem HpR.renew (R:HpR c nx w vh dnx dh g) {k:Nat} {ob ob':VOb} {r r':DV} {dnx':P} {dh':Hp} (hk:hget vh k=some ob) (hr:g.μ k=some r)
 (hlen:ob.cells.length≤ob'.cells.length) (hsame:ob.cells.length=ob'.cells.length→r'=r)
 (hdh:∀ a:P,a.n<dnx.n→(∀ b q,refAt r=some (b,q)→a≠b)→Tr.get? a dh'=Tr.get? a dh)
 (htop:∀ a:P,dnx'.n≤a.n→Tr.get? a dh'=none) (hle:dnx.n≤dnx'.n)
 (hr':∀ b q,refAt r'=some (b,q)→dnx.n≤b.n∨∃ q',refAt r=some (b,q'))
 (hB:(∀ a,g.Z a→objAt a dh'=objAt a dh)→MLe (mm nx vh g) (mm nx (hset vh k ob') ⟨g.Z,upd g.μ k r'⟩)→Blk g.Z dh' (mm nx (hset vh k ob') ⟨g.Z,upd g.μ k r'⟩) ob' r'):
 HpR c nx w (hset vh k ob') dnx' dh' ⟨g.Z,upd g.μ k r'⟩∧Evo nx vh dnx dh g nx (hset vh k ob') dnx' dh' ⟨g.Z,upd g.μ k r'⟩:=by
 have hm:MLe (mm nx vh g) (mm nx (hset vh k ob') ⟨g.Z,upd g.μ k r'⟩):=by
  refine ⟨Nat.le_refl _,fun i hi m' r1 e=>?_⟩
  obtain ⟨o,h1,h2,h3⟩:=mof_some e
  by_cases hik:i=k
  ·subst hik
   rw [hget_set_self hk] at h1;cases h1
   simp only [upd_self] at h2;cases h2
   refine ⟨_,r,mof_eq hk hr,by omega,fun e=>hsame (by omega)⟩
  ·rw [hget_set_ne hik] at h1
   simp only [upd_ne hik] at h2
   exact ⟨m',r1,by rw [mof_eq h1 h2,h3],Nat.le_refl _,fun _=>rfl⟩
 have hz:∀ a,g.Z a→Tr.get? a dh'=Tr.get? a dh:=fun a ha=>hdh a (R.zlt a ha) fun b q hb=>by
  rintro rfl;exact (R.own k ob r a q hk hr hb).1 ha
 have ho:∀ a,g.Z a→objAt a dh'=objAt a dh:=fun a ha=>objAt_of (hz a ha)
 have old:∀ i o,hget (hset vh k ob') i=some o→i≠k→hget vh i=some o:=by
  intro i o hi hne
  rwa [hget_set_ne hne] at hi
 refine ⟨?_,⟨hm,fun _ h=>h,ho,hle⟩⟩
 constructor
 ·intro i o hi
  by_cases hik:i=k
  ·subst hik
   rw [hget_set_self hk] at hi;cases hi
   exact ⟨(R.blk i ob hk).1,r',upd_self _ _ _,hB ho hm⟩
  ·have hi':=old i o hi hik
   obtain ⟨h1,r1,e1,B1⟩:=R.blk i o hi'
   refine ⟨h1,r1,(upd_ne hik).trans e1,B1.mono (fun _ h=>h) ho hm fun b q hb=>hdh b (R.lt hi' e1 hb) fun b' q' hb'=>?_⟩
   rintro rfl
   exact hik (R.inj i k o ob r1 r b q q' hi' hk e1 hr hb hb')
 ·intro i o r1 b q1 hi hr1 hb
  by_cases hik:i=k
  ·subst hik
   simp only [upd_self] at hr1;cases hr1
   rcases hr' b q1 hb with h1|⟨q',h1⟩
   ·refine ⟨fun hz=>?_,.inl (Nat.le_trans R.le h1),fun _ m hm=>Nat.le_trans (R.wm m hm) h1⟩
    have:=R.zlt _ hz;omega
   ·exact R.own i ob r b q' hk hr h1
  ·simp only [upd_ne hik] at hr1
   exact R.own i o r1 b q1 (old i o hi hik) hr1 hb
 ·intro i i' o o' r1 r2 b q1 q2 hi hi' hr1 hr2 hb hb'
  by_cases hik:i=k
  ·by_cases hik':i'=k
   ·rw [hik,hik']
   ·subst hik
    simp only [upd_self] at hr1;cases hr1
    simp only [upd_ne hik'] at hr2
    have hi2:=old i' o' hi' hik'
    rcases hr' b q1 hb with h1|⟨q',h1⟩
    ·have:=R.lt hi2 hr2 hb';omega
    ·exact R.inj i i' ob o' r r2 b q' q2 hk hi2 hr hr2 h1 hb'
  ·have hi1:=old i o hi hik
   simp only [upd_ne hik] at hr1
   by_cases hik':i'=k
   ·subst hik'
    simp only [upd_self] at hr2;cases hr2
    rcases hr' b q2 hb' with h1|⟨q',h1⟩
    ·have:=R.lt hi1 hr1 hb;omega
    ·exact R.inj i i' o ob r1 r b q1 q' hi1 hk hr1 hr hb h1
   ·simp only [upd_ne hik'] at hr2
    exact R.inj i i' o o' r1 r2 b q1 q2 hi1 (old i' o' hi' hik') hr1 hr2 hb hb'
 ·intro b hb;exact Nat.lt_of_lt_of_le (R.zlt b hb) hle
 ·exact R.zold
 ·exact htop
 ·intro b hb hn
  rw [hdh b (Nat.lt_of_lt_of_le hb R.le) fun b' q hb'=>?_]
  ·exact R.keep b hb hn
  ·rintro rfl
   rcases (R.own k ob r b q hk hr hb').2.1 with h1|h1
   ·omega
   ·exact hn h1
 ·exact Nat.le_trans R.le hle
 ·intro m hm;exact Nat.le_trans (R.wm m hm) hle
 ·exact R.wf
theorem HpR.move (R:HpR c nx w vh dnx dh g) {k:Nat} {ob ob':VOb} {r r':DV} (hk:hget vh k=some ob) (hr:g.μ k=some r) (hw:w≤k)
 (hr':∀ b q,refAt r'=some (b,q)→∃ q',refAt r=some (b,q'))
 (hB:MLe (mm nx vh g) (mm (nx+1) ((nx,ob')::hdel vh k) ⟨g.Z,upd g.μ nx r'⟩)→Blk g.Z dh (mm (nx+1) ((nx,ob')::hdel vh k) ⟨g.Z,upd g.μ nx r'⟩) ob' r'):
 HpR c (nx+1) w ((nx,ob')::hdel vh k) dnx dh ⟨g.Z,upd g.μ nx r'⟩∧Evo nx vh dnx dh g (nx+1) ((nx,ob')::hdel vh k) dnx dh ⟨g.Z,upd g.μ nx r'⟩:=by
 have hkn:=(R.blk k ob hk).1
 have old:∀ i o,hget ((nx,ob')::hdel vh k) i=some o→i≠nx→hget vh i=some o∧i≠k∧i<nx:=by
  intro i o hi hne
  simp only [hget,if_neg hne] at hi
  rw [hget_del] at hi
  by_cases hik:i=k
  ·rw [if_pos hik] at hi;cases hi
  ·rw [if_neg hik] at hi;exact ⟨hi,hik,(R.blk i o hi).1⟩
 have hm:MLe (mm nx vh g) (mm (nx+1) ((nx,ob')::hdel vh k) ⟨g.Z,upd g.μ nx r'⟩):=by
  refine ⟨by omega,fun i hi m' r1 e=>?_⟩
  obtain ⟨o,h1,h2,h3⟩:=mof_some e
  obtain ⟨h4,_,_⟩:=old i o h1 (by omega)
  simp only [upd_ne (show i≠nx by omega)] at h2
  exact ⟨m',r1,by rw [mof_eq h4 h2,h3],Nat.le_refl _,fun _=>rfl⟩
 refine ⟨?_,⟨hm,fun _ h=>h,fun _ _=>rfl,Nat.le_refl _⟩⟩
 constructor
 ·intro i o hi
  by_cases hik:i=nx
  ·subst hik
   simp only [hget,if_pos] at hi;cases hi
   exact ⟨by omega,r',upd_self _ _ _,hB hm⟩
  ·obtain ⟨hi',_,hlt⟩:=old i o hi hik
   obtain ⟨_,r1,e1,B1⟩:=R.blk i o hi'
   exact ⟨by omega,r1,(upd_ne hik).trans e1,B1.mono (fun _ h=>h) (fun _ _=>rfl) hm fun _ _ _=>rfl⟩
 ·intro i o r1 b q1 hi hr1 hb
  by_cases hik:i=nx
  ·subst hik
   simp only [upd_self] at hr1;cases hr1
   obtain ⟨q',h1⟩:=hr' b q1 hb
   obtain ⟨a1,a2,a3⟩:=R.own k ob r b q' hk hr h1
   exact ⟨a1,a2,fun _=>a3 hw⟩
  ·simp only [upd_ne hik] at hr1
   exact R.own i o r1 b q1 (old i o hi hik).1 hr1 hb
 ·intro i i' o o' r1 r2 b q1 q2 hi hi' hr1 hr2 hb hb'
  by_cases hik:i=nx
  ·by_cases hik':i'=nx
   ·rw [hik,hik']
   ·subst hik
    simp only [upd_self] at hr1;cases hr1
    simp only [upd_ne hik'] at hr2
    obtain ⟨hi2,hne,_⟩:=old i' o' hi' hik'
    obtain ⟨q',h1⟩:=hr' b q1 hb
    exact absurd (R.inj k i' ob o' r r2 b q' q2 hk hi2 hr hr2 h1 hb').symm hne
  ·obtain ⟨hi1,hne1,_⟩:=old i o hi hik
   simp only [upd_ne hik] at hr1
   by_cases hik':i'=nx
   ·subst hik'
    simp only [upd_self] at hr2;cases hr2
    obtain ⟨q',h1⟩:=hr' b q2 hb'
    exact absurd (R.inj i k o ob r1 r b q1 q' hi1 hk hr1 hr hb h1) hne1
   ·simp only [upd_ne hik'] at hr2
    exact R.inj i i' o o' r1 r2 b q1 q2 hi1 (old i' o' hi' hik').1 hr1 hr2 hb hb'
 ·exact R.zlt
 ·exact R.zold
 ·exact R.top
 ·exact R.keep
 ·exact R.le
 ·exact R.wm
 ·exact R.wf
end
section
variable {F:Tr Fd} {s:VSt} {K:VSt→VV→Prop}
theorem isem_new {i:Ins} {c:Ctx} {d:DS} {g:Gh} {cells:List DV} {ob:VOb} {v:VV} {r:DV} {vh:VHp} {q:Nat} (R:RS c s d g) {g0:Gh} (R0:HpR c s.nx s.w vh d.nx d.h g0) (E0:Evo s.nx s.h d.nx d.h g s.nx vh d.nx d.h g0)
 (hr:refAt r=some (d.nx,q))
 (hB:(∀ a,g0.Z a→objAt a (Tr.set d.nx d.h (some (.cells cells)))=objAt a d.h)→MLe (mm s.nx vh g0) (mm (s.nx+1) ((s.nx,ob)::vh) ⟨g0.Z,upd g0.μ s.nx r⟩)→Blk g0.Z (Tr.set d.nx d.h (some (.cells cells))) (mm (s.nx+1) ((s.nx,ob)::vh) ⟨g0.Z,upd g0.μ s.nx r⟩) ob r)
 (hx:XR g0.Z (Tr.set d.nx d.h (some (.cells cells))) (mm (s.nx+1) ((s.nx,ob)::vh) ⟨g0.Z,upd g0.μ s.nx r⟩) v r)
 (run:∀ (n:Nat) (k:Kv),insK i F (exec F n) c.wm d.e d.nx d.h k=k d.e r d.nx.suc (Tr.set d.nx d.h (some (.cells cells))))
 (hK:K ⟨s.e,s.nx+1,s.w,(s.nx,ob)::vh⟩ v):
 ∃ s' v d' x g',IRun F i c d d' x∧RS c s' d' g'∧s'.w=s.w∧XR g'.Z d'.h (mm s'.nx s'.h g') v x∧EvoS s d g s' d' g'∧K s' v:=by
 have hm:MLe (mm s.nx vh g0) (mm (s.nx+1) ((s.nx,ob)::vh) ⟨g0.Z,upd g0.μ s.nx r⟩):=by
  refine ⟨by omega,fun k hk m' r' e=>?_⟩
  obtain ⟨o,h1,h2,h3⟩:=mof_some e
  simp only [hget,if_neg (show k≠s.nx by omega)] at h1
  simp only [upd_ne (show k≠s.nx by omega)] at h2
  exact ⟨m',r',by rw [mof_eq h1 h2,h3],Nat.le_refl _,fun _=>rfl⟩
 have ho:∀ b,g0.Z b→objAt b (Tr.set d.nx d.h (some (.cells cells)))=objAt b d.h:=fun b hb=>objAt_of (get_new _ (R0.zlt b hb))
 obtain ⟨R1,E1⟩:=R0.alloc hr (hB ho hm)
 exact ⟨⟨s.e,s.nx+1,s.w,(s.nx,ob)::vh⟩,v,⟨d.e,d.nx.suc,Tr.set d.nx d.h (some (.cells cells))⟩,r,⟨g0.Z,upd g0.μ s.nx r⟩,⟨0,fun n _ k=>run n k⟩,⟨(E0.trans E1).env R.env,R1⟩,rfl,hx,E0.trans E1,hK⟩
theorem s_al {z:List DV} (H:wI F (.al z) s K):ISem F (.al z) s K:=by
 intro c d g R
 simp only [wI] at H
 cases hz:ofDVs z with
 | none=>simp only [hz] at H
 | some l=>
  simp only [hz] at H
  have hl:XRs g.Z (Tr.set d.nx d.h (some (.cells z))) (mm (s.nx+1) ((s.nx,.obj l)::s.h) ⟨g.Z,upd g.μ s.nx (.ptr d.nx 0)⟩) l z:=ofDVs_sound hz
  refine isem_new R R.hp (Evo.refl _ _ _ _ _) (r:=.ptr d.nx 0) (cells:=z) rfl (fun ho hm=>?_) ?_ (fun n k=>?_) H
  ·refine .inr (.inr ⟨d.nx,0,z,rfl,Tr.get_set_self _ _ _,?_,?_⟩)
   ·show 0+l.length≤z.length;rw [hl.length];omega
   ·show XRs _ _ (mm _ _ _) l ((z.drop 0).take l.length)
    rw [hl.length,List.drop_zero,List.take_length];exact hl
  ·refine .pt ⟨_,_,rfl⟩ (by omega) fun m' r' e=>?_
   obtain ⟨o,h1,h2,h3⟩:=mof_some e
   simp only [hget,if_pos] at h1;cases h1
   simp only [upd_self] at h2;cases h2
   exact ⟨by rw [←h3];exact Nat.le_refl _,fun _=>⟨_,_,rfl,rfl⟩⟩
  ·show newK z d.e d.nx d.h (fun n=>.ptr n 0) k=_
   rw [newK_eq]
theorem s_bx {a:Opd} (H:wI F (.bx a) s K):ISem F (.bx a) s K:=by
 intro c d g R
 simp only [wI] at H
 cases hz:vov a s.e with
 | none=>simp only [hz] at H
 | some v=>
  simp only [hz] at H
  cases hc:vcells v with
  | none=>simp only [hc] at H
  | some l=>
   simp only [hc] at H
   obtain ⟨z,h1,h2⟩:=vcells_sound (vov_sound R.env hz) hc
   refine isem_new R R.hp (Evo.refl _ _ _ _ _) (r:=.ptr d.nx 0) (cells:=z) rfl (fun ho hm=>?_) ?_ (fun n k=>?_) H
   ·have hl:XRs g.Z (Tr.set d.nx d.h (some (.cells z))) (mm (s.nx+1) ((s.nx,.obj l)::s.h) ⟨g.Z,upd g.μ s.nx (.ptr d.nx 0)⟩) l z:=XRs.mono (fun _ h=>h) ho hm h2
    refine .inr (.inr ⟨d.nx,0,z,rfl,Tr.get_set_self _ _ _,?_,?_⟩)
    ·show 0+l.length≤z.length;rw [hl.length];omega
    ·show XRs _ _ (mm _ _ _) l ((z.drop 0).take l.length)
     rw [hl.length,List.drop_zero,List.take_length];exact hl
   ·refine .pt ⟨_,_,rfl⟩ (by omega) fun m' r' e=>?_
    obtain ⟨o,h1,h2,h3⟩:=mof_some e
    simp only [hget,if_pos] at h1;cases h1
    simp only [upd_self] at h2;cases h2
    exact ⟨by rw [←h3];exact Nat.le_refl _,fun _=>⟨_,_,rfl,rfl⟩⟩
   ·show ovK a d.e (fun v=>cellsK v .fail fun l=>newK l d.e d.nx d.h (fun n=>.ptr n 0) k)=_
    rw [ovK_eq,cellsK_eq,h1]
    show newK z d.e d.nx d.h (fun n=>.ptr n 0) k=_
    rw [newK_eq]
theorem blk_row {Z:P→Prop} {h:Hp} {M:Option MM} {b:P} {n sz:Nat} {cp:Option Nat} {l:List VV} {cells:List DV} (hb:Tr.get? b h=some (.cells cells)) (hl:l.length=n*sz)
 (hc:∀ c,cp=some c→n≤c∧c*sz≤cells.length) (hx:∃ r t,cells=r++t∧XRs Z h none l r):Blk Z h M (.row l) (.sl b 0 n cp sz):=by
 obtain ⟨r,t,rfl,hx⟩:=hx
 have hlen:=hx.length
 refine .inr (.inl ⟨b,0,n,cp,sz,_,rfl,hb,hl,?_,fun c h=>⟨(hc c h).1,by rw [Nat.zero_add];exact (hc c h).2⟩,?_⟩)
 ·rw [List.length_append];omega
 ·show XRs Z h none l (((r++t).drop 0).take l.length)
  rw [hlen,List.drop_zero,List.take_left];exact hx
theorem xr_ow_new {Z:P→Prop} {h:Hp} {nx:Nat} {vh:VHp} {g:Gh} {n sz:Nat} {l:List VV} {r:DV} (hl:l.length=n*sz) (hr:(r=.nils∧n=0)∨∃ b o c,r=.sl b o n c sz):
 XR Z h (mm (nx+1) ((nx,.row l)::vh) ⟨g.Z,upd g.μ nx r⟩) (.ow nx n sz) r:=by
 refine .ow (by rcases hr with ⟨h,_⟩|⟨b,o,c,h⟩<;>rw [h]<;>first|exact .inl rfl|exact .inr ⟨_,_,_,_,_,rfl⟩) (by omega) fun m r' e=>?_
 obtain ⟨o,h1,h2,h3⟩:=mof_some e
 simp only [hget,if_pos] at h1;cases h1
 simp only [upd_self] at h2;cases h2
 exact ⟨by rw [←h3,←hl];exact Nat.le_refl _,fun _=>⟨rfl,hr⟩⟩
theorem s_bsl {len sz:Nat} {z:List DV} {ps:List (Nat × Nat × Opd)} (H:wI F (.bsl len sz z ps) s K):ISem F (.bsl len sz z ps) s K:=by
 intro c d g R
 simp only [wI] at H
 cases hz:ofDVs z with
 | none=>simp only [hz] at H
 | some z'=>
  simp only [hz] at H
  cases hf:vfills s.e ps z' with
  | none=>simp only [hf] at H
  | some l=>
   simp only [hf] at H
   cases hw:vwL s.h l with
   | none=>simp only [hw] at H
   | some l1=>
    simp only [hw] at H
    obtain ⟨hlen,H⟩:=H
    obtain ⟨l',h1,h2⟩:=vfills_sound R.env (ofDVs_sound hz) hf
    have h3:=vwL_sound R.hp h2 hw (ks:=keysL l) fun k h=>h
    obtain ⟨R1,E1⟩:=R.hp.freeze (keysL l) (zOf s.h g (keysL l)) fun b=>Iff.rfl
    have hlen':l1.length=len*sz:=by rw [h3.length,←h2.length];exact hlen
    refine isem_new R R1 E1 (r:=.sl d.nx 0 len (some len) sz) (cells:=l') rfl (fun ho hm=>?_) ?_ (fun n k=>?_) H
    ·exact blk_row (Tr.get_set_self _ _ _) hlen' (fun c h=>by cases h;exact ⟨Nat.le_refl _,by rw [←h3.length,hlen'];exact Nat.le_refl _⟩)
      ⟨l',[],by simp,XRs.mono (M:=none) (M':=none) (fun _ h=>h) ho trivial h3⟩
    ·exact xr_ow_new (g:=⟨zOf s.h g (keysL l),g.μ⟩) hlen' (.inr ⟨_,_,_,rfl⟩)
    ·show fillK ps z d.e (fun l=>newK l d.e d.nx d.h (fun n=>.sl n 0 len (some len) sz) k)=_
     rw [fillK_eq,h1]
     show newK l' d.e d.nx d.h (fun n=>.sl n 0 len (some len) sz) k=_
     rw [newK_eq]
theorem ofDVs_len:∀ {z:List DV} {l:List VV},ofDVs z=some l→l.length=z.length:=fun h=>(ofDVs_sound (Z:=fun _=>True) (h:=.nl) (M:=none) h).length
theorem reps_len {α:Type} (z:List α) (n:Nat):(List.replicate n z).flatten.length=n*z.length:=by
 induction n with
 | zero=>simp
 | succ n ih=>simp only [List.replicate_succ,List.flatten_cons,List.length_append,ih];rw [Nat.succ_mul];omega
theorem reps_add {α:Type} (z:List α) (n m:Nat):(List.replicate (n+m) z).flatten=(List.replicate n z).flatten++(List.replicate m z).flatten:=by
 rw [←List.replicate_append_replicate,List.flatten_append]
theorem s_msl {sz bt:Nat} {z:List DV} {len cap:Opd} (H:wI F (.msl sz bt z len cap) s K):ISem F (.msl sz bt z len cap) s K:=by
 intro c d g R
 simp only [wI] at H
 cases hz:ofDVs z with
 | none=>simp only [hz] at H
 | some z'=>
  simp only [hz] at H
  cases hx:vev len s.e with
  | none=>simp only [hx] at H
  | some v=>
   cases v<;>simp only [hx] at H
   rename_i j x
   cases hy:vev cap s.e with
   | none=>simp only [hy] at H
   | some v=>
    cases v<;>simp only [hy] at H
    rename_i j' y
    obtain ⟨hsz,⟨h1,h2,h3⟩,H⟩:=H
    have e1:=(vev_sound R.env hx).int_inv
    have e2:=(vev_sound R.env hy).int_inv
    have hz':=ofDVs_len hz
    obtain ⟨q,rfl⟩:∃ q:Nat,x=q:=⟨x.toNat,by omega⟩
    obtain ⟨t,rfl⟩:∃ t:Nat,y=t:=⟨y.toNat,by omega⟩
    simp only [Int.toNat_natCast] at H
    refine isem_new R R.hp (Evo.refl _ _ _ _ _) (r:=.sl d.nx 0 q (some t) sz) (cells:=reps z t) rfl (fun ho hm=>?_) ?_ (fun n k=>?_) H
    ·refine blk_row (Tr.get_set_self _ _ _) (by unfold reps';rw [reps_len,hsz]) (fun c h=>by cases h;exact ⟨by omega,by unfold reps;rw [reps_len,←hz',hsz];exact Nat.le_refl _⟩) ?_
     refine ⟨reps z q,reps z (t-q),?_,?_⟩
     ·unfold reps;rw [←reps_add];congr 2;omega
     ·unfold reps' reps;exact (ofDVs_sound hz).reps q
    ·exact xr_ow_new (by unfold reps';rw [reps_len,hsz]) (.inr ⟨_,_,_,rfl⟩)
    ·show asI (ev len d.e) .fail (fun _ x=>natI x fun n=>asI (ev cap d.e) .fail fun _ y=>natI y fun c=>chk (Nat.ble n c) fun _=>
      chk (Nat.ble (Nat.mul bt c) (nat_lit 1073741824)) fun _=>repZ z c fun l=>forceN n fun n=>forceN c fun c=>newK l d.e d.nx d.h (fun b=>.sl b (nat_lit 0) n (some c) sz) k)=_
     rw [e1,asI_eq]
     show natI (q:Int) (fun n=>asI (ev cap d.e) .fail fun _ y=>natI y fun c=>chk (Nat.ble n c) fun _=>
      chk (Nat.ble (Nat.mul bt c) (nat_lit 1073741824)) fun _=>repZ z c fun l=>forceN n fun n=>forceN c fun c=>newK l d.e d.nx d.h (fun b=>.sl b (nat_lit 0) n (some c) sz) k)=_
     rw [natI_eq,if_pos (by omega),e2,asI_eq]
     show natI (t:Int) (fun c=>chk (Nat.ble (q:Int).toNat c) fun _=>
      chk (Nat.ble (Nat.mul bt c) (nat_lit 1073741824)) fun _=>repZ z c fun l=>forceN (q:Int).toNat fun n=>forceN c fun c=>newK l d.e d.nx d.h (fun b=>.sl b (nat_lit 0) n (some c) sz) k)=_
     rw [natI_eq,if_pos (by omega),chk_eq,if_pos (by rw [Nat.ble_eq];omega),chk_eq,if_pos (by
      rw [Nat.ble_eq];show bt*(t:Int).toNat≤1073741824
      rw [Int.toNat_natCast]
      have:(bt:Int)*t=((bt*t:Nat):Int):=by simp
      rw [this] at h3;omega),repZ_eq,forceN_eq,forceN_eq,newK_eq]
     simp only [Int.toNat_natCast]
theorem s_apz {sz bt:Nat} {z:List DV} {a n0:Opd} (H:wI F (.apz sz bt z a n0) s K):ISem F (.apz sz bt z a n0) s K:=by
 intro c d g R
 simp only [wI] at H
 cases hz:ofDVs z with
 | none=>simp only [hz] at H
 | some z'=>
  simp only [hz] at H
  cases hx:vev a s.e with
  | none=>simp only [hx] at H
  | some v=>
   cases v<;>simp only [hx] at H
   cases hy:vev n0 s.e with
   | none=>simp only [hy] at H
   | some v=>
    cases v<;>simp only [hy] at H
    rename_i j' y
    obtain ⟨hsz,⟨h1,h3⟩,H⟩:=H
    have e1:=(vev_sound R.env hx).nils_inv
    have e2:=(vev_sound R.env hy).int_inv
    have hz':=ofDVs_len hz
    obtain ⟨t,rfl⟩:∃ t:Nat,y=t:=⟨y.toNat,by omega⟩
    simp only [Int.toNat_natCast] at H
    have run:∀ (n:Nat) (k:Kv),insK (.apz sz bt z a n0) F (exec F n) c.wm d.e d.nx d.h k=Bool.rec (motive:=fun _=>Res) (apzN sz z t d.e d.nx d.h k) (k d.e .nils d.nx d.h) (Nat.beq t (nat_lit 0)):=by
     intro n k
     show nilsK (ev a d.e) .fail (fun _=>asI (ev n0 d.e) .fail fun _ x=>natI x fun n=>chk (Nat.ble (Nat.mul n bt) (nat_lit 1073741824)) fun _=>
      Bool.rec (motive:=fun _=>Res) (apzN sz z n d.e d.nx d.h k) (k d.e .nils d.nx d.h) (Nat.beq n (nat_lit 0)))=_
     rw [e1,nilsK_eq]
     show asI (ev n0 d.e) .fail (fun _ x=>natI x fun n=>chk (Nat.ble (Nat.mul n bt) (nat_lit 1073741824)) fun _=>
      Bool.rec (motive:=fun _=>Res) (apzN sz z n d.e d.nx d.h k) (k d.e .nils d.nx d.h) (Nat.beq n (nat_lit 0)))=_
     rw [e2,asI_eq]
     show natI (t:Int) (fun n=>chk (Nat.ble (Nat.mul n bt) (nat_lit 1073741824)) fun _=>
      Bool.rec (motive:=fun _=>Res) (apzN sz z n d.e d.nx d.h k) (k d.e .nils d.nx d.h) (Nat.beq n (nat_lit 0)))=_
     rw [natI_eq,if_pos (by omega),chk_eq,if_pos (by
      rw [Nat.ble_eq];show (t:Int).toNat*bt≤1073741824
      rw [Int.toNat_natCast]
      have:(t:Int)*bt=((t*bt:Nat):Int):=by simp
      rw [this] at h3;omega),Int.toNat_natCast]
    cases t with
    | zero=>
     obtain ⟨R1,E1⟩:=R.hp.addNil
     refine ⟨⟨s.e,s.nx+1,s.w,(s.nx,.row (reps' z' 0))::s.h⟩,.ow s.nx 0 sz,d,.nils,⟨g.Z,upd g.μ s.nx .nils⟩,⟨0,fun n _ k=>?_⟩,⟨E1.env R.env,R1⟩,rfl,?_,E1,H⟩
     ·rw [run];rfl
     ·exact xr_ow_new (by simp [reps']) (.inl ⟨rfl,rfl⟩)
    | succ t=>
     refine isem_new R R.hp (Evo.refl _ _ _ _ _) (r:=.sl d.nx 0 (t+1) none sz) (cells:=reps z (t+1)) rfl (fun ho hm=>?_) ?_ (fun n k=>?_) H
     ·refine blk_row (Tr.get_set_self _ _ _) (by unfold reps';rw [reps_len,hsz]) (fun c h=>by cases h) ?_
      exact ⟨reps z (t+1),[],by simp,by unfold reps' reps;exact (ofDVs_sound hz).reps _⟩
     ·exact xr_ow_new (by unfold reps';rw [reps_len,hsz]) (.inr ⟨_,_,_,rfl⟩)
     ·rw [run]
      show repZ z (t+1) (fun new=>apNew sz 0 (t+1) [] new d.e d.nx d.h k)=_
      rw [repZ_eq]
      show catK [] (reps z (t+1)) (fun l=>forceN (Nat.add 0 (t+1)) fun n=>newK l d.e d.nx d.h (fun b=>.sl b (nat_lit 0) n none sz) k)=_
      rw [catK_eq,forceN_eq,newK_eq]
      show k d.e (.sl d.nx 0 (0+(t+1)) none sz) _ _=_
      rw [Nat.zero_add,List.nil_append]
end
theorem spl_length (l:List VV) (o:Nat) (c:List VV) (h:o+c.length≤l.length):(spl l o c).length=l.length:=by
 unfold spl;rw [List.length_append,List.length_append,List.length_take,List.length_drop];omega
theorem splD_length {α:Type} (l:List α) (o:Nat) (c:List α) (h:o+c.length≤l.length):(l.take o++c++l.drop (o+c.length)).length=l.length:=by
 rw [List.length_append,List.length_append,List.length_take,List.length_drop];omega
theorem spl_cut {α:Type} (l:List α) (q n o:Nat) (c:List α) (h:o+c.length≤n) (hn:q+n≤l.length):
 ((l.take (q+o)++c++l.drop (q+o+c.length)).drop q).take n=((l.drop q).take n).take o++c++((l.drop q).take n).drop (o+c.length):=by
 apply List.ext_getElem?
 intro i
 rw [List.getElem?_take,List.getElem?_drop,List.getElem?_append,List.getElem?_append,List.getElem?_append,List.getElem?_append]
 simp only [List.length_append,List.length_take,List.length_drop,List.getElem?_take,List.getElem?_drop]
 by_cases h1:i<n
 ·rw [if_pos h1]
  by_cases h2:i<o
  ·rw [if_pos (by omega),if_pos (by omega),if_pos (by omega),if_pos (by omega),if_pos (by omega),if_pos (by omega),if_pos (by omega)]
  ·by_cases h3:i<o+c.length
   ·rw [if_pos (by omega),if_neg (by omega),if_pos (by omega),if_neg (by omega)]
    congr 1;omega
   ·rw [if_neg (by omega),if_neg (by omega),if_pos (by omega)]
    congr 1;omega
 ·rw [if_neg h1]
  by_cases h3:i<o+c.length
  ·omega
  ·rw [if_neg (by omega),if_neg (by omega)]
section
variable {F:Tr Fd} {s:VSt} {K:VSt→VV→Prop}
theorem wOk_pos {wm:Option P} {b:P} (h:∀ m,wm=some m→m.n≤b.n) (F:Res) (K:Unit→Res):wOk wm b F K=K ():=by rw [wOk_eq];exact if_pos h
theorem s_st {n0:Nat} {a v:Opd} (H:wI F (.st n0 a v) s K):ISem F (.st n0 a v) s K:=by
 intro c d g R
 simp only [wI] at H
 cases hv:vov v s.e with
 | none=>simp only [hv] at H
 | some u=>
  simp only [hv] at H
  cases hc:vcells u with
  | none=>simp only [hc] at H
  | some l=>
   simp only [hc] at H
   obtain ⟨hlen,H⟩:=H
   obtain ⟨l',h1,h2⟩:=vcells_sound (vov_sound R.env hv) hc
   have hl2:=h2.length
   have run:∀ (n:Nat) (k:Kv),insK (.st n0 a v) F (exec F n) c.wm d.e d.nx d.h k=asP (ev a d.e) (asFl (ev a d.e) .fail (stF d.e d.nx d.h k l')) (stP c.wm d.e d.nx d.h k l'):=by
    intro n k
    show ovK v d.e (fun v=>cellsK v .fail fun c0=>chk (isLen c0 n0) fun _=>asP (ev a d.e) (asFl (ev a d.e) .fail (stF d.e d.nx d.h k c0)) (stP c.wm d.e d.nx d.h k c0))=_
    rw [ovK_eq,cellsK_eq,h1]
    show chk (isLen l' n0) (fun _=>asP (ev a d.e) (asFl (ev a d.e) .fail (stF d.e d.nx d.h k l')) (stP c.wm d.e d.nx d.h k l'))=_
    rw [chk_eq,isLen_eq,if_pos (by rw [decide_eq_true_eq];omega)]
   cases ha:vev a s.e with
   | none=>simp only [ha] at H
   | some u=>
    have hx:=vev_sound R.env ha
    cases u<;>simp only [ha] at H
    case fld p o=>
     cases hp:Tr.get? p s.e with
     | none=>simp only [hp] at H
     | some y=>
      cases y<;>simp only [hp] at H
      rename_i z
      obtain ⟨y,hy,hxy⟩:=R.env.get hp
      obtain ⟨z',rfl,hz⟩:=hxy.var_inv
      have hzl:=hz.length
      refine ⟨⟨Tr.set p s.e (some (.var (spl z o l))),s.nx,s.w,s.h⟩,.tup [],⟨Tr.set p d.e (some (.var (z'.take o++l'++z'.drop (o+l'.length)))),d.nx,d.h⟩,.tup [],g,⟨0,fun n _ k=>?_⟩,⟨R.env.set (.var (hz.spl h2 o)),R.hp⟩,rfl,.tup .nil,Evo.refl _ _ _ _ _,H.2⟩
      rw [run,hx.fld_inv]
      show stF d.e d.nx d.h k l' p o=_
      show varK p d.e .fail (fun l=>sprK o l l' .fail fun l=>Tr.setK p d.e (some (.var l)) fun e=>k e (.tup []) d.nx d.h)=_
      rw [varK_eq,hy]
      show sprK o z' l' .fail (fun l=>Tr.setK p d.e (some (.var l)) fun e=>k e (.tup []) d.nx d.h)=_
      rw [sprK_eq,if_pos (by omega),Tr.setK_eq]
    case pt k0 m o=>
     obtain ⟨hw,H⟩:=H
     have main:∀ (ob ob':VOb),live s.h k0 m=some ob→ob'.cells=spl ob.cells o l→o+l.length≤ob.cells.length→
      (∀ M Z h,XRs Z h M l l'→XRs Z h (ob'.m M) l l')→(∀ M,ob'.m M=ob.m M)→K ⟨s.e,s.nx,s.w,hset s.h k0 ob'⟩ (.tup [])→∃ s' v' d' x g',IRun F (.st n0 a v) c d d' x∧RS c s' d' g'∧s'.w=s.w∧XR g'.Z d'.h (mm s'.nx s'.h g') v' x∧EvoS s d g s' d' g'∧K s' v':=by
      intro ob ob' hl hob hle hpu hme hK
      obtain ⟨r,b,q,cells,hxx,e1,e2,e3,e4,e5,e6,e7,e8⟩:=pt_blk R hl hx
      have hlen2:ob'.cells.length=ob.cells.length:=by rw [hob];exact spl_length _ _ _ hle
      have hmay:=(R.hp.own k0 ob r b q e1 e3 e4).2.2 hw
      have hdlen:q+o+l'.length≤cells.length:=by omega
      obtain ⟨R1,E1⟩:=R.hp.renew (ob':=ob') (r':=r) (dnx':=d.nx) (dh':=Tr.set b d.h (some (.cells (cells.take (q+o)++l'++cells.drop (q+o+l'.length))))) e1 e3 (by omega) (fun _=>rfl)
       (fun a ha hne=>Tr.get_set_ne (hne b q e4) _ _)
       (fun a ha=>by
        have hb:=R.hp.lt e1 e3 e4
        rw [Tr.get_set_ne (by rintro rfl;omega)];exact R.hp.top a ha)
       (Nat.le_refl _) (fun b' q' h=>.inr ⟨q',h⟩)
       (fun ho hm=>by
        have hnew:XRs g.Z (Tr.set b d.h (some (.cells (cells.take (q+o)++l'++cells.drop (q+o+l'.length))))) (ob'.m (mm s.nx (hset s.h k0 ob') ⟨g.Z,upd g.μ k0 r⟩)) ob'.cells
         (((cells.take (q+o)++l'++cells.drop (q+o+l'.length)).drop q).take ob'.cells.length):=by
         rw [hlen2,e2,spl_cut _ _ _ _ _ (by omega) (by omega),hob]
         refine XRs.spl ?_ (hpu _ _ _ (XRs.mono (fun _ h=>h) ho hm h2)) o
         rw [hme]
         exact XRs.mono (fun _ h=>h) ho (ob.m_le hm) e8
        rcases e5 with ⟨rfl,_⟩|⟨b1,q1,n1,cp,sz,cells1,rfl,a1,a2,a3,a4,a5⟩|⟨b1,q1,cells1,rfl,a1,a3,a5⟩
        ·cases e4
        ·cases e4
         rw [e6] at a1;cases a1
         exact .inr (.inl ⟨b,q,n1,cp,sz,_,rfl,Tr.get_set_self _ _ _,by omega,by rw [splD_length _ _ _ hdlen];omega,fun c h=>by rw [splD_length _ _ _ hdlen];exact a4 c h,hnew⟩)
        ·cases e4
         exact .inr (.inr ⟨b,q,_,rfl,Tr.get_set_self _ _ _,by rw [splD_length _ _ _ hdlen];omega,hnew⟩))
      refine ⟨⟨s.e,s.nx,s.w,hset s.h k0 ob'⟩,.tup [],⟨d.e,d.nx,Tr.set b d.h (some (.cells (cells.take (q+o)++l'++cells.drop (q+o+l'.length))))⟩,.tup [],⟨g.Z,upd g.μ k0 r⟩,⟨0,fun n _ k=>?_⟩,⟨E1.env R.env,R1⟩,rfl,.tup .nil,E1,hK⟩
      rw [run,hxx,asP_eq]
      show wOk c.wm b .fail (fun _=>ownK b d.h .fail fun l=>sprK (q+o) l l' .fail fun l=>Tr.setK b d.h (some (.cells l)) fun h=>k d.e (.tup []) d.nx h)=_
      rw [wOk_pos hmay,ownK_eq,e6]
      show sprK (q+o) cells l' .fail (fun l=>Tr.setK b d.h (some (.cells l)) fun h=>k d.e (.tup []) d.nx h)=_
      rw [sprK_eq,if_pos hdlen,Tr.setK_eq]
     cases hl:live s.h k0 m with
     | none=>simp only [hl] at H
     | some ob=>
      cases ob with
      | row z=>
       simp only [hl] at H
       exact main (.row z) (.row (spl z o l)) hl rfl H.1 (fun M Z h x=>x.pure H.2.1) (fun M=>rfl) H.2.2
      | obj z=>
       simp only [hl] at H
       exact main (.obj z) (.obj (spl z o l)) hl rfl H.1 (fun M Z h x=>x) (fun M=>rfl) H.2
theorem hset_same {h:VHp} {k:Nat} {o:VOb} (hk:hget h k=some o):hset h k o=h:=by
 induction h with
 | nil=>cases hk
 | cons a t ih=>
  obtain ⟨j,o'⟩:=a
  simp only [hget] at hk
  simp only [hset]
  by_cases hj:k=j
  ·subst hj;rw [if_pos rfl] at hk;cases hk;rw [if_pos rfl]
  ·rw [if_neg hj] at hk;rw [if_neg hj,ih hk]
theorem s_clr {sz:Nat} {z:List DV} {a:Opd} (H:wI F (.clr sz z a) s K):ISem F (.clr sz z a) s K:=by
 intro c d g R
 simp only [wI] at H
 cases hz:ofDVs z with
 | none=>simp only [hz] at H
 | some zv=>
  simp only [hz] at H
  cases ha:vev a s.e with
  | none=>simp only [ha] at H
  | some u=>
   have hx:=vev_sound R.env ha
   cases u<;>simp only [ha] at H
   rename_i k0 m o n sz'
   obtain ⟨hw,H⟩:=H
   cases hl:live s.h k0 m with
   | none=>simp only [hl] at H
   | some ob=>
    cases ob with
    | obj l=>simp only [hl] at H
    | row l=>
     simp only [hl] at H
     obtain ⟨⟨hzl,rfl⟩,hle,hpz,H⟩:=H
     have hzs:∀ {Z:P→Prop} {h:Hp} {M:Option MM},XRs Z h M zv z:=ofDVs_sound hz
     have hlz:z.length=sz':=by rw [←hzl];exact (hzs (Z:=fun _=>True) (h:=.nl) (M:=none)).length.symm
     have hreps:∀ {Z:P→Prop} {h:Hp} {M:Option MM},XRs Z h M (reps' zv n) (reps z n):=XRs.reps hzs n
     have hrl:(reps' zv n).length=n*sz':=by unfold reps';rw [reps_len,hzl]
     have hrl':(reps z n).length=n*sz':=by unfold reps;rw [reps_len,hlz]
     have nothing:∀ x,ev a d.e=x→(x=.nils∨∃ b q cp,x=.sl b q 0 cp sz')→n=0→∃ s' v' d' x g',IRun F (.clr sz' z a) c d d' x∧RS c s' d' g'∧s'.w=s.w∧XR g'.Z d'.h (mm s'.nx s'.h g') v' x∧EvoS s d g s' d' g'∧K s' v':=by
      intro x e hxs h0
      subst h0
      have e0:hset s.h k0 (.row (spl l o (reps' zv 0)))=s.h:=by
       have:spl l o (reps' zv 0)=l:=by simp [spl,reps']
       rw [this];exact hset_same (live_some hl).1
      rw [e0] at H
      refine isem_val R H (x:=.tup []) (.tup .nil) fun nn k=>?_
      show asSl (ev a d.e) (nilsK (ev a d.e) .fail fun _=>k d.e (.tup []) d.nx d.h) (fun b o n _ s=>chk (Nat.beq s sz') fun _=>chk (isLen z sz') fun _=>
       Bool.rec (motive:=fun _=>Res) (clrB c.wm z d.e d.nx d.h k b o n) (k d.e (.tup []) d.nx d.h) (Nat.beq n (nat_lit 0)))=_
      rw [e,asSl_eq,nilsK_eq]
      rcases hxs with rfl|⟨b,q,cp,rfl⟩
      ·rfl
      ·show chk (Nat.beq sz' sz') (fun _=>chk (isLen z sz') fun _=>k d.e (.tup []) d.nx d.h)=_
       rw [chk_eq,if_pos (by simp),chk_eq,isLen_eq,if_pos (by simpa using hlz)]
     rcases os_blk R hl hx with ⟨e,h0,_⟩|⟨r,b,q,cp,cells,hxx,e1,e2,e3,e4,e5,e6,e7,e8⟩
     ·exact nothing _ e (.inl rfl) h0
     rcases Nat.eq_zero_or_pos n with h0|hn
     ·subst h0;exact nothing _ hxx (.inr ⟨_,_,_,rfl⟩) rfl
     have e2':l.length=m:=e2
     have hlen2:(VOb.row (spl l o (reps' zv n))).cells.length=(VOb.row l).cells.length:=spl_length _ _ _ (by rw [hrl];exact hle)
     have hmay:=(R.hp.own k0 _ r b q e1 e3 e4).2.2 hw
     have hdlen:q+o+(reps z n).length≤cells.length:=by rw [hrl'];omega
     obtain ⟨R1,E1⟩:=R.hp.renew (ob':=.row (spl l o (reps' zv n))) (r':=r) (dnx':=d.nx) (dh':=Tr.set b d.h (some (.cells (cells.take (q+o)++reps z n++cells.drop (q+o+(reps z n).length))))) e1 e3 (by omega) (fun _=>rfl)
      (fun a ha hne=>Tr.get_set_ne (hne b q e4) _ _)
      (fun a ha=>by
       have hb:=R.hp.lt e1 e3 e4
       rw [Tr.get_set_ne (by rintro rfl;omega)];exact R.hp.top a ha)
      (Nat.le_refl _) (fun b' q' h=>.inr ⟨q',h⟩)
      (fun ho hm=>by
       have hnew:XRs g.Z (Tr.set b d.h (some (.cells (cells.take (q+o)++reps z n++cells.drop (q+o+(reps z n).length))))) none (spl l o (reps' zv n))
        (((cells.take (q+o)++reps z n++cells.drop (q+o+(reps z n).length)).drop q).take (spl l o (reps' zv n)).length):=by
        have h8:(spl l o (reps' zv n)).length=m:=by have:=hlen2;exact this.trans e2
        rw [h8,spl_cut _ _ _ _ _ (by omega) (by omega)]
        exact XRs.spl (XRs.mono (M:=none) (M':=none) (fun _ h=>h) ho trivial e8) hreps o
       rcases e5 with ⟨rfl,_⟩|⟨b1,q1,n1,cp,sz,cells1,rfl,a1,a2,a3,a4,a5⟩|⟨b1,q1,cells1,rfl,a1,a3,a5⟩
       ·cases e4
       ·cases e4
        rw [e6] at a1;cases a1
        exact .inr (.inl ⟨b,q,n1,cp,sz,_,rfl,Tr.get_set_self _ _ _,by omega,by rw [splD_length _ _ _ hdlen];omega,fun c h=>by rw [splD_length _ _ _ hdlen];exact a4 c h,hnew⟩)
       ·cases e4
        exact .inr (.inr ⟨b,q,_,rfl,Tr.get_set_self _ _ _,by rw [splD_length _ _ _ hdlen];omega,hnew⟩))
     refine ⟨⟨s.e,s.nx,s.w,hset s.h k0 (.row (spl l o (reps' zv n)))⟩,.tup [],⟨d.e,d.nx,Tr.set b d.h (some (.cells (cells.take (q+o)++reps z n++cells.drop (q+o+(reps z n).length))))⟩,.tup [],⟨g.Z,upd g.μ k0 r⟩,⟨0,fun nn _ k=>?_⟩,⟨E1.env R.env,R1⟩,rfl,.tup .nil,E1,H⟩
     obtain ⟨n',rfl⟩:∃ n',n=n'+1:=⟨n-1,by omega⟩
     show asSl (ev a d.e) (nilsK (ev a d.e) .fail fun _=>k d.e (.tup []) d.nx d.h) (fun b o n _ s=>chk (Nat.beq s sz') fun _=>chk (isLen z sz') fun _=>
      Bool.rec (motive:=fun _=>Res) (clrB c.wm z d.e d.nx d.h k b o n) (k d.e (.tup []) d.nx d.h) (Nat.beq n (nat_lit 0)))=_
     rw [hxx,asSl_eq]
     show chk (Nat.beq sz' sz') (fun _=>chk (isLen z sz') fun _=>clrB c.wm z d.e d.nx d.h k b (q+o) (n'+1))=_
     rw [chk_eq,if_pos (by simp),chk_eq,isLen_eq,if_pos (by simpa using hlz)]
     unfold clrB
     rw [wOk_pos hmay,ownK_eq,e6]
     show repZ z (n'+1) (fun c0=>sprK (q+o) cells c0 .fail fun l=>Tr.setK b d.h (some (.cells l)) fun h=>k d.e (.tup []) d.nx h)=_
     rw [repZ_eq,sprK_eq,if_pos hdlen,Tr.setK_eq]
theorem s_ia {sz:Nat} {a i:Opd} (H:wI F (.ia sz a i) s K):ISem F (.ia sz a i) s K:=by
 intro c d g R
 simp only [wI] at H
 have run:∀ (b:P) (o n:Nat) (cp:Option Nat) (j:IntKind) (x:Nat) (nn:Nat) (k:Kv),ev a d.e=.sl b o n cp sz→ev i d.e=.int j x→x<n→insK (.ia sz a i) F (exec F nn) c.wm d.e d.nx d.h k=k d.e (.ptr b (o+x*sz)) d.nx d.h:=by
  intro b o n cp j x nn k e1 e2 hlt
  show asSl (ev a d.e) .fail (fun b o n _ s=>chk (Nat.beq s sz) fun _=>asI (ev i d.e) .fail fun _ x=>natI x (iaAt sz d.e d.nx d.h k b o n))=_
  rw [e1,asSl_eq]
  show chk (Nat.beq sz sz) (fun _=>asI (ev i d.e) .fail fun _ x=>natI x (iaAt sz d.e d.nx d.h k b o n))=_
  rw [chk_eq,if_pos (by simp),e2,asI_eq]
  show natI (x:Int) (iaAt sz d.e d.nx d.h k b o n)=_
  rw [natI_eq,if_pos (by omega),Int.toNat_natCast]
  show chk (Nat.ble (Nat.succ x) n) (fun _=>forceN (Nat.add o (Nat.mul x sz)) fun i=>k d.e (.ptr b i) d.nx d.h)=_
  rw [chk_eq,if_pos (by rw [Nat.ble_eq];omega),forceN_eq];rfl
 cases ha:vev a s.e with
 | none=>simp only [ha] at H
 | some v=>
  have hv:=vev_sound R.env ha
  cases v<;>simp only [ha] at H
  case fz n cp sz' l=>
   cases hi:vev i s.e with
   | none=>simp only [hi] at H
   | some v=>
    cases v<;>simp only [hi] at H
    rename_i j x
    obtain ⟨rfl,⟨h1,h2⟩,H⟩:=H
    have e2:=(vev_sound R.env hi).int_inv
    obtain ⟨x,rfl⟩:∃ q:Nat,x=q:=⟨x.toNat,by omega⟩
    rw [Int.toNat_natCast] at H
    rcases hv.fz_cells with ⟨e,h3,_⟩|⟨k0,o,c',cells,e,h3,h4,h5,h6,h7,h8,h9⟩
    ·omega
    ·refine isem_val R H (x:=.ptr k0 (o+x*sz')) ?_ fun nn k=>run _ _ _ _ _ _ nn k e e2 (by omega)
     exact .fp h4 h5 (by rw [h3];exact h6) (by rw [h3];exact h7)
  case ow k0 n sz'=>
   cases hi:vev i s.e with
   | none=>simp only [hi] at H
   | some v=>
    cases v<;>simp only [hi] at H
    rename_i j x
    obtain ⟨rfl,hsz,⟨h1,h2⟩,H⟩:=H
    have e2:=(vev_sound R.env hi).int_inv
    obtain ⟨x,rfl⟩:∃ q:Nat,x=q:=⟨x.toNat,by omega⟩
    rw [Int.toNat_natCast] at H
    cases hl:live s.h k0 (n*sz') with
    | none=>simp only [hl] at H
    | some ob=>
     simp only [hl] at H
     obtain ⟨h3,h4,h5,h6,h7⟩:=ow_blk R hl hv
     rcases h7 with ⟨e,rfl⟩|⟨b,o,cp,e⟩
     ·omega
     ·refine isem_val R H (x:=.ptr b (o+x*sz')) ?_ fun nn k=>run _ _ _ _ _ _ nn k e e2 (by omega)
      exact .pt ⟨_,_,rfl⟩ (R.hp.blk k0 ob h3).1 fun m' r' e'=>by
       rw [mof_eq h3 h5] at e';cases e'
       exact ⟨by omega,fun _=>⟨b,o,by rw [e];rfl,rfl⟩⟩
  case os k0 m o n sz'=>
   cases hi:vev i s.e with
   | none=>simp only [hi] at H
   | some v=>
    cases v<;>simp only [hi] at H
    rename_i j x
    obtain ⟨rfl,⟨h1,h2⟩,H⟩:=H
    have e2:=(vev_sound R.env hi).int_inv
    obtain ⟨x,rfl⟩:∃ q:Nat,x=q:=⟨x.toNat,by omega⟩
    rw [Int.toNat_natCast] at H
    cases hl:live s.h k0 m with
    | none=>simp only [hl] at H
    | some ob=>
     simp only [hl] at H
     rcases os_blk R hl hv with ⟨e,rfl,_⟩|⟨r,b,q,cp,cells,e,e3,e4,e5,e6,_⟩
     ·omega
     ·refine isem_val R H (x:=.ptr b (q+(o+x*sz'))) ?_ fun nn k=>by rw [run _ _ _ _ _ _ nn k e e2 (by omega),Nat.add_assoc]
      exact .pt ⟨_,_,rfl⟩ (R.hp.blk k0 ob e3).1 fun m' r' e'=>by
       rw [mof_eq e3 e5] at e';cases e'
       exact ⟨by omega,fun _=>⟨b,q,e6,rfl⟩⟩
theorem wBd_sound {Z:P→Prop} {h:Hp} {M:Option MM} {e:VEnv} {d:Env} (x:EnvR Z h M e d) {o:Option Opd} {d0:Nat} {G:Int→Prop} (H:wBd o d0 e G):
 ∃ v:Int,G v∧∀ y:Nat,(0≤v∧v≤y)→∀ K:Nat→Res,bd o d0 d y K=K v.toNat:=by
 cases o with
 | none=>exact ⟨d0,H,fun y _ K=>by show K d0=_;rw [Int.toNat_natCast]⟩
 | some o=>
  simp only [wBd] at H
  cases h1:vev o e with
  | none=>simp only [h1] at H
  | some v=>
   cases v<;>simp only [h1] at H
   rename_i j v
   refine ⟨v,H,fun y hy K=>?_⟩
   have e1:=(vev_sound x h1).int_inv
   show asI (ev o d) .fail (fun _ x=>natI x fun i=>chk (Nat.ble i y) fun _=>K i)=_
   rw [e1,asI_eq]
   show natI v (fun i=>chk (Nat.ble i y) fun _=>K i)=_
   rw [natI_eq,if_pos hy.1,chk_eq,if_pos (by rw [Nat.ble_eq];omega)]
theorem vsub_len {l:List VV} {n sz a b:Nat} (hl:l.length=n*sz) (h1:a≤b) (h2:b≤n):(vsub l sz a b).length=(b-a)*sz:=by
 unfold vsub
 rw [List.length_take,List.length_drop,hl]
 have h3:a*sz+(b-a)*sz=b*sz:=by rw [←Nat.add_mul];congr 1;omega
 have h4:b*sz≤n*sz:=Nat.mul_le_mul_right _ h2
 omega
theorem cut_sub {α:Type} (l:List α) {q n sz a b:Nat} (h1:a≤b) (h2:b≤n):(((l.drop q).take (n*sz)).drop (a*sz)).take ((b-a)*sz)=(l.drop (q+a*sz)).take ((b-a)*sz):=by
 refine cut_cut l ?_
 have h3:a*sz+(b-a)*sz=b*sz:=by rw [←Nat.add_mul];congr 1;omega
 have h4:b*sz≤n*sz:=Nat.mul_le_mul_right _ h2
 omega
theorem mul_sub_le {a b n sz:Nat} (h1:a≤b) (h2:b≤n):a*sz+(b-a)*sz≤n*sz:=by
 rw [←Nat.add_mul];exact Nat.mul_le_mul_right _ (by omega)
theorem s_sla {sz:Nat} {x:Opd} {lo hi mx:Option Opd} (H:wI F (.sla sz x lo hi mx) s K):ISem F (.sla sz x lo hi mx) s K:=by
 intro c d g R
 simp only [wI] at H
 have run0:∀ (n:Nat) (k:Kv),ev x d.e=.nils→insK (.sla sz x lo hi mx) F (exec F n) c.wm d.e d.nx d.h k=
  bd hi 0 d.e 0 fun _=>bd lo 0 d.e 0 fun _=>bd mx 0 d.e 0 fun _=>k d.e .nils d.nx d.h:=by
  intro n k e
  show asSl (ev x d.e) (nilsK (ev x d.e) .fail fun _=>bd hi (nat_lit 0) d.e (nat_lit 0) fun _=>bd lo (nat_lit 0) d.e (nat_lit 0) fun _=>bd mx (nat_lit 0) d.e (nat_lit 0) fun _=>evK x d.e fun v=>k d.e v d.nx d.h) (slSl sz lo hi mx d.e d.nx d.h k)=_
  rw [asSl_eq,nilsK_eq,e]
  simp only [evK_eq,e]
 have run1:∀ (n:Nat) (k:Kv) (b:P) (o m:Nat) (cp:Option Nat),ev x d.e=.sl b o m cp sz→insK (.sla sz x lo hi mx) F (exec F n) c.wm d.e d.nx d.h k=slSl sz lo hi mx d.e d.nx d.h k b o m cp sz:=by
  intro n k b o m cp e
  show asSl (ev x d.e) (nilsK (ev x d.e) .fail fun _=>bd hi (nat_lit 0) d.e (nat_lit 0) fun _=>bd lo (nat_lit 0) d.e (nat_lit 0) fun _=>bd mx (nat_lit 0) d.e (nat_lit 0) fun _=>evK x d.e fun v=>k d.e v d.nx d.h) (slSl sz lo hi mx d.e d.nx d.h k)=_
  rw [asSl_eq,e]
 have slN:∀ (k:Kv) (b:P) (o m:Nat) (cp:Option Nat) (x y:Int),(∀ Y:Nat,(0≤y∧y≤Y)→∀ K:Nat→Res,bd hi m d.e Y K=K y.toNat)→(∀ Y:Nat,(0≤x∧x≤Y)→∀ K:Nat→Res,bd lo 0 d.e Y K=K x.toNat)→
  (0≤x∧x≤y∧y≤m)→(∀ c,cp=some c→m≤c)→slSl sz lo hi none d.e d.nx d.h k b o m cp sz=k d.e (.sl b (o+x.toNat*sz) (y.toNat-x.toNat) (cp.map (·-x.toNat)) sz) d.nx d.h:=by
  intro k b o m cp x y h1 h2 h3 h4
  have hcap:m≤capOf cp m:=by
   cases cp with
   | none=>exact Nat.le_refl _
   | some c=>exact h4 c rfl
  show chk (Nat.beq sz sz) (fun _=>bd hi m d.e (capOf cp m) fun hi=>bd lo (nat_lit 0) d.e hi fun l=>
   Option.rec (motive:=fun _=>Res) (slEnd d.e d.nx d.h k b o sz l hi none) (fun c=>forceN (Nat.sub c l) fun c=>slEnd d.e d.nx d.h k b o sz l hi (some c)) cp)=_
  rw [chk_eq,if_pos (by simp),h1 _ ⟨by omega,by omega⟩,h2 _ ⟨h3.1,by omega⟩]
  have e0:∀ c0,slEnd d.e d.nx d.h k b o sz x.toNat y.toNat c0=k d.e (.sl b (o+x.toNat*sz) (y.toNat-x.toNat) c0 sz) d.nx d.h:=by
   intro c0
   show forceN (Nat.add o (Nat.mul x.toNat sz)) (fun o=>forceN (Nat.sub y.toNat x.toNat) fun n=>k d.e (.sl b o n c0 sz) d.nx d.h)=_
   rw [forceN_eq,forceN_eq];rfl
  cases cp with
  | none=>exact e0 none
  | some c=>
   show forceN (Nat.sub c x.toNat) (fun c=>slEnd d.e d.nx d.h k b o sz x.toNat y.toNat (some c))=_
   rw [forceN_eq,e0];rfl
 have slM:∀ (mo:Opd) (k:Kv) (b:P) (o m:Nat) (cp:Option Nat) (x y z:Int),mx=some mo→(∀ Y:Nat,(0≤z∧z≤Y)→∀ K:Nat→Res,bd mx 0 d.e Y K=K z.toNat)→(∀ Y:Nat,(0≤y∧y≤Y)→∀ K:Nat→Res,bd hi m d.e Y K=K y.toNat)→
  (∀ Y:Nat,(0≤x∧x≤Y)→∀ K:Nat→Res,bd lo 0 d.e Y K=K x.toNat)→
  (0≤x∧x≤y∧y≤z∧z≤m)→(∀ c,cp=some c→m≤c)→slSl sz lo hi mx d.e d.nx d.h k b o m cp sz=k d.e (.sl b (o+x.toNat*sz) (y.toNat-x.toNat) (some (z.toNat-x.toNat)) sz) d.nx d.h:=by
  intro mo k b o m cp x y z hmx h0 h1 h2 h3 h4
  subst hmx
  have hcap:m≤capOf cp m:=by
   cases cp with
   | none=>exact Nat.le_refl _
   | some c=>exact h4 c rfl
  show chk (Nat.beq sz sz) (fun _=>bd (some mo) (nat_lit 0) d.e (capOf cp m) fun m'=>bd hi m d.e m' fun hi=>chk (Nat.ble hi m') fun _=>bd lo (nat_lit 0) d.e hi fun l=>
   forceN (Nat.sub m' l) fun c=>slEnd d.e d.nx d.h k b o sz l hi (some c))=_
  rw [chk_eq,if_pos (by simp),h0 _ ⟨by omega,by omega⟩,h1 _ ⟨by omega,by omega⟩,chk_eq,if_pos (by rw [Nat.ble_eq];omega),h2 _ ⟨h3.1,by omega⟩,forceN_eq]
  show forceN (Nat.add o (Nat.mul x.toNat sz)) (fun o=>forceN (Nat.sub y.toNat x.toNat) fun n=>k d.e (.sl b o n (some (Nat.sub z.toNat x.toNat)) sz) d.nx d.h)=_
  rw [forceN_eq,forceN_eq];rfl
 cases hx:vev x s.e with
 | none=>simp only [hx] at H
 | some v=>
  have hv:=vev_sound R.env hx
  cases v<;>simp only [hx] at H
  case nils=>
   obtain ⟨b,⟨rfl,H⟩,hb⟩:=wBd_sound (d0:=0) R.env H
   obtain ⟨a,⟨rfl,H⟩,ha⟩:=wBd_sound (d0:=0) R.env H
   obtain ⟨m,⟨rfl,H⟩,hm⟩:=wBd_sound (d0:=0) R.env H
   refine isem_val R H .nils fun n k=>?_
   rw [run0 n k hv.nils_inv,hb 0 ⟨by omega,by omega⟩,ha 0 ⟨by omega,by omega⟩,hm 0 ⟨by omega,by omega⟩]
  case fz n cp sz' l=>
   obtain ⟨rfl,H⟩:=H
   obtain ⟨b,H,hb⟩:=wBd_sound R.env H
   obtain ⟨a,H,ha⟩:=wBd_sound (d0:=0) R.env H
   cases hmx:mx with
   | none=>
    subst hmx
    simp only at H
    obtain ⟨h1,H⟩:=H
    rcases hv.fz_cells with ⟨e,rfl,rfl,h3⟩|⟨k0,o,c',cells,e,h3,h4,h5,h6,h7,h8,h9⟩
    ·have:b=0:=by omega
     have:a=0:=by omega
     subst a b
     refine isem_val R H (x:=.nils) (by simp only [vsub,List.drop_nil,List.take_nil];exact .fz0 (.inl rfl)) fun nn k=>?_
     rw [run0 nn k e,hb 0 ⟨by omega,by omega⟩,ha 0 ⟨by omega,by omega⟩];rfl
    ·refine isem_val R H ?_ fun nn k=>by rw [run1 nn k _ _ _ _ e];exact slN k k0 o n c' a b hb ha h1 h9
     refine .fz (vsub_len h3 (by omega) (by omega)) h4 h5 ?_ ?_ (fun _ h=>by cases h) ?_
     ·have:=mul_sub_le (sz:=sz') (show a.toNat≤b.toNat by omega) (show b.toNat≤n by omega);omega
     ·have:=(h7.drop (a.toNat*sz')).take ((b.toNat-a.toNat)*sz')
      rw [cut_sub _ (by omega) (by omega)] at this;exact this
     ·intro y hy
      cases c' with
      | none=>cases hy
      | some c'=>cases hy;have:=h9 c' rfl;change b.toNat-a.toNat≤c'-a.toNat;omega
   | some mo=>
    subst hmx
    simp only at H
    obtain ⟨m,⟨h1,H⟩,hm⟩:=wBd_sound (d0:=0) R.env H
    rcases hv.fz_cells with ⟨e,rfl,rfl,h3⟩|⟨k0,o,c',cells,e,h3,h4,h5,h6,h7,h8,h9⟩
    ·have:b=0:=by omega
     have:a=0:=by omega
     have:m=0:=by omega
     subst a b m
     refine isem_val R H (x:=.nils) (by simp only [vsub,List.drop_nil,List.take_nil];exact .fz0 (.inr rfl)) fun nn k=>?_
     rw [run0 nn k e,hb 0 ⟨by omega,by omega⟩,ha 0 ⟨by omega,by omega⟩,hm 0 ⟨by omega,by omega⟩]
    ·refine isem_val R H ?_ fun nn k=>by rw [run1 nn k _ _ _ _ e];exact slM mo k k0 o n c' a b m rfl hm hb ha h1 h9
     refine .fz (vsub_len h3 (by omega) (by omega)) h4 h5 ?_ ?_ (fun y h=>h) ?_
     ·have:=mul_sub_le (sz:=sz') (show a.toNat≤b.toNat by omega) (show b.toNat≤n by omega);omega
     ·have:=(h7.drop (a.toNat*sz')).take ((b.toNat-a.toNat)*sz')
      rw [cut_sub _ (by omega) (by omega)] at this;exact this
     ·intro y hy;cases hy;omega
  case ow k0 n sz'=>
   obtain ⟨rfl,rfl,hw,H⟩:=H
   cases hl:live s.h k0 (n*sz') with
   | none=>simp only [hl] at H
   | some ob=>
    cases ob with
    | obj l=>simp only [hl] at H
    | row l=>
     simp only [hl] at H
     by_cases hpart:hi=none∧∃ lo',lo=some lo'
     ·obtain ⟨rfl,lo',rfl⟩:=hpart
      simp only at H
      obtain ⟨a,⟨h1,H⟩,ha⟩:=wBd_sound (d0:=0) R.env H
      obtain ⟨e1,e2,e3,e4,e5⟩:=ow_blk R hl hv
      rcases e5 with ⟨e,rfl⟩|⟨k1,o,cp,e⟩
      ·have:a=0:=by omega
       subst a
       refine isem_val R H (x:=.nils) (.os (.inl rfl) (R.hp.blk k0 _ e1).1 fun m' r' e'=>?_) fun nn k=>?_
       ·rw [mof_eq e1 e3] at e';cases e'
        exact ⟨by omega,fun _=>.inl ⟨e,rfl,rfl⟩⟩
       ·rw [run0 nn k e]
        show bd (some lo') 0 d.e 0 (fun _=>k d.e .nils d.nx d.h)=_
        rw [ha 0 ⟨by omega,by omega⟩]
      ·refine isem_val R H (x:=.sl k1 (o+a.toNat*sz') (n-a.toNat) (cp.map (·-a.toNat)) sz') (.os (.inr ⟨_,_,_,_,_,rfl⟩) (R.hp.blk k0 _ e1).1 fun m' r' e'=>?_) fun nn k=>?_
       ·rw [mof_eq e1 e3] at e';cases e'
        exact ⟨by omega,fun _=>.inr ⟨k1,o,_,by rw [e];rfl,rfl⟩⟩
       ·rw [run1 nn k _ _ _ _ e]
        have hcp:∀ c,cp=some c→n≤c:=by
         rw [e] at e4
         rcases e4 with ⟨h,_⟩|⟨b1,q1,n1,cp1,sz1,cells1,h,a1,a2,a3,a4,a5⟩|⟨b1,q1,cells1,h,_⟩
         ·cases h
         ·cases h;exact fun c h=>(a4 c h).1
         ·cases h
        exact slN k k1 o n cp a n (fun Y _ K=>rfl) ha (by omega) hcp
     have H:wBd hi n s.e fun b=>wBd lo 0 s.e fun a=>(0≤a∧a≤b∧b≤n)∧K ⟨s.e,s.nx+1,s.w,(s.nx,.row (vsub l sz' a.toNat b.toNat))::hdel s.h k0⟩ (.ow s.nx (b.toNat-a.toNat) sz'):=by
      cases hi with
      | some hi=>exact H
      | none=>cases lo with
       | none=>exact H
       | some lo=>exact absurd ⟨rfl,lo,rfl⟩ hpart
     obtain ⟨b,H,hb⟩:=wBd_sound R.env H
     obtain ⟨a,⟨h1,H⟩,ha⟩:=wBd_sound (d0:=0) R.env H
     obtain ⟨e1,e2,e3,e4,e5⟩:=ow_blk R hl hv
     have hsl:=vsub_len (l:=l) (n:=n) (sz:=sz') (a:=a.toNat) (b:=b.toNat) e2 (by omega) (by omega)
     have fin:∀ (r:DV),(∀ (nn:Nat) (k:Kv),insK (.sla sz' x lo hi none) F (exec F nn) c.wm d.e d.nx d.h k=k d.e r d.nx d.h)→(∀ b q,refAt r=some (b,q)→∃ q',refAt (ev x d.e)=some (b,q'))→
      ((r=.nils∧b.toNat-a.toNat=0)∨∃ k' o' c',r=.sl k' o' (b.toNat-a.toNat) c' sz')→(∀ (Z:P→Prop) (M:Option MM),Z=g.Z→Blk Z d.h M (.row (vsub l sz' a.toNat b.toNat)) r)→
      ∃ s' v' d' x0 g',IRun F (.sla sz' x lo hi none) c d d' x0∧RS c s' d' g'∧s'.w=s.w∧XR g'.Z d'.h (mm s'.nx s'.h g') v' x0∧EvoS s d g s' d' g'∧K s' v':=by
      intro r hrun hre hsh hblk
      obtain ⟨R1,E1⟩:=R.hp.move (ob':=.row (vsub l sz' a.toNat b.toNat)) (r':=r) e1 e3 hw hre (fun _=>hblk _ _ rfl)
      exact ⟨⟨s.e,s.nx+1,s.w,(s.nx,.row (vsub l sz' a.toNat b.toNat))::hdel s.h k0⟩,_,d,r,⟨g.Z,upd g.μ s.nx r⟩,⟨0,fun nn _ k=>hrun nn k⟩,⟨E1.env R.env,R1⟩,rfl,xr_ow_new hsl hsh,E1,H⟩
     rcases e5 with ⟨e,rfl⟩|⟨k1,o,cp,e⟩
     ·have:b=0:=by omega
      have:a=0:=by omega
      subst a b
      refine fin .nils (fun nn k=>?_) (fun b q h=>by cases h) (.inl ⟨rfl,rfl⟩) (fun Z M _=>.inl ⟨rfl,?_⟩)
      ·rw [run0 nn k e,hb 0 ⟨by omega,by omega⟩,ha 0 ⟨by omega,by omega⟩];rfl
      ·simp [vsub]
     ·rw [e] at e4
      rcases e4 with ⟨h,_⟩|⟨b1,q1,n1,cp1,sz1,cells1,h,a1,a2,a3,a4,a5⟩|⟨b1,q1,cells1,h,_⟩
      ·cases h
      ·cases h
       have hlen:(VOb.row l).cells.length=n*sz':=e2
       rw [hlen] at a5
       refine fin (.sl k1 (o+a.toNat*sz') (b.toNat-a.toNat) (cp.map (·-a.toNat)) sz') (fun nn k=>?_) (fun b q h=>?_) (.inr ⟨_,_,_,rfl⟩) (fun Z M hZ=>?_)
       ·rw [run1 nn k _ _ _ _ e];exact slN k k1 o n cp a b hb ha h1 (fun c h=>(a4 c h).1)
       ·cases h;exact ⟨o,by rw [e];rfl⟩
       ·subst hZ
        have hms:=mul_sub_le (sz:=sz') (show a.toNat≤b.toNat by omega) (show b.toNat≤n by omega)
        refine .inr (.inl ⟨k1,_,_,_,sz',cells1,rfl,a1,hsl,by omega,?_,?_⟩)
        ·intro c0 hc0
         cases cp with
         | none=>cases hc0
         | some cp=>
          cases hc0
          obtain ⟨h4,h5⟩:=a4 cp rfl
          change b.toNat-a.toNat≤cp-a.toNat∧o+a.toNat*sz'+(cp-a.toNat)*sz'≤cells1.length
          refine ⟨by omega,?_⟩
          have:a.toNat*sz'+(cp-a.toNat)*sz'=cp*sz':=by rw [←Nat.add_mul];congr 1;omega
          omega
        ·have:=(a5.drop (a.toNat*sz')).take ((b.toNat-a.toNat)*sz')
         rw [cut_sub _ (by omega) (by omega)] at this
         show XRs g.Z d.h none (vsub l sz' a.toNat b.toNat) ((cells1.drop (o+a.toNat*sz')).take (vsub l sz' a.toNat b.toNat).length)
         rw [hsl];exact this
      ·cases h
theorem vsrc_sound {Z:P→Prop} {c:Ctx} {d:DS} {g:Gh} (R:RS c s d g) {sz m:Nat} {v:VV} {x:DV} {new:List VV} (hx:XR g.Z d.h (mm s.nx s.h g) v x) (hs:vsrc s.h sz v=some (m,new)):
 ∃ new',XRs g.Z d.h none new new'∧((x=.nils∧m=0∧new'=[])∨∃ b o cp cells,x=.sl b o m cp sz∧objAt b d.h=some cells∧o+m*sz≤cells.length∧new'=(cells.drop o).take (m*sz)):=by
 cases v<;>simp only [vsrc,reduceCtorEq] at hs
 case nils=>simp only [Option.some.injEq,Prod.mk.injEq] at hs;obtain ⟨rfl,rfl⟩:=hs;exact ⟨[],.nil,.inl ⟨hx.nils_inv,rfl,rfl⟩⟩
 case fz n cp sz' l=>
  by_cases h1:sz'=sz
  ·rw [if_pos h1] at hs
   simp only [Option.some.injEq,Prod.mk.injEq] at hs;obtain ⟨rfl,rfl⟩:=hs
   subst h1
   rcases hx.fz_cells with ⟨e,rfl,rfl,h3⟩|⟨k0,o,c',cells,e,h3,h4,h5,h6,h7,h8,h9⟩
   ·exact ⟨[],.nil,.inl ⟨e,rfl,rfl⟩⟩
   ·exact ⟨_,h7,.inr ⟨k0,o,c',cells,e,h5,h6,rfl⟩⟩
  ·rw [if_neg h1] at hs;cases hs
 case ow k n sz'=>
  cases hl:live s.h k (n*sz') with
  | none=>simp only [hl,reduceCtorEq] at hs
  | some ob=>
   cases ob with
   | obj l=>simp only [hl,reduceCtorEq] at hs
   | row l=>
    simp only [hl] at hs
    by_cases h1:sz'=sz
    ·rw [if_pos h1] at hs
     simp only [Option.some.injEq,Prod.mk.injEq] at hs;obtain ⟨rfl,rfl⟩:=hs
     subst h1
     obtain ⟨e1,e2,e3,e4,e5⟩:=ow_blk R hl hx
     rcases e5 with ⟨e,rfl⟩|⟨k1,o,cp,e⟩
     ·have e2':l.length=0*sz':=e2
      have:l=[]:=by simpa using e2'
      subst this
      exact ⟨[],.nil,.inl ⟨e,rfl,rfl⟩⟩
     ·rw [e] at e4
      rcases e4 with ⟨h,_⟩|⟨b1,q1,n1,cp1,sz1,cells1,h,a1,a2,a3,a4,a5⟩|⟨b1,q1,cells1,h,_⟩
      ·cases h
      ·cases h
       have hlen:(VOb.row l).cells.length=n*sz':=e2
       rw [hlen] at a5
       exact ⟨_,a5,.inr ⟨k1,o,cp,cells1,e,by unfold objAt;rw [a1],a3,rfl⟩⟩
      ·cases h
    ·rw [if_neg h1] at hs;cases hs
theorem s_app {sz bt:Nat} {a x:Opd} (H:wI F (.app sz bt a x) s K):ISem F (.app sz bt a x) s K:=by
 intro c d g R
 simp only [wI] at H
 cases hx:vev x s.e with
 | none=>simp only [hx] at H
 | some vx=>
  simp only [hx] at H
  cases hs:vsrc s.h sz vx with
  | none=>simp only [hs] at H
  | some mn=>
   obtain ⟨m,new⟩:=mn
   simp only [hs] at H
   obtain ⟨new',hnew,hsh⟩:=vsrc_sound (Z:=g.Z) R (vev_sound R.env hx) hs
   have hnl:=hnew.length
   have run:∀ (n:Nat) (k:Kv),insK (.app sz bt a x) F (exec F n) c.wm d.e d.nx d.h k=apX sz bt (ev a d.e) d.e d.nx d.h k c.wm m new':=by
    intro n k
    show asSl (ev x d.e) (nilsK (ev x d.e) .fail fun _=>apX sz bt (ev a d.e) d.e d.nx d.h k c.wm (nat_lit 0) [])
     (fun b o n _ s2=>chk (Nat.beq s2 sz) fun _=>slcK d.h b o n sz fun new=>apX sz bt (ev a d.e) d.e d.nx d.h k c.wm n new)=_
    rcases hsh with ⟨e,rfl,rfl⟩|⟨b,o,cp,cells,e,h1,h2,rfl⟩
    ·rw [e,asSl_eq];rfl
    ·rw [e,asSl_eq]
     show chk (Nat.beq sz sz) (fun _=>slcK d.h b o m sz fun new=>apX sz bt (ev a d.e) d.e d.nx d.h k c.wm m new)=_
     rw [chk_eq,if_pos (by simp)]
     show objK b d.h .fail (fun l=>dropK o l .fail fun t=>takeK (Nat.mul m sz) t .fail fun new=>apX sz bt (ev a d.e) d.e d.nx d.h k c.wm m new)=_
     have hobj:objK b d.h .fail (fun l=>dropK o l .fail fun t=>takeK (Nat.mul m sz) t .fail fun new=>apX sz bt (ev a d.e) d.e d.nx d.h k c.wm m new)=
      dropK o cells .fail fun t=>takeK (Nat.mul m sz) t .fail fun new=>apX sz bt (ev a d.e) d.e d.nx d.h k c.wm m new:=by
      rw [objK_eq]
      unfold objAt at h1
      cases h3:Tr.get? b d.h with
      | none=>rw [h3] at h1;cases h1
      | some ob=>cases ob<;>simp only [h3,Option.some.injEq,reduceCtorEq] at h1 ⊢<;>rw [h1]
     rw [hobj,dropK_eq,if_pos (by omega),takeK_eq,if_pos (by rw [List.length_drop];show m*sz≤_;omega)]
     rfl
   have apnil:∀ (k:Kv),apX sz bt .nils d.e d.nx d.h k c.wm m new'=Bool.rec (motive:=fun _=>Res) (chk (Nat.ble (Nat.mul m bt) (nat_lit 35184372088832)) fun _=>apNew sz (nat_lit 0) m [] new' d.e d.nx d.h k) (k d.e .nils d.nx d.h) (Nat.beq m (nat_lit 0)):=by
    intro k
    show Bool.rec (motive:=fun _=>Res)
     (asSl .nils (nilsK .nils .fail fun _=>chk (Nat.ble (Nat.mul m bt) (nat_lit 35184372088832)) fun _=>apNew sz (nat_lit 0) m [] new' d.e d.nx d.h k) (apSl sz bt d.e d.nx d.h k c.wm m new'))
     (asSl .nils (nilsK .nils .fail fun _=>fV .nils fun v=>k d.e v d.nx d.h) fun _ _ _ _ _=>fV .nils fun v=>k d.e v d.nx d.h) (Nat.beq m (nat_lit 0))=_
    cases Nat.beq m (nat_lit 0)<;>rfl
   cases ha:vev a s.e with
   | none=>simp only [ha] at H
   | some va=>
    have hva:=vev_sound R.env ha
    cases va<;>simp only [ha] at H
    case nils=>
     obtain ⟨⟨hbt,hlen⟩,H⟩:=H
     have e:=hva.nils_inv
     cases m with
     | zero=>
      obtain ⟨R1,E1⟩:=R.hp.addNil
      have hn0:new=[]:=by simpa using hlen
      subst hn0
      refine ⟨⟨s.e,s.nx+1,s.w,(s.nx,.row [])::s.h⟩,.ow s.nx 0 sz,d,.nils,⟨g.Z,upd g.μ s.nx .nils⟩,⟨0,fun n _ k=>?_⟩,⟨E1.env R.env,R1⟩,rfl,?_,E1,H⟩
      ·rw [run,e,apnil];rfl
      ·exact xr_ow_new (by simp) (.inl ⟨rfl,rfl⟩)
     | succ m=>
      refine isem_new R R.hp (Evo.refl _ _ _ _ _) (r:=.sl d.nx 0 (m+1) none sz) (cells:=new') rfl (fun ho hm=>?_) ?_ (fun n k=>?_) H
      ·exact blk_row (Tr.get_set_self _ _ _) hlen (fun c h=>by cases h) ⟨new',[],by simp,XRs.mono (M:=none) (M':=none) (fun _ h=>h) ho trivial hnew⟩
      ·exact xr_ow_new hlen (.inr ⟨_,_,_,rfl⟩)
      ·rw [run,e,apnil]
       show chk (Nat.ble (Nat.mul (m+1) bt) (nat_lit 35184372088832)) (fun _=>apNew sz (nat_lit 0) (m+1) [] new' d.e d.nx d.h k)=_
       rw [chk_eq,if_pos (by rw [Nat.ble_eq];exact hbt)]
       show catK [] new' (fun l=>forceN (Nat.add 0 (m+1)) fun n=>newK l d.e d.nx d.h (fun b=>.sl b (nat_lit 0) n none sz) k)=_
       rw [catK_eq,forceN_eq,newK_eq]
       show k d.e (.sl d.nx 0 (0+(m+1)) none sz) _ _=_
       rw [Nat.zero_add,List.nil_append]
    case ow k0 n sz'=>
     obtain ⟨rfl,hsz,hw,⟨hbt,hlen⟩,H⟩:=H
     cases hl:live s.h k0 (n*sz') with
     | none=>simp only [hl] at H
     | some ob=>
      cases ob with
      | obj l=>simp only [hl] at H
      | row l=>
       simp only [hl] at H
       obtain ⟨e1,e2,e3,e4,e5⟩:=ow_blk R hl hva
       have e2':l.length=n*sz':=e2
       have hnl':(l++new).length=(n+m)*sz':=by rw [List.length_append,e2',hlen,Nat.add_mul]
       have hkn:=(R.hp.blk k0 _ e1).1
       have hgrow:m≠0→l.length≠(l++new).length:=by
        intro h h'
        rw [List.length_append,hlen] at h'
        have:0<m*sz':=Nat.mul_pos (by omega) hsz
        omega
       have fin:∀ (r':DV) (dnx':P) (dh':Hp),(∀ (nn:Nat) (k:Kv),insK (.app sz' bt a x) F (exec F nn) c.wm d.e d.nx d.h k=k d.e r' dnx' dh')→
        (l.length=(l++new).length→r'=ev a d.e)→(∀ a0:P,a0.n<d.nx.n→(∀ b q,refAt (ev a d.e)=some (b,q)→a0≠b)→Tr.get? a0 dh'=Tr.get? a0 d.h)→(∀ a0:P,dnx'.n≤a0.n→Tr.get? a0 dh'=none)→d.nx.n≤dnx'.n→
        (∀ b q,refAt r'=some (b,q)→d.nx.n≤b.n∨∃ q',refAt (ev a d.e)=some (b,q'))→
        (∀ M,(∀ a0,g.Z a0→objAt a0 dh'=objAt a0 d.h)→Blk g.Z dh' M (.row (l++new)) r')→
        ((r'=.nils∧n+m=0)∨∃ b o cp,r'=.sl b o (n+m) cp sz')→
        ∃ s' v' d' x0 g',IRun F (.app sz' bt a x) c d d' x0∧RS c s' d' g'∧s'.w=s.w∧XR g'.Z d'.h (mm s'.nx s'.h g') v' x0∧EvoS s d g s' d' g'∧K s' v':=by
        intro r' dnx' dh' hrun h1 h2 h3 h4 h5 h6 h7
        obtain ⟨R1,E1⟩:=R.hp.renew (ob':=.row (l++new)) (r':=r') (dnx':=dnx') (dh':=dh') e1 e3 (by show l.length≤(l++new).length;rw [List.length_append];omega) h1 h2 h3 h4 h5 (fun ho _=>h6 _ ho)
        refine ⟨⟨s.e,s.nx,s.w,hset s.h k0 (.row (l++new))⟩,_,⟨d.e,dnx',dh'⟩,r',⟨g.Z,upd g.μ k0 r'⟩,⟨0,fun nn _ k=>hrun nn k⟩,⟨E1.env R.env,R1⟩,rfl,?_,E1,H⟩
        refine .ow (by rcases h7 with ⟨h,_⟩|⟨b,o,c,h⟩<;>rw [h]<;>first|exact .inl rfl|exact .inr ⟨_,_,_,_,_,rfl⟩) hkn fun m' r1 e=>?_
        obtain ⟨o,g1,g2,g3⟩:=mof_some e
        rw [hget_set_self e1] at g1;cases g1
        simp only [upd_self] at g2;cases g2
        have:(l++new).length=m':=g3
        exact ⟨by omega,fun _=>⟨rfl,h7⟩⟩
       have fresh:∀ (old:List DV) (dh0:Hp),(∀ a0:P,a0.n<d.nx.n→(∀ b q,refAt (ev a d.e)=some (b,q)→a0≠b)→Tr.get? a0 dh0=Tr.get? a0 d.h)→(∀ a0:P,d.nx.n≤a0.n→Tr.get? a0 dh0=none)→XRs g.Z d.h none l old→(0<m)→
        (∀ (nn:Nat) (k:Kv),insK (.app sz' bt a x) F (exec F nn) c.wm d.e d.nx d.h k=apNew sz' n m old new' d.e d.nx dh0 k)→
        (l.length=(l++new).length→DV.sl d.nx 0 (n+m) none sz'=ev a d.e)→
        ∃ s' v' d' x0 g',IRun F (.app sz' bt a x) c d d' x0∧RS c s' d' g'∧s'.w=s.w∧XR g'.Z d'.h (mm s'.nx s'.h g') v' x0∧EvoS s d g s' d' g'∧K s' v':=by
        intro old dh0 h1 h2 h3 hm hrun hsz
        refine fin (.sl d.nx 0 (n+m) none sz') d.nx.suc (Tr.set d.nx dh0 (some (.cells (old++new')))) (fun nn k=>?_) hsz (fun a0 ha hne=>?_) (fun a0 ha=>?_) (by rw [P.n_suc];omega) (fun b q h=>?_) (fun M ho=>?_) (.inr ⟨_,_,_,rfl⟩)
        ·rw [hrun]
         show catK old new' (fun l=>forceN (Nat.add n m) fun n=>newK l d.e d.nx dh0 (fun b=>.sl b (nat_lit 0) n none sz') k)=_
         rw [catK_eq,forceN_eq,newK_eq];rfl
        ·rw [Tr.get_set_ne (P.ne_of_lt ha)];exact h1 a0 ha hne
        ·rw [P.n_suc] at ha
         rw [Tr.get_set_ne (by rintro rfl;omega)];exact h2 a0 (by omega)
        ·cases h;exact .inl (Nat.le_refl _)
        ·exact blk_row (Tr.get_set_self _ _ _) hnl' (fun c h=>by cases h) ⟨old++new',[],by simp,XRs.mono (M:=none) (M':=none) (fun _ h=>h) ho trivial (h3.append hnew)⟩
       by_cases hm0:m=0
       ·subst hm0
        have hn0:new=[]:=by simpa using hlen
        subst hn0
        refine fin (ev a d.e) d.nx d.h (fun nn k=>?_) (fun _=>rfl) (fun _ _ _=>rfl) R.hp.top (Nat.le_refl _) (fun b q h=>.inr ⟨q,h⟩) (fun M ho=>?_) e5
        ·rw [run]
         show asSl (ev a d.e) (nilsK (ev a d.e) .fail fun _=>fV (ev a d.e) fun v=>k d.e v d.nx d.h) (fun _ _ _ _ _=>fV (ev a d.e) fun v=>k d.e v d.nx d.h)=_
         rcases e5 with ⟨e,_⟩|⟨b,o,cp,e⟩<;>rw [e]<;>rfl
        ·rw [List.append_nil]
         rcases e4 with ⟨h,h'⟩|⟨b1,q1,n1,cp1,sz1,cells1,h,a1,a2,a3,a4,a5⟩|⟨b1,q1,cells1,h,a1,a2,a3⟩
         ·exact .inl ⟨h,h'⟩
         ·exact .inr (.inl ⟨b1,q1,n1,cp1,sz1,cells1,h,a1,a2,a3,a4,a5⟩)
         ·exact .inr (.inr ⟨b1,q1,cells1,h,a1,a2,a3⟩)
       ·have hmb:Nat.beq m (nat_lit 0)=false:=by cases m with
         | zero=>exact absurd rfl hm0
         | succ m=>rfl
        rcases e5 with ⟨e,rfl⟩|⟨b,o,cp,e⟩
        ·have hl0:l=[]:=by simpa using e2'
         subst hl0
         refine fresh [] d.h (fun _ _ _=>rfl) R.hp.top .nil (by omega) (fun nn k=>?_) (fun h=>?_)
         ·rw [run,e,apnil,hmb]
          show chk (Nat.ble (Nat.mul m bt) (nat_lit 35184372088832)) (fun _=>apNew sz' (nat_lit 0) m [] new' d.e d.nx d.h k)=_
          rw [chk_eq,if_pos (by rw [Nat.ble_eq];rw [Nat.zero_add] at hbt;exact hbt)]
         ·exact absurd h (hgrow hm0)
        ·rw [e] at e4
         rcases e4 with ⟨h,h'⟩|⟨b1,q1,n1,cp1,sz1,cells1,h,a1,a2,a3,a4,a5⟩|⟨b1,q1,cells1,h,a1,a2,a3⟩
         ·cases h
         ·cases h
          have hlen0:(VOb.row l).cells.length=n*sz':=e2
          rw [hlen0] at a5
          have hmay:=(R.hp.own k0 _ _ b o e1 e3 (by rw [e];rfl)).2.2 hw
          have hsl:∀ (nn:Nat) (k:Kv),insK (.app sz' bt a x) F (exec F nn) c.wm d.e d.nx d.h k=
           Option.rec (motive:=fun _=>Res) (apKill sz' d.e d.nx d.h k c.wm b o n m new')
            (fun c0=>Bool.rec (motive:=fun _=>Res) (slcK d.h b o n sz' fun old=>apNew sz' n m old new' d.e d.nx d.h k) (apIn sz' d.e d.nx d.h k c.wm b o n c0 m new') (Nat.ble (Nat.add n m) c0)) cp:=by
           intro nn k
           rw [run,e]
           show Bool.rec (motive:=fun _=>Res) (apSl sz' bt d.e d.nx d.h k c.wm m new' b o n cp sz') (fV (.sl b o n cp sz') fun v=>k d.e v d.nx d.h) (Nat.beq m (nat_lit 0))=_
           rw [hmb]
           show chk (Nat.beq sz' sz') (fun _=>chk (Nat.ble (Nat.mul (Nat.add n m) bt) (nat_lit 35184372088832)) fun _=>
            Option.rec (motive:=fun _=>Res) (apKill sz' d.e d.nx d.h k c.wm b o n m new')
             (fun c0=>Bool.rec (motive:=fun _=>Res) (slcK d.h b o n sz' fun old=>apNew sz' n m old new' d.e d.nx d.h k) (apIn sz' d.e d.nx d.h k c.wm b o n c0 m new') (Nat.ble (Nat.add n m) c0)) cp)=_
           rw [chk_eq,if_pos (by simp),chk_eq,if_pos (by rw [Nat.ble_eq];exact hbt)]
          have hb:=R.hp.lt e1 e3 (show refAt (ev a d.e)=some (b,o) by rw [e];rfl)
          cases cp with
          | none=>
           refine fresh ((cells1.drop o).take (n*sz')) (Tr.set b d.h (some .dead)) (fun a0 ha hne=>?_) (fun a0 ha=>?_) a5 (by omega) (fun nn k=>?_) (fun h=>?_)
           ·exact Tr.get_set_ne (hne b o (by rw [e];rfl)) _ _
           ·rw [Tr.get_set_ne (by rintro rfl;omega)];exact R.hp.top a0 ha
           ·rw [hsl]
            show wOk c.wm b .fail (fun _=>ownK b d.h .fail fun l=>dropK o l .fail fun t=>takeK (Nat.mul n sz') t .fail fun old=>
             Tr.setK b d.h (some .dead) fun h=>apNew sz' n m old new' d.e d.nx h k)=_
            rw [wOk_pos hmay,ownK_eq,a1]
            show dropK o cells1 .fail (fun t=>takeK (Nat.mul n sz') t .fail fun old=>Tr.setK b d.h (some .dead) fun h=>apNew sz' n m old new' d.e d.nx h k)=_
            rw [dropK_eq,if_pos (by omega),takeK_eq,if_pos (by rw [List.length_drop];show n*sz'≤_;omega),Tr.setK_eq];rfl
           ·exact absurd h (hgrow hm0)
          | some c0=>
           obtain ⟨hc1,hc2⟩:=a4 c0 rfl
           by_cases hle:n+m≤c0
           ·have hroom:o+n*sz'+new'.length≤cells1.length:=by
             have h1:n*sz'+m*sz'≤c0*sz':=by rw [←Nat.add_mul];exact Nat.mul_le_mul_right _ hle
             omega
            refine fin (.sl b o (n+m) (some c0) sz') d.nx (Tr.set b d.h (some (.cells (cells1.take (o+n*sz')++new'++cells1.drop (o+n*sz'+new'.length))))) (fun nn k=>?_) (fun h=>?_) (fun a0 ha hne=>?_) (fun a0 ha=>?_) (Nat.le_refl _) (fun b' q h=>?_) (fun M ho=>?_) (.inr ⟨_,_,_,rfl⟩)
            ·rw [hsl]
             show Bool.rec (motive:=fun _=>Res) (slcK d.h b o n sz' fun old=>apNew sz' n m old new' d.e d.nx d.h k) (apIn sz' d.e d.nx d.h k c.wm b o n c0 m new') (Nat.ble (Nat.add n m) c0)=_
             have:Nat.ble (Nat.add n m) c0=true:=by rw [Nat.ble_eq];exact hle
             rw [this]
             show wOk c.wm b .fail (fun _=>ownK b d.h .fail fun l=>sprK (Nat.add o (Nat.mul n sz')) l new' .fail fun l=>Tr.setK b d.h (some (.cells l)) fun h=>
              forceN (Nat.add n m) fun n=>k d.e (.sl b o n (some c0) sz') d.nx h)=_
             rw [wOk_pos hmay,ownK_eq,a1]
             show sprK (o+n*sz') cells1 new' .fail (fun l=>Tr.setK b d.h (some (.cells l)) fun h=>forceN (Nat.add n m) fun n=>k d.e (.sl b o n (some c0) sz') d.nx h)=_
             rw [sprK_eq,if_pos hroom,Tr.setK_eq,forceN_eq];rfl
            ·exact absurd h (hgrow hm0)
            ·exact Tr.get_set_ne (hne b o (by rw [e];rfl)) _ _
            ·rw [Tr.get_set_ne (by rintro rfl;omega)];exact R.hp.top a0 ha
            ·cases h;exact .inr ⟨o,by rw [e];rfl⟩
            ·have hl3:=splD_length cells1 (o+n*sz') new' hroom
             refine .inr (.inl ⟨b,o,n+m,some c0,sz',_,rfl,Tr.get_set_self _ _ _,hnl',by rw [hl3,Nat.add_mul];omega,fun c h=>by cases h;rw [hl3];exact ⟨hle,hc2⟩,?_⟩)
             show XRs g.Z _ none (l++new) (((cells1.take (o+n*sz')++new'++cells1.drop (o+n*sz'+new'.length)).drop o).take (l++new).length)
             have hcut:((cells1.take (o+n*sz')++new'++cells1.drop (o+n*sz'+new'.length)).drop o).take (l++new).length=(cells1.drop o).take (n*sz')++new':=by
              rw [hnl',Nat.add_mul,←hlen,hnl,List.append_assoc,List.drop_append_of_le_length (by rw [List.length_take];omega),List.drop_take]
              rw [show o+n*sz'-o=n*sz' by omega]
              have:((cells1.drop o).take (n*sz')).length=n*sz':=by rw [List.length_take,List.length_drop];omega
              rw [List.take_append,List.take_of_length_le (by omega),this,Nat.add_sub_cancel_left,List.take_append,List.take_of_length_le (Nat.le_refl _),Nat.sub_self]
              simp
             rw [hcut]
             exact XRs.mono (M:=none) (M':=none) (fun _ h=>h) ho trivial (XRs.append a5 hnew)
           ·refine fresh ((cells1.drop o).take (n*sz')) d.h (fun _ _ _=>rfl) R.hp.top a5 (by omega) (fun nn k=>?_) (fun h=>?_)
            ·rw [hsl]
             show Bool.rec (motive:=fun _=>Res) (slcK d.h b o n sz' fun old=>apNew sz' n m old new' d.e d.nx d.h k) (apIn sz' d.e d.nx d.h k c.wm b o n c0 m new') (Nat.ble (Nat.add n m) c0)=_
             have:Nat.ble (Nat.add n m) c0=false:=by
              cases h:Nat.ble (Nat.add n m) c0 with
              | false=>rfl
              | true=>rw [Nat.ble_eq] at h;exact absurd h hle
             rw [this]
             show objK b d.h .fail (fun l=>dropK o l .fail fun t=>takeK (Nat.mul n sz') t .fail fun old=>apNew sz' n m old new' d.e d.nx d.h k)=_
             rw [objK_eq,a1]
             show dropK o cells1 .fail (fun t=>takeK (Nat.mul n sz') t .fail fun old=>apNew sz' n m old new' d.e d.nx d.h k)=_
             rw [dropK_eq,if_pos (by omega),takeK_eq,if_pos (by rw [List.length_drop];show n*sz'≤_;omega)];rfl
            ·exact absurd h (hgrow hm0)
         ·cases h
end
section
variable {F:Tr Fd} {s:VSt} {K:VSt→VV→Prop}
theorem s_call {f:P} {as:List Opd} (H:wI F (.call f as) s K):ISem F (.call f as) s K:=by
 intro c d g R
 simp only [wI] at H
 cases hx:vovs as s.e with
 | none=>simp only [hx] at H
 | some args=>
  simp only [hx] at H
  obtain ⟨s',v,d',x,g',⟨he,fuel,hrun⟩,R',hw,hxr,E,hK⟩:=H c d g _ R (vovs_sound R.env hx)
  refine ⟨s',v,d',x,g',⟨fuel,fun n hn k=>?_⟩,R',hw,hxr,E,hK⟩
  show ovsK as d.e (fun vs=>callK F (exec F n) c.wm f vs d.e d.nx d.h k)=_
  rw [ovsK_eq,hrun n hn,he]
theorem s_callv {f:Opd} {as:List Opd} (H:wI F (.callv f as) s K):ISem F (.callv f as) s K:=by
 intro c d g R
 simp only [wI] at H
 cases hf:vev f s.e with
 | none=>simp only [hf] at H
 | some v=>
  cases v<;>simp only [hf] at H
  rename_i f' cs
  cases hx:vovs as s.e with
  | none=>simp only [hx] at H
  | some args=>
   simp only [hx] at H
   obtain ⟨cs',e1,r1⟩:=(vev_sound R.env hf).fn_inv
   obtain ⟨s',v,d',x,g',⟨he,fuel,hrun⟩,R',hw,hxr,E,hK⟩:=H c d g _ R ((vovs_sound R.env hx).append r1)
   refine ⟨s',v,d',x,g',⟨fuel,fun n hn k=>?_⟩,R',hw,hxr,E,hK⟩
   show asF (ev f d.e) .fail (fun f cs=>ovsK as d.e fun vs=>catK vs cs fun vs=>callK F (exec F n) c.wm f vs d.e d.nx d.h k)=_
   rw [e1,asF_eq]
   show ovsK as d.e (fun vs=>catK vs cs' fun vs=>callK F (exec F n) c.wm f' vs d.e d.nx d.h k)=_
   rw [ovsK_eq,catK_eq,hrun n hn,he]
theorem wI_sound {i:Ins} (H:wI F i s K):ISem F i s K:=by
 cases i with
 | mv a=>exact s_mv H
 | pick c a b=>exact s_pick H
 | al z=>exact s_al H
 | bx a=>exact s_bx H
 | bld z ps=>exact s_bld H
 | bsl len sz z ps=>exact s_bsl H
 | ld a=>exact s_ld H
 | lda n a=>exact s_lda H
 | vla n a=>exact s_vla H
 | st n a v=>exact s_st H
 | nc a=>exact s_nc H
 | bin b x y=>exact s_bin H
 | aeq ks neg x y=>exact s_aeq H
 | beq neg x y=>exact s_beq H
 | isnil neg x=>exact s_isnil H
 | neg a=>exact s_neg H
 | not a=>exact s_not H
 | cv k a=>exact s_cv H
 | mfn f cs=>exact s_mfn H
 | fa o a=>exact s_fa H
 | fi o a=>exact s_fi H
 | fia o n a=>exact s_fia H
 | ia sz a i=>exact s_ia H
 | msl sz bt z len cap=>exact s_msl H
 | sla sz x lo hi mx=>exact s_sla H
 | ex a i=>exact s_ex H
 | call f as=>exact s_call H
 | callv f as=>exact s_callv H
 | len a=>exact s_len H
 | cap a=>exact s_cap H
 | app sz bt s x=>exact s_app H
 | mx a l=>exact s_mx H
 | mn a l=>exact s_mn H
 | apz sz bt z s n=>exact s_apz H
 | clr sz z a=>exact s_clr H
 | shr x y=>exact s_shr H
 | bad=>exact H.elim
end
section
variable {F:Tr Fd}
def OSem (F:Tr Fd) (o:Op) (s:VSt) (K:VSt→Prop):Prop:=
 ∀ (c:Ctx) (d:DS) (g:Gh),RS c s d g→∃ s' d' g',ORun F o c d d'∧RS c s' d' g'∧s'.w=s.w∧EvoS s d g s' d' g'∧K s'
theorem vput_env {Z:P→Prop} {h:Hp} {M:Option MM} {s:VSt} {e:Env} {v:VV} {x:DV} (hE:EnvR Z h M s.e e) (hx:XR Z h M v x) (dst:Option P):EnvR Z h M (vput dst v s).e (dstE dst x e):=by
 cases dst with
 | none=>exact hE
 | some p=>exact hE.set hx
theorem vput_nx (dst:Option P) (v:VV) (s:VSt):(vput dst v s).nx=s.nx∧(vput dst v s).h=s.h∧(vput dst v s).w=s.w:=by cases dst<;>exact ⟨rfl,rfl,rfl⟩
theorem RS.put {c:Ctx} {s:VSt} {d:DS} {g:Gh} (R:RS c s d g) {v:VV} {x:DV} (hx:XR g.Z d.h (mm s.nx s.h g) v x) (dst:Option P):RS c (vput dst v s) ⟨dstE dst x d.e,d.nx,d.h⟩ g:=by
 obtain ⟨h1,h2,h3⟩:=vput_nx dst v s
 refine ⟨?_,?_⟩
 ·rw [h1,h2];exact vput_env R.env hx dst
 ·rw [h1,h2,h3];exact R.hp
theorem Evo.put {s:VSt} {d:DS} {g:Gh} {s':VSt} {d':DS} {g':Gh} (E:EvoS s d g s' d' g') (dst:Option P) (v:VV) (e:Env):EvoS s d g (vput dst v s') ⟨e,d'.nx,d'.h⟩ g':=by
 obtain ⟨h1,h2,_⟩:=vput_nx dst v s'
 show Evo _ _ _ _ _ (vput dst v s').nx (vput dst v s').h _ _ _
 rw [h1,h2];exact E
theorem opRun_sound {dst:Option P} {i:Ins} {s:VSt} {K:VSt→Prop} (H:wI F i s fun s' v=>K (vput dst v s')) (c:Ctx) (d:DS) (g:Gh) (R:RS c s d g):
 ∃ s' d' g',(∃ fuel,∀ n,fuel≤n→∀ k:Ko,opRun dst i F (exec F n) c.wm d.e d.nx d.h k=k d'.e d'.nx d'.h)∧RS c s' d' g'∧s'.w=s.w∧EvoS s d g s' d' g'∧K s':=by
 obtain ⟨s',v,d',x,g',⟨fuel,hrun⟩,R',hw,hx,E,hK⟩:=wI_sound H c d g R
 refine ⟨vput dst v s',⟨dstE dst x d'.e,d'.nx,d'.h⟩,g',⟨fuel,fun n hn k=>?_⟩,R'.put hx dst,?_,E.put dst v _,hK⟩
 ·show insK i F (exec F n) c.wm d.e d.nx d.h (fun e v nx h=>opDst dst v e fun e=>k e nx h)=_
  rw [hrun n hn,opDst_eq]
 ·rw [(vput_nx dst v s').2.2];exact hw
theorem wO_sound {o:Op} {s:VSt} {K:VSt→Prop} (H:wO F o s K):OSem F o s K:=by
 intro c d g R
 cases o with
 | mk dst gd i=>
  cases gd with
  | none=>exact opRun_sound H c d g R
  | some pb=>
   obtain ⟨p,b⟩:=pb
   simp only [wO] at H
   cases hp:vev (.t p) s.e with
   | none=>simp only [hp] at H
   | some v=>
    have hx:XR g.Z d.h (mm s.nx s.h g) v (evT p d.e):=vev_sound (o:=.t p) R.env hp
    cases v<;>simp only [hp] at H
    case bool t=>
     have e1:=hx.bool_inv
     have hpp:∃ y,Tr.get? p d.e=some y∧y=.bool t:=by
      simp only [vev] at hp
      cases h1:Tr.get? p s.e with
      | none=>simp only [h1,reduceCtorEq] at hp
      | some u=>
       simp only [h1,Option.some.injEq] at hp
       obtain ⟨y,hy,hxy⟩:=R.env.get h1
       cases u<;>simp only [vplace,reduceCtorEq] at hp
       rw [hp] at hxy
       exact ⟨y,hy,hxy.bool_inv⟩
     obtain ⟨y,hy,rfl⟩:=hpp
     have run:∀ (n:Nat) (k:Ko),opK (.mk dst (some (p,b)) i) F (exec F n) c.wm d.e d.nx d.h k=opGt dst i F (exec F n) c.wm d.e d.nx d.h k b t:=by
      intro n k
      show asB (evT p d.e) (asT (evT p d.e) .fail (opGn dst d.e d.nx d.h k)) (opGt dst i F (exec F n) c.wm d.e d.nx d.h k b)=_
      rw [e1,asB_eq]
     have hset:Tr.set p d.e (some (.bool t))=d.e∨True:=.inr trivial
     by_cases hb:t=b
     ·subst hb
      have R1:RS c ⟨Tr.set p s.e (some (.bool t)),s.nx,s.w,s.h⟩ d g:=by
       refine ⟨fun q=>?_,R.hp⟩
       show match Tr.get? q (Tr.set p s.e (some (.bool t))),Tr.get? q d.e with|none,none=>True|some v,some x=>XR g.Z d.h (mm s.nx s.h g) v x|_,_=>False
       rw [Tr.get_set]
       by_cases hq:q=p
       ·subst hq;rw [if_pos rfl,hy];exact .bool _
       ·rw [if_neg hq];exact R.env q
      obtain ⟨s',d',g',⟨fuel,hrun⟩,R',hw,E,hK⟩:=opRun_sound (H.1 rfl) c d g R1
      refine ⟨s',d',g',⟨fuel,fun n hn k=>?_⟩,R',hw,E,hK⟩
      rw [run]
      show Bool.rec (motive:=fun _=>Res) (opSkip dst d.e d.nx d.h k) (opRun dst i F (exec F n) c.wm d.e d.nx d.h k) (beqB t t)=_
      have:beqB t t=true:=by cases t<;>rfl
      rw [this];exact hrun n hn k
     ·have hbt:t=!b:=by cases t<;>cases b<;>first|rfl|exact absurd rfl hb
      have R1:RS c ⟨Tr.set p s.e (some (.bool !b)),s.nx,s.w,s.h⟩ d g:=by
       refine ⟨fun q=>?_,R.hp⟩
       show match Tr.get? q (Tr.set p s.e (some (.bool !b))),Tr.get? q d.e with|none,none=>True|some v,some x=>XR g.Z d.h (mm s.nx s.h g) v x|_,_=>False
       rw [Tr.get_set]
       by_cases hq:q=p
       ·subst hq;rw [if_pos rfl,hy,hbt];exact .bool _
       ·rw [if_neg hq];exact R.env q
      refine ⟨_,⟨dstE dst (.tup []) d.e,d.nx,d.h⟩,g,⟨0,fun n hn k=>?_⟩,R1.put (.tup .nil) dst,?_,Evo.put (s:=s) (d:=d) (s':=⟨Tr.set p s.e (some (.bool !b)),s.nx,s.w,s.h⟩) (d':=d) (Evo.refl _ _ _ _ _) dst _ _,H.2 hbt⟩
      ·rw [run]
       show Bool.rec (motive:=fun _=>Res) (opSkip dst d.e d.nx d.h k) (opRun dst i F (exec F n) c.wm d.e d.nx d.h k) (beqB t b)=_
       have:beqB t b=false:=by rw [hbt];cases b<;>rfl
       rw [this]
       show opDst dst (.tup []) d.e (fun e=>k e d.nx d.h)=_
       rw [opDst_eq]
      ·rw [(vput_nx dst _ _).2.2]
    case tup l=>
     cases l with
     | cons _ _=>simp only at H
     | nil=>
      simp only at H
      obtain ⟨l',e1,r1⟩:=hx.tup_inv
      cases r1
      refine ⟨_,⟨dstE dst (.tup []) d.e,d.nx,d.h⟩,g,⟨0,fun n hn k=>?_⟩,R.put (.tup .nil) dst,?_,Evo.put (Evo.refl _ _ _ _ _) dst _ _,H⟩
      ·show asB (evT p d.e) (asT (evT p d.e) .fail (opGn dst d.e d.nx d.h k)) (opGt dst i F (exec F n) c.wm d.e d.nx d.h k b)=_
       rw [e1,asB_eq,asT_eq]
       show opDst dst (.tup []) d.e (fun e=>k e d.nx d.h)=_
       rw [opDst_eq]
      ·rw [(vput_nx dst _ _).2.2]
 | loc p z=>
  simp only [wO] at H
  cases hz:ofDVs z with
  | none=>simp only [hz] at H
  | some l=>
   simp only [hz] at H
   refine ⟨⟨Tr.set p s.e (some (.var l)),s.nx,s.w,s.h⟩,⟨Tr.set p d.e (some (.var z)),d.nx,d.h⟩,g,⟨0,fun n hn k=>?_⟩,⟨R.env.set (.var (ofDVs_sound hz)),R.hp⟩,rfl,Evo.refl _ _ _ _ _,H.2⟩
   show notVar p d.e (fun _=>Tr.setK p d.e (some (.var z)) fun e=>k e d.nx d.h)=_
   rw [notVar_eq,if_neg,Tr.setK_eq]
   rintro ⟨l',hl'⟩
   have:=R.env p
   rw [hl'] at this
   have h0:=H.1
   unfold isVarV at h0
   cases h1:Tr.get? p s.e with
   | none=>rw [h1] at this;exact this
   | some u=>
    rw [h1] at this h0
    cases this
    case unk hd=>exact hd
    case ow _ hd _=>rcases hd with h|⟨k,o,n,c,s,h⟩<;>cases h
    case pt _ hd _=>obtain ⟨k,o,h⟩:=hd;cases h
    case os _ hd _=>rcases hd with h|⟨k,o,n,c,s,h⟩<;>cases h
    case var=>cases h0
 | locb p a=>
  simp only [wO] at H
  cases hv:vov a s.e with
  | none=>simp only [hv] at H
  | some v=>
   simp only [hv] at H
   cases hc:vcells v with
   | none=>simp only [hc] at H
   | some l=>
    simp only [hc] at H
    obtain ⟨l',h1,h2⟩:=vcells_sound (vov_sound R.env hv) hc
    refine ⟨⟨Tr.set p s.e (some (.var l)),s.nx,s.w,s.h⟩,⟨Tr.set p d.e (some (.var l')),d.nx,d.h⟩,g,⟨0,fun n hn k=>?_⟩,⟨R.env.set (.var h2),R.hp⟩,rfl,Evo.refl _ _ _ _ _,H.2⟩
    show notVar p d.e (fun _=>ovK a d.e fun v=>cellsK v .fail fun l=>Tr.setK p d.e (some (.var l)) fun e=>k e d.nx d.h)=_
    rw [notVar_eq,if_neg,ovK_eq,cellsK_eq,h1]
    ·show Tr.setK p d.e (some (.var l')) (fun e=>k e d.nx d.h)=_
     rw [Tr.setK_eq]
    ·rintro ⟨l',hl'⟩
     have:=R.env p
     rw [hl'] at this
     have h0:=H.1
     unfold isVarV at h0
     cases h1:Tr.get? p s.e with
     | none=>rw [h1] at this;exact this
     | some u=>
      rw [h1] at this h0
      cases this
      case unk hd=>exact hd
      case ow _ hd _=>rcases hd with h|⟨k,o,n,c,s,h⟩<;>cases h
      case pt _ hd _=>obtain ⟨k,o,h⟩:=hd;cases h
      case os _ hd _=>rcases hd with h|⟨k,o,n,c,s,h⟩<;>cases h
      case var=>cases h0
theorem wOs_sound:∀ {l:List Op} {s:VSt} {K:VSt→Prop},wOs F l s K→∀ (c:Ctx) (d:DS) (g:Gh),RS c s d g→
 ∃ s' d' g',(∃ fuel,∀ n,fuel≤n→∀ k:Ko,opsK l F (exec F n) c.wm d.e d.nx d.h k=k d'.e d'.nx d'.h)∧RS c s' d' g'∧s'.w=s.w∧EvoS s d g s' d' g'∧K s'
 | [],s,K,H,c,d,g,R=>⟨s,d,g,⟨0,fun n _ k=>rfl⟩,R,rfl,Evo.refl _ _ _ _ _,H⟩
 | o::l,s,K,H,c,d,g,R=>by
  obtain ⟨s1,d1,g1,⟨f1,r1⟩,R1,hw1,E1,H1⟩:=wO_sound (o:=o) H c d g R
  obtain ⟨s2,d2,g2,⟨f2,r2⟩,R2,hw2,E2,H2⟩:=wOs_sound H1 c d1 g1 R1
  refine ⟨s2,d2,g2,⟨max f1 f2,fun n hn k=>?_⟩,R2,hw2.trans hw1,E1.trans E2,H2⟩
  show opK o F (exec F n) c.wm d.e d.nx d.h (fun e nx h=>opsK l F (exec F n) c.wm e nx h k)=_
  rw [r1 n (by omega),r2 n (by omega)]
theorem vuse_sound {Z:P→Prop} {h:Hp} {M:Option MM} {c:Bool} {e:VEnv} {d:Env} (x:EnvR Z h M e d):∀ (l:List P) {acc:VEnv} {acc':Env},EnvR Z h M acc acc'→EnvR Z h M (vuse c e l acc) (use c d l acc')
 | [],_,_,a=>a
 | p::l,acc,acc',a=>by
  refine vuse_sound x l ?_
  unfold vuseP useP
  have hp:=x p
  cases h1:Tr.get? p e with
  | none=>
   rw [x.get_none h1]
   exact a
  | some v=>
   obtain ⟨y,hy,hxy⟩:=x.get h1
   rw [hy]
   have noV:∀ {v:VV} {y:DV},XR Z h M v y→(∀ l,v≠.var l)→(∀ p o,v≠.fld p o)→EnvR Z h M (Tr.set p acc (some (match c with|true=>v|false=>vbare v)))
    (match (some y:Option DV) with|none=>acc'|some (.fld q o)=>(match Tr.get? q acc' with|some (.var _)=>Tr.set p acc' (some (.fld q o))|_=>acc')|some v=>Tr.set p acc' (some (match c with|true=>v|false=>bareV v))):=by
    intro v y hxy hv hf
    have hpl:=hxy.plain hv hf
    have e1:(match c with|true=>v|false=>vbare v)=v:=by
     cases c
     ·show vbare v=v
      cases v<;>first|rfl|exact absurd rfl (hv _)
     ·rfl
    rw [e1]
    cases y<;>first|exact hpl.elim|skip
    all_goals cases c<;>exact a.set hxy
   cases v
   case fld q o=>
    cases hxy.fld_inv
    show EnvR Z h M (match Tr.get? q acc with|some (.var _)=>Tr.set p acc (some (.fld q o))|_=>acc) (match Tr.get? q acc' with|some (.var _)=>Tr.set p acc' (some (.fld q o))|_=>acc')
    cases h2:Tr.get? q acc with
    | none=>rw [a.get_none h2];exact a
    | some u=>
     obtain ⟨z,hz,hzz⟩:=a.get h2
     rw [hz]
     cases u
     case var l=>obtain ⟨l',rfl,_⟩:=hzz.var_inv;exact a.set (.fld q o)
     case fld _ _=>cases hzz.fld_inv;exact a
     all_goals
      have hnv:∀ l,z≠.var l:=by
       rintro l rfl
       exact hzz.plain (fun _ h=>by cases h) (fun _ _ h=>by cases h)
      cases z<;>first|exact a|exact absurd rfl (hnv _)
   case var l=>
    obtain ⟨l',rfl,hl⟩:=hxy.var_inv
    cases c
    ·exact a.set (.var .nil)
    ·exact a.set (.var hl)
   all_goals exact noV hxy (fun _ h=>by cases h) (fun _ _ h=>by cases h)
theorem vback_sound {Z:P→Prop} {h:Hp} {M:Option MM} {r:VEnv} {r':Env} (x:EnvR Z h M r r'):∀ (l:List P) {e:VEnv} {e':Env},EnvR Z h M e e'→EnvR Z h M (vback r l e) (back r' l e')
 | [],_,_,a=>a
 | p::l,e,e',a=>by
  refine vback_sound x l ?_
  unfold vbackP backP
  cases h1:Tr.get? p r with
  | none=>rw [x.get_none h1];exact a
  | some v=>
   obtain ⟨y,hy,hxy⟩:=x.get h1
   rw [hy];exact a.set hxy
theorem vkeep_sound {Z:P→Prop} {h:Hp} {M:Option MM} {e:VEnv} {d:Env} (x:EnvR Z h M e d):∀ (l:List P) {acc:VEnv} {acc':Env},EnvR Z h M acc acc'→EnvR Z h M (vkeep e l acc) (keep d l acc')
 | [],_,_,a=>a
 | p::l,acc,acc',a=>by
  simp only [vkeep,keep]
  cases h1:Tr.get? p e with
  | none=>rw [x.get_none h1];exact vkeep_sound x l a
  | some v=>
   obtain ⟨y,hy,hxy⟩:=x.get h1
   rw [hy]
   cases v
   case fld q o=>cases hxy.fld_inv;exact vkeep_sound x l a
   case var l0=>obtain ⟨l',rfl,hl⟩:=hxy.var_inv;exact vkeep_sound x l (a.set (.var hl))
   all_goals
    have hpl:=hxy.plain (fun _ h=>by cases h) (fun _ _ h=>by cases h)
    cases y<;>first|exact vkeep_sound x l (a.set hxy)|exact hpl.elim
theorem HpR.wmv {c:Ctx} {nx w w':Nat} {vh:VHp} {dnx:P} {dh:Hp} {g:Gh} {wm:Option P} (R:HpR c nx w vh dnx dh g)
 (h1:∀ m,wm=some m→m.n≤dnx.n) (h2:∀ k o r b q,hget vh k=some o→g.μ k=some r→refAt r=some (b,q)→w'≤k→∀ m,wm=some m→m.n≤b.n):HpR { c with wm:=wm } nx w' vh dnx dh g where
 blk:=R.blk
 own:=fun k o r b q hk hr hb=>⟨(R.own k o r b q hk hr hb).1,(R.own k o r b q hk hr hb).2.1,h2 k o r b q hk hr hb⟩
 inj:=R.inj
 zlt:=R.zlt
 zold:=R.zold
 top:=R.top
 keep:=R.keep
 le:=R.le
 wm:=h1
 wf:=R.wf
theorem wDr_sound {x:Dop} {s:VSt} {K:VSt→Prop} (H:wDr F x s K) (c:Ctx) (d:DS) (g:Gh) (hc:c.wm=c.wm0) (R:RS c s d g):
 ∃ s' d' g',(∃ fuel,∀ n,fuel≤n→∀ k:Ko,dopK x F (exec F n) c.wm d.e d.nx d.h k=k d'.e d'.nx d'.h)∧RS c s' d' g'∧s'.w=s.w∧EvoS s d g s' d' g'∧K s':=by
 cases x with
 | mk cb u b r o=>
  simp only [wDr] at H
  have R1:RS { c with wm:=wmOf r d.nx c.wm } ⟨vuse cb s.e u .nl,s.nx,wOf r s.nx s.w,s.h⟩ ⟨use cb d.e u .nl,d.nx,d.h⟩ g:=by
   refine ⟨vuse_sound R.env u EnvR.nl,?_⟩
   cases r with
   | false=>exact R.hp
   | true=>
    refine R.hp.wmv (wm:=some d.nx) (fun m h=>by cases h;exact Nat.le_refl _) (fun k o r b q hk hr hb hw=>?_)
    have:=(R.hp.blk k o hk).1
    exact absurd hw (by show ¬ s.nx≤k;omega)
  obtain ⟨s1,d1,g1,⟨f1,r1⟩,R2,hw,E,hK⟩:=wO_sound H _ _ g R1
  refine ⟨⟨vback s1.e b s.e,s1.nx,s.w,s1.h⟩,⟨back d1.e b d.e,d1.nx,d1.h⟩,g1,⟨f1,fun n hn k=>?_⟩,⟨vback_sound R2.env b (E.env R.env),?_⟩,rfl,E,hK⟩
  ·show useK cb u d.e .nl (fun r0=>opK o F (exec F n) (wmOf r d.nx c.wm) r0 d.nx d.h fun r1 nx h=>backK b r1 d.e fun e=>k e nx h)=_
   rw [useK_eq,r1 n hn,backK_eq]
  ·have:=R2.hp.wmv (wm:=c.wm) (w':=s.w) (fun m hm=>Nat.le_trans (R.hp.wm m hm) E.nx) (fun k o' r' b' q hk hr hb hw' m hm=>?_)
   ·exact this
   ·have h1:=R.hp.wf m (by rw [←hc];exact hm)
    rcases (R2.hp.own k o' r' b' q hk hr hb).2.1 with h2|h2
    ·exact Nat.le_trans h1.1 h2
    ·exact h1.2 _ h2
theorem wDg_sound {x:Dop} {s:VSt} {p:P} {gd:Bool} {K:VSt→Prop} (H:wDg F x s p gd K) (c:Ctx) (d:DS) (g:Gh) (hc:c.wm=c.wm0) (R:RS c s d g):
 ∃ s' d' g',(∃ fuel,∀ n,fuel≤n→∀ k:Ko,dopK x F (exec F n) c.wm d.e d.nx d.h k=k d'.e d'.nx d'.h)∧RS c s' d' g'∧s'.w=s.w∧EvoS s d g s' d' g'∧K s':=by
 unfold wDg at H
 cases hp:vev (.t p) s.e with
 | none=>simp only [hp] at H;exact wDr_sound H c d g hc R
 | some v=>
  cases v<;>simp only [hp] at H<;>try exact wDr_sound H c d g hc R
  rename_i t
  obtain ⟨u,hu,huv⟩:∃ u,Tr.get? p s.e=some u∧u=.bool t:=by
   simp only [vev] at hp
   cases h1:Tr.get? p s.e with
   | none=>simp only [h1,reduceCtorEq] at hp
   | some u=>
    simp only [h1,Option.some.injEq] at hp
    refine ⟨u,rfl,?_⟩
    cases u<;>simp only [vplace,reduceCtorEq] at hp
    exact hp
  subst huv
  have R1:∀ b,t=b→RS c ⟨Tr.set p s.e (some (.bool b)),s.nx,s.w,s.h⟩ d g:=by
   rintro b rfl
   refine ⟨fun q=>?_,R.hp⟩
   show match Tr.get? q (Tr.set p s.e (some (.bool t))),Tr.get? q d.e with|none,none=>True|some v,some x=>XR g.Z d.h (mm s.nx s.h g) v x|_,_=>False
   rw [Tr.get_set]
   by_cases hq:q=p
   ·subst hq;rw [if_pos rfl];have:=R.env q;rw [hu] at this;exact this
   ·rw [if_neg hq];exact R.env q
  by_cases hb:t=gd
  ·exact wDr_sound (H.1 hb) c d g hc (R1 gd hb)
  ·have hbt:t=!gd:=by cases t<;>cases gd<;>first|rfl|exact absurd rfl hb
   exact wDr_sound (H.2 hbt) c d g hc (R1 (!gd) hbt)
theorem wD_sound {x:Dop} {s:VSt} {K:VSt→Prop} (H:wD F x s K) (c:Ctx) (d:DS) (g:Gh) (hc:c.wm=c.wm0) (R:RS c s d g):
 ∃ s' d' g',(∃ fuel,∀ n,fuel≤n→∀ k:Ko,dopK x F (exec F n) c.wm d.e d.nx d.h k=k d'.e d'.nx d'.h)∧RS c s' d' g'∧s'.w=s.w∧EvoS s d g s' d' g'∧K s':=by
 cases x with
 | mk cb u b r o=>
  cases o with
  | mk dst gd i=>
   cases gd with
   | none=>exact wDr_sound (x:=.mk cb u b r (.mk dst none i)) H c d g hc R
   | some pg=>obtain ⟨p,b0⟩:=pg;exact wDg_sound H c d g hc R
  | loc p z=>exact wDr_sound (x:=.mk cb u b r (.loc p z)) H c d g hc R
  | locb p a=>exact wDr_sound (x:=.mk cb u b r (.locb p a)) H c d g hc R
theorem wDs_sound:∀ {l:List Dop} {s:VSt} {K:VSt→Prop},wDs F l s K→∀ (c:Ctx) (d:DS) (g:Gh),c.wm=c.wm0→RS c s d g→
 ∃ s' d' g',(∃ fuel,∀ n,fuel≤n→∀ k:Ko,dopsK l F (exec F n) c.wm d.e d.nx d.h k=k d'.e d'.nx d'.h)∧RS c s' d' g'∧s'.w=s.w∧EvoS s d g s' d' g'∧K s'
 | [],s,K,H,c,d,g,hc,R=>⟨s,d,g,⟨0,fun n _ k=>rfl⟩,R,rfl,Evo.refl _ _ _ _ _,H⟩
 | o::l,s,K,H,c,d,g,hc,R=>by
  obtain ⟨s1,d1,g1,⟨f1,r1⟩,R1,hw1,E1,H1⟩:=wD_sound (x:=o) H c d g hc R
  obtain ⟨s2,d2,g2,⟨f2,r2⟩,R2,hw2,E2,H2⟩:=wDs_sound H1 c d1 g1 hc R1
  refine ⟨s2,d2,g2,⟨max f1 f2,fun n hn k=>?_⟩,R2,hw2.trans hw1,E1.trans E2,H2⟩
  show dopK o F (exec F n) c.wm d.e d.nx d.h (fun e nx h=>dopsK l F (exec F n) c.wm e nx h k)=_
  rw [r1 n (by omega),r2 n (by omega)]
theorem wC_sound:∀ {cd:C} {s:VSt} {K:Out→VSt→Prop},wC F cd s K→CSem F cd s K:=by
 intro cd
 induction cd with
 | skip=>intro s K H c d g hc R;exact ⟨.norm,s,d,g,⟨0,fun n _=>rfl⟩,R,rfl,Evo.refl _ _ _ _ _,H⟩
 | exit id=>intro s K H c d g hc R;exact ⟨.exit id,s,d,g,⟨0,fun n _=>rfl⟩,R,rfl,Evo.refl _ _ _ _ _,H⟩
 | ret=>intro s K H c d g hc R;exact ⟨.ret,s,d,g,⟨0,fun n _=>rfl⟩,R,rfl,Evo.refl _ _ _ _ _,H⟩
 | reg l=>
  intro s K H c d g hc R
  obtain ⟨s1,d1,g1,⟨f1,r1⟩,R1,hw1,E1,H1⟩:=wOs_sound (l:=l) H c d g R
  exact ⟨.norm,s1,d1,g1,⟨f1,fun n hn=>r1 n hn okN⟩,R1,hw1,E1,H1⟩
 | drw l=>
  intro s K H c d g hc R
  obtain ⟨s1,d1,g1,⟨f1,r1⟩,R1,hw1,E1,H1⟩:=wDs_sound (l:=l) H c d g hc R
  exact ⟨.norm,s1,d1,g1,⟨f1,fun n hn=>r1 n hn okN⟩,R1,hw1,E1,H1⟩
 | seq a b iha ihb=>
  intro s K H c d g hc R
  obtain ⟨o1,s1,d1,g1,⟨f1,r1⟩,R1,hw1,E1,H1⟩:=iha (K:=fun o s'=>match o with | .norm=>wC F b s' K | .exit i=>K (.exit i) s' | .ret=>K .ret s') H c d g hc R
  have run:∀ n,f1≤n→step (.seq a b) F (exec F n) c.wm d.e d.nx d.h=sqO (step b) F (exec F n) c.wm o1 d1.e d1.nx d1.h:=by
   intro n hn
   show Res.rec (motive:=fun _=>Res) .fail (sqO (step b) F (exec F n) c.wm) (step a F (exec F n) c.wm d.e d.nx d.h)=_
   rw [r1 n hn]
  cases o1 with
  | norm=>
   obtain ⟨o2,s2,d2,g2,⟨f2,r2⟩,R2,hw2,E2,H2⟩:=ihb H1 c d1 g1 hc R1
   exact ⟨o2,s2,d2,g2,⟨max f1 f2,fun n hn=>by rw [run n (by omega)];exact r2 n (by omega)⟩,R2,hw2.trans hw1,E1.trans E2,H2⟩
  | exit id=>exact ⟨.exit id,s1,d1,g1,⟨f1,fun n hn=>by rw [run n hn];rfl⟩,R1,hw1,E1,H1⟩
  | ret=>exact ⟨.ret,s1,d1,g1,⟨f1,fun n hn=>by rw [run n hn];rfl⟩,R1,hw1,E1,H1⟩
 | cond cc a b iha ihb=>
  intro s K H c d g hc R
  simp only [wC] at H
  cases hx:vev cc s.e with
  | none=>simp only [hx] at H
  | some v=>
   cases v<;>simp only [hx] at H
   rename_i t
   have e1:=(vev_sound R.env hx).bool_inv
   have run:∀ n,step (.cond cc a b) F (exec F n) c.wm d.e d.nx d.h=cdB (step a) (step b) F (exec F n) c.wm d.e d.nx d.h t:=by
    intro n
    show asB (ev cc d.e) .fail (cdB (step a) (step b) F (exec F n) c.wm d.e d.nx d.h)=_
    rw [e1,asB_eq]
   cases t with
   | true=>
    obtain ⟨o1,s1,d1,g1,⟨f1,r1⟩,R1,hw1,E1,H1⟩:=iha (H.1 rfl) c d g hc R
    exact ⟨o1,s1,d1,g1,⟨f1,fun n hn=>by rw [run];exact r1 n hn⟩,R1,hw1,E1,H1⟩
   | false=>
    obtain ⟨o1,s1,d1,g1,⟨f1,r1⟩,R1,hw1,E1,H1⟩:=ihb (H.2 rfl) c d g hc R
    exact ⟨o1,s1,d1,g1,⟨f1,fun n hn=>by rw [run];exact r1 n hn⟩,R1,hw1,E1,H1⟩
 | block id a iha=>
  intro s K H c d g hc R
  obtain ⟨o1,s1,d1,g1,⟨f1,r1⟩,R1,hw1,E1,H1⟩:=iha (K:=fun o s'=>match o with | .norm=>K .norm s' | .exit i=>if i=id then K .norm s' else K (.exit i) s' | .ret=>K .ret s') H c d g hc R
  have run:∀ n,f1≤n→step (.block id a) F (exec F n) c.wm d.e d.nx d.h=bkO id o1 d1.e d1.nx d1.h:=by
   intro n hn
   show Res.rec (motive:=fun _=>Res) .fail (bkO id) (step a F (exec F n) c.wm d.e d.nx d.h)=_
   rw [r1 n hn]
  cases o1 with
  | norm=>exact ⟨.norm,s1,d1,g1,⟨f1,fun n hn=>by rw [run n hn];rfl⟩,R1,hw1,E1,H1⟩
  | exit i=>
   simp only at H1
   by_cases hi:i=id
   ·rw [if_pos hi] at H1
    refine ⟨.norm,s1,d1,g1,⟨f1,fun n hn=>?_⟩,R1,hw1,E1,H1⟩
    rw [run n hn]
    show Bool.rec (motive:=fun _=>Res) (.ok (.exit i) d1.e d1.nx d1.h) (.ok .norm d1.e d1.nx d1.h) (Nat.beq i id)=_
    rw [show Nat.beq i id=true by rw [Nat.beq_eq];exact hi]
   ·rw [if_neg hi] at H1
    refine ⟨.exit i,s1,d1,g1,⟨f1,fun n hn=>?_⟩,R1,hw1,E1,H1⟩
    rw [run n hn]
    show Bool.rec (motive:=fun _=>Res) (.ok (.exit i) d1.e d1.nx d1.h) (.ok .norm d1.e d1.nx d1.h) (Nat.beq i id)=_
    have:Nat.beq i id=false:=by
     cases h:Nat.beq i id with
     | false=>rfl
     | true=>rw [Nat.beq_eq] at h;exact absurd h hi
    rw [this]
  | ret=>exact ⟨.ret,s1,d1,g1,⟨f1,fun n hn=>by rw [run n hn];rfl⟩,R1,hw1,E1,H1⟩
 | loop lv a iha=>intro s K H;exact H
theorem wLoop_of {lv:List P} {a:C} {s:VSt} {K:Out→VSt→Prop} (J:Nat→VSt→Prop) (n:Nat) (h0:J n s)
 (hstep:∀ n s,J n s→wC F a ⟨vkeep s.e lv .nl,s.nx,s.w,s.h⟩ (fun o s'=>match o with | .norm=>∃ m,m<n∧J m s' | .exit i=>K (.exit i) s' | .ret=>K .ret s')):wLoop F lv a s K:=by
 induction n using Nat.strongRecOn generalizing s with
 | _ n ih=>
  intro c d g hc R
  have R0:RS c ⟨vkeep s.e lv .nl,s.nx,s.w,s.h⟩ ⟨keep d.e lv .nl,d.nx,d.h⟩ g:=⟨vkeep_sound R.env lv EnvR.nl,R.hp⟩
  obtain ⟨o1,s1,d1,g1,⟨f1,r1⟩,R1,hw1,E1,H1⟩:=wC_sound (hstep n s h0) c _ g hc R0
  have run:∀ m,f1≤m→step (.loop lv a) F (exec F m) c.wm d.e d.nx d.h=lpO (.loop lv a) F (exec F m) c.wm o1 d1.e d1.nx d1.h:=by
   intro m hm
   show keepK lv d.e .nl (fun e=>Res.rec (motive:=fun _=>Res) .fail (lpO (.loop lv a) F (exec F m) c.wm) (step a F (exec F m) c.wm e d.nx d.h))=_
   rw [keepK_eq,r1 m hm]
  cases o1 with
  | norm=>
   obtain ⟨m,hm,hJ⟩:=H1
   obtain ⟨o2,s2,d2,g2,⟨f2,r2⟩,R2,hw2,E2,H2⟩:=ih m hm hJ c d1 g1 hc R1
   refine ⟨o2,s2,d2,g2,⟨max f1 (f2+1),fun n hn=>?_⟩,R2,hw2.trans hw1,E1.trans E2,H2⟩
   rw [run n (by omega)]
   obtain ⟨n',rfl⟩:∃ n',n=n'+1:=⟨n-1,by omega⟩
   exact r2 n' (by omega)
  | exit i=>exact ⟨.exit i,s1,d1,g1,⟨f1,fun n hn=>by rw [run n hn];rfl⟩,R1,hw1,E1,H1⟩
  | ret=>exact ⟨.ret,s1,d1,g1,⟨f1,fun n hn=>by rw [run n hn];rfl⟩,R1,hw1,E1,H1⟩
end
end Go.Proofs.YthdlkpmhjbaplaaGreat.Dx
