/- A part of the proof of ExactS: a small machine, what its functions come to, plain laws. No statement of this seat is proved here. -/
import Derived.Test.YthdlkpmhjbaplaaGreatQwD
import Derived.Deep.MidRow
import Derived.RowKit3
import Derived.Great.BuildSlice
import Derived.WalkSpells
import Derived.Laws.StructEq
import Derived.Shelf.Abstract
import Derived.Orders
set_option autoImplicit false
set_option linter.unusedSimpArgs false
set_option linter.unusedVariables false
noncomputable section
namespace Go.Proofs.YthdlkpmhjbaplaaGreat.Dx
open Go
inductive Img where|dead|at (b s c:Nat)|ro (b s:Nat)
abbrev J:=P→Option Img
def capR (cp:Option Nat) (n cap:Nat):Prop:=n≤cap∧∀ c,cp=some c→cap=c
def offR (cp:Option Nat) (n s o off:Nat):Prop:=(0<n∨∃ c,cp=some c∧0<c)→off=s+o
mutual
inductive VR (j:J):DV→Value→Prop
 | unk (v:Value):VR j .unk v
 | bool (b:Bool):VR j (.bool b) (.bool b)
 | int (k:IntKind) (n:Int):VR j (.int k n) (.int k n)
 | nilp:VR j .nilp (.pointer none)
 | ptrA {k:P} {o b s c:Nat} (h:j k=some (.at b s c)):VR j (.ptr k o) (.pointer (some ⟨b,s+o,none⟩))
 | ptrO {k:P} {o b s:Nat} (h:j k=some (.ro b s)):VR j (.ptr k o) (.pointer (some ⟨b,s+o,none⟩))
 | ptrD {k:P} {o:Nat} (a:Addr) (h:j k=some .dead):VR j (.ptr k o) (.pointer (some a))
 | nils:VR j .nils (.slice none 0 0)
 | slA {k:P} {o n:Nat} {cp:Option Nat} {sz b s c off cap:Nat} (h:j k=some (.at b s c)) (ho:offR cp n s o off) (hc:capR cp n cap) (hs:s≤off) (he:off+cap*sz≤c):
  VR j (.sl k o n cp sz) (.slice (some ⟨b,off,none⟩) n cap)
 | slO {k:P} {o n:Nat} {cp:Option Nat} {sz b s off cap:Nat} (h:j k=some (.ro b s)) (ho:offR cp n s o off) (hc:capR cp n cap):
  VR j (.sl k o n cp sz) (.slice (some ⟨b,off,none⟩) n cap)
 | slD {k:P} {o n:Nat} {cp:Option Nat} {sz cap:Nat} (a:Addr) (h:j k=some .dead) (hc:capR cp n cap):VR j (.sl k o n cp sz) (.slice (some a) n cap)
 | slE {k:P} {o:Nat} {cp:Option Nat} {sz cap b s:Nat} (a:Addr) (h:j k=some (.ro b s)) (hc:capR cp 0 cap) (h0:∀ c,cp=some c→c=0):VR j (.sl k o 0 cp sz) (.slice (some a) 0 cap)
 | fn {f:P} {cs:List DV} {cs':List Value} (h:VRt j cs cs'):VR j (.fn f cs) (.func (.func f.n) #[] cs'.toArray)
 | nilf:VR j .nilf .nilFunc
 | ifc {t:Nat} {v:DV} {v':Value} (h:VR j v v'):VR j (.ifc t v) (.iface t v')
 | nili:VR j .nili .nilIface
 | agg {l:List DV} {l':List Value} (h:VRs j l l'):VR j (.agg l) (.agg l'.toArray)
 | tup {l:List DV} {l':List Value} (h:VRt j l l'):VR j (.tup l) (.tuple l'.toArray)
 | nilm:VR j .nilm (.map none)
inductive VRs (j:J):List DV→List Value→Prop
 | nil:VRs j [] []
 | cons {v:DV} {v':Value} {l:List DV} {l':List Value} (h:VR j v v') (h1:v'.oneCell'=true) (t:VRs j l l'):VRs j (v::l) (v'::l')
inductive VRt (j:J):List DV→List Value→Prop
 | nil:VRt j [] []
 | cons {v:DV} {v':Value} {l:List DV} {l':List Value} (h:VR j v v') (t:VRt j l l'):VRt j (v::l) (v'::l')
end
def Ext (j j':J):Prop:=∀ k i,j k=some i→j' k=some i∨j' k=some .dead
mutual
theorem VR.mono {j j':J} (hj:Ext j j'):∀ {v:DV} {v':Value},VR j v v'→VR j' v v'
 | _,_,.unk v=>.unk v
 | _,_,.bool b=>.bool b
 | _,_,.int k n=>.int k n
 | _,_,.nilp=>.nilp
 | _,_,.ptrA h=>(hj _ _ h).elim .ptrA (.ptrD _)
 | _,_,.ptrO h=>(hj _ _ h).elim .ptrO (.ptrD _)
 | _,_,.ptrD a h=>(hj _ _ h).elim (.ptrD a) (.ptrD a)
 | _,_,.nils=>.nils
 | _,_,.slA h ho hc hs he=>(hj _ _ h).elim (fun h=>.slA h ho hc hs he) (fun h=>.slD _ h hc)
 | _,_,.slO h ho hc=>(hj _ _ h).elim (fun h=>.slO h ho hc) (fun h=>.slD _ h hc)
 | _,_,.slD a h hc=>(hj _ _ h).elim (fun h=>.slD a h hc) (fun h=>.slD a h hc)
 | _,_,.slE a h hc h0=>(hj _ _ h).elim (fun h=>.slE a h hc h0) (fun h=>.slD a h hc)
 | _,_,.fn h=>.fn (VRt.mono hj h)
 | _,_,.nilf=>.nilf
 | _,_,.ifc h=>.ifc (VR.mono hj h)
 | _,_,.nili=>.nili
 | _,_,.agg h=>.agg (VRs.mono hj h)
 | _,_,.tup h=>.tup (VRt.mono hj h)
 | _,_,.nilm=>.nilm
theorem VRs.mono {j j':J} (hj:Ext j j'):∀ {l:List DV} {l':List Value},VRs j l l'→VRs j' l l'
 | _,_,.nil=>.nil
 | _,_,.cons h h1 t=>.cons (VR.mono hj h) h1 (VRs.mono hj t)
theorem VRt.mono {j j':J} (hj:Ext j j'):∀ {l:List DV} {l':List Value},VRt j l l'→VRt j' l l'
 | _,_,.nil=>.nil
 | _,_,.cons h t=>.cons (VR.mono hj h) (VRt.mono hj t)
end
theorem VRs.length {j:J}:∀ {l:List DV} {l':List Value},VRs j l l'→l.length=l'.length
 | _,_,.nil=>rfl
 | _,_,.cons _ _ t=>by simp [VRs.length t]
theorem VRt.length {j:J}:∀ {l:List DV} {l':List Value},VRt j l l'→l.length=l'.length
 | _,_,.nil=>rfl
 | _,_,.cons _ t=>by simp [VRt.length t]
theorem VRs.get {j:J}:∀ {l:List DV} {l':List Value},VRs j l l'→∀ (i:Nat) (v:DV),l[i]?=some v→∃ v',l'[i]?=some v'∧VR j v v'∧v'.oneCell'=true
 | _,_,.nil,i,v,h=>by simp at h
 | _,_,.cons hv h1 t,i,v,h=>by
  cases i with
  | zero=>simp at h;subst h;exact ⟨_,rfl,hv,h1⟩
  | succ i=>simpa using VRs.get t i v (by simpa using h)
theorem VRt.get {j:J}:∀ {l:List DV} {l':List Value},VRt j l l'→∀ (i:Nat) (v:DV),l[i]?=some v→∃ v',l'[i]?=some v'∧VR j v v'
 | _,_,.nil,i,v,h=>by simp at h
 | _,_,.cons hv t,i,v,h=>by
  cases i with
  | zero=>simp at h;subst h;exact ⟨_,rfl,hv⟩
  | succ i=>simpa using VRt.get t i v (by simpa using h)
theorem VRs.of_get {j:J}:∀ {l:List DV} {l':List Value},l.length=l'.length→(∀ (i:Nat) (v:DV),l[i]?=some v→∃ v',l'[i]?=some v'∧VR j v v'∧v'.oneCell'=true)→VRs j l l'
 | [],[],_,_=>.nil
 | [],_::_,h,_=>by simp at h
 | _::_,[],h,_=>by simp at h
 | v::l,v'::l',hl,h=>by
  obtain ⟨w,hw,hr,h1⟩:=h 0 v rfl
  simp at hw;subst hw
  exact .cons hr h1 (VRs.of_get (by simpa using hl) fun i u hu=>by simpa using h (i+1) u (by simpa using hu))
theorem VRs.append {j:J}:∀ {l:List DV} {l':List Value} {m:List DV} {m':List Value},VRs j l l'→VRs j m m'→VRs j (l++m) (l'++m')
 | _,_,_,_,.nil,h=>h
 | _,_,_,_,.cons hv h1 t,h=>.cons hv h1 (VRs.append t h)
theorem VRt.append {j:J}:∀ {l:List DV} {l':List Value} {m:List DV} {m':List Value},VRt j l l'→VRt j m m'→VRt j (l++m) (l'++m')
 | _,_,_,_,.nil,h=>h
 | _,_,_,_,.cons hv t,h=>.cons hv (VRt.append t h)
theorem VRs.take {j:J}:∀ {l:List DV} {l':List Value} (n:Nat),VRs j l l'→VRs j (l.take n) (l'.take n)
 | _,_,0,_=>by simpa using VRs.nil
 | _,_,n+1,.nil=>by simpa using VRs.nil
 | _,_,n+1,.cons hv h1 t=>by simpa using VRs.cons hv h1 (VRs.take n t)
theorem VRs.drop {j:J}:∀ {l:List DV} {l':List Value} (n:Nat),VRs j l l'→VRs j (l.drop n) (l'.drop n)
 | _,_,0,h=>by simpa using h
 | _,_,n+1,.nil=>by simpa using VRs.nil
 | _,_,n+1,.cons _ _ t=>by simpa using VRs.drop n t
theorem VRs.ones {j:J}:∀ {l:List DV} {l':List Value},VRs j l l'→∀ v∈l',v.oneCell'=true
 | _,_,.nil,v,h=>by simp at h
 | _,_,.cons _ h1 t,v,h=>by
  rcases List.mem_cons.1 h with rfl|h
  ·exact h1
  ·exact VRs.ones t v h
theorem VR.cells {j:J} {v:DV} {v':Value} {l:List DV} (h:VR j v v') (hl:v.cells=some l):VRs j l v'.cells.toList:=by
 cases h<;>simp only [DV.cells,Option.some.injEq,reduceCtorEq] at hl<;>subst hl
 case agg l' h=>exact h
 case fn cs cs' f h=>exact .cons (.fn h) rfl .nil
 case ifc t v v' h=>exact .cons (.ifc h) rfl .nil
 all_goals first
  | exact .cons (.bool _) rfl .nil
  | exact .cons (.int _ _) rfl .nil
  | exact .cons .nilp rfl .nil
  | exact .cons (.ptrA ‹_›) rfl .nil
  | exact .cons (.ptrO ‹_›) rfl .nil
  | exact .cons (.ptrD _ ‹_›) rfl .nil
  | exact .cons .nils rfl .nil
  | exact .cons (.slA ‹_› ‹_› ‹_› ‹_› ‹_›) rfl .nil
  | exact .cons (.slO ‹_› ‹_› ‹_›) rfl .nil
  | exact .cons (.slD _ ‹_› ‹_›) rfl .nil
  | exact .cons (.slE _ ‹_› ‹_› ‹_›) rfl .nil
  | exact .cons .nilf rfl .nil
  | exact .cons .nili rfl .nil
  | exact .cons .nilm rfl .nil
def CellsAt (j:J) (w:World) (b s:Nat) (l:List DV):Prop:=∀ i v,l[i]?=some v→∃ v',w.cell? ⟨b,s+i,none⟩=some v'∧VR j v v'∧v'.oneCell'=true
theorem CellsAt.mono {j j':J} {w:World} {b s:Nat} {l:List DV} (hj:Ext j j') (h:CellsAt j w b s l):CellsAt j' w b s l:=
 fun i v hv=>let ⟨v',a,r,o⟩:=h i v hv;⟨v',a,r.mono hj,o⟩
theorem CellsAt.of_heap {j:J} {w w':World} {b s:Nat} {l:List DV} (h:CellsAt j w b s l) (hb:w'.heap[b]?=w.heap[b]?):CellsAt j w' b s l:=
 fun i v hv=>let ⟨v',a,r,o⟩:=h i v hv;⟨v',by unfold World.cell? at a ⊢;rw [hb];exact a,r,o⟩
structure Lies (w:World) (b s c:Nat):Prop where
 lt:b<w.heap.size
 cell:∀ i,i<c→(w.cell? ⟨b,i,none⟩).isSome=true
 free:∀ i,s≤i→i<c→w.frozen? ⟨b,i,none⟩=false
def HR (j:J) (h:Hp) (w:World) (k:P):Img→Prop
 | .dead=>Tr.get? k h=some .dead
 | .at b s c=>Lies w b s c∧∃ l,Tr.get? k h=some (.cells l)∧s+l.length≤c∧CellsAt j w b s l
 | .ro b s=>∃ l,Tr.get? k h=some (.ro l)∧b<w.heap.size∧CellsAt j w b s l
def XD (j:J) (pv:P→Option Nat) (v:DV) (v':Value):Prop:=
 match v with
 | .var _=>False
 | .fld q o=>∃ b,pv q=some b∧v'=.pointer (some ⟨b,o,none⟩)
 | v=>VR j v v'
def ER (j:J) (pv:P→Option Nat) (w:World) (tm:Array Value) (p:P) (v:DV):Prop:=
 match v with
 | .var l=>∃ b,pv p=some b∧tm.getD p.n undef=.pointer (some ⟨b,0,none⟩)∧Lies w b 0 l.length∧CellsAt j w b 0 l
 | v=>XD j pv v (tm.getD p.n undef)
structure Rel (L:P→Prop) (N hi:Nat) (j:J) (pv:P→Option Nat) (e:Env) (nx:P) (h:Hp) (a:Act) (w:World):Prop where
 fresh:∀ k i,j k=some i→k.n<nx.n∨hi≤k.n
 heap:∀ k i,j k=some i→k.n<nx.n→HR j h w k i
 inj:∀ k k' b s c s' c',j k=some (.at b s c)→j k'=some (.at b s' c')→k=k'
 inr:∀ k k' b s c s',j k=some (.at b s c)→j k'=some (.ro b s')→False
 env:∀ p v,Tr.get? p e=some v→ER j pv w a.tmps p v
 pvv:∀ p b,pv p=some b→∃ l,Tr.get? p e=some (.var l)
 pin:∀ p q b,pv p=some b→pv q=some b→p=q
 pfr:∀ p b,pv p=some b→∀ k s c,j k≠some (.at b s c)
 pfo:∀ p b,pv p=some b→∀ k s,j k≠some (.ro b s)
 loc:∀ p l,Tr.get? p e=some (.var l)→L p
 size:a.tmps.size=N
 lt:∀ k b s c,j k=some (.at b s c)→b<w.heap.size
 lr:∀ k b s,j k=some (.ro b s)→b<w.heap.size
 top:∀ k,nx.n≤k.n→Tr.get? k h=none
structure Fr (hi n:Nat) (j:J) (pv:P→Option Nat) (w:World) (j':J) (pv':P→Option Nat) (w':World):Prop where
 size:w.heap.size≤w'.heap.size
 os:w'.os=w.os
 output:w'.output=w.output
 same:∀ x,x<w.heap.size→(∀ k s c,j k=some (.at x s c)→hi≤k.n)→(∀ p,pv p≠some x)→w'.heap[x]?=w.heap[x]?
 ext:Ext j j'
 old:∀ k,hi≤k.n→j' k=j k
 more:∀ k,j k=none→j' k≠none→n≤k.n
 new:∀ k x s c,j' k=some (.at x s c)→k.n<hi→(∃ k0 s0 c0,j k0=some (.at x s0 c0)∧k0.n<hi)∨w.heap.size≤x
 ro:∀ k x s,j' k=some (.ro x s)→j k=some (.ro x s)
 pnew:∀ p x,pv' p=some x→pv p=some x∨w.heap.size≤x
 froz:∀ ad:Addr,ad.block<w.heap.size→w'.frozen? ad=w.frozen? ad
theorem Ext.refl (j:J):Ext j j:=fun _ _ h=>.inl h
theorem Ext.trans {j j' j'':J} (h:Ext j j') (h':Ext j' j''):Ext j j'':=fun k i hk=>by
 rcases h k i hk with h1|h1
 ·exact h' k i h1
 ·exact .inr ((h' k _ h1).elim id id)
theorem Fr.refl (hi n:Nat) (j:J) (pv:P→Option Nat) (w:World):Fr hi n j pv w j pv w where
 size:=Nat.le_refl _
 os:=rfl
 output:=rfl
 same:=fun _ _ _ _=>rfl
 ext:=Ext.refl j
 old:=fun _ _=>rfl
 more:=fun _ h h'=>absurd h h'
 new:=fun k _ s c h hk=>.inl ⟨k,s,c,h,hk⟩
 ro:=fun _ _ _ h=>h
 pnew:=fun _ _ h=>.inl h
 froz:=fun _ _=>rfl
theorem Fr.trans {hi n n':Nat} {j j' j'':J} {pv pv' pv'':P→Option Nat} {w w' w'':World} (h:Fr hi n j pv w j' pv' w') (h':Fr hi n' j' pv' w' j'' pv'' w'') (hn:n≤n'):
 Fr hi n j pv w j'' pv'' w'' where
 size:=Nat.le_trans h.size h'.size
 os:=h'.os.trans h.os
 output:=h'.output.trans h.output
 same:=fun x hx hj hp=>by
  rw [h'.same x (Nat.lt_of_lt_of_le hx h.size) ?_ ?_]
  ·exact h.same x hx hj hp
  ·intro k s c hk
   rcases Nat.lt_or_ge k.n hi with hlt|hge
   ·rcases h.new k x s c hk hlt with ⟨k0,s0,c0,h0,hk0⟩|h0
    ·have:=hj _ _ _ h0;omega
    ·omega
   ·exact hge
  ·intro p hp'
   rcases h.pnew p x hp' with h0|h0
   ·exact hp _ h0
   ·omega
 ext:=h.ext.trans h'.ext
 old:=fun k hk=>(h'.old k hk).trans (h.old k hk)
 more:=fun k hk hk'=>by
  by_cases h0:j' k=none
  ·exact Nat.le_trans hn (h'.more k h0 hk')
  ·exact h.more k hk h0
 new:=fun k x s c hk hlt=>by
  rcases h'.new k x s c hk hlt with ⟨k0,s0,c0,h0,hk0⟩|h0
  ·exact h.new k0 x s0 c0 h0 hk0
  ·exact .inr (Nat.le_trans h.size h0)
 ro:=fun k x s hk=>h.ro k x s (h'.ro k x s hk)
 pnew:=fun p x hp=>by
  rcases h'.pnew p x hp with h0|h0
  ·exact h.pnew p x h0
  ·exact .inr (Nat.le_trans h.size h0)
 froz:=fun ad hl=>(h'.froz ad (Nat.lt_of_lt_of_le hl h.size)).trans (h.froz ad hl)
mutual
def okCode:DV→Value→Bool
 | .unk,_=>true
 | .bool b,.bool b'=>b == b'
 | .int k n,.int k' n'=>sameK k k'&&ieq n n'
 | .nilp,.pointer none=>true
 | .nils,.slice none l c=>Nat.beq l 0&&Nat.beq c 0
 | .nilf,.nilFunc=>true
 | .nili,.nilIface=>true
 | .nilm,.map none=>true
 | .fn f [],.func (.func g) ⟨[]⟩ ⟨[]⟩=>Nat.beq f.n g
 | .agg l,.agg cs=>okCs l cs.toList
 | _,_=>false
def okCs:List DV→List Value→Bool
 | [],[]=>true
 | v::l,v'::l'=>okCode v v'&&v'.oneCell'&&okCs l l'
 | _,_=>false
end
theorem okCs_step (j:J) {v:DV} {l:List DV} (hv:∀ v',okCode v v'=true→VR j v v') (hl:∀ l',okCs l l'=true→VRs j l l'):∀ l',okCs (v::l) l'=true→VRs j (v::l) l':=by
 intro l' h
 cases l' with
 | nil=>simp [okCs] at h
 | cons v' l'=>
  simp only [okCs,Bool.and_eq_true] at h
  exact .cons (hv v' h.1.1) h.1.2 (hl l' h.2)
theorem okCs_nil (j:J):∀ l',okCs [] l'=true→VRs j [] l':=by
 intro l' h
 cases l' with
 | nil=>exact .nil
 | cons v' l'=>simp [okCs] at h
theorem okC_sound (j:J) (v:DV):∀ v',okCode v v'=true→VR j v v':=by
 refine DV.rec (motive_1:=fun v=>∀ v',okCode v v'=true→VR j v v') (motive_2:=fun l=>∀ l',okCs l l'=true→VRs j l l') ?_ ?_ ?_ ?_ ?_ ?_ ?_ ?_ ?_ ?_ ?_ ?_ ?_ ?_ ?_ ?_ ?_ ?_ ?_ ?_ v
 case refine_1=>intro v' _;exact .unk _
 case refine_2=>intro b v' h;cases v'<;>simp [okCode] at h;subst h;exact .bool _
 case refine_3=>
  intro k n v' h
  cases v'<;>simp only [okCode,Bool.and_eq_true,Bool.false_eq_true] at h
  rename_i k' n'
  obtain ⟨h1,h2⟩:=h
  rw [ieq_eq,decide_eq_true_eq] at h2
  rw [sameK_eq h1,h2];exact .int _ _
 case refine_4=>intro n c v' h;cases v'<;>simp [okCode] at h
 case refine_5=>
  intro v' h;cases v'<;>try (simp [okCode] at h;done)
  rename_i a;cases a<;>simp [okCode] at h;exact .nilp
 case refine_6=>intro k o v' h;cases v'<;>simp [okCode] at h
 case refine_7=>
  intro v' h;cases v'<;>try (simp [okCode] at h;done)
  rename_i a l c;cases a<;>simp [okCode] at h;obtain ⟨rfl,rfl⟩:=h;exact .nils
 case refine_8=>intro k o n c sz v' h;cases v'<;>simp [okCode] at h
 case refine_9=>
  intro f cs _ v' h
  cases cs with
  | cons _ _=>cases v'<;>simp [okCode] at h
  | nil=>
   cases v'<;>try (simp [okCode] at h;done)
   rename_i g a b
   cases g<;>try (simp [okCode] at h;done)
   rename_i g
   obtain ⟨a⟩:=a;obtain ⟨b⟩:=b
   cases a<;>cases b<;>simp [okCode] at h
   subst h
   exact VR.fn (cs:=[]) (cs':=[]) .nil
 case refine_10=>intro v' h;cases v'<;>simp [okCode] at h;exact .nilf
 case refine_11=>intro t v _ v' h;cases v'<;>simp [okCode] at h
 case refine_12=>intro v' h;cases v'<;>simp [okCode] at h;exact .nili
 case refine_13=>
  intro l ih v' h
  cases v'<;>try (simp [okCode] at h;done)
  rename_i cs
  exact VR.agg (l':=cs.toList) (ih cs.toList (by simpa [okCode] using h))
 case refine_14=>intro l _ v' h;cases v'<;>simp [okCode] at h
 case refine_15=>intro k v' h;cases v'<;>simp [okCode] at h
 case refine_16=>
  intro v' h;cases v'<;>try (simp [okCode] at h;done)
  rename_i a;cases a<;>simp [okCode] at h;exact .nilm
 case refine_17=>intro l _ v' h;cases v'<;>simp [okCode] at h
 case refine_18=>intro p o v' h;cases v'<;>simp [okCode] at h
 case refine_19=>exact okCs_nil j
 case refine_20=>intro v l hv hl;exact okCs_step j hv hl
theorem okCs_sound (j:J):∀ (l:List DV) (l':List Value),okCs l l'=true→VRs j l l'
 | [],l',h=>okCs_nil j l' h
 | v::l,l',h=>okCs_step j (okC_sound j v) (okCs_sound j l) l' h
def chkOpd:Opd→Operand→Bool
 | .t p,.tmp t=>Nat.beq p.n t
 | .c d,.const v=>okCode d v
 | .c (.fn f []),.func g=>Nat.beq f.n g
 | .c .unk,.global _=>true
 | _,_=>false
def chkOpds:List Opd→List Operand→Bool
 | [],[]=>true
 | d::l,x::l'=>chkOpd d x&&chkOpds l l'
 | _,_=>false
theorem XD.of_VR {j:J} {pv:P→Option Nat} {v:DV} {v':Value} (h:VR j v v'):XD j pv v v':=by
 cases v<;>first|exact h|(cases h)
def Reads (j:J) (pv:P→Option Nat) (e:Env) (ρ:Operand→Value):Prop:=∀ d x,chkOpd d x=true→XD j pv (ev d e) (ρ x)
theorem reads_of {j:J} {pv:P→Option Nat} {e:Env} {a:Act} {w:World} (henv:∀ p v,Tr.get? p e=some v→ER j pv w a.tmps p v):Reads j pv e a.eval:=by
 intro d x hc
 cases d with
 | t p=>
  cases x<;>simp only [chkOpd,Nat.beq_eq,Bool.false_eq_true] at hc
  subst hc
  show XD j pv (evT p e) (a.tmps.getD p.n undef)
  unfold evT
  cases hg:Tr.get? p e with
  | none=>exact VR.unk _
  | some v=>
   have hr:=henv p v hg
   show XD j pv (place v p) _
   rw [place_eq]
   cases v<;>try exact hr
   case var l=>
    obtain ⟨b,hb,ht,_⟩:=hr
    exact ⟨b,hb,ht⟩
 | c v=>
  cases x with
  | const v'=>exact XD.of_VR (okC_sound j v v' (by simpa [chkOpd] using hc))
  | tmp t=>simp [chkOpd] at hc
  | global g=>
   cases v<;>simp [chkOpd] at hc
   exact VR.unk _
  | func g=>
   cases v<;>simp [chkOpd] at hc
   rename_i f cs
   cases cs<;>simp [chkOpd] at hc
   subst hc
   exact VR.fn (cs:=[]) (cs':=[]) .nil
theorem Rel.reads {L:P→Prop} {N hi:Nat} {j:J} {pv:P→Option Nat} {e:Env} {nx:P} {h:Hp} {a:Act} {w:World} (R:Rel L N hi j pv e nx h a w):Reads j pv e a.eval:=reads_of R.env
theorem XD.outer {j:J} {pv:P→Option Nat} {v:DV} {v':Value} (h:XD j pv v v'):VR j (outer v ()) v':=by
 rw [outer_eq]
 cases v<;>first|exact h|exact VR.unk _
theorem Reads.ov {j:J} {pv:P→Option Nat} {e:Env} {ρ:Operand→Value} (h:Reads j pv e ρ) {d:Opd} {x:Operand} (hc:chkOpd d x=true):VR j (ov d e) (ρ x):=(h d x hc).outer
theorem Reads.ovs {j:J} {pv:P→Option Nat} {e:Env} {ρ:Operand→Value} (h:Reads j pv e ρ):∀ (l:List Opd) (l':List Operand),chkOpds l l'=true→VRt j (l.map fun o=>Dx.ov o e) (l'.map ρ)
 | [],[],_=>.nil
 | d::l,x::l',hc=>by
  simp only [chkOpds,Bool.and_eq_true] at hc
  exact .cons (h.ov hc.1) (h.ovs l l' hc.2)
 | [],_::_,hc=>by simp [chkOpds] at hc
 | _::_,[],hc=>by simp [chkOpds] at hc
section
variable {j:J} {pv:P→Option Nat} {v':Value}
theorem XD.bool {b:Bool} (h:XD j pv (.bool b) v'):v'=.bool b:=by cases (h:VR j _ _);rfl
theorem XD.int {k:IntKind} {n:Int} (h:XD j pv (.int k n) v'):v'=.int k n:=by cases (h:VR j _ _);rfl
theorem XD.agg {l:List DV} (h:XD j pv (.agg l) v'):∃ l':List Value,v'=.agg l'.toArray∧VRs j l l':=by cases (h:VR j _ _);exact ⟨_,rfl,‹_›⟩
theorem XD.tup {l:List DV} (h:XD j pv (.tup l) v'):∃ l':List Value,v'=.tuple l'.toArray∧VRt j l l':=by cases (h:VR j _ _);exact ⟨_,rfl,‹_›⟩
theorem XD.fn {f:P} {l:List DV} (h:XD j pv (.fn f l) v'):∃ l':List Value,v'=.func (.func f.n) #[] l'.toArray∧VRt j l l':=by cases (h:VR j _ _);exact ⟨_,rfl,‹_›⟩
theorem XD.ptr {k:P} {o:Nat} (h:XD j pv (.ptr k o) v'):∃ a,v'=.pointer (some a):=by cases (h:VR j _ _)<;>exact ⟨_,rfl⟩
theorem XD.sl {k:P} {o n:Nat} {cp:Option Nat} {sz:Nat} (h:XD j pv (.sl k o n cp sz) v'):∃ a cap,v'=.slice (some a) n cap∧capR cp n cap:=by
 cases (h:VR j _ _)<;>exact ⟨_,_,rfl,‹_›⟩
theorem XD.nils (h:XD j pv .nils v'):v'=.slice none 0 0:=by cases (h:VR j _ _);rfl
end
def binV (b:Bo) (j:IntKind) (x y:Int):Option DV:=
 match b with
 | .add=>some (.int j (j.wrap (x+y))) | .sub=>some (.int j (j.wrap (x-y))) | .mul=>some (.int j (j.wrap (x*y)))
 | .quo=>if y=0 then none else some (.int j (j.wrap (x.tdiv y)))
 | .rem=>if y=0 then none else some (.int j (x.tmod y))
 | .eq=>some (.bool (decide (x=y))) | .ne=>some (.bool (!decide (x=y))) | .lt=>some (.bool (decide (x<y)))
 | .le=>some (.bool (!decide (y<x))) | .gt=>some (.bool (decide (y<x))) | .ge=>some (.bool (!decide (x<y)))
theorem binK_eq (b:Bo) (j:IntKind) (x y:Int) (K:DV→Res):binK b j x y K=match binV b j x y with|some v=>K v|none=>.fail:=by
 have hq:∀ A B:Res,(Bool.rec (motive:=fun _=>Res) A B (ieq y (.ofNat (nat_lit 0))))=if y=0 then B else A:=by
  intro A B
  have:ieq y (.ofNat (nat_lit 0))=decide (y=0):=ieq_eq y 0
  rw [this]
  by_cases h:y=0
  ·rw [if_pos h,decide_eq_true h]
  ·rw [if_neg h,decide_eq_false h]
 cases b
 case add=>show mkI _ _ _=_;rw [mkI_eq,iadd_eq];rfl
 case sub=>show mkI _ _ _=_;rw [mkI_eq,iadd_eq,ineg_eq];rfl
 case mul=>show mkI _ _ _=_;rw [mkI_eq,imul_eq];rfl
 case quo=>
  show Bool.rec (motive:=fun _=>Res) (mkI j (idiv x y) K) .fail _=_
  rw [hq,mkI_eq,idiv_eq];simp only [binV];split<;>rfl
 case rem=>
  show Bool.rec (motive:=fun _=>Res) (mkI2 j (imod x y) K) .fail _=_
  rw [hq];unfold mkI2;rw [forceI_eq,imod_eq];simp only [binV];split<;>rfl
 case eq=>show bl _ _=_;rw [bl_eq,ieq_eq];rfl
 case ne=>show blN _ _=_;rw [blN_eq,ieq_eq];rfl
 case lt=>show bl _ _=_;rw [bl_eq,ilt_eq];rfl
 case le=>show blN _ _=_;rw [blN_eq,ilt_eq];rfl
 case gt=>show bl _ _=_;rw [bl_eq,ilt_eq];rfl
 case ge=>show blN _ _=_;rw [blN_eq,ilt_eq];rfl
def eq1V:Bool→DV→DV→Option Bool
 | false,.int k x,.int j y=>if sameK k j then some (decide (x=y)) else none
 | true,.bool a,.bool b=>some (a == b)
 | _,_,_=>none
theorem eq1_eq (k:Bool) (v w:DV) (F:Res) (K:Bool→Res):eq1 k v w F K=match eq1V k v w with|some b=>K b|none=>F:=by
 cases k with
 | true=>
  show asB v F (fun a=>asB w F fun b=>K (beqB a b))=_
  rw [asB_eq]
  cases v<;>try rfl
  case bool a=>
   show asB w F (fun b=>K (beqB a b))=_
   rw [asB_eq]
   cases w<;>try rfl
   case bool b=>cases a<;>cases b<;>rfl
 | false=>
  show asI v F (fun k x=>asI w F fun j y=>Bool.rec (motive:=fun _=>Res) F (K (ieq x y)) (sameK k j))=_
  rw [asI_eq]
  cases v<;>try rfl
  case int k x=>
   show asI w F (fun j y=>Bool.rec (motive:=fun _=>Res) F (K (ieq x y)) (sameK k j))=_
   rw [asI_eq]
   cases w<;>try rfl
   case int j y=>
    show Bool.rec (motive:=fun _=>Res) F (K (ieq x y)) (sameK k j)=_
    simp only [eq1V,ieq_eq]
    cases sameK k j<;>rfl
def eqsV:List Bool→List DV→List DV→Option Bool
 | [],[],[]=>some true
 | k::ks,v::l,w::m=>match eq1V k v w with
  | some true=>eqsV ks l m
  | some false=>some false
  | none=>none
 | _,_,_=>none
theorem eqsK_eq (ks:List Bool):∀ (l m:List DV) (F:Res) (K:Bool→Res),eqsK ks l m F K=match eqsV ks l m with|some b=>K b|none=>F:=by
 induction ks with
 | nil=>intro l m F K;cases l<;>cases m<;>rfl
 | cons k ks ih=>intro l m F K;cases l with
  | nil=>rfl
  | cons v l=>cases m with
   | nil=>rfl
   | cons w m=>
    show eq1 k v w F (fun b=>Bool.rec (motive:=fun _=>Res) (K false) (eqsK ks l m F K) b)=_
    rw [eq1_eq];simp only [eqsV,ih]
    cases eq1V k v w with
    | none=>rfl
    | some b=>cases b<;>rfl
def nilV:DV→Option Bool
 | .nils=>some true | .sl _ _ _ _ _=>some false|_=>none
def bdV (o:Option Opd) (d:Nat) (e:Env) (y:Nat):Option Nat:=
 match o with
 | none=>some d
 | some o=>match ev o e with | .int _ x=>if 0≤x∧x.toNat≤y then some x.toNat else none|_=>none
theorem ble_if {α:Type} (a b:Nat) (A B:α):(if Nat.ble a b=true then A else B)=if a≤b then A else B:=by
 by_cases h:a≤b
 ·rw [if_pos h,if_pos (Nat.ble_eq.mpr h)]
 ·rw [if_neg h,if_neg (fun h'=>h (Nat.ble_eq.mp h'))]
theorem bd_eq (o:Option Opd) (d:Nat) (e:Env) (y:Nat) (K:Nat→Res):bd o d e y K=match bdV o d e y with|some n=>K n|none=>.fail:=by
 cases o with
 | none=>rfl
 | some o=>
  show asI (ev o e) .fail (fun _ x=>natI x fun i=>chk (Nat.ble i y) fun _=>K i)=_
  rw [asI_eq];simp only [bdV]
  cases ev o e<;>try rfl
  case int k x=>
   show natI x (fun i=>chk (Nat.ble i y) fun _=>K i)=_
   rw [natI_eq,chk_eq,ble_if]
   by_cases h1:0≤x
   ·by_cases h2:x.toNat≤y
    ·rw [if_pos h1,if_pos h2];simp only [if_pos (And.intro h1 h2)]
    ·rw [if_pos h1,if_neg h2];simp only [if_neg (fun h:0≤x∧x.toNat≤y=>h2 h.2)]
   ·rw [if_neg h1];simp only [if_neg (fun h:0≤x∧x.toNat≤y=>h1 h.1)]
def slaV (sz:Nat) (x:DV) (lo hi mx:Option Opd) (e:Env):Option DV:=
 match x with
 | .sl b o n cp s=>
  if s=sz then
   match mx with
   | none=>match bdV hi n e (capOf cp n) with
    | some h=>match bdV lo 0 e h with
     | some l=>some (.sl b (o+l*sz) (h-l) (match cp with|none=>none|some c=>some (c-l)) sz)
     | none=>none
    | none=>none
   | some m=>match bdV (some m) 0 e (capOf cp n) with
    | some m=>match bdV hi n e m with
     | some h=>if h≤m then match bdV lo 0 e h with
      | some l=>some (.sl b (o+l*sz) (h-l) (some (m-l)) sz)
      | none=>none else none
     | none=>none
    | none=>none
  else none
 | .nils=>match bdV hi 0 e 0 with
  | some _=>match bdV lo 0 e 0 with
   | some _=>match bdV mx 0 e 0 with
    | some _=>some .nils
    | none=>none
   | none=>none
  | none=>none
 | _=>none
theorem beq_if {α:Type} (a b:Nat) (A B:α):(if Nat.beq a b=true then A else B)=if a=b then A else B:=by
 by_cases h:a=b
 ·rw [if_pos h,if_pos (Nat.beq_eq.mpr h)]
 ·rw [if_neg h,if_neg (fun h'=>h (Nat.beq_eq.mp h'))]
theorem slEnd_eq (e:Env) (nx:P) (h:Hp) (k:Kv) (b:P) (o sz l hi:Nat) (c:Option Nat):slEnd e nx h k b o sz l hi c=k e (.sl b (o+l*sz) (hi-l) c sz) nx h:=by
 unfold slEnd;rw [forceN_eq,forceN_eq];rfl
theorem iSla_eq (sz:Nat) (x:Opd) (lo hi mx:Option Opd) (F:Tr Fd) (ih:Ih) (wm:Option P) (e:Env) (nx:P) (h:Hp) (k:Kv):
 iSla sz x lo hi mx F ih wm e nx h k=match slaV sz (ev x e) lo hi mx e with|some v=>k e v nx h|none=>.fail:=by
 show asSl (ev x e) _ (slSl sz lo hi mx e nx h k)=_
 rw [asSl_eq,nilsK_eq]
 cases hx:ev x e<;>simp only [slaV]<;>try rfl
 case nils=>
  show bd hi (nat_lit 0) e (nat_lit 0) (fun _=>bd lo (nat_lit 0) e (nat_lit 0) fun _=>bd mx (nat_lit 0) e (nat_lit 0) fun _=>evK x e fun v=>k e v nx h)=_
  rw [bd_eq]
  show (match bdV hi 0 e 0 with|some _=>_|none=>_)=_
  cases bdV hi 0 e 0 with
  | none=>rfl
  | some a=>
   show bd lo (nat_lit 0) e (nat_lit 0) (fun _=>bd mx (nat_lit 0) e (nat_lit 0) fun _=>evK x e fun v=>k e v nx h)=_
   rw [bd_eq]
   show (match bdV lo 0 e 0 with|some _=>_|none=>_)=_
   cases bdV lo 0 e 0 with
   | none=>rfl
   | some a=>
    show bd mx (nat_lit 0) e (nat_lit 0) (fun _=>evK x e fun v=>k e v nx h)=_
    rw [bd_eq]
    show (match bdV mx 0 e 0 with|some _=>_|none=>_)=_
    cases bdV mx 0 e 0 with
    | none=>rfl
    | some a=>show evK x e (fun v=>k e v nx h)=_;rw [evK_eq,hx]
 case sl b o n cp s=>
  show slSl sz lo hi mx e nx h k b o n cp s=_
  unfold slSl
  rw [chk_eq,beq_if]
  by_cases hs:s=sz
  ·rw [if_pos hs,if_pos hs]
   cases mx with
   | none=>
    show bd hi n e (capOf cp n) (fun hi=>bd lo (nat_lit 0) e hi fun l=>Option.rec (motive:=fun _=>Res) (slEnd e nx h k b o sz l hi none) (fun c=>forceN (Nat.sub c l) fun c=>slEnd e nx h k b o sz l hi (some c)) cp)=_
    rw [bd_eq]
    cases h1:bdV hi n e (capOf cp n) with
    | none=>rfl
    | some hh=>
     simp only []
     rw [bd_eq,show bdV lo (nat_lit 0) e hh=bdV lo 0 e hh from rfl]
     cases h2:bdV lo 0 e hh with
     | none=>simp only [h2]
     | some l=>
      simp only [h2]
      cases cp with
      | none=>exact slEnd_eq _ _ _ _ _ _ _ _ _ _
      | some c=>show forceN (Nat.sub c l) _=_;rw [forceN_eq,slEnd_eq];rfl
   | some m=>
    show bd (some m) (nat_lit 0) e (capOf cp n) (fun m=>bd hi n e m fun hi=>chk (Nat.ble hi m) fun _=>bd lo (nat_lit 0) e hi fun l=>forceN (Nat.sub m l) fun c=>slEnd e nx h k b o sz l hi (some c))=_
    rw [bd_eq,show bdV (some m) (nat_lit 0) e (capOf cp n)=bdV (some m) 0 e (capOf cp n) from rfl]
    cases h0:bdV (some m) 0 e (capOf cp n) with
    | none=>simp only [h0]
    | some mm=>
     simp only [h0]
     rw [bd_eq]
     cases h1:bdV hi n e mm with
     | none=>simp only [h1]
     | some hh=>
      simp only [h1]
      rw [chk_eq,ble_if]
      by_cases hm:hh≤mm
      ·simp only [if_pos hm]
       rw [bd_eq,show bdV lo (nat_lit 0) e hh=bdV lo 0 e hh from rfl]
       cases h2:bdV lo 0 e hh with
       | none=>simp only [h2]
       | some l=>simp only [h2];rw [forceN_eq,slEnd_eq];rfl
      ·simp only [if_neg hm]
  ·rw [if_neg hs,if_neg hs]
def lenV:DV→Option Nat
 | .sl _ _ n _ _=>some n
 | .nils=>some 0
 | _=>none
def capV:DV→Option Nat
 | .sl _ _ _ (some c) _=>some c
 | .nils=>some 0
 | _=>none
def foldV (f:Int→Int→Bool) (e:Env):List Opd→IntKind→Int→Option (IntKind × Int)
 | [],k,x=>some (k,x)
 | o::l,k,x=>match ev o e with
  | .int j y=>if sameK k j then foldV f e l k (if f x y then y else x) else none
  | _=>none
def solidV:DV→Option DV
 | .unk=>none | .nilp=>none | .nilf=>none | .nili=>none | .var _=>none|v=>some v
def iaV (sz:Nat):DV→DV→Option DV
 | .sl b o n _ s,.int _ x=>if s=sz∧0≤x∧x.toNat<n then some (.ptr b (o+x.toNat*sz)) else none
 | _,_=>none
def faV (o:Nat):DV→Option DV
 | .ptr b i=>some (.ptr b (i+o)) | .fld p i=>some (.fld p (i+o))|_=>none
def fiV (o:Nat):DV→Option DV
 | .agg l=>l[o]?|_=>none
def fiaV (o n:Nat):DV→Option DV
 | .agg l=>if o≤l.length∧n≤(l.drop o).length then some (.agg ((l.drop o).take n)) else none|_=>none
def exV (i:Nat):DV→Option DV
 | .tup l=>l[i]?|_=>none
def pureDV (i:Ins) (e:Env):Option DV:=
 match i with
 | .mv a=>some (ev a e)
 | .pick c a b=>match ev c e with | .bool t=>some (if t then ev a e else ev b e)|_=>none
 | .bld z ps=>(fills e ps z).map .agg
 | .nc a=>solidV (ev a e)
 | .bin b x y=>match ev x e,ev y e with | .int j x,.int k y=>if sameK j k then binV b j x y else none|_,_=>none
 | .aeq ks neg x y=>match ev x e,ev y e with | .agg a,.agg b=>(eqsV ks a b).map fun t=>.bool (neg != t)|_,_=>none
 | .beq neg x y=>match ev x e,ev y e with | .bool a,.bool b=>some (.bool (neg != (a == b)))|_,_=>none
 | .isnil neg x=>(nilV (ev x e)).map fun t=>.bool (neg != t)
 | .neg a=>match ev a e with | .int j x=>some (.int j (j.wrap (-x)))|_=>none
 | .shr x y=>match ev x e,ev y e with | .int j a,.int _ n=>if 0≤n∧n.toNat≤j.bits then some (.int j (a.fdiv (2 ^ n.toNat))) else none|_,_=>none
 | .not a=>match ev a e with | .bool b=>some (.bool (!b))|_=>none
 | .cv j a=>match ev a e with | .int _ x=>some (.int j (j.wrap x))|_=>none
 | .mfn f cs=>some (.fn f (cs.map fun o=>ov o e))
 | .fa o a=>faV o (ev a e)
 | .fi o a=>fiV o (ev a e)
 | .fia o n a=>fiaV o n (ev a e)
 | .ia sz a i=>iaV sz (ev a e) (ev i e)
 | .sla sz x lo hi mx=>slaV sz (ev x e) lo hi mx e
 | .ex a i=>exV i (ev a e)
 | .len a=>(lenV (ev a e)).map fun (n:Nat)=>DV.int .i64 (Int.ofNat n)
 | .cap a=>(capV (ev a e)).map fun (n:Nat)=>DV.int .i64 (Int.ofNat n)
 | .mx a l=>match ev a e with | .int j x=>(foldV (fun x y=>ilt x y) e l j x).map fun y=>.int y.1 y.2|_=>none
 | .mn a l=>match ev a e with | .int j x=>(foldV (fun x y=>ilt y x) e l j x).map fun y=>.int y.1 y.2|_=>none
 | _=>none
def isPure:Ins→Bool
 | .mv _ | .pick .. | .bld .. | .nc _ | .bin .. | .aeq .. | .beq .. | .isnil .. | .neg _ | .not _ | .cv .. | .mfn .. | .fa .. | .fi .. | .fia .. | .ia .. | .sla .. | .ex .. | .len _ | .cap _ | .mx .. | .mn .. | .shr ..=>true
 | _=>false
theorem brec_if (A B:Res) (t:Bool):(Bool.rec (motive:=fun _=>Res) A B t)=if t=true then B else A:=by cases t<;>rfl
theorem mxK_eq (e:Env) (l:List Opd):∀ (k:IntKind) (x:Int) (K:IntKind→Int→Res),mxK l k x e K=match foldV (fun x y=>ilt x y) e l k x with|some y=>K y.1 y.2|none=>.fail:=by
 induction l with
 | nil=>intro k x K;rfl
 | cons o l ih=>
  intro k x K
  show asI (ev o e) .fail (fun j y=>chk (sameK k j) fun _=>Bool.rec (motive:=fun _=>Res) (mxK l k x e K) (mxK l k y e K) (ilt x y))=_
  rw [asI_eq];simp only [foldV]
  cases ev o e<;>try rfl
  case int j y=>
   show chk (sameK k j) (fun _=>Bool.rec (motive:=fun _=>Res) (mxK l k x e K) (mxK l k y e K) (ilt x y))=_
   rw [chk_eq]
   cases hs:sameK k j with
   | false=>simp [hs]
   | true=>
    simp only [hs,if_true]
    rw [brec_if]
    by_cases ht:ilt x y=true
    ·rw [if_pos ht,if_pos ht];exact ih k y K
    ·rw [if_neg ht,if_neg ht];exact ih k x K
theorem mnK_eq (e:Env) (l:List Opd):∀ (k:IntKind) (x:Int) (K:IntKind→Int→Res),mnK l k x e K=match foldV (fun x y=>ilt y x) e l k x with|some y=>K y.1 y.2|none=>.fail:=by
 induction l with
 | nil=>intro k x K;rfl
 | cons o l ih=>
  intro k x K
  show asI (ev o e) .fail (fun j y=>chk (sameK k j) fun _=>Bool.rec (motive:=fun _=>Res) (mnK l k x e K) (mnK l k y e K) (ilt y x))=_
  rw [asI_eq];simp only [foldV]
  cases ev o e<;>try rfl
  case int j y=>
   show chk (sameK k j) (fun _=>Bool.rec (motive:=fun _=>Res) (mnK l k x e K) (mnK l k y e K) (ilt y x))=_
   rw [chk_eq]
   cases hs:sameK k j with
   | false=>simp [hs]
   | true=>
    simp only [hs,if_true]
    rw [brec_if]
    by_cases ht:ilt y x=true
    ·rw [if_pos ht,if_pos ht];exact ih k y K
    ·rw [if_neg ht,if_neg ht];exact ih k x K
theorem insK_pure (i:Ins) (hp:isPure i=true) (F:Tr Fd) (ih:Ih) (wm:Option P) (e:Env) (nx:P) (h:Hp) (k:Kv):
 insK i F ih wm e nx h k=match pureDV i e with|some v=>k e v nx h|none=>.fail:=by
 cases i<;>simp only [isPure,Bool.false_eq_true] at hp<;>simp only [pureDV]
 case mv a=>exact evK_eq _ _ _
 case pick c a b=>
  show asB (ev c e) .fail (fun t=>Bool.rec (motive:=fun _=>Res) (evK b e fun v=>k e v nx h) (evK a e fun v=>k e v nx h) t)=_
  rw [asB_eq]
  cases ev c e<;>try rfl
  case bool t=>cases t<;>exact evK_eq _ _ _
 case bld z ps=>
  show fillK ps z e (fun l=>k e (.agg l) nx h)=_
  rw [fillK_eq];cases fills e ps z<;>rfl
 case nc a=>show solid (ev a e) .fail (fun v=>k e v nx h)=_;rw [solid_eq];cases ev a e<;>rfl
 case bin b x y=>
  show asI (ev x e) .fail (fun j x=>asI (ev y e) .fail fun k' y=>chk (sameK j k') fun _=>binK b j x y fun v=>k e v nx h)=_
  rw [asI_eq]
  cases ev x e<;>try rfl
  case int j x=>
   show asI (ev y e) .fail (fun k' y=>chk (sameK j k') fun _=>binK b j x y fun v=>k e v nx h)=_
   rw [asI_eq]
   cases ev y e<;>try rfl
   case int k' y=>
    show chk (sameK j k') (fun _=>binK b j x y fun v=>k e v nx h)=_
    rw [chk_eq,binK_eq]
    simp only []
    by_cases hs:sameK j k'=true
    ·simp only [if_pos hs]
    ·simp only [if_neg hs]
 case aeq ks neg x y=>
  show asA (ev x e) .fail (fun a=>asA (ev y e) .fail fun b=>eqsK ks a b .fail fun t=>negK neg t fun v=>k e v nx h)=_
  rw [asA_eq]
  cases ev x e<;>try rfl
  case agg a=>
   show asA (ev y e) .fail (fun b=>eqsK ks a b .fail fun t=>negK neg t fun v=>k e v nx h)=_
   rw [asA_eq]
   cases ev y e<;>try rfl
   case agg b=>
    show eqsK ks a b .fail (fun t=>negK neg t fun v=>k e v nx h)=_
    rw [eqsK_eq]
    simp only []
    cases eqsV ks a b with
    | none=>rfl
    | some t=>exact negK_eq _ _ _
 case beq neg x y=>
  show asB (ev x e) .fail (fun a=>asB (ev y e) .fail fun b=>negK neg (beqB a b) fun v=>k e v nx h)=_
  rw [asB_eq]
  cases ev x e<;>try rfl
  case bool a=>
   show asB (ev y e) .fail (fun b=>negK neg (beqB a b) fun v=>k e v nx h)=_
   rw [asB_eq]
   cases ev y e<;>try rfl
   case bool b=>show negK neg (beqB a b) _=_;rw [negK_eq];cases neg<;>cases a<;>cases b<;>rfl
 case isnil neg x=>
  show asSl (ev x e) (nilsK (ev x e) .fail fun _=>negK neg true fun v=>k e v nx h) (fun _ _ _ _ _=>negK neg false fun v=>k e v nx h)=_
  rw [asSl_eq,nilsK_eq]
  cases ev x e<;>try rfl
  case nils=>exact negK_eq _ _ _
  case sl=>exact negK_eq _ _ _
 case shr x y=>
  show asI (ev x e) .fail (fun j a=>asI (ev y e) .fail fun _ n=>natI n (shrN j a fun v=>k e v nx h))=_
  rw [asI_eq]
  cases ev x e<;>try rfl
  case int j a=>
   show asI (ev y e) .fail (fun _ n=>natI n (shrN j a fun v=>k e v nx h))=_
   rw [asI_eq]
   cases ev y e<;>try rfl
   case int j' n=>
    simp only [natI_eq]
    by_cases h1:0≤n
    ·rw [if_pos h1]
     unfold shrN
     rw [chk_eq,bitsK_eq]
     by_cases h2:n.toNat≤j.bits
     ·rw [if_pos (by rw [Nat.ble_eq];exact h2),if_pos ⟨h1,h2⟩,ishr_eq];exact forceI_eq _ _
     ·rw [if_neg (fun h=>h2 (by rwa [Nat.ble_eq] at h)),if_neg (fun h=>h2 h.2)]
    ·rw [if_neg h1,if_neg (fun h=>h1 h.1)]
 case neg a=>
  show asI (ev a e) .fail (fun j x=>mkI j (ineg x) fun v=>k e v nx h)=_
  rw [asI_eq]
  cases ev a e<;>try rfl
  case int j x=>show mkI j (ineg x) _=_;rw [mkI_eq,ineg_eq]
 case not a=>
  show asB (ev a e) .fail (fun b=>blN b fun v=>k e v nx h)=_
  rw [asB_eq]
  cases ev a e<;>try rfl
  case bool b=>exact blN_eq _ _
 case cv j a=>
  show asI (ev a e) .fail (fun _ x=>mkI j x fun v=>k e v nx h)=_
  rw [asI_eq]
  cases ev a e<;>try rfl
  case int j' x=>exact mkI_eq _ _ _
 case mfn f cs=>exact ovsK_eq _ _ _
 case fa o a=>
  show asP (ev a e) (asFl (ev a e) .fail fun p i=>forceN (Nat.add i o) fun i=>k e (.fld p i) nx h) (fun b i=>forceN (Nat.add i o) fun i=>k e (.ptr b i) nx h)=_
  rw [asP_eq,asFl_eq]
  cases ev a e<;>try rfl
  case ptr=>exact forceN_eq _ _
  case fld=>exact forceN_eq _ _
 case fi o a=>
  show asA (ev a e) .fail (fun l=>nthK l o .fail fun v=>fV v fun v=>k e v nx h)=_
  rw [asA_eq]
  cases ev a e<;>try rfl
  case agg l=>show nthK l o .fail _=_;rw [nthK_eq];simp only [fV_eq,fiV];cases l[o]?<;>rfl
 case fia o n a=>
  show asA (ev a e) .fail (fun l=>dropK o l .fail fun t=>takeK n t .fail fun r=>k e (.agg r) nx h)=_
  rw [asA_eq]
  cases ev a e<;>try rfl
  case agg l=>
   show dropK o l .fail (fun t=>takeK n t .fail fun r=>k e (.agg r) nx h)=_
   rw [dropK_eq];simp only [fiaV,takeK_eq]
   by_cases h1:o≤l.length
   ·rw [if_pos h1]
    by_cases h2:n≤(l.drop o).length
    ·rw [if_pos h2,if_pos ⟨h1,h2⟩]
    ·rw [if_neg h2,if_neg (fun h=>h2 h.2)]
   ·rw [if_neg h1,if_neg (fun h=>h1 h.1)]
 case ia sz a i=>
  show asSl (ev a e) .fail (fun b o n _ s=>chk (Nat.beq s sz) fun _=>asI (ev i e) .fail fun _ x=>natI x (iaAt sz e nx h k b o n))=_
  rw [asSl_eq]
  cases ev a e<;>try rfl
  case sl b o n c s=>
   show chk (Nat.beq s sz) (fun _=>asI (ev i e) .fail fun _ x=>natI x (iaAt sz e nx h k b o n))=_
   rw [chk_eq,beq_if,asI_eq]
   cases ev i e
   case int k' x=>
    simp only [iaV,natI_eq]
    by_cases h1:s=sz
    ·rw [if_pos h1]
     by_cases h2:0≤x
     ·rw [if_pos h2]
      unfold iaAt
      rw [chk_eq,ble_if]
      by_cases h3:x.toNat<n
      ·rw [if_pos (show Nat.succ x.toNat≤n from h3),forceN_eq,if_pos ⟨h1,h2,h3⟩];rfl
      ·rw [if_neg (show ¬ Nat.succ x.toNat≤n from h3),if_neg (fun h=>h3 h.2.2)]
     ·rw [if_neg h2,if_neg (fun h=>h2 h.2.1)]
    ·rw [if_neg h1,if_neg (fun h=>h1 h.1)]
   all_goals (simp only [iaV];split<;>rfl)
 case sla sz x lo hi mx=>exact iSla_eq sz x lo hi mx F ih wm e nx h k
 case ex a i=>
  show asT (ev a e) .fail (fun l=>nthK l i .fail fun v=>fV v fun v=>k e v nx h)=_
  rw [asT_eq]
  cases ev a e<;>try rfl
  case tup l=>show nthK l i .fail _=_;rw [nthK_eq];simp only [fV_eq,exV];cases l[i]?<;>rfl
 case len a=>
  show asSl (ev a e) (nilsK (ev a e) .fail fun _=>lenOf (nat_lit 0) e nx h k) (fun _ _ n _ _=>lenOf n e nx h k)=_
  rw [asSl_eq]
  cases ev a e<;>try rfl
  case sl=>exact forceN_eq _ _
 case cap a=>
  show asSl (ev a e) (nilsK (ev a e) .fail fun _=>lenOf (nat_lit 0) e nx h k) (fun _ _ n c _=>Option.rec (motive:=fun _=>Res) .fail (fun c=>lenOf c e nx h k) c)=_
  rw [asSl_eq]
  cases ev a e<;>try rfl
  case sl b o n c s=>cases c<;>first|rfl|exact forceN_eq _ _
 case mx a l=>
  show asI (ev a e) .fail (fun j x=>mxK l j x e fun j x=>k e (.int j x) nx h)=_
  rw [asI_eq]
  cases ev a e<;>try rfl
  case int j x=>show mxK l j x e _=_;rw [mxK_eq];simp only [];cases foldV (fun x y=>ilt x y) e l j x<;>rfl
 case mn a l=>
  show asI (ev a e) .fail (fun j x=>mnK l j x e fun j x=>k e (.int j x) nx h)=_
  rw [asI_eq]
  cases ev a e<;>try rfl
  case int j x=>show mnK l j x e _=_;rw [mnK_eq];simp only [];cases foldV (fun x y=>ilt y x) e l j x<;>rfl
def sizeIs (P:Program) (t n:Nat):Bool:=match P.info? t with|some i=>Nat.beq i.size n|none=>false
theorem sizeIs_spec {P:Program} {t n:Nat} (h:sizeIs P t n=true):∃ i,P.info? t=some i∧i.size=n:=by
 unfold sizeIs at h
 cases hi:P.info? t with
 | none=>simp [hi] at h
 | some i=>simp only [hi,Nat.beq_eq] at h;exact ⟨i,rfl,h⟩
def aggIs (P:Program) (t:Nat) (b:Bool):Bool:=match P.underlying t with
 | some (.struct _)=>b
 | some (.array _ _)=>b
 | some _=>!b
 | none=>false
theorem aggIs_spec {P:Program} {t:Nat} {b:Bool} (h:aggIs P t b=true) (w:World):(isAgg t).run P w=.ok b w:=by
 unfold aggIs at h
 cases hu:P.underlying t with
 | none=>simp [hu] at h
 | some d=>
  unfold isAgg
  rw [Sem.run_bind,run_underlying hu]
  cases d<;>simp [hu] at h<;>subst h<;>rfl
theorem get_foldl_set (off:Nat):∀ (l:List Value) (k:Nat) (cells:Array Value) (i:Nat),
 ((l.zipIdx k).foldl (fun cs x=>cs.setIfInBounds (off+x.2) x.1) cells)[i]?=if off+k≤i∧i<off+k+l.length∧i<cells.size then l[i-off-k]? else cells[i]?
 | [],k,cells,i=>by simp;intro h1 h2;omega
 | v::l,k,cells,i=>by
  simp only [List.zipIdx_cons,List.foldl_cons]
  rw [get_foldl_set off l (k+1)]
  simp only [Array.size_setIfInBounds,List.length_cons,Array.getElem?_setIfInBounds]
  by_cases h1:off+(k+1)≤i∧i<off+(k+1)+l.length∧i<cells.size
  ·rw [if_pos h1,if_pos (by omega),show i-off-k=(i-off-(k+1))+1 by omega];rfl
  ·rw [if_neg h1]
   by_cases h2:off+k=i
   ·subst h2
    by_cases h3:off+k<cells.size
    ·rw [if_pos rfl,if_pos h3,if_pos ⟨Nat.le_refl _,by omega,h3⟩,show off+k-off-k=0 by omega];rfl
    ·rw [if_pos rfl,if_neg h3,if_neg (fun h=>h3 h.2.2),Array.getElem?_eq_none (by omega)]
   ·rw [if_neg h2,if_neg (by omega)]
theorem size_foldl_set (off:Nat):∀ (l:List (Value × Nat)) (cells:Array Value),(l.foldl (fun cs x=>cs.setIfInBounds (off+x.2) x.1) cells).size=cells.size
 | [],_=>rfl
 | x::l,cells=>by simp only [List.foldl_cons];rw [size_foldl_set off l];simp
def chkParts (place:Nat→Option (Nat × Nat)):List (Nat × Nat × Opd)→List (Nat × Operand)→Bool
 | [],[]=>true
 | (off,sz,d)::ps,(i,x)::qs=>(match place i with|some (o,s)=>Nat.beq o off&&Nat.beq s sz|none=>false)&&chkOpd d x&&chkParts place ps qs
 | _,_=>false
theorem fill_sim {j:J} {pv:P→Option Nat} {e:Env} {ρ:Operand→Value} (hr:Reads j pv e ρ) (place:Nat→Option (Nat × Nat)):
 ∀ (ps:List (Nat × Nat × Opd)) (qs:List (Nat × Operand)) (z z':List DV) (cells:Array Value),chkParts place ps qs=true→VRs j z cells.toList→fills e ps z=some z'→
  ∃ cells',Instr.fill place cells (qs.map fun q=>(q.1,ρ q.2))=some cells'∧VRs j z' cells'.toList
 | [],[],z,z',cells,_,hz,hf=>by simp only [fills,Option.some.injEq] at hf;subst hf;exact ⟨cells,rfl,hz⟩
 | [],_::_,_,_,_,hc,_,_=>by simp [chkParts] at hc
 | _::_,[],_,_,_,hc,_,_=>by simp [chkParts] at hc
 | (off,sz,d)::ps,(i,x)::qs,z,z',cells,hc,hz,hf=>by
  simp only [chkParts,Bool.and_eq_true] at hc
  obtain ⟨⟨hp,hd⟩,hrest⟩:=hc
  simp only [fills] at hf
  cases hl:(ov d e).cells with
  | none=>simp [hl] at hf
  | some l=>
   simp only [hl] at hf
   by_cases hcond:l.length=sz∧off+l.length≤z.length
   case neg=>simp [if_neg hcond] at hf
   rw [if_pos hcond] at hf
   have hv:=(hr.ov hd).cells hl
   cases hpl:place i with
   | none=>simp [hpl] at hp
   | some q=>
    obtain ⟨o,s⟩:=q
    simp only [hpl,Bool.and_eq_true,Nat.beq_eq] at hp
    obtain ⟨rfl,rfl⟩:=hp
    have hlen:=hv.length
    have hzl:=hz.length
    simp only [Array.length_toList] at hlen hzl
    have hnew:VRs j (z.take o++l++z.drop (o+l.length)) (((ρ x).cells.zipIdx.foldl (fun cs (c,j)=>cs.setIfInBounds (o+j) c) cells)).toList:=by
     have hfold:((ρ x).cells.zipIdx.foldl (fun cs (c,j)=>cs.setIfInBounds (o+j) c) cells)=((ρ x).cells.toList.zipIdx 0).foldl (fun cs x=>cs.setIfInBounds (o+x.2) x.1) cells:=by
      rw [←Array.foldl_toList,Array.toList_zipIdx]
     refine VRs.of_get ?_ ?_
     ·rw [hfold]
      show _=Array.size _
      rw [size_foldl_set];simp;omega
     ·intro i v hi
      rw [hfold,Array.getElem?_toList,get_foldl_set]
      simp only [Nat.add_zero,Nat.sub_zero,Array.length_toList]
      by_cases h1:i<o
      ·rw [if_neg (by omega)]
       rw [List.getElem?_append_left (by simp;omega),List.getElem?_append_left (by simp;omega),List.getElem?_take] at hi
       rw [if_pos h1] at hi
       obtain ⟨v',hv',hh⟩:=hz.get i v hi
       exact ⟨v',by simpa using hv',hh⟩
      ·by_cases h2:i<o+l.length
       ·rw [if_pos (by omega)]
        rw [List.getElem?_append_left (by simp;omega),List.getElem?_append_right (by simp;omega)] at hi
        simp only [List.length_take,show min o z.length=o by omega] at hi
        exact hv.get _ v hi
       ·rw [if_neg (by omega)]
        rw [List.getElem?_append_right (by simp;omega)] at hi
        simp only [List.length_append,List.length_take,show min o z.length=o by omega,List.getElem?_drop] at hi
        rw [show o+l.length+(i-(o+l.length))=i by omega] at hi
        obtain ⟨v',hv',hh⟩:=hz.get i v hi
        exact ⟨v',by simpa using hv',hh⟩
    obtain ⟨c',hc',hr'⟩:=fill_sim hr place ps qs _ z' _ hrest hnew hf
    refine ⟨c',?_,hr'⟩
    simp only [List.map_cons,Instr.fill,hpl]
    rw [if_neg (by simp only [Bool.or_eq_true,decide_eq_true_eq,not_or];omega)]
    exact hc'
def kindOf (P:Program) (t:Nat) (k:IntKind):Bool:=match P.underlying t with|some (.int j)=>sameK j k|_=>false
def boOf:Bo→BinOp
 | .add=>.add | .sub=>.sub | .mul=>.mul | .quo=>.quo | .rem=>.rem | .eq=>.eql | .ne=>.neq | .lt=>.lss | .le=>.leq | .gt=>.gtr | .ge=>.geq
def sameBo:Bo→BinOp→Bool
 | .add,.add | .sub,.sub | .mul,.mul | .quo,.quo | .rem,.rem | .eq,.eql | .ne,.neq | .lt,.lss | .le,.leq | .gt,.gtr | .ge,.geq=>true
 | _,_=>false
theorem sameBo_eq {b:Bo} {o:BinOp} (h:sameBo b o=true):o=boOf b:=by cases b<;>cases o<;>first|rfl|(simp [sameBo] at h)
def chkOO:Option Opd→Option Operand→Bool
 | none,none=>true
 | some d,some x=>chkOpd d x
 | _,_=>false
def flat1 (P:Program) (t:Nat) (k:Bool):Bool:=match P.underlying t,k with|some .bool,true=>true|some (.int _),false=>true|_,_=>false
def flatFields (P:Program):List Field→Nat→List Bool→Bool
 | [],_,[]=>true
 | f::fs,n,k::ks=>!(f.name == "_")&&Nat.beq f.offset n&&flat1 P f.type k&&flatFields P fs (n+1) ks
 | _,_,_=>false
def flatType (P:Program) (t:Nat) (ks:List Bool):Bool:=match P.underlying t,ks with
 | some (.struct fs),ks=>flatFields P fs.toList 0 ks&&!P.stoodInHeld t&&!P.eqGuardType P.depth t
 | _,_=>false
def placesOf (P:Program) (fs:Array Field):Option (List (Nat × Nat)):=fs.toList.mapM fun f=>(P.info? f.type).map fun i=>(f.offset,i.size)
def chkBld (P:Program) (z:List DV) (ps:List (Nat × Nat × Opd)) (t:Nat) (qs:List (Nat × Operand)):Bool:=
 match P.info? t,P.underlying t with
 | some it,some (.struct fs)=>match it.zero,placesOf P fs with
  | some zv,some places=>okCs z zv.cells.toList&&chkParts (places.toArray[·]?) ps qs
  | _,_=>false
 | some it,some (.array _ e)=>match it.zero,P.info? e with
  | some zv,some ie=>okCs z zv.cells.toList&&chkParts (fun i=>some (i*ie.size,ie.size)) ps qs
  | _,_=>false
 | _,_=>false
def chkField (P:Program) (s f o:Nat) (n:Option Nat):Bool:=
 match P.underlying s with
 | some (.struct fs)=>match fs[f]? with
  | some fd=>Nat.beq fd.offset o&&(match P.info? fd.type with|some i=>!Nat.beq i.size 0&&(match n with|none=>true|some m=>Nat.beq i.size m)|none=>false)&&aggIs P fd.type n.isSome
  | none=>false
 | _=>false
def chkFieldA (P:Program) (s f o:Nat):Bool:=
 match P.underlying s with
 | some (.struct fs)=>match fs[f]? with
  | some fd=>Nat.beq fd.offset o&&(match P.info? fd.type with|some i=>!Nat.beq i.size 0|none=>false)
  | none=>false
 | _=>false
def sliceIs (P:Program) (t sz:Nat):Bool:=match P.underlying t with|some (.slice e)=>sizeIs P e sz&&!Nat.beq sz 0|_=>false
def isSlice (P:Program) (t:Nat):Bool:=match P.underlying t with|some (.slice _)=>true|_=>false
def isNilC:Operand→Bool
 | .const (.slice none _ _)=>true
 | _=>false
def chkPure (P:Program) (i:Ins) (o:Go.Op):Bool:=
 match i,o with
 | .mv d,.move x | .mv d,.assign x=>chkOpd d x
 | .pick c a b,.pick x y z=>chkOpd c x&&chkOpd a y&&chkOpd b z
 | .bld z ps,.build t qs=>chkBld P z ps t qs.toList
 | .nc d,.nilCheck x=>chkOpd d x
 | .bin b d d',.binOp op t x y _=>sameBo b op&&chkOpd d x&&chkOpd d' y&&(match P.underlying t with|some (.int _)=>true|_=>false)
 | .neg d,.unOp .neg _ x=>chkOpd d x
 | .shr d d',.binOp .shr t x y _=>chkOpd d x&&chkOpd d' y&&(match P.underlying t with|some (.int _)=>true|_=>false)
 | .not d,.unOp .not _ x=>chkOpd d x
 | .cv k d,.convert s t x=>chkOpd d x&&kindOf P t k&&(match P.underlying s with|some (.int _)=>true|_=>false)
 | .mfn f cs,.makeFunc (.func g) ⟨[]⟩ xs=>Nat.beq f.n g&&chkOpds cs xs.toList
 | .fa n d,.fieldAddr s x f=>chkOpd d x&&chkFieldA P s f n
 | .fi n d,.field s x f=>chkOpd d x&&chkField P s f n none
 | .fia n m d,.field s x f=>chkOpd d x&&chkField P s f n (some m)
 | .ia sz d d',.indexAddr t x y=>chkOpd d x&&chkOpd d' y&&sliceIs P t sz
 | .sla sz d lo hi mx,.slice t x l h m=>chkOpd d x&&chkOO lo l&&chkOO hi h&&chkOO mx m&&sliceIs P t sz&&(mx.isNone||hi.isSome)
 | .ex d n,.extract x m=>chkOpd d x&&Nat.beq n m
 | .len d,.call ⟨.builtin .len,⟨[x]⟩,⟨[t]⟩⟩=>chkOpd d x&&isSlice P t
 | .cap d,.call ⟨.builtin .cap,⟨[x]⟩,⟨[t]⟩⟩=>chkOpd d x&&isSlice P t
 | .mx d l,.call ⟨.builtin .max,⟨x::xs⟩,_⟩=>chkOpd d x&&chkOpds l xs
 | .mn d l,.call ⟨.builtin .min,⟨x::xs⟩,_⟩=>chkOpd d x&&chkOpds l xs
 | .aeq ks neg d d',.binOp op t x y _=>(match neg,op with|false,.eql=>true|true,.neq=>true|_,_=>false)&&chkOpd d x&&chkOpd d' y&&flatType P t ks
 | .beq neg d d',.binOp op t x y _=>(match neg,op with|false,.eql=>true|true,.neq=>true|_,_=>false)&&chkOpd d x&&chkOpd d' y&&(match P.underlying t with|some .bool=>true|_=>false)
 | .isnil neg d,.binOp op t x y _=>(match neg,op with|false,.eql=>true|true,.neq=>true|_,_=>false)&&isSlice P t&&((isNilC y&&chkOpd d x)||(isNilC x&&chkOpd d y))
 | _,_=>false
theorem eq1_sim {P:Program} {j:J} {v w:DV} {v' w':Value} {b k:Bool} (hv:VR j v v') (hw:VR j w w') (h:eq1V k v w=some b) (d:Nat) (t:Nat)
 (ht:flat1 P t k=true) (W:World):(Op.equalIn (d+1) t v' w').run P W=.ok b W:=by
 unfold flat1 at ht
 cases k with
 | true=>
  cases hv<;>simp only [eq1V,reduceCtorEq] at h
  cases hw<;>simp only [reduceCtorEq,Option.some.injEq] at h
  subst h
  cases hu:P.underlying t with
  | none=>simp [hu] at ht
  | some dd=>
   cases dd<;>simp [hu] at ht
   exact run_equalIn_bool' W d t _ _ hu
 | false=>
  cases hv<;>simp only [eq1V,reduceCtorEq] at h
  cases hw<;>simp only [reduceCtorEq,Option.some.injEq] at h
  rename_i k n k' n'
  by_cases hs:sameK k k'=true
  ·rw [if_pos hs] at h
   simp only [Option.some.injEq] at h
   have:=sameK_eq hs
   subst this
   cases hu:P.underlying t with
   | none=>simp [hu] at ht
   | some dd=>
    cases dd<;>simp [hu] at ht
    rename_i kk
    rw [run_equalIn_int W d t k kk n n' hu,←h]
    congr 1
  ·rw [if_neg hs] at h;cases h
theorem eqs_sim {P:Program} {j:J} (xs ys:Array Value) (d:Nat) (W:World):∀ (fs:List Field) (n:Nat) (ks:List Bool) (l m:List DV) (b:Bool),flatFields P fs n ks=true→
 VRs j l (xs.toList.drop n)→VRs j m (ys.toList.drop n)→eqsV ks l m=some b→(Op.eqFields (d+1) xs ys fs).run P W=.ok b W
 | [],n,[],l,m,b,_,hl,hm,h=>by
  cases l<;>cases m<;>simp [eqsV] at h
  subst h;rfl
 | [],_,_::_,_,_,_,hf,_,_,_=>by simp [flatFields] at hf
 | _::_,_,[],_,_,_,hf,_,_,_=>by simp [flatFields] at hf
 | f::fs,n,k::ks,l,m,b,hf,hl,hm,h=>by
  simp only [flatFields,Bool.and_eq_true,Bool.not_eq_true',Nat.beq_eq] at hf
  obtain ⟨⟨⟨hname,hoff⟩,hflat⟩,hrest⟩:=hf
  cases l with
  | nil=>simp [eqsV] at h
  | cons v l=>
   cases m with
   | nil=>simp [eqsV] at h
   | cons w m=>
    obtain ⟨v',hv',hv,_⟩:=hl.get 0 v rfl
    obtain ⟨w',hw',hw,_⟩:=hm.get 0 w rfl
    have hl':VRs j l (xs.toList.drop (n+1)):=by have:=hl.drop 1;simpa using this
    have hm':VRs j m (ys.toList.drop (n+1)):=by have:=hm.drop 1;simpa using this
    have hagg:∀ W:World,(isAgg f.type).run P W=.ok false W:=by
     intro W
     unfold flat1 at hflat
     cases hu:P.underlying f.type with
     | none=>simp [hu] at hflat
     | some dd=>exact run_isAgg_plain hu (by cases dd<;>cases k<;>simp [hu] at hflat<;>rfl) W
    have hx:(part f.type xs f.offset).run P W=.ok v' W:=by
     simp only [List.getElem?_drop,Nat.add_zero,Array.getElem?_toList] at hv'
     simp [part,hagg,hoff,hv']
    have hy:(part f.type ys f.offset).run P W=.ok w' W:=by
     simp only [List.getElem?_drop,Nat.add_zero,Array.getElem?_toList] at hw'
     simp [part,hagg,hoff,hw']
    have hne:f.name ≠ "_" := by simpa using hname
    simp only [eqsV] at h
    simp only [Op.eqFields,if_pos hne,Sem.run_bind,hx,hy,Result.andThen_ok]
    cases h1:eq1V k v w with
    | none=>simp [h1] at h
    | some c=>
     rw [eq1_sim hv hw h1 d f.type hflat W]
     cases c with
     | false=>simp [h1] at h;subst h;simp
     | true=>simp only [h1] at h;simp;exact eqs_sim xs ys d W fs (n+1) ks l m b hrest hl' hm' h
theorem run_sliceBound {Pr:Program} (w:World) {k:IntKind} {i:Int} {y:Nat} (code:BoundsCode) (h0:0≤i) (h1:i.toNat≤y):(Instr.sliceBound (.int k i) y code).run Pr w=.ok i.toNat w:=by
 have:0≤i∧i≤(y:Int):=⟨h0,by omega⟩
 simp only [Instr.sliceBound,asIntOf,Sem.run_bind,Sem.run_pure,Result.andThen_ok,Sem.run_ite,if_pos this]
theorem bd_sim {j:J} {pv:P→Option Nat} {e:Env} {ρ:Operand→Value} (hr:Reads j pv e ρ) {o:Option Opd} {x:Option Operand} {d y n:Nat} (hc:chkOO o x=true) (h:bdV o d e y=some n):
 (x=none∧o=none∧n=d)∨∃ x' k i,x=some x'∧ρ x'=.int k i∧0≤i∧i.toNat≤y∧n=i.toNat:=by
 cases o with
 | none=>cases x<;>simp [chkOO] at hc;simp only [bdV,Option.some.injEq] at h;exact .inl ⟨rfl,rfl,h.symm⟩
 | some o=>
  cases x with
  | none=>simp [chkOO] at hc
  | some x=>
   simp only [bdV] at h
   have hx:=hr _ _ (by simpa [chkOO] using hc)
   cases hd:ev o e<;>simp only [hd,reduceCtorEq] at h hx
   rename_i k i
   by_cases hcond:0≤i∧i.toNat≤y
   ·rw [if_pos hcond] at h
    simp only [Option.some.injEq] at h
    exact .inr ⟨x,k,i,rfl,hx.int,hcond.1,hcond.2,h.symm⟩
   ·rw [if_neg hcond] at h;cases h
theorem slice_rel {j:J} {k:P} {o n:Nat} {cp:Option Nat} {sz cap l hh m:Nat} {a:Addr} {cp':Option Nat} (hv:VR j (.sl k o n cp sz) (.slice (some a) n cap))
 (h1:l≤hh) (h2:hh≤m) (h3:m≤cap) (h4:hh≤capOf cp n) (h5:∀ c,cp'=some c→c=m-l∧(0<m-l→0<capOf cp n)):
 VR j (.sl k (o+l*sz) (hh-l) cp' sz) (.slice (some (if m=l then a else a.add (l*sz))) (hh-l) (m-l)):=by
 have hcap:capR cp' (hh-l) (m-l):=⟨by omega,fun c hc=>(h5 c hc).1.symm⟩
 have hpos:(0<hh-l∨∃ c,cp'=some c∧0<c)→(0<n∨∃ c,cp=some c∧0<c)∧m≠l:=by
  intro hp
  have hc0:0<capOf cp n∧m≠l:=by
   rcases hp with hp|⟨c,hc,hp⟩
   ·exact ⟨by omega,by omega⟩
   ·have:=h5 c hc;exact ⟨this.2 (by omega),by omega⟩
  refine ⟨?_,hc0.2⟩
  cases cp with
  | none=>exact .inl hc0.1
  | some c=>exact .inr ⟨c,rfl,hc0.1⟩
 have hmul:l*sz+(m-l)*sz=m*sz:=by rw [←Nat.add_mul];congr 1;omega
 have hmul2:m*sz≤cap*sz:=Nat.mul_le_mul_right _ h3
 cases hv with
 | slA h ho hc hs he=>
  rename_i b s c off
  by_cases hm:m=l
  ·rw [if_pos hm]
   refine VR.slA h (fun hp=>absurd hm (hpos hp).2) hcap hs ?_
   rw [hm,Nat.sub_self,Nat.zero_mul];omega
  ·rw [if_neg hm,Addr.add_mid]
   refine VR.slA h (fun hp=>by rw [ho (hpos hp).1];omega) hcap (by omega) (by omega)
 | slO h ho hc=>
  rename_i b s off
  by_cases hm:m=l
  ·rw [if_pos hm]
   exact VR.slO h (fun hp=>absurd hm (hpos hp).2) hcap
  ·rw [if_neg hm,Addr.add_mid]
   exact VR.slO h (fun hp=>by rw [ho (hpos hp).1];omega) hcap
 | slD a h hc=>exact VR.slD _ h hcap
 | slE a h hc h0=>
  have hz:capOf cp 0=0:=by
   cases cp with
   | none=>rfl
   | some c=>exact h0 c rfl
  rw [hz] at h4 h5
  obtain rfl:hh=0:=by omega
  obtain rfl:l=0:=by omega
  exact VR.slE _ h hcap (fun c hc=>by have:=h5 c hc;omega)
theorem capOf_le {cp:Option Nat} {n cap:Nat} (h:capR cp n cap):capOf cp n≤cap:=by
 cases cp with
 | none=>exact h.1
 | some c=>exact Nat.le_of_eq (h.2 c rfl).symm
def Told (x:Option Value) (d y n:Nat):Prop:=(x=none∧n=d)∨∃ k i,x=some (.int k i)∧0≤i∧i.toNat≤y∧n=i.toNat
theorem bd_told {j:J} {pv:P→Option Nat} {e:Env} {ρ:Operand→Value} (hr:Reads j pv e ρ) {o:Option Opd} {x:Option Operand} {d y n:Nat} (hc:chkOO o x=true) (h:bdV o d e y=some n):Told (x.map ρ) d y n:=by
 rcases bd_sim hr hc h with ⟨rfl,_,rfl⟩|⟨x',k,i,rfl,hx,h0,h1,rfl⟩
 ·exact .inl ⟨rfl,rfl⟩
 ·exact .inr ⟨k,i,by simp [hx],h0,h1,rfl⟩
theorem Told.le {x:Option Value} {d y n:Nat} (h:Told x d y n):n≤max d y:=by
 rcases h with ⟨_,rfl⟩|⟨k,i,_,_,h,rfl⟩<;>omega
theorem Told.wide {x:Option Value} {d y y' n:Nat} (h:Told x d y n) (hy:y≤y'):Told x d y' n:=by
 rcases h with h|⟨k,i,a,b,c,d⟩
 ·exact .inl h
 ·exact .inr ⟨k,i,a,b,by omega,d⟩
theorem run_bounds_none {Pr:Program} (w:World) {b:Bool} {n cap l hh:Nat} {xl xh:Option Value} (h1:Told xh n cap hh) (h2:Told xl 0 hh l):(Instr.sliceBounds b n cap xl xh none).run Pr w=.ok (l,hh,cap) w:=by
 unfold Instr.sliceBounds
 rcases h1 with ⟨rfl,rfl⟩|⟨k,i,rfl,a,c,rfl⟩<;>rcases h2 with ⟨rfl,rfl⟩|⟨k',i',rfl,a',c',rfl⟩
 ·simp
 ·simp only [Sem.run_bind,Sem.run_pure,Result.andThen_ok,run_sliceBound w _ a' c']
 ·simp only [Sem.run_bind,Sem.run_pure,Result.andThen_ok,run_sliceBound w _ a c]
 ·simp only [Sem.run_bind,Sem.run_pure,Result.andThen_ok,run_sliceBound w _ a c,run_sliceBound w _ a' c']
theorem run_bounds_some {Pr:Program} (w:World) {b:Bool} {n cap l hh m:Nat} {xl xh xm:Option Value} {d:Nat} (hm:xm≠none) (hn:xh≠none) (h0:Told xm d cap m) (h1:Told xh n m hh) (h2:Told xl 0 hh l):
 (Instr.sliceBounds b n cap xl xh xm).run Pr w=.ok (l,hh,m) w:=by
 unfold Instr.sliceBounds
 rcases h0 with ⟨rfl,rfl⟩|⟨k0,i0,rfl,a0,c0,rfl⟩
 ·exact absurd rfl hm
 ·rcases h1 with ⟨rfl,rfl⟩|⟨k,i,rfl,a,c,rfl⟩
  ·exact absurd rfl hn
  ·rcases h2 with ⟨rfl,rfl⟩|⟨k',i',rfl,a',c',rfl⟩
   ·simp only [Sem.run_bind,Sem.run_pure,Result.andThen_ok,run_sliceBound w _ a0 c0,run_sliceBound w _ a c]
   ·simp only [Sem.run_bind,Sem.run_pure,Result.andThen_ok,run_sliceBound w _ a0 c0,run_sliceBound w _ a c,run_sliceBound w _ a' c']
theorem run_eqL {Pr:Program} (w:World) (d t el:Nat) (hu:Pr.underlying t=some (.slice el)) (a:Option Addr) (n c l2 c2:Nat):(Op.equalIn (d+1) t (.slice a n c) (.slice none l2 c2)).run Pr w=.ok a.isNone w:=by
 cases a<;>simp [Op.equalIn,run_underlying hu]
theorem run_eqR {Pr:Program} (w:World) (d t el:Nat) (hu:Pr.underlying t=some (.slice el)) (a:Option Addr) (n c l2 c2:Nat):(Op.equalIn (d+1) t (.slice none l2 c2) (.slice a n c)).run Pr w=.ok a.isNone w:=by
 cases a<;>simp [Op.equalIn,run_underlying hu]
set_option maxHeartbeats 4000000 in
theorem pure_sim {Pr:Program} {i:Ins} {o:Oper} {e:Env} {v:DV} (hv:pureDV i e=some v) (hc:chkPure Pr i o.op=true) {j:J} {pv:P→Option Nat} {ρ:Operand→Value} (hr:Reads j pv e ρ) (hk:∀ v,ρ (.const v)=v) (w:World):
 ∃ v',(execOp ρ o).run Pr w=.ok (.value v') w∧XD j pv v v':=by
 obtain ⟨dst,op,ty,pos,after,guard⟩:=o
 cases i<;>simp only [pureDV,reduceCtorEq] at hv
 case mv d=>
  simp only [Option.some.injEq] at hv;subst hv
  cases op<;>simp only [chkPure,Bool.false_eq_true] at hc
  ·exact ⟨_,rfl,hr _ _ hc⟩
  ·exact ⟨_,rfl,hr _ _ hc⟩
 case pick c a b=>
  cases op<;>simp only [chkPure,Bool.false_eq_true,Bool.and_eq_true] at hc
  obtain ⟨⟨h1,h2⟩,h3⟩:=hc
  have hx:=hr _ _ h1
  cases hcv:ev c e<;>simp only [hcv,reduceCtorEq] at hv hx
  rename_i t
  simp only [Option.some.injEq] at hv;subst hv
  have:=hx.bool
  rename_i x y z
  refine ⟨if t then ρ y else ρ z,by simp [execOp,this,asBool],?_⟩
  cases t
  ·exact hr _ _ h3
  ·exact hr _ _ h2
 case bld z ps=>
  cases op<;>simp only [chkPure,Bool.false_eq_true] at hc
  rename_i t qs
  cases hf:fills e ps z with
  | none=>simp [hf] at hv
  | some z'=>
   simp only [hf,Option.map_some,Option.some.injEq] at hv;subst hv
   have key:∃ cells,Pr.built t (qs.map fun (i,x)=>(i,ρ x)).toList=some cells∧VRs j z' cells.toList:=by
    have hm:(qs.map fun (i,x)=>(i,ρ x)).toList=qs.toList.map fun q=>(q.1,ρ q.2):=by simp
    unfold chkBld at hc
    unfold Program.built
    cases hit:Pr.info? t with
    | none=>simp [hit] at hc
    | some it=>
     cases hu:Pr.underlying t with
     | none=>simp [hit,hu] at hc
     | some d=>
      cases d<;>try (simp [hit,hu] at hc;done)
      case struct fs=>
       cases hz:it.zero with
       | none=>simp [hit,hu,hz] at hc
       | some zv=>
        cases hp:placesOf Pr fs with
        | none=>simp [hit,hu,hz,hp] at hc
        | some places=>
         simp only [hit,hu,hz,hp,Bool.and_eq_true] at hc
         have hp':fs.toList.mapM (fun f=>(Pr.info? f.type).map fun i=>(f.offset,i.size))=some places:=hp
         simp only [hz,hp',hm]
         exact fill_sim hr _ ps qs.toList z z' zv.cells hc.2 (okCs_sound j _ _ hc.1) hf
      case array n el=>
       cases hz:it.zero with
       | none=>simp [hit,hu,hz] at hc
       | some zv=>
        cases hp:Pr.info? el with
        | none=>simp [hit,hu,hz,hp] at hc
        | some ie=>
         simp only [hit,hu,hz,hp,Bool.and_eq_true] at hc
         simp only [hz,hp,hm]
         exact fill_sim hr _ ps qs.toList z z' zv.cells hc.2 (okCs_sound j _ _ hc.1) hf
   obtain ⟨cells,hb,hrel⟩:=key
   refine ⟨.agg cells,?_,VR.agg (l':=cells.toList) hrel⟩
   simp only [execOp,Sem.run_bind,run_build w t _ cells hb,Result.andThen_ok,Sem.run_pure]
 case nc d=>
  cases op<;>simp only [chkPure,Bool.false_eq_true] at hc
  rename_i x
  have hx:=hr _ _ hc
  simp only [execOp]
  generalize ρ x=v' at hx
  refine ⟨v',?_,?_⟩
  ·cases hd:ev d e<;>simp only [hd,solidV,reduceCtorEq] at hv hx
   case fld p o=>obtain ⟨b,_,hb⟩:=hx;subst hb;rfl
   all_goals (cases (hx:VR j _ _)<;>rfl)
  ·cases hd:ev d e<;>simp only [hd,solidV,reduceCtorEq,Option.some.injEq] at hv hx<;>subst hv<;>exact hx
 case bin b d d'=>
  cases op<;>simp only [chkPure,Bool.false_eq_true,Bool.and_eq_true] at hc
  rename_i bo xt x y yt
  obtain ⟨⟨⟨hb,h1⟩,h2⟩,h3⟩:=hc
  have hx:=hr _ _ h1
  have hy:=hr _ _ h2
  cases hd:ev d e<;>simp only [hd,reduceCtorEq] at hv hx
  cases hd':ev d' e<;>simp only [hd',reduceCtorEq] at hv hy
  rename_i k n k' n'
  by_cases hs:sameK k k'=true
  case neg=>rw [if_neg hs] at hv;cases hv
  rw [if_pos hs] at hv
  have hk:=sameK_eq hs
  subst hk
  have hx:=hx.int;have hy:=hy.int
  have hg:∀ W:World,(eqGuard bo xt x y (.int k n) (.int k n')).run Pr W=.ok () W:=by intro W;unfold eqGuard;cases bo<;>rfl
  simp only [execOp,hx,hy,Sem.run_bind,hg,Result.andThen_ok]
  have hbo:=sameBo_eq hb
  subst hbo
  cases b<;>simp only [binV,boOf] at hv ⊢
  case quo=>
   by_cases h0:n'=0
   ·rw [if_pos h0] at hv;cases hv
   ·rw [if_neg h0] at hv;simp only [Option.some.injEq] at hv;subst hv
    exact ⟨_,by simp [binOp,Op.intDiv,h0],VR.int _ _⟩
  case rem=>
   by_cases h0:n'=0
   ·rw [if_pos h0] at hv;cases hv
   ·rw [if_neg h0] at hv;simp only [Option.some.injEq] at hv;subst hv
    exact ⟨_,by simp [binOp,Op.intDiv,h0],VR.int _ _⟩
  all_goals (simp only [Option.some.injEq] at hv;subst hv)
  case add=>exact ⟨_,by simp [binOp,Op.intArith],VR.int _ _⟩
  case sub=>exact ⟨_,by simp [binOp,Op.intArith],VR.int _ _⟩
  case mul=>exact ⟨_,by simp [binOp,Op.intArith],VR.int _ _⟩
  case eq=>exact ⟨.bool (decide (n=n')),by simp [binOp,Op.intCmp];rfl,VR.bool _⟩
  case ne=>exact ⟨.bool (!decide (n=n')),by simp [binOp,Op.intCmp,bne];rfl,VR.bool _⟩
  case lt=>exact ⟨.bool (decide (n<n')),by simp [binOp,Op.intCmp],VR.bool _⟩
  case le=>exact ⟨.bool (!decide (n'<n)),by simp [binOp,Op.intCmp];by_cases h:n≤n'<;>simp [h]<;>omega,VR.bool _⟩
  case gt=>exact ⟨.bool (decide (n'<n)),by simp [binOp,Op.intCmp],VR.bool _⟩
  case ge=>exact ⟨.bool (!decide (n<n')),by simp [binOp,Op.intCmp];by_cases h:n'≤n<;>simp [h]<;>omega,VR.bool _⟩
 case shr d d'=>
  cases op<;>simp only [chkPure,Bool.false_eq_true,Bool.and_eq_true] at hc
  rename_i bo xt x y yt
  cases bo<;>simp only [Bool.and_eq_true,Bool.false_eq_true] at hc
  obtain ⟨⟨h1,h2⟩,h3⟩:=hc
  have hx:=hr _ _ h1
  have hy:=hr _ _ h2
  cases hd:ev d e<;>simp only [hd,reduceCtorEq] at hv hx
  cases hd':ev d' e<;>simp only [hd',reduceCtorEq] at hv hy
  rename_i k n k' n'
  by_cases hs:0≤n'∧n'.toNat≤k.bits
  case neg=>rw [if_neg hs] at hv;cases hv
  rw [if_pos hs] at hv
  simp only [Option.some.injEq] at hv
  subst hv
  have hx:=hx.int;have hy:=hy.int
  have hg:∀ W:World,(eqGuard .shr xt x y (.int k n) (.int k' n')).run Pr W=.ok () W:=by intro W;rfl
  simp only [execOp,hx,hy,Sem.run_bind,hg,Result.andThen_ok]
  refine ⟨_,?_,VR.int _ _⟩
  have hneg:¬ n'<0:=by omega
  simp [binOp,Op.shift,hneg,Nat.min_eq_left hs.2]
 case neg d=>
  cases op<;>simp only [chkPure,Bool.false_eq_true] at hc
  rename_i u t x
  cases u<;>simp only [Bool.false_eq_true] at hc
  have hx:=hr _ _ hc
  cases hd:ev d e<;>simp only [hd,reduceCtorEq,Option.some.injEq] at hv hx
  subst hv
  have hx:=hx.int
  exact ⟨_,by simp [execOp,hx,Op.unary,Op.intArith],VR.int _ _⟩
 case not d=>
  cases op<;>simp only [chkPure,Bool.false_eq_true] at hc
  rename_i u t x
  cases u<;>simp only [Bool.false_eq_true] at hc
  have hx:=hr _ _ hc
  cases hd:ev d e<;>simp only [hd,reduceCtorEq,Option.some.injEq] at hv hx
  subst hv
  have hx:=hx.bool
  exact ⟨_,by simp [execOp,hx,Op.unary],VR.bool _⟩
 case cv k d=>
  cases op<;>simp only [chkPure,Bool.false_eq_true,Bool.and_eq_true] at hc
  rename_i s t x
  obtain ⟨⟨h1,h2⟩,h3⟩:=hc
  have hx:=hr _ _ h1
  cases hd:ev d e<;>simp only [hd,reduceCtorEq,Option.some.injEq] at hv hx
  subst hv
  have hx:=hx.int
  unfold kindOf at h2
  cases hus:Pr.underlying s with
  | none=>simp [hus] at h3
  | some ds=>
   cases hut:Pr.underlying t with
   | none=>simp [hut] at h2
   | some dt=>
    cases dt<;>simp [hut] at h2
    have:=sameK_eq h2
    subst this
    exact ⟨_,by simp [execOp,hx,convert,run_underlying hus,run_underlying hut,Conv.intToInt],VR.int _ _⟩
 case mfn f cs=>
  simp only [Option.some.injEq] at hv;subst hv
  cases op<;>try (simp only [chkPure,Bool.false_eq_true] at hc;done)
  rename_i fn first xs
  obtain ⟨first⟩:=first
  cases fn<;>cases first<;>simp only [chkPure,Bool.false_eq_true,Bool.and_eq_true,Nat.beq_eq] at hc
  obtain ⟨rfl,h2⟩:=hc
  refine ⟨.func (.func f.n) #[] (xs.toList.map ρ).toArray,?_,VR.fn (hr.ovs cs xs.toList h2)⟩
  have hm:xs.map ρ=(xs.toList.map ρ).toArray:=by apply Array.ext';simp
  have h0:(⟨[]⟩:Array Operand).map ρ=#[]:=by simp
  simp only [execOp,Instr.makeFunc,hm,h0];rfl
 case ex d n=>
  cases op<;>simp only [chkPure,Bool.false_eq_true,Bool.and_eq_true,Nat.beq_eq] at hc
  obtain ⟨h1,rfl⟩:=hc
  have hx:=hr _ _ h1
  cases hd:ev d e<;>simp only [hd,exV,reduceCtorEq] at hv hx
  obtain ⟨l',hx,hl⟩:=hx.tup
  obtain ⟨v',hv',hvr⟩:=hl.get _ _ hv
  refine ⟨v',?_,XD.of_VR hvr⟩
  simp [execOp,hx,Instr.extract,hv']
 case len d=>
  cases op<;>try (simp only [chkPure,Bool.false_eq_true] at hc;done)
  rename_i c
  obtain ⟨callee,⟨args⟩,⟨tys⟩⟩:=c
  cases callee<;>try (simp only [chkPure,Bool.false_eq_true] at hc;done)
  rename_i b
  cases b<;>try (simp only [chkPure,Bool.false_eq_true] at hc;done)
  rcases args with _|⟨x,_|⟨_,_⟩⟩<;>rcases tys with _|⟨t,_|⟨_,_⟩⟩<;>simp only [chkPure,Bool.false_eq_true,Bool.and_eq_true] at hc
  obtain ⟨h1,h2⟩:=hc
  have hx:=hr _ _ h1
  unfold isSlice at h2
  cases hu:Pr.underlying t with
  | none=>simp [hu] at h2
  | some dt=>
   cases dt<;>simp [hu] at h2
   cases hd:ev d e<;>simp only [hd,lenV,Option.map_some,Option.map_none,reduceCtorEq,Option.some.injEq] at hv hx<;>subst hv
   ·have hx:=hx.nils
    exact ⟨_,by simp [execOp,resolve,invoke,builtin,Builtin.len_,hx,run_underlying hu];rfl,VR.int _ _⟩
   ·obtain ⟨a,cap,hx,_⟩:=hx.sl
    exact ⟨_,by simp [execOp,resolve,invoke,builtin,Builtin.len_,hx,run_underlying hu];rfl,VR.int _ _⟩
 case cap d=>
  cases op<;>try (simp only [chkPure,Bool.false_eq_true] at hc;done)
  rename_i c
  obtain ⟨callee,⟨args⟩,⟨tys⟩⟩:=c
  cases callee<;>try (simp only [chkPure,Bool.false_eq_true] at hc;done)
  rename_i b
  cases b<;>try (simp only [chkPure,Bool.false_eq_true] at hc;done)
  rcases args with _|⟨x,_|⟨_,_⟩⟩<;>rcases tys with _|⟨t,_|⟨_,_⟩⟩<;>simp only [chkPure,Bool.false_eq_true,Bool.and_eq_true] at hc
  obtain ⟨h1,h2⟩:=hc
  have hx:=hr _ _ h1
  unfold isSlice at h2
  cases hu:Pr.underlying t with
  | none=>simp [hu] at h2
  | some dt=>
   cases dt<;>simp [hu] at h2
   cases hd:ev d e<;>simp only [hd,capV,Option.map_none,reduceCtorEq] at hv hx
   ·simp only [Option.map_some,Option.some.injEq] at hv;subst hv
    have hx:=hx.nils
    exact ⟨_,by simp [execOp,resolve,invoke,builtin,Builtin.cap_,hx,run_underlying hu];rfl,VR.int _ _⟩
   ·rename_i k o n cp sz
    cases cp<;>simp only [Option.map_some,Option.map_none,reduceCtorEq,Option.some.injEq] at hv
    subst hv
    obtain ⟨a,cap,hx,_,hcap⟩:=hx.sl
    rw [hcap _ rfl] at hx
    exact ⟨_,by simp [execOp,resolve,invoke,builtin,Builtin.cap_,hx,run_underlying hu];rfl,VR.int _ _⟩
 case fa n d=>
  cases op<;>simp only [chkPure,Bool.false_eq_true,Bool.and_eq_true] at hc
  rename_i st x f
  obtain ⟨h1,h2⟩:=hc
  have hx:=hr _ _ h1
  have hrun:∀ a:Addr,ρ x=.pointer (some a)→(Instr.fieldAt st (ρ x) f).run Pr w=.ok (.pointer (some (a.add n))) w:=by
   intro a hp
   unfold chkFieldA at h2
   cases hu:Pr.underlying st with
   | none=>simp [hu] at h2
   | some dt=>
    cases dt<;>simp only [hu,Bool.false_eq_true] at h2
    rename_i fs
    cases hf:fs[f]? with
    | none=>simp [hf] at h2
    | some fd=>
     simp only [hf,Bool.and_eq_true,Nat.beq_eq] at h2
     obtain ⟨h2,h3⟩:=h2
     cases hi:Pr.info? fd.type with
     | none=>simp [hi] at h3
     | some it=>
      simp [hi] at h3
      have hs:(sizeOf fd.type).run Pr w=.ok it.size w:=by simp [sizeOf,typeInfo,hi]
      simp only [Instr.fieldAt,Sem.run_bind,run_underlying hu,Result.andThen_ok,hf,hp,Instr.sureAddr,Sem.run_pure,fieldPlace,hs]
      have h0:it.size≠0:=fun h0=>by rw [h0] at h3;exact absurd h3 (by decide)
      simp [h0,h2]
  cases hd:ev d e<;>simp only [hd,faV,reduceCtorEq,Option.some.injEq] at hv hx<;>subst hv
  case fld q o=>
   obtain ⟨b,hb,hp⟩:=hx
   exact ⟨.pointer (some ⟨b,o+n,none⟩),by simp only [execOp,Sem.run_bind,hrun _ hp,Result.andThen_ok,Sem.run_pure,Addr.add_mid],b,hb,rfl⟩
  case ptr k o=>
   have hx':VR j (.ptr k o) (ρ x):=hx
   generalize hg:ρ x=v' at hx'
   cases hx' with
   | ptrA h=>rename_i b s c;exact ⟨.pointer (some ⟨b,s+(o+n),none⟩),by simp only [execOp,Sem.run_bind,hrun _ hg,Result.andThen_ok,Sem.run_pure,Addr.add_mid];rw [Nat.add_assoc],VR.ptrA h⟩
   | ptrO h=>rename_i b s;exact ⟨.pointer (some ⟨b,s+(o+n),none⟩),by simp only [execOp,Sem.run_bind,hrun _ hg,Result.andThen_ok,Sem.run_pure,Addr.add_mid];rw [Nat.add_assoc],VR.ptrO h⟩
   | ptrD a h=>exact ⟨.pointer (some (a.add n)),by simp only [execOp,Sem.run_bind,hrun _ hg,Result.andThen_ok,Sem.run_pure],VR.ptrD _ h⟩
 case ia sz d d'=>
  cases op<;>simp only [chkPure,Bool.false_eq_true,Bool.and_eq_true] at hc
  rename_i t x y
  obtain ⟨⟨h1,h2⟩,h3⟩:=hc
  have hx:=hr _ _ h1
  have hy:=hr _ _ h2
  cases hd:ev d e<;>simp only [hd,iaV,reduceCtorEq] at hv hx
  rename_i k o n cp s
  cases hd':ev d' e<;>simp only [hd',reduceCtorEq] at hv hy
  rename_i ik i
  by_cases hcond:s=sz∧0≤i∧i.toNat<n
  case neg=>rw [if_neg hcond] at hv;cases hv
  rw [if_pos hcond] at hv
  simp only [Option.some.injEq] at hv;subst hv
  obtain ⟨rfl,hi0,hin⟩:=hcond
  have hy:=hy.int
  have hrun:∀ (a:Addr) (cap:Nat),ρ x=.slice (some a) n cap→(Instr.indexAt t (ρ x) (ρ y)).run Pr w=.ok (.pointer (some (a.add (i.toNat*s)))) w:=by
   intro a cap hp
   unfold sliceIs at h3
   cases hu:Pr.underlying t with
   | none=>simp [hu] at h3
   | some dt=>
    cases dt<;>simp only [hu,Bool.false_eq_true,Bool.and_eq_true] at h3
    rename_i el
    obtain ⟨it,hit,hsz⟩:=sizeIs_spec h3.1
    have hs:(sizeOf el).run Pr w=.ok s w:=by simp [sizeOf,typeInfo,hit,hsz]
    have hlt:0≤i∧i<(n:Int):=⟨hi0,by omega⟩
    simp only [Instr.indexAt,Sem.run_bind,hy,asIntOf,Sem.run_pure,Result.andThen_ok,run_underlying hu,hp]
    simp only [Sem.run_ite,if_pos hlt,Sem.run_bind,hs,Result.andThen_ok,Sem.run_pure]
  have hx':VR j (.sl k o n cp s) (ρ x):=hx
  generalize hg:ρ x=v' at hx'
  cases hx' with
  | slA h ho hc' hs he=>
   rename_i b s0 c off cap
   refine ⟨.pointer (some ⟨b,s0+(o+i.toNat*s),none⟩),?_,VR.ptrA h⟩
   simp only [execOp,Sem.run_bind,hrun _ _ hg,Result.andThen_ok,Sem.run_pure,Addr.add_mid]
   rw [ho (.inl (by omega)),Nat.add_assoc]
  | slO h ho hc'=>
   rename_i b s0 off cap
   refine ⟨.pointer (some ⟨b,s0+(o+i.toNat*s),none⟩),?_,VR.ptrO h⟩
   simp only [execOp,Sem.run_bind,hrun _ _ hg,Result.andThen_ok,Sem.run_pure,Addr.add_mid]
   rw [ho (.inl (by omega)),Nat.add_assoc]
  | slE a h hc' _=>omega
  | slD a h hc'=>exact ⟨.pointer (some (a.add (i.toNat*s))),by simp only [execOp,Sem.run_bind,hrun _ _ hg,Result.andThen_ok,Sem.run_pure],VR.ptrD _ h⟩
 case fi n d=>
  cases op<;>simp only [chkPure,Bool.false_eq_true,Bool.and_eq_true] at hc
  rename_i st x f
  obtain ⟨h1,h2⟩:=hc
  have hx:=hr _ _ h1
  cases hd:ev d e<;>simp only [hd,fiV,reduceCtorEq] at hv hx
  obtain ⟨l',hx,hl⟩:=hx.agg
  obtain ⟨v',hv',hvr,_⟩:=hl.get _ _ hv
  unfold chkField at h2
  cases hu:Pr.underlying st with
  | none=>simp [hu] at h2
  | some dt=>
   cases dt<;>simp only [hu,Bool.false_eq_true] at h2
   rename_i fs
   cases hf:fs[f]? with
   | none=>simp [hf] at h2
   | some fd=>
    simp only [hf,Bool.and_eq_true,Nat.beq_eq] at h2
    have hagg:=aggIs_spec h2.2 w
    refine ⟨v',?_,XD.of_VR hvr⟩
    simp only [execOp,Instr.field,Sem.run_bind,run_underlying hu,Result.andThen_ok,hf,hx,asAgg,Sem.run_pure,part]
    simp only [Option.isSome_none] at hagg
    simp [hagg,h2.1.1,hv']
 case fia n m d=>
  cases op<;>simp only [chkPure,Bool.false_eq_true,Bool.and_eq_true] at hc
  rename_i st x f
  obtain ⟨h1,h2⟩:=hc
  have hx:=hr _ _ h1
  cases hd:ev d e<;>simp only [hd,fiaV,reduceCtorEq] at hv hx
  rename_i l
  by_cases hcond:n≤l.length∧m≤(l.drop n).length
  case neg=>rw [if_neg hcond] at hv;cases hv
  rw [if_pos hcond] at hv
  simp only [Option.some.injEq] at hv;subst hv
  obtain ⟨l',hx,hl⟩:=hx.agg
  unfold chkField at h2
  cases hu:Pr.underlying st with
  | none=>simp [hu] at h2
  | some dt=>
   cases dt<;>simp only [hu,Bool.false_eq_true] at h2
   rename_i fs
   cases hf:fs[f]? with
   | none=>simp [hf] at h2
   | some fd=>
    simp only [hf,Bool.and_eq_true,Nat.beq_eq] at h2
    obtain ⟨⟨h2,h3⟩,h4⟩:=h2
    have hagg:=aggIs_spec h4 w
    simp only [Option.isSome_some] at hagg
    cases hi:Pr.info? fd.type with
    | none=>simp [hi] at h3
    | some it=>
     simp [hi] at h3
     refine ⟨.agg ((l'.drop n).take m).toArray,?_,VR.agg ((hl.drop n).take m)⟩
     have hs:(sizeOf fd.type).run Pr w=.ok m w:=by simp [sizeOf,typeInfo,hi,h3.2]
     simp only [execOp,Instr.field,Sem.run_bind,run_underlying hu,Result.andThen_ok,hf,hx,asAgg,Sem.run_pure,part,hagg,if_true,hs,h2]
     congr 3
     apply Array.ext'
     simp
 case mx d l=>
  cases op<;>try (simp only [chkPure,Bool.false_eq_true] at hc;done)
  rename_i c
  obtain ⟨callee,⟨args⟩,tys⟩:=c
  cases callee<;>try (simp only [chkPure,Bool.false_eq_true] at hc;done)
  rename_i b
  cases b<;>cases args<;>simp only [chkPure,Bool.false_eq_true,Bool.and_eq_true] at hc
  rename_i x xs
  obtain ⟨h1,h2⟩:=hc
  have hx:=hr _ _ h1
  cases hd:ev d e<;>simp only [hd,reduceCtorEq] at hv hx
  rename_i k n
  cases hf:foldV (fun x y=>ilt x y) e l k n with
  | none=>simp [hf] at hv
  | some y=>
   simp only [hf,Option.map_some,Option.some.injEq] at hv;subst hv
   have key:∀ (l:List Opd) (xs:List Operand) (k:IntKind) (n:Int),chkOpds l xs=true→foldV (fun x y=>ilt x y) e l k n=some y→
    ((xs.map ρ).foldlM Builtin.max2 (.int k n)).run Pr w=.ok (.int y.1 y.2) w:=by
    intro l
    induction l with
    | nil=>intro xs k n hx hy;cases xs<;>simp [chkOpds] at hx;simp only [foldV,Option.some.injEq] at hy;subst hy;rfl
    | cons o l ih=>
     intro xs k n hx hy
     cases xs with
     | nil=>simp [chkOpds] at hx
     | cons x xs=>
      simp only [chkOpds,Bool.and_eq_true] at hx
      simp only [foldV] at hy
      have hxo:=hr _ _ hx.1
      cases ho:ev o e<;>simp only [ho,reduceCtorEq] at hy hxo
      rename_i j m
      by_cases hs:sameK k j=true
      ·rw [if_pos hs] at hy
       have hxo:=hxo.int
       simp only [List.map_cons,List.foldlM_cons,Sem.run_bind,hxo,Builtin.max2,Sem.run_pure,Result.andThen_ok]
       have:(if m > n then m else n)=if ilt n m=true then m else n:=by
        have hb:=ilt_eq n m
        by_cases h:n<m
        ·rw [if_pos h,if_pos (by rw [hb];simp [h])]
        ·rw [if_neg h,if_neg (by rw [hb];simp [h])]
       rw [this]
       exact ih xs k _ hx.2 hy
      ·rw [if_neg hs] at hy;cases hy
   refine ⟨.int y.1 y.2,?_,VR.int _ _⟩
   simp only [execOp,resolve,Sem.run_bind,Sem.run_pure,Result.andThen_ok,invoke,builtin,Builtin.max_]
   simp only [List.map_toArray,List.map_cons,hx.int]
   rw [key l xs k n h2 hf];rfl
 case mn d l=>
  cases op<;>try (simp only [chkPure,Bool.false_eq_true] at hc;done)
  rename_i c
  obtain ⟨callee,⟨args⟩,tys⟩:=c
  cases callee<;>try (simp only [chkPure,Bool.false_eq_true] at hc;done)
  rename_i b
  cases b<;>cases args<;>simp only [chkPure,Bool.false_eq_true,Bool.and_eq_true] at hc
  rename_i x xs
  obtain ⟨h1,h2⟩:=hc
  have hx:=hr _ _ h1
  cases hd:ev d e<;>simp only [hd,reduceCtorEq] at hv hx
  rename_i k n
  cases hf:foldV (fun x y=>ilt y x) e l k n with
  | none=>simp [hf] at hv
  | some y=>
   simp only [hf,Option.map_some,Option.some.injEq] at hv;subst hv
   have key:∀ (l:List Opd) (xs:List Operand) (k:IntKind) (n:Int),chkOpds l xs=true→foldV (fun x y=>ilt y x) e l k n=some y→
    ((xs.map ρ).foldlM Builtin.min2 (.int k n)).run Pr w=.ok (.int y.1 y.2) w:=by
    intro l
    induction l with
    | nil=>intro xs k n hx hy;cases xs<;>simp [chkOpds] at hx;simp only [foldV,Option.some.injEq] at hy;subst hy;rfl
    | cons o l ih=>
     intro xs k n hx hy
     cases xs with
     | nil=>simp [chkOpds] at hx
     | cons x xs=>
      simp only [chkOpds,Bool.and_eq_true] at hx
      simp only [foldV] at hy
      have hxo:=hr _ _ hx.1
      cases ho:ev o e<;>simp only [ho,reduceCtorEq] at hy hxo
      rename_i j m
      by_cases hs:sameK k j=true
      ·rw [if_pos hs] at hy
       have hxo:=hxo.int
       simp only [List.map_cons,List.foldlM_cons,Sem.run_bind,hxo,Builtin.min2,Sem.run_pure,Result.andThen_ok]
       have:(if m<n then m else n)=if ilt m n=true then m else n:=by
        have hb:=ilt_eq m n
        by_cases h:m<n
        ·rw [if_pos h,if_pos (by rw [hb];simp [h])]
        ·rw [if_neg h,if_neg (by rw [hb];simp [h])]
       rw [this]
       exact ih xs k _ hx.2 hy
      ·rw [if_neg hs] at hy;cases hy
   refine ⟨.int y.1 y.2,?_,VR.int _ _⟩
   simp only [execOp,resolve,Sem.run_bind,Sem.run_pure,Result.andThen_ok,invoke,builtin,Builtin.min_]
   simp only [List.map_toArray,List.map_cons,hx.int]
   rw [key l xs k n h2 hf];rfl
 case aeq ks neg d d'=>
  cases op<;>simp only [chkPure,Bool.false_eq_true,Bool.and_eq_true] at hc
  rename_i bo t x y yt
  obtain ⟨⟨⟨h0,h1⟩,h2⟩,h3⟩:=hc
  have hx:=hr _ _ h1
  have hy:=hr _ _ h2
  cases hd:ev d e<;>simp only [hd,reduceCtorEq] at hv hx
  cases hd':ev d' e<;>simp only [hd',reduceCtorEq] at hv hy
  rename_i l m
  cases hq:eqsV ks l m with
  | none=>simp [hq] at hv
  | some b=>
   simp only [hq,Option.map_some,Option.some.injEq] at hv;subst hv
   obtain ⟨l',hx,hl⟩:=hx.agg
   obtain ⟨m',hy,hm⟩:=hy.agg
   refine ⟨.bool (neg != b),?_,VR.bool _⟩
   unfold flatType at h3
   cases hu:Pr.underlying t with
   | none=>simp [hu] at h3
   | some dt=>
    cases dt<;>simp only [hu,Bool.false_eq_true,Bool.and_eq_true,Bool.not_eq_true'] at h3
    rename_i fs
    obtain ⟨⟨hff,hsh⟩,hgt⟩:=h3
    have hfo:Pr.fieldsOf t=fs:=by simp [Program.fieldsOf,hu]
    have hq2:(Op.equalIn 10000 t (.agg l'.toArray) (.agg m'.toArray)).run Pr w=.ok b w:=by
     rw [run_equalIn_struct w 9999 t _ _ (by rw [hfo,hu]) hsh,hfo]
     exact eqs_sim l'.toArray m'.toArray 9998 w fs.toList 0 ks l m b hff (by simpa using hl) (by simpa using hm) hq
    cases neg<;>cases bo<;>simp at h0
    ·simp only [execOp,hx,hy,Sem.run_bind,run_eqGuard_agg w _ _ _ _ _ _ hgt,Result.andThen_ok,run_eql_struct,hq2,Sem.run_pure];cases b<;>rfl
    ·simp only [execOp,hx,hy,Sem.run_bind,run_eqGuard_agg w _ _ _ _ _ _ hgt,Result.andThen_ok,run_neq_struct,hq2,Sem.run_pure];cases b<;>rfl
 case beq neg d d'=>
  cases op<;>simp only [chkPure,Bool.false_eq_true,Bool.and_eq_true] at hc
  rename_i bo t x y yt
  obtain ⟨⟨⟨h0,h1⟩,h2⟩,h3⟩:=hc
  have hx:=hr _ _ h1
  have hy:=hr _ _ h2
  cases hd:ev d e<;>simp only [hd,reduceCtorEq] at hv hx
  cases hd':ev d' e<;>simp only [hd',reduceCtorEq,Option.some.injEq] at hv hy
  rename_i p q
  subst hv
  have hx:=hx.bool
  have hy:=hy.bool
  refine ⟨_,?_,VR.bool _⟩
  cases hu:Pr.underlying t with
  | none=>simp [hu] at h3
  | some dt=>
   cases dt<;>simp only [hu,Bool.false_eq_true] at h3
   cases neg<;>cases bo<;>simp at h0
   ·simp [execOp,hx,hy,eqGuard,binOp,Op.equal,Op.maxDepth,run_equalIn_bool' w 9999 t p q hu]
   ·simp [execOp,hx,hy,eqGuard,binOp,Op.equal,Op.maxDepth,run_equalIn_bool' w 9999 t p q hu]
 case isnil neg d=>
  cases op<;>simp only [chkPure,Bool.false_eq_true,Bool.and_eq_true,Bool.or_eq_true] at hc
  rename_i bo t x y yt
  obtain ⟨⟨h0,h1⟩,h2⟩:=hc
  unfold isSlice at h1
  cases hu:Pr.underlying t with
  | none=>simp [hu] at h1
  | some dt=>
   cases dt<;>simp only [hu,Bool.false_eq_true] at h1
   cases hn:nilV (ev d e) with
   | none=>simp [hn] at hv
   | some b=>
    simp only [hn,Option.map_some,Option.some.injEq] at hv;subst hv
    have key:∀ z,chkOpd d z=true→∃ a n c,ρ z=.slice a n c∧b=a.isNone:=by
     intro z hz
     have hx:=hr _ _ hz
     cases hd:ev d e<;>simp only [hd,nilV,reduceCtorEq,Option.some.injEq] at hn hx
     ·subst hn;exact ⟨none,0,0,hx.nils,rfl⟩
     ·subst hn;obtain ⟨a,cap,hx,_⟩:=hx.sl;exact ⟨some a,_,cap,hx,rfl⟩
    refine ⟨.bool (neg != b),?_,VR.bool _⟩
    have nilc:∀ z,isNilC z=true→∃ l2 c2,ρ z=.slice none l2 c2∧z=.const (.slice none l2 c2):=by
     intro z hz
     cases z<;>try (simp [isNilC] at hz;done)
     rename_i cv
     cases cv<;>try (simp [isNilC] at hz;done)
     rename_i a2 l2 c2
     cases a2<;>simp only [isNilC,Bool.false_eq_true] at hz
     exact ⟨l2,c2,hk _,rfl⟩
    rcases h2 with ⟨h2,h3⟩|⟨h2,h3⟩
    ·obtain ⟨a,n,c,hx,hb⟩:=key _ h3
     obtain ⟨l2,c2,hy,_⟩:=nilc _ h2
     subst hb
     cases neg<;>cases bo<;>simp at h0<;>simp [execOp,hx,hy,eqGuard,binOp,Op.equal,Op.maxDepth,run_eqL w 9999 t _ hu]
    ·obtain ⟨a,n,c,hx,hb⟩:=key _ h3
     obtain ⟨l2,c2,hy,_⟩:=nilc _ h2
     subst hb
     cases neg<;>cases bo<;>simp at h0<;>simp [execOp,hx,hy,eqGuard,binOp,Op.equal,Op.maxDepth,run_eqR w 9999 t _ hu]
 case sla sz d lo hi mx=>
  cases op<;>simp only [chkPure,Bool.false_eq_true,Bool.and_eq_true] at hc
  rename_i t x xl xh xm
  obtain ⟨⟨⟨⟨⟨h1,h2⟩,h3⟩,h4⟩,h5⟩,h6⟩:=hc
  have hx:=hr _ _ h1
  unfold sliceIs at h5
  cases hu:Pr.underlying t with
  | none=>simp [hu] at h5
  | some dt=>
   cases dt<;>simp only [hu,Bool.false_eq_true,Bool.and_eq_true] at h5
   rename_i el
   obtain ⟨it,hit,hsz⟩:=sizeIs_spec h5.1
   have hs:(sizeOf el).run Pr w=.ok sz w:=by simp [sizeOf,typeInfo,hit,hsz]
   cases hd:ev d e<;>simp only [hd,slaV,reduceCtorEq] at hv hx
   case nils=>
    cases hb1:bdV hi 0 e 0 with
    | none=>simp [hb1] at hv
    | some h'=>
     cases hb2:bdV lo 0 e 0 with
     | none=>simp [hb1,hb2] at hv
     | some l'=>
      cases hb3:bdV mx 0 e 0 with
      | none=>simp [hb1,hb2,hb3] at hv
      | some m'=>
       simp only [hb1,hb2,hb3,Option.some.injEq] at hv;subst hv
       refine ⟨.slice none 0 0,?_,VR.nils⟩
       have hx:=hx.nils
       have b1:=bd_told hr h3 hb1
       have b2:=bd_told hr h2 hb2
       have e1:h'=0:=by have:=b1.le;omega
       have e2:l'=0:=by have:=b2.le;omega
       subst e1;subst e2
       have bounds:(Instr.sliceBounds true 0 0 (xl.map ρ) (xh.map ρ) (xm.map ρ)).run Pr w=.ok (0,0,0) w:=by
        have b3:=bd_told hr h4 hb3
        have e3:m'=0:=by have:=b3.le;omega
        subst e3
        cases hxm:xm with
        | none=>exact run_bounds_none w b1 b2
        | some xm'=>
         rw [hxm] at h4 b3
         have hmi:mx.isNone=false:=by cases mx<;>simp [chkOO] at h4 ⊢
         have hhi:hi.isSome=true:=by simpa [hmi] using h6
         have hxh:xh≠none:=by intro h;rw [h] at h3;cases hi<;>simp [chkOO] at h3 hhi
         exact run_bounds_some w (by simp) (by simpa using hxh) b3 b1 b2
       simp only [execOp,Instr.sliceAt,Sem.run_bind,run_underlying hu,Result.andThen_ok,hx,Instr.slice,bounds,hs,Sem.run_pure]
       rfl
   case sl b o n cp s=>
    have hx':VR j (.sl b o n cp s) (ρ x):=hx
    obtain ⟨a,cap,hxe,hcap⟩:=XD.sl hx
    rw [hxe] at hx'
    have hcl:=capOf_le hcap
    by_cases hss:s=sz
    case neg=>rw [if_neg hss] at hv;cases hv
    rw [if_pos hss] at hv
    subst hss
    have fin:∀ l hh m cp',(Instr.sliceBounds true n cap (xl.map ρ) (xh.map ρ) (xm.map ρ)).run Pr w=.ok (l,hh,m) w→VR j (.sl b (o+l*s) (hh-l) cp' s) (.slice (some (if m=l then a else a.add (l*s))) (hh-l) (m-l))→
     ∃ v',(execOp ρ { dst:=dst,op:=.slice t x xl xh xm,type:=ty,pos:=pos,after:=after,guard:=guard }).run Pr w=.ok (.value v') w∧XD j pv (.sl b (o+l*s) (hh-l) cp' s) v':=by
     intro l hh m cp' hb hvr
     refine ⟨_,?_,hvr⟩
     simp only [execOp,Instr.sliceAt,Sem.run_bind,run_underlying hu,Result.andThen_ok,hxe,Instr.slice,hb,hs,Sem.run_pure]
     by_cases hm:m=l
     ·simp [hm]
     ·simp [hm]
    cases mx with
    | none=>
     have hxm:xm=none:=by cases xm<;>simp [chkOO] at h4 ⊢
     subst hxm
     simp only [] at hv
     cases hb1:bdV hi n e (capOf cp n) with
     | none=>simp [hb1] at hv
     | some hh=>
      simp only [hb1] at hv
      cases hb2:bdV lo 0 e hh with
      | none=>simp [hb2] at hv
      | some l=>
       simp only [hb2,Option.some.injEq] at hv;subst hv
       have b1:=bd_told hr h3 hb1
       have b2:=bd_told hr h2 hb2
       have hle:l≤hh:=by have:=b2.le;omega
       have hhn:hh≤capOf cp n:=by
        have:=b1.le
        have:n≤capOf cp n:=by cases cp with|none=>exact Nat.le_refl _|some c=>have:=hcap.1;have h2:=hcap.2 c rfl;show n≤c;omega
        omega
       refine fin l hh cap _ (run_bounds_none w (b1.wide hcl) b2) (slice_rel hx' hle (by omega) (Nat.le_refl _) hhn ?_)
       intro c hc
       cases cp with
       | none=>simp at hc
       | some c0=>
        simp only [Option.some.injEq] at hc
        have:=hcap.2 c0 rfl
        exact ⟨by omega,fun hp=>by show 0<c0;omega⟩
    | some mo=>
     cases hxm:xm with
     | none=>rw [hxm] at h4;simp [chkOO] at h4
     | some xm'=>
     simp only [] at hv
     cases hb0:bdV (some mo) 0 e (capOf cp n) with
     | none=>simp [hb0] at hv
     | some m=>
      simp only [hb0] at hv
      cases hb1:bdV hi n e m with
      | none=>simp [hb1] at hv
      | some hh=>
       simp only [hb1] at hv
       by_cases hm:hh≤m
       case neg=>rw [if_neg hm] at hv;cases hv
       rw [if_pos hm] at hv
       cases hb2:bdV lo 0 e hh with
       | none=>simp [hb2] at hv
       | some l=>
        simp only [hb2,Option.some.injEq] at hv;subst hv
        have b0:=bd_told hr h4 hb0
        have b1:=bd_told hr h3 hb1
        have b2:=bd_told hr h2 hb2
        have hle:l≤hh:=by have:=b2.le;omega
        have hmc:m≤capOf cp n:=by have:=b0.le;omega
        have hhi:hi.isSome=true:=by simpa using h6
        have hxh:xh≠none:=by intro h;rw [h] at h3;cases hi<;>simp [chkOO] at h3 hhi
        have b1':Told (xh.map ρ) n m hh:=by
         rcases b1 with ⟨h,_⟩|h
         ·exact absurd (by simpa using h) hxh
         ·exact .inr h
        rw [hxm] at b0
        rw [←hxm]
        refine fin l hh m _ (by rw [hxm];exact run_bounds_some w (by simp) (by simpa using hxh) (b0.wide hcl) b1' b2) (slice_rel hx' hle hm (by omega) (by omega) ?_)
        intro c hc
        simp only [Option.some.injEq] at hc
        exact ⟨by omega,fun hp=>by omega⟩
theorem cell_heap {w w':World} {b:Nat} (h:w'.heap[b]?=w.heap[b]?) (i:Nat):w'.cell? ⟨b,i,none⟩=w.cell? ⟨b,i,none⟩:=by unfold World.cell?;simp only [h]
theorem frozen_heap {w w':World} {b:Nat} (h:w'.heap[b]?=w.heap[b]?) (i:Nat):w'.frozen? ⟨b,i,none⟩=w.frozen? ⟨b,i,none⟩:=by unfold World.frozen?;simp only [h]
theorem Lies.of_heap {w w':World} {b s c:Nat} (h:Lies w b s c) (hs:w.heap.size≤w'.heap.size) (hb:w'.heap[b]?=w.heap[b]?):Lies w' b s c:=
 ⟨by have:=h.lt;omega,fun i hi=>by rw [cell_heap hb];exact h.cell i hi,fun i h1 h2=>by rw [frozen_heap hb];exact h.free i h1 h2⟩
theorem HR.of_heap {j j':J} {h h':Hp} {w w':World} {k:P} {i:Img} (hj:Ext j j') (hh:Tr.get? k h'=Tr.get? k h) (hs:w.heap.size≤w'.heap.size)
 (hb:∀ b,(∃ s c,i=.at b s c)∨(∃ s,i=.ro b s)→w'.heap[b]?=w.heap[b]?) (H:HR j h w k i):HR j' h' w' k i:=by
 cases i with
 | dead=>exact hh.trans H
 | «at» b s c=>
  obtain ⟨hl,l,hg,hle,hc⟩:=H
  have hb:=hb b (.inl ⟨s,c,rfl⟩)
  exact ⟨hl.of_heap hs hb,l,hh.trans hg,hle,(hc.mono hj).of_heap hb⟩
 | ro b s=>
  obtain ⟨l,hg,hlt,hc⟩:=H
  have hb:=hb b (.inr ⟨s,rfl⟩)
  exact ⟨l,hh.trans hg,by omega,(hc.mono hj).of_heap hb⟩
theorem ER.of_heap {j j':J} {pv:P→Option Nat} {w w':World} {tm:Array Value} {p:P} {v:DV} (hj:Ext j j') (hs:w.heap.size≤w'.heap.size) (hb:∀ b,pv p=some b→w'.heap[b]?=w.heap[b]?) (H:ER j pv w tm p v):ER j' pv w' tm p v:=by
 cases v<;>try exact VR.mono hj H
 case var l=>
  obtain ⟨b,h1,h2,h3,h4⟩:=H
  exact ⟨b,h1,h2,h3.of_heap hs (hb b h1),(h4.mono hj).of_heap (hb b h1)⟩
 case fld q o=>exact H
open Classical in
def J.put (j:J) (k:P) (i:Img):J:=fun q=>if q=k then some i else j q
theorem J.put_self (j:J) (k:P) (i:Img):j.put k i k=some i:=if_pos rfl
theorem J.put_ne (j:J) {k q:P} (h:q≠k) (i:Img):j.put k i q=j q:=if_neg h
theorem Ext.put_new {j:J} {k:P} (h:j k=none) (i:Img):Ext j (j.put k i):=fun q x hq=>.inl (by rw [J.put_ne j (by intro e;rw [e,h] at hq;cases hq)];exact hq)
theorem Ext.put_dead {j:J} {k:P}:Ext j (j.put k .dead):=fun q x hq=>by
 by_cases h:q=k
 ·subst h;exact .inr (J.put_self _ _ _)
 ·exact .inl (by rw [J.put_ne j h];exact hq)
section
variable {L:P→Prop} {N hi:Nat} {j:J} {pv:P→Option Nat} {e:Env} {nx:P} {h:Hp} {a:Act} {w:World}
theorem Rel.key_none (R:Rel L N hi j pv e nx h a w) (hn:nx.n<hi):j nx=none:=by
 cases hj:j nx with
 | none=>rfl
 | some i=>rcases R.fresh nx i hj with h|h<;>omega
theorem Rel.alloc (R:Rel L N hi j pv e nx h a w) (hn:nx.n<hi) {l:List DV} {cs:Array Value} {t:Nat} (hl:VRs j l (cs.toList.take l.length)) (hle:l.length≤cs.size):
 Rel L N hi (j.put nx (.at w.heap.size 0 cs.size)) pv e nx.suc (Tr.set nx h (some (.cells l))) a (w.alloc (.cells cs t))∧
 Fr hi nx.n j pv w (j.put nx (.at w.heap.size 0 cs.size)) pv (w.alloc (.cells cs t)):=by
 have hnone:=R.key_none hn
 have hext:=Ext.put_new hnone (.at w.heap.size 0 cs.size)
 have hsz:(w.alloc (.cells cs t)).heap.size=w.heap.size+1:=by show (w.heap.push _).size=_;simp
 have hold:∀ x,x<w.heap.size→(w.alloc (.cells cs t)).heap[x]?=w.heap[x]?:=fun x hx=>by show (w.heap.push _)[x]?=_;simp [Array.getElem?_push,Nat.ne_of_lt hx]
 refine ⟨?_,?_⟩
 ·constructor
  ·intro k i hk
   rw [P.n_suc]
   by_cases h1:k=nx
   ·subst h1;exact .inl (by omega)
   ·rw [J.put_ne j h1] at hk
    rcases R.fresh k i hk with h|h
    ·exact .inl (by omega)
    ·exact .inr h
  ·intro k i hk hlt
   by_cases h1:k=nx
   ·subst h1
    rw [J.put_self] at hk
    cases hk
    refine ⟨⟨by omega,fun i hi=>?_,fun i _ hi=>?_⟩,l,Tr.get_set_self _ _ _,by omega,?_⟩
    ·rw [World.cell?_alloc_new];simp [hi]
    ·simp
    ·intro i v hv
     obtain ⟨v',hv',hr,h1⟩:=hl.get i v hv
     refine ⟨v',?_,hr.mono hext,h1⟩
     rw [List.getElem?_take] at hv'
     have hi:i<l.length:=(List.getElem?_eq_some_iff.1 hv).1
     rw [if_pos hi] at hv'
     rw [Nat.zero_add,World.cell?_alloc_new]
     simpa using hv'
   ·rw [J.put_ne j h1] at hk
    have hlt':k.n<nx.n:=by
     rw [P.n_suc] at hlt
     have:k.n≠nx.n:=fun h=>h1 (P.n_inj h)
     omega
    refine HR.of_heap hext (Tr.get_set_ne h1 _ _) (by omega) ?_ (R.heap k i hk hlt')
    intro b hb
    rcases hb with ⟨s,c,rfl⟩|⟨s,rfl⟩
    ·exact hold b (R.lt k b s c hk)
    ·exact hold b (R.lr k b s hk)
  ·intro k k' b s c s' c' hk hk'
   by_cases h1:k=nx<;>by_cases h2:k'=nx
   ·rw [h1,h2]
   ·subst h1;rw [J.put_self] at hk;rw [J.put_ne j h2] at hk';cases hk;have:=R.lt _ _ _ _ hk';omega
   ·subst h2;rw [J.put_self] at hk';rw [J.put_ne j h1] at hk;cases hk';have:=R.lt _ _ _ _ hk;omega
   ·rw [J.put_ne j h1] at hk;rw [J.put_ne j h2] at hk';exact R.inj _ _ _ _ _ _ _ hk hk'
  ·intro k k' b s c s' hk hk'
   by_cases h2:k'=nx
   ·subst h2;rw [J.put_self] at hk';cases hk'
   ·rw [J.put_ne j h2] at hk'
    by_cases h1:k=nx
    ·subst h1;rw [J.put_self] at hk;cases hk;have:=R.lr _ _ _ hk';omega
    ·rw [J.put_ne j h1] at hk;exact R.inr _ _ _ _ _ _ hk hk'
  ·intro p v hv
   refine ER.of_heap hext (by omega) ?_ (R.env p v hv)
   intro b hb
   obtain ⟨l,hl⟩:=R.pvv p b hb
   obtain ⟨b',hb',_,hlies,_⟩:=R.env p _ hl
   rw [hb] at hb';cases hb'
   exact hold b hlies.lt
  ·exact R.pvv
  ·exact R.pin
  ·intro p b hb k s c hk
   by_cases h1:k=nx
   ·subst h1;rw [J.put_self] at hk;cases hk
    obtain ⟨l,hl⟩:=R.pvv p _ hb
    obtain ⟨b',hb',_,hlies,_⟩:=R.env p _ hl
    rw [hb] at hb';cases hb'
    have:=hlies.lt;omega
   ·rw [J.put_ne j h1] at hk;exact R.pfr p b hb k s c hk
  ·intro p b hb k s hk
   by_cases h1:k=nx
   ·subst h1;rw [J.put_self] at hk;cases hk
   ·rw [J.put_ne j h1] at hk;exact R.pfo p b hb k s hk
  ·exact R.loc
  ·exact R.size
  ·intro k b s c hk
   by_cases h1:k=nx
   ·subst h1;rw [J.put_self] at hk;cases hk;omega
   ·rw [J.put_ne j h1] at hk;have:=R.lt k b s c hk;omega
  ·intro k b s hk
   by_cases h1:k=nx
   ·subst h1;rw [J.put_self] at hk;cases hk
   ·rw [J.put_ne j h1] at hk;have:=R.lr k b s hk;omega
  ·intro k hk
   rw [P.n_suc] at hk
   rw [Tr.get_set_ne (by rintro rfl;omega)]
   exact R.top k (by omega)
 ·constructor
  ·omega
  ·rfl
  ·rfl
  ·intro x hx _ _;exact hold x hx
  ·exact hext
  ·intro k hk;exact J.put_ne j (by intro h;rw [h] at hk;omega) _
  ·intro k hk hk'
   by_cases h1:k=nx
   ·rw [h1];exact Nat.le_refl _
   ·rw [J.put_ne j h1] at hk';exact absurd hk hk'
  ·intro k x s c hk hlt
   by_cases h1:k=nx
   ·subst h1;rw [J.put_self] at hk;cases hk;exact .inr (Nat.le_refl _)
   ·rw [J.put_ne j h1] at hk;exact .inl ⟨k,s,c,hk,hlt⟩
  ·intro k x s hk
   by_cases h1:k=nx
   ·subst h1;rw [J.put_self] at hk;cases hk
   ·rw [J.put_ne j h1] at hk;exact hk
  ·intro p x hx;exact .inl hx
  ·intro ad _;exact RowKit.frozen?_alloc_cells _ _ _ _
end
theorem setCell_size (w:World) (a:Addr) (v:Value):(w.setCell a v).heap.size=w.heap.size:=by unfold World.setCell;simp
theorem setCell_other (w:World) (a:Addr) (v:Value) {x:Nat} (h:x≠a.block):(w.setCell a v).heap[x]?=w.heap[x]?:=by unfold World.setCell;simp [Array.getElem?_modify,Ne.symm h]
theorem setCells_size (b:Nat):∀ (vs:List Value) (o:Nat) (w:World),(w.setCells b o vs).heap.size=w.heap.size
 | [],_,_=>rfl
 | v::r,o,w=>by rw [World.setCells,setCells_size b r,setCell_size]
theorem setCells_other (b:Nat):∀ (vs:List Value) (o:Nat) (w:World) {x:Nat},x≠b→(w.setCells b o vs).heap[x]?=w.heap[x]?
 | [],_,_,_,_=>rfl
 | v::r,o,w,x,h=>by rw [World.setCells,setCells_other b r _ _ h,setCell_other _ _ _ h]
theorem setCells_os (b:Nat):∀ (vs:List Value) (o:Nat) (w:World),(w.setCells b o vs).os=w.os∧(w.setCells b o vs).output=w.output
 | [],_,_=>⟨rfl,rfl⟩
 | v::r,o,w=>by rw [World.setCells];exact setCells_os b r _ _
theorem setCells_some (b:Nat):∀ (vs:List Value) (o:Nat) (w:World) (x:Addr),((w.setCells b o vs).cell? x).isSome=(w.cell? x).isSome
 | [],_,_,_=>rfl
 | v::r,o,w,x=>by
  rw [World.setCells,setCells_some b r]
  by_cases h:(⟨b,o,none⟩:Addr)=x
  ·subst h
   cases hc:w.cell? ⟨b,o,none⟩ with
   | some u=>rw [World.cell?_setCell_same _ _ _ hc];rfl
   | none=>
    cases h2:(w.setCell ⟨b,o,none⟩ v).cell? ⟨b,o,none⟩ with
    | none=>rfl
    | some u=>
     exfalso
     unfold World.cell? at hc h2
     unfold World.setCell at h2
     simp only [Array.getElem?_modify] at h2
     cases hb:w.heap[b]? with
     | none=>simp [hb] at h2
     | some ob=>cases ob<;>simp_all
  ·rw [World.cell?_setCell_other _ _ _ _ h]
theorem Lies.setCells {w:World} {b s c:Nat} (h:Lies w b s c) (b' o:Nat) (vs:List Value):Lies (w.setCells b' o vs) b s c:=
 ⟨by rw [setCells_size];exact h.lt,fun i hi=>by rw [setCells_some];exact h.cell i hi,fun i h1 h2=>by rw [World.frozen?_setCells];exact h.free i h1 h2⟩
theorem CellsAt.store {j:J} {w:World} {b s:Nat} {l cl:List DV} {vs:List Value} {o:Nat} (h:CellsAt j w b s l) (hv:VRs j cl vs) (ho:o+cl.length≤l.length)
 (hc:∀ i,i<l.length→(w.cell? ⟨b,s+i,none⟩).isSome=true):CellsAt j (w.setCells b (s+o) vs) b s (l.take o++cl++l.drop (o+cl.length)):=by
 intro i v hi
 have hlen:=hv.length
 by_cases h1:i<o
 ·rw [List.getElem?_append_left (by simp;omega),List.getElem?_append_left (by simp;omega),List.getElem?_take,if_pos h1] at hi
  obtain ⟨v',a,r⟩:=h i v hi
  exact ⟨v',by rw [World.cell?_setCells_out];exact a;intro _ _;left;show s+i<s+o;omega,r⟩
 ·by_cases h2:i<o+cl.length
  ·rw [List.getElem?_append_left (by simp;omega),List.getElem?_append_right (by simp;omega)] at hi
   simp only [List.length_take,show min o l.length=o by omega] at hi
   obtain ⟨v',a,r⟩:=hv.get _ v hi
   have hlt:i-o<vs.length:=(List.getElem?_eq_some_iff.1 a).1
   refine ⟨v',?_,r⟩
   have:=World.cell?_setCells_in b vs (s+o) w (fun q hq=>by rw [show s+o+q=s+(o+q) by omega];exact hc _ (by omega)) (i-o) hlt
   rw [show s+i=s+o+(i-o) by omega,this,←a,List.getElem?_eq_getElem hlt]
  ·rw [List.getElem?_append_right (by simp;omega)] at hi
   simp only [List.length_append,List.length_take,show min o l.length=o by omega,List.getElem?_drop] at hi
   rw [show o+cl.length+(i-(o+cl.length))=i by omega] at hi
   obtain ⟨v',a,r⟩:=h i v hi
   exact ⟨v',by rw [World.cell?_setCells_out];exact a;intro _ _;right;show s+o+vs.length≤s+i;omega,r⟩
section
variable {L:P→Prop} {N hi:Nat} {j:J} {pv:P→Option Nat} {e:Env} {nx:P} {h:Hp} {a:Act} {w:World}
theorem Rel.at_store (R:Rel L N hi j pv e nx h a w) (hnh:nx.n≤hi) {k:P} {b s c:Nat} (hk:j k=some (.at b s c)) (hlt:k.n<nx.n) {l cl:List DV} {vs:List Value} {o:Nat}
 (hg:Tr.get? k h=some (.cells l)) (hv:VRs j cl vs) (ho:o+cl.length≤l.length):
 Rel L N hi j pv e nx (Tr.set k h (some (.cells (l.take o++cl++l.drop (o+cl.length))))) a (w.setCells b (s+o) vs)∧Fr hi nx.n j pv w j pv (w.setCells b (s+o) vs):=by
 have H:HR j h w k (.at b s c):=R.heap k _ hk hlt
 obtain ⟨hlies,l',hg',hle,hcells⟩:=H
 rw [hg] at hg';cases hg'
 have hne:∀ x,x≠b→(w.setCells b (s+o) vs).heap[x]?=w.heap[x]?:=fun x hx=>setCells_other b vs _ w hx
 have hsz:=setCells_size b vs (s+o) w
 refine ⟨?_,?_⟩
 ·constructor
  ·exact R.fresh
  ·intro k' i hk' hlt'
   by_cases h1:k'=k
   ·subst h1
    rw [hk] at hk';cases hk'
    refine ⟨hlies.setCells _ _ _,_,Tr.get_set_self _ _ _,?_,hcells.store hv ho ?_⟩
    ·simp;omega
    ·intro i hi';exact hlies.cell _ (by omega)
   ·refine HR.of_heap (Ext.refl j) (Tr.get_set_ne h1 _ _) (by omega) ?_ (R.heap k' i hk' hlt')
    intro x hx
    refine hne x ?_
    rintro rfl
    rcases hx with ⟨s',c',rfl⟩|⟨s',rfl⟩
    ·exact h1 (R.inj _ _ _ _ _ _ _ hk' hk)
    ·exact R.inr _ _ _ _ _ _ hk hk'
  ·exact R.inj
  ·exact R.inr
  ·intro p v hpv
   refine ER.of_heap (Ext.refl j) (by omega) ?_ (R.env p v hpv)
   intro x hx
   exact hne x (by rintro rfl;exact R.pfr p _ hx _ _ _ hk)
  ·exact R.pvv
  ·exact R.pin
  ·exact R.pfr
  ·exact R.pfo
  ·exact R.loc
  ·exact R.size
  ·intro k' b' s' c' hk';rw [hsz];exact R.lt _ _ _ _ hk'
  ·intro k' b' s' hk';rw [hsz];exact R.lr _ _ _ hk'
  ·intro k' hk';rw [Tr.get_set_ne (by rintro rfl;omega)];exact R.top k' hk'
 ·constructor
  ·omega
  ·exact (setCells_os b vs _ w).1
  ·exact (setCells_os b vs _ w).2
  ·intro x hx hj hp
   refine hne x ?_
   rintro rfl
   have:=hj _ _ _ hk;omega
  ·exact Ext.refl j
  ·intro k' _;rfl
  ·intro k' h1 h2;exact absurd h1 h2
  ·intro k' x s' c' hk' hlt';exact .inl ⟨k',s',c',hk',hlt'⟩
  ·intro _ _ _ h;exact h
  ·intro p x hx;exact .inl hx
  ·intro ad _;exact World.frozen?_setCells _ _ _ _ _
theorem Rel.var_store (R:Rel L N hi j pv e nx h a w) {p:P} {b:Nat} (hp:pv p=some b) {l cl:List DV} {vs:List Value} {o:Nat}
 (hg:Tr.get? p e=some (.var l)) (hv:VRs j cl vs) (ho:o+cl.length≤l.length):
 Rel L N hi j pv (Tr.set p e (some (.var (l.take o++cl++l.drop (o+cl.length))))) nx h a (w.setCells b o vs)∧Fr hi nx.n j pv w j pv (w.setCells b o vs):=by
 obtain ⟨b',hb',htm,hlies,hcells⟩:=R.env p _ hg
 rw [hp] at hb';cases hb'
 have hne:∀ x,x≠b→(w.setCells b o vs).heap[x]?=w.heap[x]?:=fun x hx=>setCells_other b vs _ w hx
 have hsz:=setCells_size b vs o w
 refine ⟨?_,?_⟩
 ·constructor
  ·exact R.fresh
  ·intro k' i hk' hlt'
   refine HR.of_heap (Ext.refl j) rfl (by omega) ?_ (R.heap k' i hk' hlt')
   intro x hx
   refine hne x ?_
   rintro rfl
   rcases hx with ⟨s',c',rfl⟩|⟨s',rfl⟩
   ·exact R.pfr p _ hp _ _ _ hk'
   ·exact R.pfo p _ hp _ _ hk'
  ·exact R.inj
  ·exact R.inr
  ·intro q v hq
   by_cases h1:q=p
   ·subst h1
    rw [Tr.get_set_self] at hq;cases hq
    refine ⟨b,hp,htm,?_,?_⟩
    ·have:=hlies.setCells b o vs
     have hlen:(l.take o++cl++l.drop (o+cl.length)).length=l.length:=by simp;omega
     rw [hlen];exact this
    ·have:=hcells.store (s:=0) hv ho (fun i hi'=>by rw [Nat.zero_add];exact hlies.cell i hi')
     rwa [Nat.zero_add] at this
   ·rw [Tr.get_set_ne h1] at hq
    refine ER.of_heap (Ext.refl j) (by omega) ?_ (R.env q v hq)
    intro x hx
    exact hne x (by rintro rfl;exact h1 (R.pin _ _ _ hx hp))
  ·intro q x hx
   by_cases h1:q=p
   ·subst h1;exact ⟨_,Tr.get_set_self _ _ _⟩
   ·rw [Tr.get_set_ne h1];exact R.pvv q x hx
  ·exact R.pin
  ·exact R.pfr
  ·exact R.pfo
  ·intro q m hq
   by_cases h1:q=p
   ·subst h1;exact R.loc _ _ hg
   ·rw [Tr.get_set_ne h1] at hq;exact R.loc _ _ hq
  ·exact R.size
  ·intro k' b' s' c' hk';rw [hsz];exact R.lt _ _ _ _ hk'
  ·intro k' b' s' hk';rw [hsz];exact R.lr _ _ _ hk'
  ·exact R.top
 ·constructor
  ·omega
  ·exact (setCells_os b vs _ w).1
  ·exact (setCells_os b vs _ w).2
  ·intro x hx hj hpn
   refine hne x ?_
   rintro rfl
   exact hpn p hp
  ·exact Ext.refl j
  ·intro k' _;rfl
  ·intro k' h1 h2;exact absurd h1 h2
  ·intro k' x s' c' hk' hlt';exact .inl ⟨k',s',c',hk',hlt'⟩
  ·intro _ _ _ h;exact h
  ·intro p x hx;exact .inl hx
  ·intro ad _;exact World.frozen?_setCells _ _ _ _ _
theorem Rel.kill (R:Rel L N hi j pv e nx h a w) (hnh:nx.n≤hi) {k:P} (hlt:k.n<nx.n) (hns:j k≠none) (hro:∀ b s,j k≠some (.ro b s)):
 Rel L N hi (j.put k .dead) pv e nx (Tr.set k h (some .dead)) a w∧Fr hi nx.n j pv w (j.put k .dead) pv w:=by
 refine ⟨?_,?_⟩
 ·constructor
  ·intro k' i hk'
   by_cases h1:k'=k
   ·subst h1;exact .inl hlt
   ·rw [J.put_ne j h1] at hk';exact R.fresh _ _ hk'
  ·intro k' i hk' hlt'
   by_cases h1:k'=k
   ·subst h1;rw [J.put_self] at hk';cases hk';exact Tr.get_set_self _ _ _
   ·rw [J.put_ne j h1] at hk'
    exact HR.of_heap Ext.put_dead (Tr.get_set_ne h1 _ _) (Nat.le_refl _) (fun _ _=>rfl) (R.heap k' i hk' hlt')
  ·intro k1 k2 b s c s' c' h1 h2
   by_cases e1:k1=k
   ·subst e1;rw [J.put_self] at h1;cases h1
   ·by_cases e2:k2=k
    ·subst e2;rw [J.put_self] at h2;cases h2
    ·rw [J.put_ne j e1] at h1;rw [J.put_ne j e2] at h2;exact R.inj _ _ _ _ _ _ _ h1 h2
  ·intro k1 k2 b s c s' h1 h2
   by_cases e1:k1=k
   ·subst e1;rw [J.put_self] at h1;cases h1
   ·by_cases e2:k2=k
    ·subst e2;rw [J.put_self] at h2;cases h2
    ·rw [J.put_ne j e1] at h1;rw [J.put_ne j e2] at h2;exact R.inr _ _ _ _ _ _ h1 h2
  ·intro p v hv;exact ER.of_heap Ext.put_dead (Nat.le_refl _) (fun _ _=>rfl) (R.env p v hv)
  ·exact R.pvv
  ·exact R.pin
  ·intro p b hb k' s c hk'
   by_cases h1:k'=k
   ·subst h1;rw [J.put_self] at hk';cases hk'
   ·rw [J.put_ne j h1] at hk';exact R.pfr p b hb _ _ _ hk'
  ·intro p b hb k' s hk'
   by_cases h1:k'=k
   ·subst h1;rw [J.put_self] at hk';cases hk'
   ·rw [J.put_ne j h1] at hk';exact R.pfo p b hb _ _ hk'
  ·exact R.loc
  ·exact R.size
  ·intro k' b s c hk'
   by_cases h1:k'=k
   ·subst h1;rw [J.put_self] at hk';cases hk'
   ·rw [J.put_ne j h1] at hk';exact R.lt _ _ _ _ hk'
  ·intro k' b s hk'
   by_cases h1:k'=k
   ·subst h1;rw [J.put_self] at hk';cases hk'
   ·rw [J.put_ne j h1] at hk';exact R.lr _ _ _ hk'
  ·intro k' hk';rw [Tr.get_set_ne (by rintro rfl;omega)];exact R.top k' hk'
 ·constructor
  ·exact Nat.le_refl _
  ·rfl
  ·rfl
  ·intro _ _ _ _;rfl
  ·exact Ext.put_dead
  ·intro k' hk';exact J.put_ne j (by rintro rfl;omega) _
  ·intro k' h1 h2
   by_cases e1:k'=k
   ·subst e1;exact absurd h1 hns
   ·rw [J.put_ne j e1] at h2;exact absurd h1 h2
  ·intro k' x s c hk' hl
   by_cases e1:k'=k
   ·subst e1;rw [J.put_self] at hk';cases hk'
   ·rw [J.put_ne j e1] at hk';exact .inl ⟨k',s,c,hk',hl⟩
  ·intro k' x s hk'
   by_cases e1:k'=k
   ·subst e1;rw [J.put_self] at hk';cases hk'
   ·rw [J.put_ne j e1] at hk';exact hk'
  ·intro p x hx;exact .inl hx
  ·intro ad _;rfl
theorem put_getD (a:Act) (d:Nat) (v:Value) (x:Nat):(a.put (some d) v).tmps.getD x undef=if d=x∧x<a.tmps.size then v else a.tmps.getD x undef:=by
 show (a.tmps.setIfInBounds d v).getD x undef=_
 simp only [Array.getD_eq_getD_getElem?,Array.getElem?_setIfInBounds]
 by_cases h:d=x
 ·subst h
  by_cases h2:d<a.tmps.size
  ·simp [h2]
  ·simp [h2]
 ·simp [h]
theorem XD.tmps {pv:P→Option Nat} {v:DV} {v':Value} (h:XD j pv v v') {w:World} {tm:Array Value} {p:P} (ht:tm.getD p.n undef=v'):ER j pv w tm p v:=by
 cases v<;>first|exact h.elim|(simp only [ER];rw [ht];exact h)
theorem Rel.put (R:Rel L N hi j pv e nx h a w) {d:P} (hd:¬ L d) (hN:d.n<N) {v:DV} {v':Value} (hv:XD j pv v v'):
 Rel L N hi j pv (Tr.set d e (some v)) nx h (a.put (some d.n) v') w:=by
 have hnv:∀ l,Tr.get? d e≠some (.var l):=fun l hl=>hd (R.loc d l hl)
 have hpd:pv d=none:=by
  cases hp:pv d with
  | none=>rfl
  | some b=>obtain ⟨l,hl⟩:=R.pvv d b hp;exact absurd hl (hnv l)
 constructor
 ·exact R.fresh
 ·exact R.heap
 ·exact R.inj
 ·exact R.inr
 ·intro p u hu
  by_cases h1:p=d
  ·subst h1
   rw [Tr.get_set_self] at hu;cases hu
   exact hv.tmps (by rw [put_getD,if_pos ⟨rfl,by rw [R.size];exact hN⟩])
  ·rw [Tr.get_set_ne h1] at hu
   have hr:=R.env p u hu
   have ht:(a.put (some d.n) v').tmps.getD p.n undef=a.tmps.getD p.n undef:=by rw [put_getD,if_neg (fun h=>h1 (P.n_inj h.1.symm))]
   cases u<;>(simp only [ER] at hr ⊢;rw [ht];exact hr)
 ·intro p b hp
  rw [Tr.get_set_ne (by rintro rfl;rw [hpd] at hp;cases hp)]
  exact R.pvv p b hp
 ·exact R.pin
 ·exact R.pfr
 ·exact R.pfo
 ·intro p l hl
  by_cases h1:p=d
  ·subst h1;rw [Tr.get_set_self] at hl;cases hl;exact hv.elim
  ·rw [Tr.get_set_ne h1] at hl;exact R.loc p l hl
 ·show (a.tmps.setIfInBounds _ _).size=N;rw [Array.size_setIfInBounds];exact R.size
 ·exact R.lt
 ·exact R.lr
 ·exact R.top
open Classical in
def pvPut (pv:P→Option Nat) (d:P) (b:Nat):P→Option Nat:=fun q=>if q=d then some b else pv q
theorem Rel.var_new (R:Rel L N hi j pv e nx h a w) {d:P} (hd:L d) (hN:d.n<N) (hnv:¬ isVar d e) {l:List DV} {cs:Array Value} {t:Nat} (hl:VRs j l cs.toList):
 Rel L N hi j (pvPut pv d w.heap.size) (Tr.set d e (some (.var l))) nx h (a.put (some d.n) (.pointer (some ⟨w.heap.size,0,none⟩))) (w.alloc (.cells cs t))∧
 Fr hi nx.n j pv w j (pvPut pv d w.heap.size) (w.alloc (.cells cs t)):=by
 have hpd:pv d=none:=by
  cases hp:pv d with
  | none=>rfl
  | some b=>obtain ⟨l,hl⟩:=R.pvv d b hp;exact absurd ⟨l,hl⟩ hnv
 have hsz:(w.alloc (.cells cs t)).heap.size=w.heap.size+1:=by show (w.heap.push _).size=_;simp
 have hold:∀ x,x<w.heap.size→(w.alloc (.cells cs t)).heap[x]?=w.heap[x]?:=fun x hx=>by show (w.heap.push _)[x]?=_;simp [Array.getElem?_push,Nat.ne_of_lt hx]
 have hpvlt:∀ p b,pv p=some b→b<w.heap.size:=fun p b hp=>by
  obtain ⟨l,hl⟩:=R.pvv p b hp
  obtain ⟨b',hb',_,hlies,_⟩:=R.env p _ hl
  rw [hp] at hb';cases hb';exact hlies.lt
 have hself:pvPut pv d w.heap.size d=some w.heap.size:=if_pos rfl
 have hother:∀ q,q≠d→pvPut pv d w.heap.size q=pv q:=fun q hq=>if_neg hq
 have hlen:=hl.length
 refine ⟨?_,?_⟩
 ·constructor
  ·exact R.fresh
  ·intro k i hk hlt
   refine HR.of_heap (Ext.refl j) rfl (by omega) ?_ (R.heap k i hk hlt)
   intro b hb
   rcases hb with ⟨s,c,rfl⟩|⟨s,rfl⟩
   ·exact hold b (R.lt _ _ _ _ hk)
   ·exact hold b (R.lr _ _ _ hk)
  ·exact R.inj
  ·exact R.inr
  ·intro p u hu
   by_cases h1:p=d
   ·subst h1
    rw [Tr.get_set_self] at hu;cases hu
    refine ⟨w.heap.size,hself,by rw [put_getD,if_pos ⟨rfl,by rw [R.size];exact hN⟩],⟨by omega,fun i hi=>?_,fun i _ _=>by simp⟩,?_⟩
    ·rw [World.cell?_alloc_new];simp only [Array.length_toList] at hlen;simp;omega
    ·intro i v hv
     obtain ⟨v',hv',hr⟩:=hl.get i v hv
     exact ⟨v',by rw [Nat.zero_add,World.cell?_alloc_new];simpa using hv',hr⟩
   ·rw [Tr.get_set_ne h1] at hu
    have hr:=R.env p u hu
    have ht:(a.put (some d.n) (.pointer (some ⟨w.heap.size,0,none⟩))).tmps.getD p.n undef=a.tmps.getD p.n undef:=by rw [put_getD,if_neg (fun h=>h1 (P.n_inj h.1.symm))]
    have hr2:=ER.of_heap (w':=w.alloc (.cells cs t)) (Ext.refl j) (by omega) (fun b hb=>hold b (hpvlt p b hb)) hr
    cases u
    case var m=>obtain ⟨b,x1,x2,x3,x4⟩:=hr2;exact ⟨b,by rw [hother p h1];exact x1,by rw [ht];exact x2,x3,x4⟩
    case fld q o=>
     obtain ⟨b,x1,x2⟩:=hr2
     exact ⟨b,by rw [hother q (by rintro rfl;rw [hpd] at x1;cases x1)];exact x1,by rw [ht];exact x2⟩
    all_goals (simp only [ER,XD] at hr2 ⊢;rw [ht];exact hr2)
  ·intro p b hp
   by_cases h1:p=d
   ·subst h1;exact ⟨_,Tr.get_set_self _ _ _⟩
   ·rw [hother p h1] at hp;rw [Tr.get_set_ne h1];exact R.pvv p b hp
  ·intro p q b hp hq
   by_cases h1:p=d<;>by_cases h2:q=d
   ·rw [h1,h2]
   ·subst h1;rw [hself] at hp;rw [hother q h2] at hq;cases hp;have:=hpvlt q _ hq;omega
   ·subst h2;rw [hself] at hq;rw [hother p h1] at hp;cases hq;have:=hpvlt p _ hp;omega
   ·rw [hother p h1] at hp;rw [hother q h2] at hq;exact R.pin _ _ _ hp hq
  ·intro p b hp k s c hk
   by_cases h1:p=d
   ·subst h1;rw [hself] at hp;cases hp;have:=R.lt _ _ _ _ hk;omega
   ·rw [hother p h1] at hp;exact R.pfr p b hp k s c hk
  ·intro p b hp k s hk
   by_cases h1:p=d
   ·subst h1;rw [hself] at hp;cases hp;have:=R.lr _ _ _ hk;omega
   ·rw [hother p h1] at hp;exact R.pfo p b hp k s hk
  ·intro p m hm
   by_cases h1:p=d
   ·subst h1;exact hd
   ·rw [Tr.get_set_ne h1] at hm;exact R.loc p m hm
  ·show (a.tmps.setIfInBounds _ _).size=N;rw [Array.size_setIfInBounds];exact R.size
  ·intro k b s c hk;have:=R.lt _ _ _ _ hk;omega
  ·intro k b s hk;have:=R.lr _ _ _ hk;omega
  ·exact R.top
 ·constructor
  ·omega
  ·rfl
  ·rfl
  ·intro x hx _ _;exact hold x hx
  ·exact Ext.refl j
  ·intro _ _;rfl
  ·intro k h1 h2;exact absurd h1 h2
  ·intro k x s c hk hlt;exact .inl ⟨k,s,c,hk,hlt⟩
  ·intro _ _ _ h;exact h
  ·intro p x hx
   by_cases h1:p=d
   ·subst h1;rw [hself] at hx;cases hx;exact .inr (Nat.le_refl _)
   ·rw [hother p h1] at hx;exact .inl hx
  ·intro ad _;exact RowKit.frozen?_alloc_cells _ _ _ _
end
def MemOk (Pr:Program) (o:Oper) (e:Env) (nx:P) (h:Hp) (e':Env) (v:DV) (nx':P) (h':Hp):Prop:=
 ∀ (L:P→Prop) (N hi:Nat) (j:J) (pv:P→Option Nat) (a:Act) (w:World),Rel L N hi j pv e nx h a w→nx'.n≤hi→
  ∃ j' w' nxt v',(execOp a.eval o).run Pr w=.ok nxt w'∧(nxt=.value v'∨nxt=.skip∧v'=undef)∧Rel L N hi j' pv e' nx' h' a w'∧Fr hi nx.n j pv w j' pv w'∧XD j' pv v v'
theorem eval_const (a:Act) (v:Value):a.eval (.const v)=v:=rfl
theorem memOk_pure {Pr:Program} {i:Ins} {o:Oper} {e:Env} {v:DV} {nx:P} {h:Hp} (hv:pureDV i e=some v) (hc:chkPure Pr i o.op=true):MemOk Pr o e nx h e v nx h:=by
 intro L N hi j pv a w R _
 obtain ⟨v',hr,hx⟩:=pure_sim hv hc R.reads (eval_const a) w
 exact ⟨j,w,_,v',hr,.inl rfl,R,Fr.refl _ _ _ _ _,hx⟩
section
variable {L:P→Prop} {N hi:Nat} {j:J} {pv:P→Option Nat} {e:Env} {nx:P} {h:Hp} {a:Act} {w:World}
theorem Rel.look (R:Rel L N hi j pv e nx h a w) {v:DV} {v':Value} (hv:XD j pv v v') {l:List DV} {o:Nat} (hl:look v e h=some (l,o)):
 ∃ b s,v'=.pointer (some ⟨b,s+o,none⟩)∧CellsAt j w b s l:=by
 cases v<;>simp only [Dx.look,reduceCtorEq] at hl
 case ptr k o'=>
  have hlt:k.n<nx.n:=by
   rcases Nat.lt_or_ge k.n nx.n with h|h
   ·exact h
   ·rw [R.top k h] at hl;simp at hl
  cases (hv:VR j _ _) with
  | ptrA hk=>
   obtain ⟨_,l',hg,_,hc⟩:=R.heap k _ hk hlt
   simp only [hg,Option.some.injEq,Prod.mk.injEq] at hl
   obtain ⟨rfl,rfl⟩:=hl
   exact ⟨_,_,rfl,hc⟩
  | ptrO hk=>
   obtain ⟨l',hg,_,hc⟩:=R.heap k _ hk hlt
   simp only [hg,Option.some.injEq,Prod.mk.injEq] at hl
   obtain ⟨rfl,rfl⟩:=hl
   exact ⟨_,_,rfl,hc⟩
  | ptrD a hk=>
   have hg:Tr.get? k h=some .dead:=R.heap k _ hk hlt
   simp [hg] at hl
 case fld q o'=>
  obtain ⟨b,hb,hp⟩:=hv
  obtain ⟨m,hm⟩:=R.pvv q b hb
  simp only [hm,Option.some.injEq,Prod.mk.injEq] at hl
  obtain ⟨rfl,rfl⟩:=hl
  obtain ⟨b',hb',_,_,hc⟩:=R.env q _ hm
  rw [hb] at hb';cases hb'
  exact ⟨b,0,by rw [hp,Nat.zero_add],hc⟩
theorem run_loadAt_one {Pr:Program} {t:Nat} (ht:aggIs Pr t false=true) {b o:Nat} {v:Value} (hc:w.cell? ⟨b,o,none⟩=some v):
 (Instr.loadAt t (.pointer (some ⟨b,o,none⟩))).run Pr w=.ok v w:=by
 simp only [Instr.loadAt,Instr.sureAddr,Sem.run_bind,Sem.run_pure,Result.andThen_ok,loadVar,aggIs_spec ht]
 simp only [Bool.false_eq_true,if_false,run_load,hc]
theorem run_loadAt_many {Pr:Program} {t n:Nat} (ht:aggIs Pr t true=true) (hs:sizeIs Pr t n=true) {b o:Nat} {vs:List Value} (hn:vs.length=n)
 (hc:∀ i v,vs[i]?=some v→w.cell? ⟨b,o+i,none⟩=some v):(Instr.loadAt t (.pointer (some ⟨b,o,none⟩))).run Pr w=.ok (.agg vs.toArray) w:=by
 obtain ⟨i,hi,hsz⟩:=sizeIs_spec hs
 have hso:(sizeOf t).run Pr w=.ok n w:=by simp [sizeOf,typeInfo,hi,hsz]
 have hl:(loadCells ⟨b,o,none⟩ vs.length).run Pr w=.ok vs.toArray w:=run_loadCells_list (P:=Pr) w ⟨b,o,none⟩ vs (fun q v hv=>by rw [Addr.add_mid];exact hc q v hv)
 rw [hn] at hl
 simp only [Instr.loadAt,Instr.sureAddr,Sem.run_bind,Sem.run_pure,Result.andThen_ok,loadVar,aggIs_spec ht,if_true,hso,hl]
theorem CellsAt.part {b s:Nat} {l:List DV} (hc:CellsAt j w b s l) (o n:Nat) (hn:n≤(l.drop o).length):
 ∃ vs:List Value,VRs j ((l.drop o).take n) vs∧vs.length=n∧∀ i v,vs[i]?=some v→w.cell? ⟨b,s+o+i,none⟩=some v:=by
 induction n with
 | zero=>exact ⟨[],by simpa using VRs.nil,rfl,by simp⟩
 | succ n ih=>
  obtain ⟨vs,h1,h2,h3⟩:=ih (by omega)
  simp only [List.length_drop] at hn
  have hlt:o+n<l.length:=by omega
  obtain ⟨v',hv',hr,h1'⟩:=hc (o+n) l[o+n] (by rw [List.getElem?_eq_getElem hlt])
  refine ⟨vs++[v'],?_,by simp [h2],?_⟩
  ·have:(l.drop o).take (n+1)=(l.drop o).take n++[l[o+n]]:=by
    rw [List.take_succ_eq_append_getElem (by simp;omega)]
    simp
   rw [this]
   exact h1.append (.cons hr h1' .nil)
  ·intro i v hv
   by_cases hi:i<n
   ·rw [List.getElem?_append_left (by omega)] at hv;exact h3 i v hv
   ·have:i=n:=by
     have:=(List.getElem?_eq_some_iff.1 hv).1
     simp [h2] at this;omega
    subst this
    rw [List.getElem?_append_right (by omega),h2] at hv
    simp at hv;subst hv
    rw [Nat.add_assoc];exact hv'
end
theorem memOk_ld {Pr:Program} {o:Oper} {d:Opd} {e:Env} {nx:P} {h:Hp} {l:List DV} {i:Nat} {v:DV} {t:Nat} {x:Operand} (ho:o.op=.load t x) (hd:chkOpd d x=true) (ht:aggIs Pr t false=true)
 (hl:look (ev d e) e h=some (l,i)) (hv:l[i]?=some v):MemOk Pr o e nx h e v nx h:=by
 intro L N hi j pv a w R _
 obtain ⟨b,s,hp,hc⟩:=R.look (R.reads d x hd) hl
 obtain ⟨v',hcell,hr,_⟩:=hc i v hv
 refine ⟨j,w,.value v',v',?_,.inl rfl,R,Fr.refl _ _ _ _ _,XD.of_VR hr⟩
 simp only [execOp,ho,hp,Sem.run_bind,run_loadAt_one ht hcell,Result.andThen_ok,Sem.run_pure]
theorem memOk_lda {Pr:Program} {o:Oper} {d:Opd} {e:Env} {nx:P} {h:Hp} {l:List DV} {i n:Nat} {t:Nat} {x:Operand} (ho:o.op=.load t x) (hd:chkOpd d x=true) (ht:aggIs Pr t true=true) (hs:sizeIs Pr t n=true)
 (hl:look (ev d e) e h=some (l,i)) (hn:n≤(l.drop i).length):MemOk Pr o e nx h e (.agg ((l.drop i).take n)) nx h:=by
 intro L N hi j pv a w R _
 obtain ⟨b,s,hp,hc⟩:=R.look (R.reads d x hd) hl
 obtain ⟨vs,h1,h2,h3⟩:=hc.part i n hn
 refine ⟨j,w,.value (.agg vs.toArray),.agg vs.toArray,?_,.inl rfl,R,Fr.refl _ _ _ _ _,VR.agg h1⟩
 simp only [execOp,ho,hp,Sem.run_bind,run_loadAt_many ht hs h2 h3,Result.andThen_ok,Sem.run_pure]
theorem run_storeAt_ok {Pr:Program} {t n:Nat} {w:World} {b o:Nat} {v:Value} (hs:sizeIs Pr t n=true) (hn:v.cells.toList.length=n) (h1:∀ u∈v.cells.toList,u.oneCell'=true)
 (hc:∀ i,i<n→(w.cell? ⟨b,o+i,none⟩).isSome=true) (hf:∀ i,i<n→w.frozen? ⟨b,o+i,none⟩=false):
 (Instr.storeAt t (.pointer (some ⟨b,o,none⟩)) v).run Pr w=.ok () (w.setCells b o v.cells.toList):=by
 obtain ⟨it,hi,hsz⟩:=sizeIs_spec hs
 have hso:(sizeOf t).run Pr w=.ok n w:=by simp [sizeOf,typeInfo,hi,hsz]
 have hst:=run_storeCells_cells (P:=Pr) b o v.cells.toList 0 w (fun q hq=>by simpa using hc q (by omega)) (fun q hq=>by simpa using hf q (by omega)) h1
 have hsize:v.cells.size=n:=by simpa using hn
 simp only [Nat.add_zero] at hst
 simp only [Instr.storeAt,Instr.sureAddr,Sem.run_bind,Sem.run_pure,Result.andThen_ok,storeVar,hso]
 simp [hsize,hst]
theorem memOk_st {Pr:Program} {o:Oper} {d dv:Opd} {e:Env} {nx:P} {h:Hp} {k:P} {l c:List DV} {i n:Nat} {t:Nat} {x y:Operand} (ho:o.op=.store t x y) (hd:chkOpd d x=true) (hdv:chkOpd dv y=true) (hs:sizeIs Pr t n=true)
 (hk:ev d e=.ptr k i) (hg:Tr.get? k h=some (.cells l)) (hc:(ov dv e).cells=some c) (hn:c.length=n) (hle:i+c.length≤l.length):
 MemOk Pr o e nx h e (.tup []) nx (Tr.set k h (some (.cells (l.take i++c++l.drop (i+c.length))))):=by
 intro L N hi j pv a w R hnh
 have hx:=R.reads d x hd
 rw [hk] at hx
 have hlt:k.n<nx.n:=by
  rcases Nat.lt_or_ge k.n nx.n with h'|h'
  ·exact h'
  ·rw [R.top k h'] at hg;cases hg
 have hcs:=(R.reads.ov hdv).cells hc
 have hlen:=hcs.length
 generalize hxe:a.eval x=v' at hx
 cases (hx:VR j _ _) with
 | ptrO hjk=>obtain ⟨_,hg',_⟩:=R.heap k _ hjk hlt;rw [hg] at hg';cases hg'
 | ptrD _ hjk=>have hg':Tr.get? k h=some .dead:=R.heap k _ hjk hlt;rw [hg] at hg';cases hg'
 | ptrA hjk=>
  rename_i b s cc
  obtain ⟨hlies,l',hg',hll,_⟩:=R.heap k _ hjk hlt
  rw [hg] at hg';cases hg'
  obtain ⟨R',F'⟩:=R.at_store hnh hjk hlt hg hcs hle
  refine ⟨j,_,.skip,undef,?_,.inr ⟨rfl,rfl⟩,R',F',VR.tup (l':=[]) .nil⟩
  have hst:=run_storeAt_ok (Pr:=Pr) (w:=w) (b:=b) (o:=s+i) (v:=a.eval y) hs (by omega) hcs.ones (fun q hq=>hlies.cell _ (by omega)) (fun q hq=>hlies.free _ (by omega) (by omega))
  simp only [execOp,ho,hxe,Sem.run_bind,hst,Result.andThen_ok,Sem.run_pure]
theorem memOk_stv {Pr:Program} {o:Oper} {d dv:Opd} {e:Env} {nx:P} {h:Hp} {p:P} {l c:List DV} {i n:Nat} {t:Nat} {x y:Operand} (ho:o.op=.store t x y) (hd:chkOpd d x=true) (hdv:chkOpd dv y=true) (hs:sizeIs Pr t n=true)
 (hk:ev d e=.fld p i) (hg:Tr.get? p e=some (.var l)) (hc:(ov dv e).cells=some c) (hn:c.length=n) (hle:i+c.length≤l.length):
 MemOk Pr o e nx h (Tr.set p e (some (.var (l.take i++c++l.drop (i+c.length))))) (.tup []) nx h:=by
 intro L N hi j pv a w R hnh
 have hx:=R.reads d x hd
 rw [hk] at hx
 obtain ⟨b,hb,hp⟩:=hx
 have hcs:=(R.reads.ov hdv).cells hc
 have hlen:=hcs.length
 obtain ⟨b',hb',_,hlies,_⟩:=R.env p _ hg
 rw [hb] at hb';cases hb'
 obtain ⟨R',F'⟩:=R.var_store hb hg hcs hle
 refine ⟨j,_,.skip,undef,?_,.inr ⟨rfl,rfl⟩,R',F',VR.tup (l':=[]) .nil⟩
 have hst:=run_storeAt_ok (Pr:=Pr) (w:=w) (b:=b) (o:=i) (v:=a.eval y) hs (by omega) hcs.ones (fun q hq=>hlies.cell _ (by omega)) (fun q hq=>hlies.free _ (by omega) (by omega))
 simp only [execOp,ho,hp,Sem.run_bind,hst,Result.andThen_ok,Sem.run_pure]
theorem memOk_new {Pr:Program} {o:Oper} {e:Env} {nx:P} {h:Hp} {l:List DV} {v:DV} (mk:Nat→Value)
 (H:∀ (L:P→Prop) (N hi:Nat) (j:J) (pv:P→Option Nat) (a:Act) (w:World),Rel L N hi j pv e nx h a w→∃ (cs:Array Value) (t:Nat),VRs j l cs.toList∧(execOp a.eval o).run Pr w=.ok (.value (mk w.heap.size)) (w.alloc (.cells cs t))∧
  ∀ j':J,j' nx=some (.at w.heap.size 0 cs.size)→XD j' pv v (mk w.heap.size)):MemOk Pr o e nx h e v nx.suc (Tr.set nx h (some (.cells l))):=by
 intro L N hi j pv a w R hnh
 rw [P.n_suc] at hnh
 obtain ⟨cs,t,hl,hrun,hx⟩:=H L N hi j pv a w R
 have hlen:=hl.length
 have hl':VRs j l (cs.toList.take l.length):=by rw [hlen,List.take_length];exact hl
 obtain ⟨R',F'⟩:=R.alloc (t:=t) (by omega) hl' (by simp at hlen;omega)
 exact ⟨_,_,_,_,hrun,.inl rfl,R',F',hx _ (J.put_self _ _ _)⟩
theorem memOk_al {Pr:Program} {o:Oper} {e:Env} {nx:P} {h:Hp} {z:List DV} {t:Nat} {it:TypeInfo} {zv:Value} (ho:o.op=.alloc t) (hi:Pr.info? t=some it) (hz:it.zero=some zv) (hc:okCs z zv.cells.toList=true):
 MemOk Pr o e nx h e (.ptr nx 0) nx.suc (Tr.set nx h (some (.cells z))):=by
 refine memOk_new (fun b=>.pointer (some ⟨b,0,none⟩)) ?_
 intro L N hi' j pv a w R
 refine ⟨zv.cells,t,okCs_sound j _ _ hc,?_,fun j' hj'=>?_⟩
 ·simp only [execOp,ho,Instr.alloc,Sem.run_bind,zeroValue,typeInfo,run_program,Result.andThen_ok,hi,Sem.run_pure,hz,newVar,newRow,run_newObj]
  rfl
 ·exact VR.ptrA (s:=0) (o:=0) hj'
theorem memOk_bx {Pr:Program} {o:Oper} {e:Env} {nx:P} {h:Hp} {d:Opd} {c:List DV} {t:Nat} {x:Operand} (ho:o.op=.box t x) (hd:chkOpd d x=true) (hc:(ov d e).cells=some c):
 MemOk Pr o e nx h e (.ptr nx 0) nx.suc (Tr.set nx h (some (.cells c))):=by
 refine memOk_new (fun b=>.pointer (some ⟨b,0,none⟩)) ?_
 intro L N hi' j pv a w R
 refine ⟨(a.eval x).cells,t,(R.reads.ov hd).cells hc,?_,fun j' hj'=>?_⟩
 ·simp only [execOp,ho,Instr.box,Sem.run_bind,newVar,newRow,run_newObj,Result.andThen_ok,Sem.run_pure]
  rfl
 ·exact VR.ptrA (s:=0) (o:=0) hj'
theorem fills_length {e:Env}:∀ (ps:List (Nat × Nat × Opd)) (z c:List DV),fills e ps z=some c→c.length=z.length
 | [],z,c,h=>by simp only [fills,Option.some.injEq] at h;rw [h]
 | (off,size,o)::ps,z,c,h=>by
  simp only [fills] at h
  cases hl:(ov o e).cells with
  | none=>simp [hl] at h
  | some l=>
   simp only [hl] at h
   by_cases hc:l.length=size∧off+l.length≤z.length
   ·rw [if_pos hc] at h
    rw [fills_length ps _ c h]
    simp;omega
   ·rw [if_neg hc] at h;cases h
def chkBsl (Pr:Program) (len sz:Nat) (z:List DV) (ps:List (Nat × Nat × Opd)) (t:Nat) (n:Nat) (qs:List (Nat × Operand)):Bool:=
 match Pr.underlying t with
 | some (.slice el)=>match Pr.info? el with
  | some ie=>match ie.zero with
   | some zv=>Nat.beq ie.size sz&&!Nat.beq sz 0&&Nat.beq n len&&!Nat.beq len 0&&Nat.ble (len*sz) 16777216&&okCs z ((Array.range (len*ie.size)).map (zv.cells[· % zv.cells.size]!)).toList&&chkParts (fun i=>some (i*ie.size,ie.size)) ps qs
   | none=>false
  | none=>false
 | _=>false
theorem memOk_bsl {Pr:Program} {o:Oper} {e:Env} {nx:P} {h:Hp} {len sz:Nat} {z c:List DV} {ps:List (Nat × Nat × Opd)} {t n:Nat} {qs:Array (Nat × Operand)} (ho:o.op=.buildSlice t n qs)
 (hc:chkBsl Pr len sz z ps t n qs.toList=true) (hf:fills e ps z=some c):MemOk Pr o e nx h e (.sl nx 0 len (some len) sz) nx.suc (Tr.set nx h (some (.cells c))):=by
 unfold chkBsl at hc
 cases hu:Pr.underlying t with
 | none=>simp [hu] at hc
 | some dt=>
  cases dt<;>simp only [hu,Bool.false_eq_true] at hc
  rename_i el
  cases hie:Pr.info? el with
  | none=>simp [hie] at hc
  | some ie=>
   cases hz:ie.zero with
   | none=>simp [hie,hz] at hc
   | some zv=>
    simp only [hie,hz,Bool.and_eq_true,Nat.beq_eq,Nat.ble_eq,Bool.not_eq_true'] at hc
    obtain ⟨⟨⟨⟨⟨⟨rfl,hs0⟩,rfl⟩,hn0⟩,hle⟩,hok⟩,hparts⟩:=hc
    have hs0':ie.size≠0:=fun h0=>by rw [h0] at hs0;exact absurd hs0 (by decide)
    refine memOk_new (fun b=>.slice (some ⟨b,0,none⟩) n n) ?_
    intro L N hi' j pv a w R
    have hm:(qs.map fun (i,x)=>(i,a.eval x)).toList=qs.toList.map fun q=>(q.1,a.eval q.2):=by simp
    obtain ⟨cs,hcs,hrel⟩:=fill_sim R.reads (fun i=>some (i*ie.size,ie.size)) ps qs.toList z c _ hparts (okCs_sound j _ _ hok) hf
    refine ⟨cs,el,hrel,?_,fun j' hj'=>?_⟩
    ·have hso:∀ w:World,(sizeOf el).run Pr w=.ok ie.size w:=by intro w;simp [sizeOf,typeInfo,hie]
     have hzv:∀ w:World,(zeroValue el).run Pr w=.ok zv w:=by intro w;simp [zeroValue,typeInfo,hie,hz]
     have hbig:¬ n*ie.size > 2 ^ 24:=by omega
     have hn0':n≠0:=fun h0=>by rw [h0] at hn0;exact absurd hn0 (by decide)
     have h0:¬ n*ie.size=0:=Nat.mul_ne_zero hn0' hs0'
     simp only [execOp,ho,Sem.run_bind,run_buildSlice w t el n _ cs ie zv hu hie hz hbig h0 (by rw [hm];exact hcs),Result.andThen_ok,Sem.run_pure]
    ·have hlen:=hrel.length
     have hzl:=(okCs_sound j _ _ hok).length
     have hcz:=fills_length ps z c hf
     have hsize:n*ie.size≤cs.size:=by simp at hlen hzl;omega
     exact VR.slA hj' (fun _=>rfl) ⟨Nat.le_refl _,fun c hc=>by cases hc;rfl⟩ (Nat.le_refl _) (by omega)
section
variable {L:P→Prop} {N hi:Nat} {j:J} {pv:P→Option Nat} {e:Env} {nx:P} {h:Hp} {a:Act} {w:World}
theorem Rel.drew (R:Rel L N hi j pv e nx h a w) (n:Nat):Rel L N hi j pv e nx h a { w with drawn:=n } where
 fresh:=R.fresh
 heap:=fun k i hk hlt=>HR.of_heap (w:=w) (Ext.refl j) rfl (Nat.le_refl _) (fun _ _=>rfl) (R.heap k i hk hlt)
 inj:=R.inj
 inr:=R.inr
 env:=fun p v hv=>ER.of_heap (w:=w) (Ext.refl j) (Nat.le_refl _) (fun _ _=>rfl) (R.env p v hv)
 pvv:=R.pvv
 pin:=R.pin
 pfr:=R.pfr
 pfo:=R.pfo
 loc:=R.loc
 size:=R.size
 lt:=R.lt
 lr:=R.lr
 top:=R.top
theorem Fr.drew (hi n:Nat) (j:J) (pv:P→Option Nat) (w:World) (d:Nat):Fr hi n j pv w j pv { w with drawn:=d }:={ Fr.refl hi n j pv w with size:=Nat.le_refl _,os:=rfl,output:=rfl,same:=fun _ _ _ _=>rfl,froz:=fun _ _=>rfl }
theorem Rel.take_over (R:Rel L N hi j pv e nx h a w) (hnh:nx.n<hi) {k:P} (hlt:k.n<nx.n) {b s c:Nat} (hk:j k=some (.at b s c)) {old cl:List DV} {vs:List Value} {off:Nat}
 (hold:CellsAt j w b off old) (hv:VRs j cl vs) (ho:s≤off) (hle:off+old.length+cl.length≤c):
 let j':=(j.put k .dead).put nx (.at b off c)
 let h':=Tr.set nx (Tr.set k h (some .dead)) (some (.cells (old++cl)))
 Rel L N hi j' pv e nx.suc h' a (w.setCells b (off+old.length) vs)∧Fr hi nx.n j pv w j' pv (w.setCells b (off+old.length) vs):=by
 intro j' h'
 have hnone:j nx=none:=R.key_none hnh
 have hne:nx≠k:=by rintro rfl;omega
 obtain ⟨hlies,l0,hg0,hle0,_⟩:=(R.heap k _ hk hlt:HR j h w k (.at b s c))
 have hj'n:j' nx=some (.at b off c):=J.put_self _ _ _
 have hj'k:j' k=some .dead:=by show (j.put k .dead).put nx _ k=_;rw [J.put_ne _ hne.symm,J.put_self]
 have hj'o:∀ q,q≠nx→q≠k→j' q=j q:=fun q h1 h2=>by show (j.put k .dead).put nx _ q=_;rw [J.put_ne _ h1,J.put_ne _ h2]
 have hext:Ext j j':=fun q i hq=>by
  by_cases h1:q=nx
  ·subst h1;rw [hnone] at hq;cases hq
  ·by_cases h2:q=k
   ·subst h2;exact .inr hj'k
   ·exact .inl (by rw [hj'o q h1 h2];exact hq)
 have hlen:=hv.length
 have hnb:∀ x,x≠b→(w.setCells b (off+old.length) vs).heap[x]?=w.heap[x]?:=fun x hx=>setCells_other b vs _ w hx
 have hsz:=setCells_size b vs (off+old.length) w
 refine ⟨?_,?_⟩
 ·constructor
  ·intro q i hq
   rw [P.n_suc]
   by_cases h1:q=nx
   ·subst h1;exact .inl (by omega)
   ·by_cases h2:q=k
    ·subst h2;exact .inl (by omega)
    ·rw [hj'o q h1 h2] at hq
     rcases R.fresh q i hq with h|h
     ·exact .inl (by omega)
     ·exact .inr h
  ·intro q i hq hql
   by_cases h1:q=nx
   ·subst h1
    rw [hj'n] at hq;cases hq
    have hl2:Lies w b off c:=⟨hlies.lt,hlies.cell,fun i h1 h2=>hlies.free i (by omega) h2⟩
    refine ⟨hl2.setCells _ _ _,_,Tr.get_set_self _ _ _,by simp;omega,?_⟩
    intro i v hi
    by_cases hio:i<old.length
    ·rw [List.getElem?_append_left hio] at hi
     obtain ⟨v',hc,hr,h1⟩:=hold i v hi
     exact ⟨v',by rw [World.cell?_setCells_out];exact hc;intro _ _;left;show off+i<off+old.length;omega,hr.mono hext,h1⟩
    ·rw [List.getElem?_append_right (by omega)] at hi
     obtain ⟨v',hv',hr,h1⟩:=hv.get _ v hi
     have hlt2:i-old.length<vs.length:=(List.getElem?_eq_some_iff.1 hv').1
     refine ⟨v',?_,hr.mono hext,h1⟩
     have:=World.cell?_setCells_in b vs (off+old.length) w (fun q hq=>hlies.cell _ (by omega)) (i-old.length) hlt2
     rw [show off+i=off+old.length+(i-old.length) by omega,this,←hv',List.getElem?_eq_getElem hlt2]
   ·by_cases h2:q=k
    ·subst h2;rw [hj'k] at hq;cases hq
     show Tr.get? q h'=some .dead
     show Tr.get? q (Tr.set nx (Tr.set q h (some .dead)) _)=_
     rw [Tr.get_set_ne h1,Tr.get_set_self]
    ·rw [hj'o q h1 h2] at hq
     have hql':q.n<nx.n:=by rw [P.n_suc] at hql;have:q.n≠nx.n:=fun h=>h1 (P.n_inj h);omega
     refine HR.of_heap hext ?_ (by omega) ?_ (R.heap q i hq hql')
     ·show Tr.get? q (Tr.set nx (Tr.set k h (some .dead)) _)=_
      rw [Tr.get_set_ne h1,Tr.get_set_ne h2]
     ·intro x hx
      refine hnb x ?_
      rintro rfl
      rcases hx with ⟨s',c',rfl⟩|⟨s',rfl⟩
      ·exact h2 (R.inj _ _ _ _ _ _ _ hq hk)
      ·exact R.inr _ _ _ _ _ _ hk hq
  ·intro q q' b' s1 c1 s2 c2 hq hq'
   by_cases h1:q=nx<;>by_cases h2:q'=nx
   ·rw [h1,h2]
   ·subst h1;rw [hj'n] at hq;cases hq
    by_cases h3:q'=k
    ·subst h3;rw [hj'k] at hq';cases hq'
    ·rw [hj'o q' h2 h3] at hq';exact absurd (R.inj _ _ _ _ _ _ _ hq' hk) h3
   ·subst h2;rw [hj'n] at hq';cases hq'
    by_cases h3:q=k
    ·subst h3;rw [hj'k] at hq;cases hq
    ·rw [hj'o q h1 h3] at hq;exact absurd (R.inj _ _ _ _ _ _ _ hq hk) h3
   ·by_cases h3:q=k
    ·subst h3;rw [hj'k] at hq;cases hq
    ·by_cases h4:q'=k
     ·subst h4;rw [hj'k] at hq';cases hq'
     ·rw [hj'o q h1 h3] at hq;rw [hj'o q' h2 h4] at hq';exact R.inj _ _ _ _ _ _ _ hq hq'
  ·intro q q' b' s1 c1 s2 hq hq'
   by_cases h2:q'=nx
   ·subst h2;rw [hj'n] at hq';cases hq'
   ·by_cases h4:q'=k
    ·subst h4;rw [hj'k] at hq';cases hq'
    ·rw [hj'o q' h2 h4] at hq'
     by_cases h1:q=nx
     ·subst h1;rw [hj'n] at hq;cases hq;exact R.inr _ _ _ _ _ _ hk hq'
     ·by_cases h3:q=k
      ·subst h3;rw [hj'k] at hq;cases hq
      ·rw [hj'o q h1 h3] at hq;exact R.inr _ _ _ _ _ _ hq hq'
  ·intro p v hpv
   refine ER.of_heap hext (by omega) ?_ (R.env p v hpv)
   intro x hx
   exact hnb x (by rintro rfl;exact R.pfr p _ hx _ _ _ hk)
  ·exact R.pvv
  ·exact R.pin
  ·intro p b' hb' q s1 c1 hq
   by_cases h1:q=nx
   ·subst h1;rw [hj'n] at hq;cases hq;exact R.pfr p _ hb' _ _ _ hk
   ·by_cases h3:q=k
    ·subst h3;rw [hj'k] at hq;cases hq
    ·rw [hj'o q h1 h3] at hq;exact R.pfr p _ hb' _ _ _ hq
  ·intro p b' hb' q s1 hq
   by_cases h1:q=nx
   ·subst h1;rw [hj'n] at hq;cases hq
   ·by_cases h3:q=k
    ·subst h3;rw [hj'k] at hq;cases hq
    ·rw [hj'o q h1 h3] at hq;exact R.pfo p _ hb' _ _ hq
  ·exact R.loc
  ·exact R.size
  ·intro q b' s1 c1 hq
   rw [hsz]
   by_cases h1:q=nx
   ·subst h1;rw [hj'n] at hq;cases hq;exact hlies.lt
   ·by_cases h3:q=k
    ·subst h3;rw [hj'k] at hq;cases hq
    ·rw [hj'o q h1 h3] at hq;exact R.lt _ _ _ _ hq
  ·intro q b' s1 hq
   rw [hsz]
   by_cases h1:q=nx
   ·subst h1;rw [hj'n] at hq;cases hq
   ·by_cases h3:q=k
    ·subst h3;rw [hj'k] at hq;cases hq
    ·rw [hj'o q h1 h3] at hq;exact R.lr _ _ _ hq
  ·intro q hq
   rw [P.n_suc] at hq
   show Tr.get? q (Tr.set nx (Tr.set k h (some .dead)) _)=_
   rw [Tr.get_set_ne (by rintro rfl;omega),Tr.get_set_ne (by rintro rfl;omega)]
   exact R.top q (by omega)
 ·constructor
  ·omega
  ·exact (setCells_os b vs _ w).1
  ·exact (setCells_os b vs _ w).2
  ·intro x hx hjx _
   refine hnb x ?_
   rintro rfl
   have:=hjx _ _ _ hk;omega
  ·exact hext
  ·intro q hq;exact hj'o q (by rintro rfl;omega) (by rintro rfl;omega)
  ·intro q h1 h2
   by_cases h3:q=nx
   ·subst h3;exact Nat.le_refl _
   ·by_cases h4:q=k
    ·subst h4;rw [hk] at h1;cases h1
    ·rw [hj'o q h3 h4] at h2;exact absurd h1 h2
  ·intro q x s1 c1 hq hql
   by_cases h3:q=nx
   ·subst h3;rw [hj'n] at hq;cases hq;exact .inl ⟨k,s,c,hk,by omega⟩
   ·by_cases h4:q=k
    ·subst h4;rw [hj'k] at hq;cases hq
    ·rw [hj'o q h3 h4] at hq;exact .inl ⟨q,s1,c1,hq,hql⟩
  ·intro q x s1 hq
   by_cases h3:q=nx
   ·subst h3;rw [hj'n] at hq;cases hq
   ·by_cases h4:q=k
    ·subst h4;rw [hj'k] at hq;cases hq
    ·rw [hj'o q h3 h4] at hq;exact hq
  ·intro p x hx;exact .inl hx
  ·intro ad _;exact World.frozen?_setCells _ _ _ _ _
end
def chkApp (Pr:Program) (sz bt t t':Nat):Bool:=
 match Pr.underlying t,Pr.underlying t' with
 | some (.slice el),some (.slice _)=>match Pr.info? el with
  | some it=>match it.zero with
   | some zv=>Nat.beq it.size sz&&!Nat.beq sz 0&&Nat.beq it.bytes bt&&!Nat.beq bt 0&&Nat.ble bt 1048576&&Nat.beq zv.cells.size sz
   | none=>false
  | none=>false
 | _,_=>false
structure AppOk (Pr:Program) (sz bt t t' el:Nat) (it:TypeInfo) (zv:Value):Prop where
 hu:Pr.underlying t=some (.slice el)
 hu':∃ el',Pr.underlying t'=some (.slice el')
 hi:Pr.info? el=some it
 hz:it.zero=some zv
 hs:it.size=sz
 hs0:sz≠0
 hb:it.bytes=bt
 hb0:bt≠0
 hb1:bt≤1048576
 hzs:zv.cells.size=sz
theorem chkApp_spec {Pr:Program} {sz bt t t':Nat} (h:chkApp Pr sz bt t t'=true):∃ el it zv,AppOk Pr sz bt t t' el it zv:=by
 unfold chkApp at h
 cases hu:Pr.underlying t with
 | none=>simp [hu] at h
 | some d=>
  cases hu':Pr.underlying t' with
  | none=>cases d<;>simp [hu,hu'] at h
  | some d'=>
   cases d<;>cases d'<;>simp only [hu,hu',Bool.false_eq_true] at h
   rename_i el el'
   cases hi:Pr.info? el with
   | none=>simp [hi] at h
   | some it=>
    cases hz:it.zero with
    | none=>simp [hi,hz] at h
    | some zv=>
     simp only [hi,hz,Bool.and_eq_true,Nat.beq_eq,Nat.ble_eq,Bool.not_eq_true'] at h
     obtain ⟨⟨⟨⟨⟨h1,h2⟩,h3⟩,h4⟩,h5⟩,h6⟩:=h
     exact ⟨el,it,zv,hu,⟨el',hu'⟩,hi,hz,h1,fun h0=>by rw [h0] at h2;exact absurd h2 (by decide),h3,fun h0=>by rw [h0] at h4;exact absurd h4 (by decide),h5,h6⟩
theorem growBy_le (newLen:Nat):∀ (r c:Nat),c≤newLen+newLen+768→Builtin.growBy newLen r c≤newLen+newLen+768
 | 0,c,h=>h
 | r+1,c,h=>by
  simp only [Builtin.growBy]
  split
  ·exact h
  ·exact growBy_le newLen r _ (by omega)
theorem next_le (need cap:Nat) (h:cap<need):Builtin.nextslicecap need cap≤need+need+768:=by
 unfold Builtin.nextslicecap
 split
 ·omega
 ·split
  ·omega
  ·exact growBy_le _ _ _ (by omega)
theorem run_firstCells {Pr:Program} {w:World} {size n:Nat} {b off:Nat} {ln cap:Nat} {vs:List Value} (hn:vs.length=n*size) (hc:∀ i v,vs[i]?=some v→w.cell? ⟨b,off+i,none⟩=some v):
 (Builtin.firstCells size n (.slice (some ⟨b,off,none⟩) ln cap)).run Pr w=.ok vs.toArray w:=by
 have:=run_loadCells_list (P:=Pr) w ⟨b,off,none⟩ vs (fun q v hv=>by rw [Addr.add_mid];exact hc q v hv)
 rw [hn] at this
 exact this
section
variable {Pr:Program} {sz bt t t' el:Nat} {it:TypeInfo} {zv:Value}
theorem run_append_in (A:AppOk Pr sz bt t t' el it zv) {w:World} {b off sLen sCap n:Nat} {x:Value} {news:List Value} {ty:Nat} (hx:∀ W:World,(Builtin.lenOf x).run Pr W=.ok n W) (hnew:(Builtin.firstCells sz n x).run Pr w=.ok news.toArray w)
 (hroom:sLen+n≤sCap) (h1:∀ u∈news,u.oneCell'=true) (hc:∀ i,i<news.length→(w.cell? ⟨b,off+sLen*sz+i,none⟩).isSome=true) (hf:∀ i,i<news.length→w.frozen? ⟨b,off+sLen*sz+i,none⟩=false):
 (Builtin.append_ #[t,t'] ty #[.slice (some ⟨b,off,none⟩) sLen sCap,x]).run Pr w=.ok (.slice (some ⟨b,off,none⟩) (sLen+n) sCap) (w.setCells b (off+sLen*sz) news):=by
 obtain ⟨el',hu'⟩:=A.hu'
 have hso:∀ W:World,(sizeOf el).run Pr W=.ok sz W:=by intro W;simp [sizeOf,typeInfo,A.hi,A.hs]
 have hst:=run_storeCells_cells (P:=Pr) b (off+sLen*sz) news 0 w (fun q hq=>by simpa using hc q hq) (fun q hq=>by simpa using hf q hq) h1
 rw [Nat.add_zero] at hst
 simp only [Builtin.append_,Sem.run_bind,run_underlying A.hu,Result.andThen_ok,hso,List.getElem?_toArray,List.getElem?_cons_zero,List.getElem?_cons_succ,run_underlying hu',Sem.run_pure,hx]
 simp [hroom,hnew,Addr.add_mid,hst,hx]
theorem run_append_out (A:AppOk Pr sz bt t t' el it zv) {w:World} {base:Option Addr} {sLen sCap n:Nat} {x:Value} {olds news:List Value} {ty:Nat} (hx:∀ W:World,(Builtin.lenOf x).run Pr W=.ok n W)
 (hold:∀ d:Nat,(Builtin.firstCells sz sLen (.slice base sLen sCap)).run Pr { w with drawn:=d }=.ok olds.toArray { w with drawn:=d })
 (hnew:∀ d:Nat,(Builtin.firstCells sz n x).run Pr { w with drawn:=d }=.ok news.toArray { w with drawn:=d })
 (hroom:sCap<sLen+n) (hbig:(sLen+n)*bt≤35184372088832):
 ∃ newCap d,sLen+n≤newCap∧(Builtin.append_ #[t,t'] ty #[.slice base sLen sCap,x]).run Pr w=.ok (.slice (some ⟨w.heap.size,0,none⟩) (sLen+n) newCap)
  (({ w with drawn:=d }:World).alloc (.cells (olds.toArray++news.toArray++Builtin.zeroCells zv.cells (newCap-(sLen+n))) el)):=by
 obtain ⟨el',hu'⟩:=A.hu'
 have hso:∀ W:World,(sizeOf el).run Pr W=.ok sz W:=by intro W;simp [sizeOf,typeInfo,A.hi,A.hs]
 have hti:∀ W:World,(typeInfo el).run Pr W=.ok it W:=by intro W;simp [typeInfo,A.hi]
 have hzv:∀ W:World,(zeroValue el).run Pr W=.ok zv W:=by intro W;simp [zeroValue,typeInfo,A.hi,A.hz]
 have hnl:=next_le (sLen+n) sCap hroom
 have hmul:Builtin.nextslicecap (sLen+n) sCap*bt≤2 ^ 48:=by
  calc Builtin.nextslicecap (sLen+n) sCap*bt≤(sLen+n+(sLen+n)+768)*bt:=Nat.mul_le_mul_right _ hnl
   _=(sLen+n)*bt+(sLen+n)*bt+768*bt:=by rw [Nat.add_mul,Nat.add_mul]
   _≤2 ^ 48:=by have:=A.hb1;omega
 refine ⟨(Question.appendCap (sLen+n) sCap el).cut (w.tape w.drawn (.appendCap (sLen+n) sCap el)),w.drawn+1,?_,?_⟩
 ·simp only [Question.cut];omega
 ·have hno:¬ sLen+n≤sCap:=by omega
  have hng:¬ (Builtin.nextslicecap (sLen+n) sCap*it.bytes > 2 ^ 48):=by rw [A.hb];omega
  simp only [Builtin.append_,Sem.run_bind,run_underlying A.hu,Result.andThen_ok,hso,List.getElem?_toArray,List.getElem?_cons_zero,List.getElem?_cons_succ,run_underlying hu',Sem.run_pure,hx]
  simp only [Bool.false_eq_true,if_false,Sem.run_bind,hx,Result.andThen_ok,if_neg hno,hti,A.hb,A.hb0,false_or,and_false,Sem.run_pure,Sem.run_ite]
  rw [if_neg (by omega)]
  have hch:(choose (.appendCap (sLen+n) sCap el)).run Pr w=.ok ((Question.appendCap (sLen+n) sCap el).cut (w.tape w.drawn (.appendCap (sLen+n) sCap el))) { w with drawn:=w.drawn+1 }:=by
   rw [run_choose];rfl
  simp only [hch,Result.andThen_ok,run_askRoom,hold,Bool.not_false,if_true,hnew,hzv]
  rfl
theorem run_append_zeros {el:Nat} {it:TypeInfo} {zv:Value} (hu:Pr.underlying t=some (.slice el)) {ik:IntKind} (hu':Pr.underlying t'=some (.int ik)) (hi:Pr.info? el=some it) (hz:it.zero=some zv) (hs0:it.size≠0) (hb0:it.bytes≠0) {w:World} {n:Nat} {ty:Nat} {k:IntKind}
 (hn:n≠0) (hbig:n*it.bytes≤1073741824):
 ∃ newCap d,n≤newCap∧(Builtin.append_ #[t,t'] ty #[.slice none 0 0,.int k n]).run Pr w=.ok (.slice (some ⟨w.heap.size,0,none⟩) n newCap)
  (({ w with drawn:=d }:World).alloc (.cells (#[]++Builtin.zeroCells zv.cells n++Builtin.zeroCells zv.cells (newCap-n)) el)):=by
 have hso:∀ W:World,(sizeOf el).run Pr W=.ok it.size W:=by intro W;simp [sizeOf,typeInfo,hi]
 have hti:∀ W:World,(typeInfo el).run Pr W=.ok it W:=by intro W;simp [typeInfo,hi]
 have hzv:∀ W:World,(zeroValue el).run Pr W=.ok zv W:=by intro W;simp [zeroValue,typeInfo,hi,hz]
 have hn1:n≤1073741824:=by
  have h1:n*1≤n*it.bytes:=Nat.mul_le_mul_left n (by omega)
  omega
 have hw:IntKind.i64.wrap (n:Int)=n:=wrap_of_fits (by show Nat.ble n _=true;rw [Nat.ble_eq];simp only [top];omega)
 refine ⟨(Question.appendCap (0+n) 0 el).cut (w.tape w.drawn (.appendCap (0+n) 0 el)),w.drawn+1,?_,?_⟩
 ·simp only [Question.cut];omega
 ·have hch:(choose (.appendCap (0+n) 0 el)).run Pr w=.ok ((Question.appendCap (0+n) 0 el).cut (w.tape w.drawn (.appendCap (0+n) 0 el))) { w with drawn:=w.drawn+1 }:=by
   rw [run_choose];rfl
  have hl0:¬ ((n:Int)<0):=by omega
  have hl1:¬ ((n:Int)*(it.bytes:Int) > 2 ^ 48):=by
   have:(n:Int)*(it.bytes:Int)=((n*it.bytes:Nat):Int):=by simp
   rw [this];omega
  have hno:¬ (0+n≤0):=by omega
  have hmx:¬ (((0+n:Nat):Int) > IntKind.i64.max):=by simp only [IntKind.max,IntKind.signed,IntKind.bits];simp;omega
  have hnx:Builtin.nextslicecap (0+n) 0=n:=by unfold Builtin.nextslicecap;rw [if_pos (by omega)];omega
  have hng:¬ (Builtin.nextslicecap (0+n) 0*it.bytes > 2 ^ 48):=by rw [hnx];omega
  have hnz:¬ (n*it.size=0):=Nat.mul_ne_zero hn hs0
  simp only [Builtin.append_,Sem.run_bind,run_underlying hu,Result.andThen_ok,hso,List.getElem?_toArray,List.getElem?_cons_zero,List.getElem?_cons_succ,run_underlying hu',Sem.run_pure]
  simp only [if_true,Sem.run_bind,asInt,asIntOf,Sem.run_pure,Result.andThen_ok,hw,Sem.run_ite,if_neg hl0,hti,if_neg hl1,Int.toNat_natCast,if_neg hno,if_neg hng,Bool.not_true,Bool.false_eq_true,if_false,hch,run_askRoom,Builtin.firstCells,hzv,if_neg hnz]
  rw [if_neg (fun h=>hmx h.1)]
  simp only [Nat.zero_add]
  rfl
end
def alive (k:P) (h:Hp):Option (List DV):=match Tr.get? k h with|some (.cells l)=>some l|some (.ro l)=>some l|_=>none
theorem objK_alive (k:P) (h:Hp) (F:Res) (K:List DV→Res):objK k h F K=match alive k h with|some l=>K l|none=>F:=by
 rw [objK_eq];unfold alive;cases Tr.get? k h with
 | none=>rfl
 | some o=>cases o<;>rfl
def slcV (h:Hp) (b:P) (o n sz:Nat):Option (List DV):=match alive b h with
 | some l=>if o≤l.length∧n*sz≤(l.drop o).length then some ((l.drop o).take (n*sz)) else none
 | none=>none
theorem slcK_eq (h:Hp) (b:P) (o n sz:Nat) (K:List DV→Res):slcK h b o n sz K=match slcV h b o n sz with|some l=>K l|none=>.fail:=by
 unfold slcK slcV
 rw [objK_alive]
 cases alive b h with
 | none=>rfl
 | some l=>
  show dropK o l .fail (fun t=>takeK (n*sz) t .fail K)=_
  rw [dropK_eq]
  by_cases h1:o≤l.length
  ·rw [if_pos h1,takeK_eq]
   by_cases h2:n*sz≤(l.drop o).length
   ·rw [if_pos h2];simp only [if_pos (And.intro h1 h2)]
   ·rw [if_neg h2];simp only [if_neg (fun h:o≤l.length∧n*sz≤(l.drop o).length=>h2 h.2)]
  ·rw [if_neg h1];simp only [if_neg (fun h:o≤l.length∧n*sz≤(l.drop o).length=>h1 h.1)]
section
variable {L:P→Prop} {N hi:Nat} {j:J} {pv:P→Option Nat} {e:Env} {nx:P} {h:Hp} {a:Act} {w:World}
theorem Rel.alive_lt (R:Rel L N hi j pv e nx h a w) {k:P} {l:List DV} (hk:alive k h=some l):k.n<nx.n:=by
 rcases Nat.lt_or_ge k.n nx.n with h'|h'
 ·exact h'
 ·unfold alive at hk;rw [R.top k h'] at hk;cases hk
theorem Rel.slice (R:Rel L N hi j pv e nx h a w) {k:P} {o n:Nat} {cp:Option Nat} {sz:Nat} {v':Value} (hv:XD j pv (.sl k o n cp sz) v') {l:List DV} (hk:alive k h=some l):
 ∃ b s ad cap,v'=.slice (some ad) n cap∧capR cp n cap∧(0<n→ad=⟨b,s+o,none⟩)∧CellsAt j w b s l:=by
 have hlt:=R.alive_lt hk
 unfold alive at hk
 cases (hv:VR j _ _) with
 | slA h1 ho hc hs he=>
  obtain ⟨_,l',hg,_,hcells⟩:=R.heap k _ h1 hlt
  simp only [hg,Option.some.injEq] at hk;subst hk
  exact ⟨_,_,_,_,rfl,hc,fun hn=>by rw [ho (.inl hn)],hcells⟩
 | slO h1 ho hc=>
  obtain ⟨l',hg,_,hcells⟩:=R.heap k _ h1 hlt
  simp only [hg,Option.some.injEq] at hk;subst hk
  exact ⟨_,_,_,_,rfl,hc,fun hn=>by rw [ho (.inl hn)],hcells⟩
 | slE ad h1 hc _=>
  obtain ⟨l',hg,_,hcells⟩:=R.heap k _ h1 hlt
  simp only [hg,Option.some.injEq] at hk;subst hk
  exact ⟨_,_,_,_,rfl,hc,fun hn=>absurd hn (by omega),hcells⟩
 | slD a h1 hc=>
  have hg:Tr.get? k h=some .dead:=R.heap k _ h1 hlt
  simp [hg] at hk
theorem Rel.slice_cells (R:Rel L N hi j pv e nx h a w) {Pr:Program} {k:P} {o n:Nat} {cp:Option Nat} {sz:Nat} {v':Value} (hv:XD j pv (.sl k o n cp sz) v') {c:List DV} (hs:slcV h k o n sz=some c):
 ∃ vs:List Value,VRs j c vs∧vs.length=n*sz∧(∀ W:World,(Builtin.lenOf v').run Pr W=.ok n W)∧∀ d:Nat,(Builtin.firstCells sz n v').run Pr { w with drawn:=d }=.ok vs.toArray { w with drawn:=d }:=by
 unfold slcV at hs
 cases hk:alive k h with
 | none=>simp [hk] at hs
 | some l=>
  simp only [hk] at hs
  by_cases hc:o≤l.length∧n*sz≤(l.drop o).length
  case neg=>rw [if_neg hc] at hs;cases hs
  rw [if_pos hc] at hs
  simp only [Option.some.injEq] at hs;subst hs
  obtain ⟨b,s,ad,cap,rfl,hcap,hoff,hcells⟩:=R.slice hv hk
  obtain ⟨vs,h1,h2,h3⟩:=hcells.part o (n*sz) hc.2
  refine ⟨vs,h1,h2,fun W=>rfl,fun d=>?_⟩
  by_cases hn:0<n
  ·rw [hoff hn]
   refine run_firstCells h2 ?_
   intro i v hv
   exact h3 i v hv
  ·have hn0:n=0:=by omega
   subst hn0
   have:vs=[]:=List.eq_nil_of_length_eq_zero (by simpa using h2)
   subst this
   have hz:=run_loadCells_list (P:=Pr) { w with drawn:=d } ad [] (fun q v hv=>by simp at hv)
   rw [show ([]:List Value).length=0*sz by simp] at hz
   exact hz
end
theorem take_three (ovs nvs:List Value) (z:Array Value) {k:Nat} (h:ovs.length+nvs.length=k):(ovs.toArray++nvs.toArray++z).toList.take k=ovs++nvs:=by
 rw [Array.toList_append,Array.toList_append]
 exact List.take_left' (by simp;omega)
theorem zeroCells_size (z:Array Value) (n:Nat):(Builtin.zeroCells z n).size=n*z.size:=by simp [Builtin.zeroCells]
section
variable {Pr:Program} {o:Oper} {e:Env} {nx:P} {h:Hp} {ds dx:Opd} {x y:Operand} {t t' sz bt el:Nat} {it:TypeInfo} {zv:Value}
theorem exec_append (ho:o.op=.call ⟨.builtin .append,#[x,y],#[t,t']⟩) (ρ:Operand→Value) (w:World) {v:Value} {w':World}
 (hr:(Builtin.append_ #[t,t'] o.type #[ρ x,ρ y]).run Pr w=.ok v w'):(execOp ρ o).run Pr w=.ok (.value v) w':=by
 simp only [execOp,ho,resolve,Sem.run_bind,Sem.run_pure,Result.andThen_ok,invoke,builtin]
 simp only [List.map_toArray,List.map_cons,List.map_nil]
 rw [hr];rfl
theorem run_append_zero (A:AppOk Pr sz bt t t' el it zv) {w:World} {base:Option Addr} {sLen sCap:Nat} {v:Value} {ty:Nat} (hx:∀ W:World,(Builtin.lenOf v).run Pr W=.ok 0 W)
 (hnew:(Builtin.firstCells sz 0 v).run Pr w=.ok #[] w) (hle:sLen≤sCap):(Builtin.append_ #[t,t'] ty #[.slice base sLen sCap,v]).run Pr w=.ok (.slice base sLen sCap) w:=by
 obtain ⟨el',hu'⟩:=A.hu'
 have hso:∀ W:World,(sizeOf el).run Pr W=.ok sz W:=by intro W;simp [sizeOf,typeInfo,A.hi,A.hs]
 simp only [Builtin.append_,Sem.run_bind,run_underlying A.hu,Result.andThen_ok,hso,List.getElem?_toArray,List.getElem?_cons_zero,List.getElem?_cons_succ,run_underlying hu',Sem.run_pure,hx]
 cases base<;>simp [hle,hnew,hx,storeCells]
theorem memOk_app0 (ho:o.op=.call ⟨.builtin .append,#[x,y],#[t,t']⟩) (hs:chkOpd ds x=true) (hx:chkOpd dx y=true) (A:AppOk Pr sz bt t t' el it zv)
 (hsv:(ev ds e=.nils)∨∃ b o n c s,ev ds e=.sl b o n c s) (hxv:(ev dx e=.nils)∨∃ b o c,ev dx e=.sl b o 0 c sz∧slcV h b o 0 sz=some []):MemOk Pr o e nx h e (ev ds e) nx h:=by
 intro L N hi j pv a w R _
 have r1:=R.reads ds x hs
 have r2:=R.reads dx y hx
 have key:∃ base n c,a.eval x=.slice base n c∧n≤c:=by
  rcases hsv with hsv|⟨b,o',n,c,s,hsv⟩
  ·rw [hsv] at r1;exact ⟨none,0,0,r1.nils,Nat.le_refl _⟩
  ·rw [hsv] at r1;obtain ⟨ad,cap,h1,h2⟩:=r1.sl;exact ⟨some ad,n,cap,h1,h2.1⟩
 obtain ⟨base,n,c,hxe,hle⟩:=key
 have key2:(∀ W:World,(Builtin.lenOf (a.eval y)).run Pr W=.ok 0 W)∧(Builtin.firstCells sz 0 (a.eval y)).run Pr w=.ok #[] w:=by
  rcases hxv with hxv|⟨b,o',c',hxv,hsl⟩
  ·rw [hxv] at r2;rw [r2.nils];exact ⟨fun _=>rfl,rfl⟩
  ·rw [hxv] at r2
   obtain ⟨vs,h1,h2,h3,h4⟩:=R.slice_cells (Pr:=Pr) r2 hsl
   cases h1
   exact ⟨h3,h4 w.drawn⟩
 refine ⟨j,w,_,a.eval x,exec_append ho a.eval w ?_,.inl rfl,R,Fr.refl _ _ _ _ _,r1⟩
 rw [hxe]
 exact run_append_zero A key2.1 key2.2 hle
theorem memOk_appNew (ho:o.op=.call ⟨.builtin .append,#[x,y],#[t,t']⟩) (hs:chkOpd ds x=true) (hx:chkOpd dx y=true) (A:AppOk Pr sz bt t t' el it zv) {b2:P} {o2 m:Nat} {c2:Option Nat} {old new:List DV} {n:Nat}
 (hsv:(ev ds e=.nils∧n=0∧old=[]∧0<m)∨∃ b o' c,ev ds e=.sl b o' n (some c) sz∧slcV h b o' n sz=some old∧c<n+m)
 (hxv:ev dx e=.sl b2 o2 m c2 sz) (hnew:slcV h b2 o2 m sz=some new) (hbig:(n+m)*bt≤35184372088832):
 MemOk Pr o e nx h e (.sl nx 0 (n+m) none sz) nx.suc (Tr.set nx h (some (.cells (old++new)))):=by
 intro L N hi j pv a w R hnh
 rw [P.n_suc] at hnh
 have r1:=R.reads ds x hs
 have r2:=R.reads dx y hx
 rw [hxv] at r2
 obtain ⟨nvs,n1,n2,n3,n4⟩:=R.slice_cells (Pr:=Pr) r2 hnew
 have key:∃ (base:Option Addr) (cap:Nat) (ovs:List Value),a.eval x=.slice base n cap∧cap<n+m∧VRs j old ovs∧ovs.length=n*sz∧∀ d:Nat,(Builtin.firstCells sz n (.slice base n cap)).run Pr { w with drawn:=d }=.ok ovs.toArray { w with drawn:=d }:=by
  rcases hsv with ⟨hsv,rfl,rfl,hm⟩|⟨b,o',c,hsv,hold,hlt⟩
  ·rw [hsv] at r1;exact ⟨none,0,[],r1.nils,by omega,.nil,by simp,fun d=>rfl⟩
  ·rw [hsv] at r1
   obtain ⟨ovs,h1,h2,h3,h4⟩:=R.slice_cells (Pr:=Pr) r1 hold
   obtain ⟨ad,cap,hxe,hcap⟩:=r1.sl
   refine ⟨some ad,cap,ovs,hxe,by rw [hcap.2 c rfl];exact hlt,h1,h2,?_⟩
   rw [←hxe];exact h4
 obtain ⟨base,cap,ovs,hxe,hroom,o1,o2',o3⟩:=key
 obtain ⟨newCap,d,hcap,hrun⟩:=run_append_out A (ty:=o.type) n3 o3 n4 hroom hbig
 have R':=R.drew d
 have hcs:(ovs.toArray++nvs.toArray++Builtin.zeroCells zv.cells (newCap-(n+m))).size=newCap*sz:=by
  simp only [Array.size_append,List.size_toArray,o2',n2,zeroCells_size,A.hzs]
  rw [←Nat.add_mul,←Nat.add_mul];congr 1;omega
 have hlen:(old++new).length=(n+m)*sz:=by rw [List.length_append,o1.length,n1.length,o2',n2,Nat.add_mul]
 have hle:(n+m)*sz≤newCap*sz:=Nat.mul_le_mul_right _ hcap
 obtain ⟨R2,F2⟩:=R'.alloc (t:=el) (cs:=ovs.toArray++nvs.toArray++Builtin.zeroCells zv.cells (newCap-(n+m))) (l:=old++new) (by omega) (by
  rw [hlen]
  rw [take_three ovs nvs _ (by rw [o2',n2,Nat.add_mul])]
  exact o1.append n1) (by rw [hcs,hlen];exact hle)
 refine ⟨_,_,_,_,exec_append ho a.eval w (by rw [hxe];exact hrun),.inl rfl,R2,(Fr.drew hi nx.n j pv w d).trans F2 (Nat.le_refl _),?_⟩
 refine VR.slA (s:=0) (J.put_self _ _ _) (fun _=>rfl) ⟨hcap,fun c hc=>by cases hc⟩ (Nat.le_refl _) ?_
 rw [hcs];omega
theorem memOk_appKill (ho:o.op=.call ⟨.builtin .append,#[x,y],#[t,t']⟩) (hs:chkOpd ds x=true) (hx:chkOpd dx y=true) (A:AppOk Pr sz bt t t' el it zv) {b b2:P} {o1 o2 n m:Nat} {c2:Option Nat} {l new:List DV}
 (hsv:ev ds e=.sl b o1 n none sz) (hg:Tr.get? b h=some (.cells l)) (hol:o1≤l.length) (hnl:n*sz≤(l.drop o1).length) (hm:0<m)
 (hxv:ev dx e=.sl b2 o2 m c2 sz) (hnew:slcV h b2 o2 m sz=some new) (hbig:(n+m)*bt≤35184372088832):
 MemOk Pr o e nx h e (.sl nx 0 (n+m) none sz) nx.suc (Tr.set nx (Tr.set b h (some .dead)) (some (.cells ((l.drop o1).take (n*sz)++new)))):=by
 intro L N hi j pv a w R hnh
 rw [P.n_suc] at hnh
 have r1:=R.reads ds x hs
 have r2:=R.reads dx y hx
 rw [hxv] at r2
 rw [hsv] at r1
 have hblt:b.n<nx.n:=by
  rcases Nat.lt_or_ge b.n nx.n with h'|h'
  ·exact h'
  ·rw [R.top b h'] at hg;cases hg
 have hslc:slcV h b o1 n sz=some ((l.drop o1).take (n*sz)):=by unfold slcV alive;rw [hg];simp only [if_pos (And.intro hol hnl)]
 obtain ⟨nvs,n1,n2,n3,n4⟩:=R.slice_cells (Pr:=Pr) r2 hnew
 obtain ⟨ovs,q1,q2,q3,q4⟩:=R.slice_cells (Pr:=Pr) r1 hslc
 generalize hxe:a.eval x=v' at r1 q3 q4
 have r1':VR j (.sl b o1 n none sz) v':=r1
 cases r1' with
 | slO h1 _ _=>obtain ⟨l',hg',_⟩:=R.heap b _ h1 hblt;rw [hg] at hg';cases hg'
 | slE _ h1 _ _=>obtain ⟨l',hg',_⟩:=R.heap b _ h1 hblt;rw [hg] at hg';cases hg'
 | slD _ h1 _=>have hg':Tr.get? b h=some .dead:=R.heap b _ h1 hblt;rw [hg] at hg';cases hg'
 | slA hjb hoff hcap hsl hfit=>
  rename_i bb s c off cap
  obtain ⟨hlies,l',hg',_,hcells⟩:=R.heap b _ hjb hblt
  rw [hg] at hg';cases hg'
  by_cases hroom:n+m≤cap
  ·
   have hmul:(n+m)*sz≤cap*sz:=Nat.mul_le_mul_right _ hroom
   have hmul2:(n+m)*sz=n*sz+m*sz:=Nat.add_mul _ _ _
   have hrun:=run_append_in A (w:=w) (b:=bb) (off:=off) (sLen:=n) (sCap:=cap) (ty:=o.type) n3 (n4 w.drawn) hroom n1.ones
    (fun i hi'=>by rw [Nat.add_assoc];exact hlies.cell _ (by omega)) (fun i hi'=>by rw [Nat.add_assoc];exact hlies.free _ (by omega) (by omega))
   have hold:CellsAt j w bb off ((l.drop o1).take (n*sz)):=by
    intro i v hi'
    rw [List.getElem?_take] at hi'
    by_cases hin:i<n*sz
    ·rw [if_pos hin,List.getElem?_drop] at hi'
     have hn0:0<n:=by
      rcases Nat.eq_zero_or_pos n with h0|h0
      ·rw [h0,Nat.zero_mul] at hin;omega
      ·exact h0
     rw [hoff (.inl hn0),show s+o1+i=s+(o1+i) by omega]
     exact hcells _ _ hi'
    ·rw [if_neg hin] at hi';cases hi'
   have hol2:((l.drop o1).take (n*sz)).length=n*sz:=by rw [List.length_take];omega
   obtain ⟨R',F'⟩:=R.take_over (by omega) hblt hjb hold n1 hsl (by rw [hol2,n1.length];omega)
   rw [hol2] at R' F'
   refine ⟨_,_,_,_,exec_append ho a.eval w (by rw [hxe];exact hrun),.inl rfl,R',F',?_⟩
   refine VR.slA (s:=off) (J.put_self _ _ _) (fun _=>rfl) ⟨hroom,fun c hc=>by cases hc⟩ (Nat.le_refl _) (by omega)
  ·
   obtain ⟨newCap,d,hncap,hrun⟩:=run_append_out A (ty:=o.type) n3 q4 n4 (by omega) hbig
   have R':=R.drew d
   obtain ⟨R1,F1⟩:=R'.kill (by omega) hblt (by rw [hjb];simp) (fun b' s'=>by rw [hjb];simp)
   have hcs:(ovs.toArray++nvs.toArray++Builtin.zeroCells zv.cells (newCap-(n+m))).size=newCap*sz:=by
    simp only [Array.size_append,List.size_toArray,q2,n2,zeroCells_size,A.hzs]
    rw [←Nat.add_mul,←Nat.add_mul];congr 1;omega
   have hlen:((l.drop o1).take (n*sz)++new).length=(n+m)*sz:=by rw [List.length_append,q1.length,n1.length,q2,n2,Nat.add_mul]
   have hle:(n+m)*sz≤newCap*sz:=Nat.mul_le_mul_right _ hncap
   have hext:Ext j (j.put b .dead):=Ext.put_dead
   obtain ⟨R2,F2⟩:=R1.alloc (t:=el) (cs:=ovs.toArray++nvs.toArray++Builtin.zeroCells zv.cells (newCap-(n+m))) (l:=(l.drop o1).take (n*sz)++new) (by omega) (by
    rw [hlen]
    rw [take_three ovs nvs _ (by rw [q2,n2,Nat.add_mul])]
    exact (q1.append n1).mono hext) (by rw [hcs,hlen];exact hle)
   refine ⟨_,_,_,_,exec_append ho a.eval w (by rw [hxe];exact hrun),.inl rfl,R2,((Fr.drew hi nx.n j pv w d).trans F1 (Nat.le_refl _)).trans F2 (Nat.le_refl _),?_⟩
   refine VR.slA (s:=0) (J.put_self _ _ _) (fun _=>rfl) ⟨hncap,fun c hc=>by cases hc⟩ (Nat.le_refl _) ?_
   rw [hcs];omega
theorem memOk_appIn (ho:o.op=.call ⟨.builtin .append,#[x,y],#[t,t']⟩) (hs:chkOpd ds x=true) (hx:chkOpd dx y=true) (A:AppOk Pr sz bt t t' el it zv) {b b2:P} {o1 o2 n m c:Nat} {c2:Option Nat} {l new:List DV}
 (hsv:ev ds e=.sl b o1 n (some c) sz) (hg:Tr.get? b h=some (.cells l)) (hm:0<m) (hroom:n+m≤c) (hfit:o1+n*sz+new.length≤l.length)
 (hxv:ev dx e=.sl b2 o2 m c2 sz) (hnew:slcV h b2 o2 m sz=some new):
 MemOk Pr o e nx h e (.sl b o1 (n+m) (some c) sz) nx (Tr.set b h (some (.cells (l.take (o1+n*sz)++new++l.drop (o1+n*sz+new.length))))):=by
 intro L N hi j pv a w R hnh
 have r1:=R.reads ds x hs
 have r2:=R.reads dx y hx
 rw [hxv] at r2
 rw [hsv] at r1
 have hblt:b.n<nx.n:=by
  rcases Nat.lt_or_ge b.n nx.n with h'|h'
  ·exact h'
  ·rw [R.top b h'] at hg;cases hg
 obtain ⟨nvs,n1,n2,n3,n4⟩:=R.slice_cells (Pr:=Pr) r2 hnew
 generalize hxe:a.eval x=v' at r1
 have r1':VR j (.sl b o1 n (some c) sz) v':=r1
 cases r1' with
 | slO h1 _ _=>obtain ⟨l',hg',_⟩:=R.heap b _ h1 hblt;rw [hg] at hg';cases hg'
 | slE _ h1 _ _=>obtain ⟨l',hg',_⟩:=R.heap b _ h1 hblt;rw [hg] at hg';cases hg'
 | slD _ h1 _=>have hg':Tr.get? b h=some .dead:=R.heap b _ h1 hblt;rw [hg] at hg';cases hg'
 | slA hjb hoff hcap hsl hfit2=>
  rename_i bb s cc off cap
  obtain ⟨hlies,l',hg',hll,hcells⟩:=R.heap b _ hjb hblt
  rw [hg] at hg';cases hg'
  have hcc:=hcap.2 c rfl
  subst hcc
  have hofe:=hoff (.inr ⟨cap,rfl,by omega⟩)
  have hnl:=n1.length
  have hrun:=run_append_in A (w:=w) (b:=bb) (off:=off) (sLen:=n) (sCap:=cap) (ty:=o.type) n3 (n4 w.drawn) hroom n1.ones
   (fun i hi'=>by rw [Nat.add_assoc];exact hlies.cell _ (by omega)) (fun i hi'=>by rw [Nat.add_assoc];exact hlies.free _ (by omega) (by omega))
  obtain ⟨R',F'⟩:=R.at_store (o:=o1+n*sz) hnh hjb hblt hg n1 hfit
  rw [show s+(o1+n*sz)=off+n*sz by omega] at R' F'
  refine ⟨j,_,_,_,exec_append ho a.eval w (by rw [hxe];exact hrun),.inl rfl,R',F',?_⟩
  exact VR.slA hjb (fun _=>hofe) ⟨hroom,fun c hc=>by cases hc;rfl⟩ hsl hfit2
def chkApz (Pr:Program) (sz bt:Nat) (z:List DV) (t t':Nat):Bool:=
 match Pr.underlying t,Pr.underlying t' with
 | some (.slice el),some (.int _)=>match Pr.info? el with
  | some it=>match it.zero with
   | some zv=>Nat.beq it.size sz&&!Nat.beq sz 0&&Nat.beq it.bytes bt&&!Nat.beq bt 0&&Nat.beq zv.cells.size sz&&okCs z zv.cells.toList
   | none=>false
  | none=>false
 | _,_=>false
theorem zeroCells_reps {j:J} {z:List DV} {zs:Array Value} (h:VRs j z zs.toList) (n:Nat):VRs j (reps z n) (Builtin.zeroCells zs n).toList:=by
 have hl:=h.length
 refine VRs.of_get ?_ ?_
 ·simp [reps,Builtin.zeroCells] at hl ⊢;rw [hl]
 ·intro i v hi
  have hlt:=(List.getElem?_eq_some_iff.1 hi).1
  have hlen:(reps z n).length=n*z.length:=by simp [reps]
  rw [hlen] at hlt
  have hz0:0<z.length:=by
   rcases Nat.eq_zero_or_pos z.length with h0|h0
   ·rw [h0,Nat.mul_zero] at hlt;omega
   ·exact h0
  have hmod:z[i % z.length]?=some v:=by
   rw [←hi]
   clear hi
   induction n generalizing i with
   | zero=>rw [Nat.zero_mul] at hlt;omega
   | succ n ih=>
    show _=(z++reps z n)[i]?
    by_cases h1:i<z.length
    ·rw [List.getElem?_append_left h1,Nat.mod_eq_of_lt h1]
    ·rw [List.getElem?_append_right (by omega),←ih (i-z.length) (by rw [Nat.succ_mul] at hlt;omega) (by simp [reps])]
     rw [Nat.mod_eq_sub_mod (by omega)]
  obtain ⟨v',hv',hr⟩:=h.get _ v hmod
  refine ⟨v',?_,hr⟩
  simp only [Builtin.zeroCells,Array.getElem?_toList,Array.getElem?_map,Array.length_toList] at hl hv' ⊢
  rw [Array.getElem?_range,if_pos (by rw [←hl];exact hlt)]
  simp only [Option.map_some,Option.some.injEq]
  rw [hl] at hv'
  rw [getElem!_def,hv']
theorem memOk_apz (ho:o.op=.call ⟨.builtin .append,#[x,y],#[t,t']⟩) (hs:chkOpd ds x=true) (hx:chkOpd dx y=true) {z:List DV} (hc:chkApz Pr sz bt z t t'=true) {k:IntKind} {n:Nat}
 (hsv:ev ds e=.nils) (hxv:ev dx e=.int k n) (hn:n≠0) (hbig:n*bt≤1073741824):MemOk Pr o e nx h e (.sl nx 0 n none sz) nx.suc (Tr.set nx h (some (.cells (reps z n)))):=by
 intro L N hi j pv a w R hnh
 rw [P.n_suc] at hnh
 have r1:=R.reads ds x hs
 have r2:=R.reads dx y hx
 rw [hxv] at r2;rw [hsv] at r1
 have hxe:=r1.nils
 have hye:=r2.int
 unfold chkApz at hc
 cases hu:Pr.underlying t with
 | none=>simp [hu] at hc
 | some d=>
  cases hu':Pr.underlying t' with
  | none=>cases d<;>simp [hu,hu'] at hc
  | some d'=>
   cases d<;>cases d'<;>simp only [hu,hu',Bool.false_eq_true] at hc
   rename_i el ik
   cases hit:Pr.info? el with
   | none=>simp [hit] at hc
   | some it=>
    cases hz:it.zero with
    | none=>simp [hit,hz] at hc
    | some zv=>
     simp only [hit,hz,Bool.and_eq_true,Nat.beq_eq,Bool.not_eq_true'] at hc
     obtain ⟨⟨⟨⟨⟨h1,h2⟩,h3⟩,h4⟩,h5⟩,h6⟩:=hc
     subst h1;subst h3
     have hs0:it.size≠0:=fun h0=>by rw [h0] at h2;exact absurd h2 (by decide)
     have hb0:it.bytes≠0:=fun h0=>by rw [h0] at h4;exact absurd h4 (by decide)
     obtain ⟨newCap,dd,hcap,hrun⟩:=run_append_zeros (Pr:=Pr) (t:=t) (t':=t') (ty:=o.type) (k:=k) hu hu' hit hz hs0 hb0 (w:=w) hn hbig
     have hzr:=zeroCells_reps (okCs_sound j _ _ h6) n
     have hcs:(#[]++Builtin.zeroCells zv.cells n++Builtin.zeroCells zv.cells (newCap-n)).size=newCap*it.size:=by
      simp only [Array.size_append,Array.size_empty,zeroCells_size,h5,Nat.zero_add]
      rw [←Nat.add_mul];congr 1;omega
     have hrl:=hzr.length
     have hrl2:(reps z n).length=n*it.size:=by rw [hrl,Array.length_toList,zeroCells_size,h5]
     have hle:n*it.size≤newCap*it.size:=Nat.mul_le_mul_right _ hcap
     obtain ⟨R2,F2⟩:=(R.drew dd).alloc (t:=el) (cs:=#[]++Builtin.zeroCells zv.cells n++Builtin.zeroCells zv.cells (newCap-n)) (l:=reps z n) (by omega) (by
      have:(#[]++Builtin.zeroCells zv.cells n++Builtin.zeroCells zv.cells (newCap-n)).toList.take (reps z n).length=(Builtin.zeroCells zv.cells n).toList:=by
       rw [hrl];simp
      rw [this];exact hzr) (by rw [hcs,hrl2];exact hle)
     refine ⟨_,_,_,_,exec_append ho a.eval w (by rw [hxe,hye];exact hrun),.inl rfl,R2,(Fr.drew hi nx.n j pv w dd).trans F2 (Nat.le_refl _),?_⟩
     refine VR.slA (s:=0) (J.put_self _ _ _) (fun _=>rfl) ⟨hcap,fun c hc=>by cases hc⟩ (Nat.le_refl _) ?_
     rw [hcs];omega
theorem memOk_apz0 (ho:o.op=.call ⟨.builtin .append,#[x,y],#[t,t']⟩) (hs:chkOpd ds x=true) (hx:chkOpd dx y=true) {z:List DV} (hc:chkApz Pr sz bt z t t'=true) {k:IntKind}
 (hsv:ev ds e=.nils) (hxv:ev dx e=.int k 0):MemOk Pr o e nx h e .nils nx h:=by
 intro L N hi j pv a w R hnh
 have r1:=R.reads ds x hs
 have r2:=R.reads dx y hx
 rw [hxv] at r2;rw [hsv] at r1
 have hxe:=r1.nils
 have hye:=r2.int
 unfold chkApz at hc
 cases hu:Pr.underlying t with
 | none=>simp [hu] at hc
 | some d=>
  cases hu':Pr.underlying t' with
  | none=>cases d<;>simp [hu,hu'] at hc
  | some d'=>
   cases d<;>cases d'<;>simp only [hu,hu',Bool.false_eq_true] at hc
   rename_i el ik
   cases hit:Pr.info? el with
   | none=>simp [hit] at hc
   | some it=>
    have hso:∀ W:World,(sizeOf el).run Pr W=.ok it.size W:=by intro W;simp [sizeOf,typeInfo,hit]
    have hti:∀ W:World,(typeInfo el).run Pr W=.ok it W:=by intro W;simp [typeInfo,hit]
    have hw:IntKind.i64.wrap 0=0:=wrap_of_fits rfl
    refine ⟨j,w,_,.slice none 0 0,exec_append ho a.eval w ?_,.inl rfl,R,Fr.refl _ _ _ _ _,VR.nils⟩
    rw [hxe,hye]
    simp only [Builtin.append_,Sem.run_bind,run_underlying hu,Result.andThen_ok,hso,List.getElem?_toArray,List.getElem?_cons_zero,List.getElem?_cons_succ,run_underlying hu',Sem.run_pure]
    simp [asInt,asIntOf,hw,hti]
end
def chkMsl (Pr:Program) (sz bt:Nat) (z:List DV) (t:Nat):Bool:=
 match Pr.underlying t with
 | some (.slice el)=>match Pr.info? el with
  | some it=>match it.zero with
   | some zv=>Nat.beq it.size sz&&!Nat.beq sz 0&&Nat.beq it.bytes bt&&!Nat.beq bt 0&&Nat.beq zv.cells.size sz&&okCs z zv.cells.toList
   | none=>false
  | none=>false
 | _=>false
theorem run_msl {Pr:Program} {w:World} {t el:Nat} {it:TypeInfo} {zv:Value} (hu:Pr.underlying t=some (.slice el)) (hit:Pr.info? el=some it) (hz:it.zero=some zv) (hs:zv.cells.size=it.size) (hb:it.bytes≠0)
 {kl kc:IntKind} {n c:Nat} (hnc:n≤c) (hle:it.bytes*c≤1073741824):
 (Instr.makeSlice t (.int kl n) (.int kc c)).run Pr w=.ok (.slice (some ⟨w.heap.size,0,none⟩) n c) (w.alloc (.cells (Builtin.zeroCells zv.cells c) el)):=by
 have hc1:c≤it.bytes*c:=Nat.le_mul_of_pos_left _ (Nat.pos_of_ne_zero hb)
 have wl:IntKind.i64.wrap (n:Int)=n:=by rw [IntKind.wrap_i64];omega
 have wc:IntKind.i64.wrap (c:Int)=c:=by rw [IntKind.wrap_i64];omega
 have n1:¬ (c:Int)<0:=by omega
 have hci:(it.bytes:Int)*(c:Int)≤1073741824:=by have:=Int.ofNat_le.2 hle;rw [Int.natCast_mul] at this;omega
 have n2:¬ (281474976710656<(it.bytes:Int)*(c:Int)):=by omega
 have n3:¬ (n:Int)<0:=by omega
 have n4:¬ (c:Int)<(n:Int):=by omega
 have n5:¬ (140737488355328<c*it.bytes):=by rw [Nat.mul_comm];omega
 by_cases hn:c*it.size=0
 ·have hzc:Builtin.zeroCells zv.cells c=#[]:=by
   apply Array.eq_empty_of_size_eq_zero;rw [zeroCells_size,hs,hn]
  have n6:¬ c<n:=by omega
  rw [hzc]
  simp [Instr.makeSlice,run_underlying hu,asInt,asIntOf,typeInfo,hit,sizeOf,wl,wc,n1,n2,n3,n6,hn,newRow,askRoom,roomBytes]
  congr 2
  exact Array.eq_empty_of_size_eq_zero (by simp)
 ·have n6:¬ c<n:=by omega
  simp [Instr.makeSlice,run_underlying hu,asInt,asIntOf,typeInfo,hit,sizeOf,zeroValue,hz,wl,wc,n1,n2,n3,n6,hn,newRow,askRoom,roomBytes,Builtin.zeroCells,hs]
theorem memOk_msl {Pr:Program} {o:Oper} {e:Env} {nx:P} {h:Hp} {dl dc:Opd} {x y:Operand} {t sz bt:Nat} {z:List DV} (ho:o.op=.makeSlice t x y) (hl:chkOpd dl x=true) (hcp:chkOpd dc y=true)
 (hc:chkMsl Pr sz bt z t=true) {kl kc:IntKind} {n c:Nat} (hlv:ev dl e=.int kl n) (hcv:ev dc e=.int kc c) (hnc:n≤c) (hbig:bt*c≤1073741824):
 MemOk Pr o e nx h e (.sl nx 0 n (some c) sz) nx.suc (Tr.set nx h (some (.cells (reps z c)))):=by
 unfold chkMsl at hc
 cases hu:Pr.underlying t with
 | none=>simp [hu] at hc
 | some d=>
  cases d<;>simp only [hu,Bool.false_eq_true] at hc
  rename_i el
  cases hit:Pr.info? el with
  | none=>simp [hit] at hc
  | some it=>
   cases hz:it.zero with
   | none=>simp [hit,hz] at hc
   | some zv=>
    simp only [hit,hz,Bool.and_eq_true,Nat.beq_eq,Bool.not_eq_true'] at hc
    obtain ⟨⟨⟨⟨⟨h1,h2⟩,h3⟩,h4⟩,h5⟩,h6⟩:=hc
    subst h1;subst h3
    have hb0:it.bytes≠0:=fun h0=>by rw [h0] at h4;exact absurd h4 (by decide)
    refine memOk_new (fun b=>.slice (some ⟨b,0,none⟩) n c) ?_
    intro L N hi j pv a w R
    have r1:=R.reads dl x hl
    have r2:=R.reads dc y hcp
    rw [hlv] at r1;rw [hcv] at r2
    refine ⟨Builtin.zeroCells zv.cells c,el,zeroCells_reps (okCs_sound j _ _ h6) c,?_,fun j' hj'=>?_⟩
    ·simp only [execOp,ho,r1.int,r2.int,Sem.run_bind,run_msl hu hit hz h5 hb0 hnc hbig,Result.andThen_ok,Sem.run_pure]
    ·exact VR.slA hj' (fun _=>rfl) ⟨hnc,fun c hc=>by cases hc;rfl⟩ (Nat.le_refl _) (by rw [zeroCells_size,h5,Nat.zero_add];exact Nat.le_refl _)
def chkBsl0 (Pr:Program) (len sz:Nat) (z:List DV) (ps:List (Nat × Nat × Opd)) (t n:Nat) (qs:List (Nat × Operand)):Bool:=
 match z,ps,qs with
 | [],[],[]=>match Pr.underlying t with
  | some (.slice el)=>match Pr.info? el with
   | some ie=>Nat.beq ie.size sz&&Nat.beq n 0&&Nat.beq len 0
   | none=>false
  | _=>false
 | _,_,_=>false
theorem memOk_bsl0 {Pr:Program} {o:Oper} {e:Env} {nx:P} {h:Hp} {len sz:Nat} {z c:List DV} {ps:List (Nat × Nat × Opd)} {t n:Nat} {qs:Array (Nat × Operand)} (ho:o.op=.buildSlice t n qs)
 (hc:chkBsl0 Pr len sz z ps t n qs.toList=true) (hf:fills e ps z=some c):MemOk Pr o e nx h e (.sl nx 0 len (some len) sz) nx.suc (Tr.set nx h (some (.cells c))):=by
 unfold chkBsl0 at hc
 split at hc
 case h_2=>cases hc
 rename_i hq
 cases hu:Pr.underlying t with
 | none=>simp [hu] at hc
 | some dt=>
  cases dt<;>simp only [hu,Bool.false_eq_true] at hc
  rename_i el
  cases hie:Pr.info? el with
  | none=>simp [hie] at hc
  | some ie=>
   simp only [hie,Bool.and_eq_true,Nat.beq_eq] at hc
   obtain ⟨⟨rfl,rfl⟩,rfl⟩:=hc
   simp only [fills,Option.some.injEq] at hf
   subst hf
   have hq':qs=#[]:=by apply Array.toList_inj.1;exact hq
   subst hq'
   refine memOk_new (fun b=>.slice (some ⟨b,0,none⟩) 0 0) ?_
   intro L N hi' j pv a w R
   refine ⟨#[],el,.nil,?_,fun j' hj'=>?_⟩
   ·have e0:(Array.map (fun (_:Nat)=>(default:Value)) (Array.range 0))=#[]:=Array.eq_empty_of_size_eq_zero (by simp)
    simp [execOp,ho,Instr.buildSlice,run_underlying hu,sizeOf,typeInfo,hie,newRow,Instr.fill,e0]
   ·exact VR.slA hj' (fun _=>rfl) ⟨Nat.le_refl _,fun c hc=>by cases hc;rfl⟩ (Nat.le_refl _) (by simp)
def chkClr (Pr:Program) (z:List DV) (t:Nat):Bool:=
 match Pr.underlying t with
 | some (.slice el)=>match Pr.info? el with
  | some it=>match it.zero with
   | some zv=>okCs z zv.cells.toList
   | none=>false
  | none=>false
 | _=>false
theorem chkClr_spec {Pr:Program} {z:List DV} {t:Nat} (h:chkClr Pr z t=true):∃ el it zv,Pr.underlying t=some (.slice el)∧Pr.info? el=some it∧it.zero=some zv∧okCs z zv.cells.toList=true:=by
 unfold chkClr at h
 cases hu:Pr.underlying t with
 | none=>simp [hu] at h
 | some d=>
  cases d<;>simp only [hu,Bool.false_eq_true] at h
  rename_i el
  cases hi:Pr.info? el with
  | none=>simp [hi] at h
  | some it=>
   cases hz:it.zero with
   | none=>simp [hi,hz] at h
   | some zv=>simp only [hi,hz] at h;exact ⟨el,it,zv,rfl,hi,hz,h⟩
section
variable {Pr:Program} {o:Oper} {e:Env} {nx:P} {h:Hp} {d:Opd} {x:Operand} {t:Nat} {z:List DV}
theorem exec_clear (ho:o.op=.call ⟨.builtin .clear,#[x],#[t]⟩) (ρ:Operand→Value) (w:World) {v:Value} {w':World}
 (hr:(Builtin.clear_ #[t] o.type #[ρ x]).run Pr w=.ok v w'):(execOp ρ o).run Pr w=.ok (.value v) w':=by
 simp only [execOp,ho,resolve,Sem.run_bind,Sem.run_pure,Result.andThen_ok,invoke,builtin]
 simp only [List.map_toArray,List.map_cons,List.map_nil]
 rw [hr];rfl
theorem memOk_clr0 (ho:o.op=.call ⟨.builtin .clear,#[x],#[t]⟩) (hd:chkOpd d x=true) (hc:chkClr Pr z t=true)
 (hev:ev d e=.nils∨∃ b o c s,ev d e=.sl b o 0 c s):MemOk Pr o e nx h e (.tup []) nx h:=by
 intro L N hi j pv a w R _
 obtain ⟨el,it,zv,hu,hi',hz,hok⟩:=chkClr_spec hc
 have r1:=R.reads d x hd
 have key:∃ base c,a.eval x=.slice base 0 c:=by
  rcases hev with hev|⟨b,o',c,s,hev⟩
  ·rw [hev] at r1;exact ⟨none,0,r1.nils⟩
  ·rw [hev] at r1;obtain ⟨ad,cap,h1,_⟩:=r1.sl;exact ⟨some ad,cap,h1⟩
 obtain ⟨base,c,hxe⟩:=key
 refine ⟨j,w,_,.tuple #[],exec_clear ho a.eval w ?_,.inl rfl,R,Fr.refl _ _ _ _ _,VR.tup (l':=[]) .nil⟩
 rw [hxe]
 simp only [Builtin.clear_,Sem.run_bind,Sem.run_pure,Result.andThen_ok,List.getElem?_toArray,List.getElem?_cons_zero,run_underlying hu]
 cases base<;>simp
theorem memOk_clr (ho:o.op=.call ⟨.builtin .clear,#[x],#[t]⟩) (hd:chkOpd d x=true) (hc:chkClr Pr z t=true) {k:P} {o' n:Nat} {cp:Option Nat} {sz:Nat} {l:List DV}
 (hev:ev d e=.sl k o' n cp sz) (hn:0<n) (hg:Tr.get? k h=some (.cells l)) (hle:o'+(reps z n).length≤l.length):
 MemOk Pr o e nx h e (.tup []) nx (Tr.set k h (some (.cells (l.take o'++reps z n++l.drop (o'+(reps z n).length))))):=by
 intro L N hi j pv a w R hnh
 obtain ⟨el,it,zv,hu,hi',hz,hok⟩:=chkClr_spec hc
 have hx:=R.reads d x hd
 rw [hev] at hx
 have hlt:k.n<nx.n:=by
  rcases Nat.lt_or_ge k.n nx.n with h'|h'
  ·exact h'
  ·rw [R.top k h'] at hg;cases hg
 have hcs:VRs j (reps z n) (Builtin.zeroCells zv.cells n).toList:=zeroCells_reps (okCs_sound j z _ hok) n
 have hlen:=hcs.length
 generalize hxe:a.eval x=v' at hx
 cases (hx:VR j _ _) with
 | slO hjk=>obtain ⟨_,hg',_⟩:=R.heap k _ hjk hlt;rw [hg] at hg';cases hg'
 | slD _ hjk=>have hg':Tr.get? k h=some .dead:=R.heap k _ hjk hlt;rw [hg] at hg';cases hg'
 | slE=>omega
 | slA hjk hoff=>
  rename_i b s cc off cap h1 h2 h3
  obtain ⟨hlies,l',hg',hll,_⟩:=R.heap k _ hjk hlt
  rw [hg] at hg';cases hg'
  obtain ⟨R',F'⟩:=R.at_store hnh hjk hlt hg hcs hle
  have hso:=hoff (.inl hn)
  subst hso
  refine ⟨j,_,_,.tuple #[],exec_clear ho a.eval w (w':=w.setCells b (s+o') (Builtin.zeroCells zv.cells n).toList) ?_,.inl rfl,R',F',VR.tup (l':=[]) .nil⟩
  have hst:=run_storeCells_cells (P:=Pr) b (s+o') (Builtin.zeroCells zv.cells n).toList 0 w (fun q hq=>by simpa using hlies.cell (s+o'+q) (by omega)) (fun q hq=>by simpa using hlies.free (s+o'+q) (by omega) (by omega)) hcs.ones
  have hzv:∀ W:World,(zeroValue el).run Pr W=.ok zv W:=by intro W;simp [zeroValue,typeInfo,hi',hz]
  rw [hxe]
  obtain ⟨m,rfl⟩:∃ m,n=m+1:=⟨n-1,by omega⟩
  simp only [Nat.add_zero] at hst
  simp only [Builtin.clear_,Sem.run_bind,Sem.run_pure,Result.andThen_ok,List.getElem?_toArray,List.getElem?_cons_zero,run_underlying hu,hzv]
  simp [hst]
end
def OpOk (Pr:Program) (o:Oper) (e:Env) (nx:P) (h:Hp) (e':Env) (v:DV) (nx':P) (h':Hp):Prop:=
 ∀ (L:P→Prop) (N hi:Nat) (j:J) (pv:P→Option Nat) (a:Act) (w:World),Rel L N hi j pv e nx h a w→nx'.n≤hi→∀ (K:Act→World→Prop) (Q:Exit→Act→World→Prop),
  (∀ j' w' v',Rel L N hi j' pv e' nx' h' a w'→Fr hi nx.n j pv w j' pv w'→XD j' pv v v'→K (a.put o.dst v') w')→o.wp Pr a w K Q
theorem MemOk.op {Pr:Program} {o:Oper} {e:Env} {nx:P} {h:Hp} {e':Env} {v:DV} {nx':P} {h':Hp} (H:MemOk Pr o e nx h e' v nx' h'):OpOk Pr o e nx h e' v nx' h':=by
 intro L N hi j pv a w R hnh K Q hK
 obtain ⟨j',w',nxt,v',hrun,hn,R',F',hx⟩:=H L N hi j pv a w R hnh
 unfold Oper.wp
 rw [hrun]
 rcases hn with rfl|⟨rfl,rfl⟩
 ·exact hK j' w' v' R' F' hx
 ·exact hK j' w' undef R' F' hx
structure Moves (wm:Option P) (e:Env) (nx:P) (h:Hp) (e':Env) (nx':P) (h':Hp):Prop where
 le:nx.n≤nx'.n
 env:∀ p,Tr.get? p e'=Tr.get? p e∨∃ l l',Tr.get? p e=some (.var l)∧Tr.get? p e'=some (.var l')∧l'.length=l.length
 old:∀ m,wm=some m→m.n≤nx.n→∀ k:P,k.n<m.n→Tr.get? k h'=Tr.get? k h
 top:(∀ k:P,nx.n≤k.n→Tr.get? k h=none)→∀ k:P,nx'.n≤k.n→Tr.get? k h'=none
theorem Moves.same (wm:Option P) (e:Env) (nx:P) (h:Hp):Moves wm e nx h e nx h:=⟨Nat.le_refl _,fun _=>.inl rfl,fun _ _ _ _ _=>rfl,fun h=>h⟩
theorem Moves.new {wm:Option P} {e:Env} {nx:P} {h:Hp} {x:Option Ob}:Moves wm e nx h e nx.suc (Tr.set nx h x):=
 ⟨by rw [P.n_suc];omega,fun _=>.inl rfl,fun m _ hm k hk=>Tr.get_set_ne (by rintro rfl;omega) _ _,fun ht k hk=>by
  rw [P.n_suc] at hk;rw [Tr.get_set_ne (by rintro rfl;omega)];exact ht k (by omega)⟩
theorem Moves.put {wm:Option P} {e:Env} {nx:P} {h:Hp} {b:P} {x:Option Ob} {y:Ob} (hb:may wm b) (hg:Tr.get? b h=some y):Moves wm e nx h e nx (Tr.set b h x):=
 ⟨Nat.le_refl _,fun _=>.inl rfl,fun m hm _ k hk=>Tr.get_set_ne (by rintro rfl;have:=hb m hm;omega) _ _,fun ht k hk=>by
  have:=ht k hk
  rw [Tr.get_set_ne (by rintro rfl;rw [hg] at this;cases this)];exact this⟩
theorem Moves.put_new {wm:Option P} {e:Env} {nx:P} {h:Hp} {b:P} {x y:Option Ob} {z:Ob} (hb:may wm b) (hg:Tr.get? b h=some z):Moves wm e nx h e nx.suc (Tr.set nx (Tr.set b h x) y):=
 ⟨by rw [P.n_suc];omega,fun _=>.inl rfl,fun m hm hmn k hk=>by
  rw [Tr.get_set_ne (by rintro rfl;omega),Tr.get_set_ne (by rintro rfl;have:=hb m hm;omega)],fun ht k hk=>by
  rw [P.n_suc] at hk
  have:=ht k (by omega)
  rw [Tr.get_set_ne (by rintro rfl;omega),Tr.get_set_ne (by rintro rfl;rw [hg] at this;cases this)];exact this⟩
theorem Moves.trans {wm:Option P} {e e' e'':Env} {nx nx' nx'':P} {h h' h'':Hp} (m1:Moves wm e nx h e' nx' h') (m2:Moves wm e' nx' h' e'' nx'' h''):Moves wm e nx h e'' nx'' h'':=
 ⟨Nat.le_trans m1.le m2.le,fun p=>by
  rcases m2.env p with h2|⟨l,l',h2,h3,h4⟩
  ·rw [h2];exact m1.env p
  ·rcases m1.env p with h1|⟨l0,l1,h5,h6,h7⟩
   ·exact .inr ⟨l,l',by rw [←h1];exact h2,h3,h4⟩
   ·rw [h6] at h2;cases h2;exact .inr ⟨_,_,h5,h3,by omega⟩,
  fun m hm hmn k hk=>by rw [m2.old m hm (Nat.le_trans hmn m1.le) k hk,m1.old m hm hmn k hk],fun ht=>m2.top (m1.top ht)⟩
def chkCall2 (c:Call) (b:Builtin) (f:Operand→Operand→Nat→Nat→Bool):Bool:=
 match c with
 | ⟨.builtin b',⟨[x,y]⟩,⟨[t,t']⟩⟩=>decide (b'=b)&&f x y t t'
 | _=>false
def chkCall1 (c:Call) (b:Builtin) (f:Operand→Nat→Bool):Bool:=
 match c with
 | ⟨.builtin b',⟨[x]⟩,⟨[t]⟩⟩=>decide (b'=b)&&f x t
 | _=>false
def chkMem (Pr:Program) (i:Ins) (op:Go.Op):Bool:=
 match i,op with
 | .al z,.alloc t=>match Pr.info? t with
  | some it=>match it.zero with
   | some zv=>okCs z zv.cells.toList
   | none=>false
  | none=>false
 | .bx d,.box _ x=>chkOpd d x
 | .bsl len sz z ps,.buildSlice t n qs=>chkBsl Pr len sz z ps t n qs.toList||chkBsl0 Pr len sz z ps t n qs.toList
 | .ld d,.load t x=>chkOpd d x&&aggIs Pr t false
 | .lda n d,.load t x=>chkOpd d x&&aggIs Pr t true&&sizeIs Pr t n
 | .vla n d,.load t x=>chkOpd d x&&aggIs Pr t true&&sizeIs Pr t n
 | .st n d v,.store t x y=>chkOpd d x&&chkOpd v y&&sizeIs Pr t n
 | .msl sz bt z l c,.makeSlice t x y=>chkOpd l x&&chkOpd c y&&chkMsl Pr sz bt z t
 | .app sz bt s x,.call c=>chkCall2 c .append fun y y' t t'=>chkOpd s y&&chkOpd x y'&&chkApp Pr sz bt t t'
 | .clr _ z d,.call c=>chkCall1 c .clear fun x t=>chkOpd d x&&chkClr Pr z t
 | .apz sz bt z s n,.call c=>chkCall2 c .append fun y y' t t'=>chkOpd s y&&chkOpd n y'&&chkApz Pr sz bt z t t'
 | _,_=>false
theorem chkCall2_spec {c:Call} {b:Builtin} {f:Operand→Operand→Nat→Nat→Bool} (h:chkCall2 c b f=true):∃ x y t t',c=⟨.builtin b,#[x,y],#[t,t']⟩∧f x y t t'=true:=by
 unfold chkCall2 at h
 split at h
 ·rename_i b' x y t t'
  simp only [Bool.and_eq_true,decide_eq_true_eq] at h
  exact ⟨x,y,t,t',by rw [h.1],h.2⟩
 ·cases h
theorem chkCall1_spec {c:Call} {b:Builtin} {f:Operand→Nat→Bool} (h:chkCall1 c b f=true):∃ x t,c=⟨.builtin b,#[x],#[t]⟩∧f x t=true:=by
 unfold chkCall1 at h
 split at h
 ·rename_i b' x t
  simp only [Bool.and_eq_true,decide_eq_true_eq] at h
  exact ⟨x,t,by rw [h.1],h.2⟩
 ·cases h
section
variable {Pr:Program} {F:Tr Fd} {ih:Ih} {wm:Option P} {e:Env} {nx:P} {h:Hp} {k:Kv} {out:Out} {eo:Env} {no:P} {ho:Hp} {o:Oper}
def Step (Pr:Program) (o:Oper) (wm:Option P) (e:Env) (nx:P) (h:Hp) (k:Kv) (r:Res):Prop:=
 ∃ e' v nx' h',k e' v nx' h'=r∧OpOk Pr o e nx h e' v nx' h'∧Moves wm e nx h e' nx' h'
theorem mem_app {sz bt:Nat} {s x:Opd} (H:insK (.app sz bt s x) F ih wm e nx h k=.ok out eo no ho) (hc:chkMem Pr (.app sz bt s x) o.op=true):Step Pr o wm e nx h k (.ok out eo no ho):=by
 cases hop:o.op<;>simp only [chkMem,hop,Bool.false_eq_true] at hc
 rename_i c
 obtain ⟨y,y',t,t',rfl,hf⟩:=chkCall2_spec hc
 simp only [Bool.and_eq_true] at hf
 obtain ⟨⟨hs,hx⟩,hA⟩:=hf
 obtain ⟨el,it,zv,A⟩:=chkApp_spec hA
 change asSl (ev x e) (nilsK (ev x e) .fail fun _=>apX sz bt (ev s e) e nx h k wm (nat_lit 0) []) (fun b o n _ s2=>chk (Nat.beq s2 sz) fun _=>slcK h b o n sz fun new=>apX sz bt (ev s e) e nx h k wm n new)=_ at H
 rw [asSl_eq,nilsK_eq] at H
 have zero:∀ new,apX sz bt (ev s e) e nx h k wm 0 new=.ok out eo no ho→((ev x e=.nils)∨∃ b o c,ev x e=.sl b o 0 c sz∧slcV h b o 0 sz=some [])→Step Pr o wm e nx h k (.ok out eo no ho):=by
  intro new H' hxv
  change asSl (ev s e) (nilsK (ev s e) .fail fun _=>fV (ev s e) fun v=>k e v nx h) (fun _ _ _ _ _=>fV (ev s e) fun v=>k e v nx h)=_ at H'
  rw [asSl_eq,nilsK_eq] at H'
  have key:∀ v,ev s e=v→((ev s e=.nils)∨∃ b o n c s',ev s e=.sl b o n c s')→fV v (fun v=>k e v nx h)=.ok out eo no ho→Step Pr o wm e nx h k (.ok out eo no ho):=by
   intro v hv hsv H''
   rw [fV_eq,←hv] at H''
   exact ⟨e,ev s e,nx,h,H'',(memOk_app0 hop hs hx A hsv hxv).op,Moves.same _ _ _ _⟩
  cases hse:ev s e<;>simp only [hse,reduceCtorEq] at H'
  case nils=>exact key _ hse (.inl hse) H'
  case sl=>exact key _ hse (.inr ⟨_,_,_,_,_,hse⟩) H'
 cases hxe:ev x e<;>simp only [hxe,reduceCtorEq] at H
 case nils=>exact zero _ H (.inl hxe)
 case sl b2 o2 m c2 s2=>
  rw [chk_eq,beq_if] at H
  by_cases h1:s2=sz
  case neg=>rw [if_neg h1] at H;cases H
  rw [if_pos h1] at H
  subst h1
  rw [slcK_eq] at H
  cases hnew:slcV h b2 o2 m s2 with
  | none=>simp only [hnew,reduceCtorEq] at H
  | some new=>
   simp only [hnew] at H
   rcases Nat.eq_zero_or_pos m with hm|hm
   ·subst hm
    refine zero _ H (.inr ⟨_,_,_,hxe,?_⟩)
    have hl:new=[]:=by
     unfold slcV at hnew
     cases hal:alive b2 h with
     | none=>simp [hal] at hnew
     | some l=>
      simp only [hal] at hnew
      split at hnew
      ·simp at hnew;exact hnew
      ·cases hnew
    rw [hnew,hl]
   ·have hmb:Nat.beq m 0=false:=by cases m with
     | zero=>omega
     | succ m=>rfl
    unfold apX at H
    rw [show (nat_lit 0)=0 from rfl,hmb] at H
    change asSl (ev s e) (nilsK (ev s e) .fail fun _=>chk (Nat.ble (Nat.mul m bt) (nat_lit 35184372088832)) fun _=>apNew s2 (nat_lit 0) m [] new e nx h k) (apSl s2 bt e nx h k wm m new)=_ at H
    rw [asSl_eq,nilsK_eq] at H
    have apn:∀ (n:Nat) (old:List DV) (h:Hp),apNew s2 n m old new e nx h k=k e (.sl nx 0 (n+m) none s2) nx.suc (Tr.set nx h (some (.cells (old++new)))):=by
     intro n old h
     unfold apNew
     rw [catK_eq,forceN_eq,newK_eq];rfl
    cases hse:ev s e<;>simp only [hse,reduceCtorEq] at H
    case nils=>
     rw [chk_eq,ble_if] at H
     change (if m*bt≤35184372088832 then _ else _)=_ at H
     by_cases h2:m*bt≤35184372088832
     case neg=>rw [if_neg h2] at H;cases H
     rw [if_pos h2,apn] at H
     exact ⟨_,_,_,_,H,(memOk_appNew hop hs hx A (old:=[]) (n:=0) (.inl ⟨hse,rfl,rfl,hm⟩) hxe hnew (by rw [Nat.zero_add];exact h2)).op,Moves.new⟩
    case sl b o1 n cp s3=>
     unfold apSl at H
     rw [chk_eq,beq_if] at H
     by_cases h3:s3=s2
     case neg=>rw [if_neg h3] at H;cases H
     rw [if_pos h3,chk_eq,ble_if] at H
     subst h3
     change (if (n+m)*bt≤35184372088832 then _ else _)=_ at H
     by_cases h4:(n+m)*bt≤35184372088832
     case neg=>rw [if_neg h4] at H;cases H
     rw [if_pos h4] at H
     cases cp with
     | none=>
      change wOk wm b .fail (fun _=>ownK b h .fail fun l=>dropK o1 l .fail fun t=>takeK (n*s3) t .fail fun old=>Tr.setK b h (some .dead) fun h=>apNew s3 n m old new e nx h k)=_ at H
      rw [wOk_eq] at H
      by_cases h5:may wm b
      case neg=>rw [if_neg h5] at H;cases H
      rw [if_pos h5,ownK_eq] at H
      cases hg:Tr.get? b h with
      | none=>simp only [hg,reduceCtorEq] at H
      | some ob=>
       cases ob<;>simp only [hg,reduceCtorEq] at H
       rename_i l
       rw [dropK_eq] at H
       by_cases h6:o1≤l.length
       case neg=>rw [if_neg h6] at H;cases H
       rw [if_pos h6,takeK_eq] at H
       by_cases h7:n*s3≤(l.drop o1).length
       case neg=>rw [if_neg h7] at H;cases H
       rw [if_pos h7,Tr.setK_eq,apn] at H
       exact ⟨_,_,_,_,H,(memOk_appKill hop hs hx A hse hg h6 h7 hm hxe hnew h4).op,Moves.put_new h5 hg⟩
     | some c=>
      change (Bool.rec (motive:=fun _=>Res) (slcK h b o1 n s3 fun old=>apNew s3 n m old new e nx h k) (apIn s3 e nx h k wm b o1 n c m new) (Nat.ble (n+m) c))=_ at H
      rw [brec_if,ble_if] at H
      by_cases h5:n+m≤c
      ·rw [if_pos h5] at H
       unfold apIn at H
       rw [wOk_eq] at H
       by_cases h6:may wm b
       case neg=>rw [if_neg h6] at H;cases H
       rw [if_pos h6,ownK_eq] at H
       cases hg:Tr.get? b h with
       | none=>simp only [hg,reduceCtorEq] at H
       | some ob=>
        cases ob<;>simp only [hg,reduceCtorEq] at H
        rename_i l
        change sprK (o1+n*s3) l new .fail (fun l=>Tr.setK b h (some (.cells l)) fun h=>forceN (n+m) fun n=>k e (.sl b o1 n (some c) s3) nx h)=_ at H
        rw [sprK_eq] at H
        by_cases h7:o1+n*s3+new.length≤l.length
        case neg=>rw [if_neg h7] at H;cases H
        rw [if_pos h7,Tr.setK_eq,forceN_eq] at H
        exact ⟨_,_,_,_,H,(memOk_appIn hop hs hx A hse hg hm h5 h7 hxe hnew).op,Moves.put h6 hg⟩
      ·rw [if_neg h5,slcK_eq] at H
       cases hold:slcV h b o1 n s3 with
       | none=>simp only [hold,reduceCtorEq] at H
       | some old=>
        simp only [hold,apn] at H
        exact ⟨_,_,_,_,H,(memOk_appNew hop hs hx A (.inr ⟨_,_,_,hse,hold,by omega⟩) hxe hnew h4).op,Moves.new⟩
end
section
variable {Pr:Program} {F:Tr Fd} {ih:Ih} {wm:Option P} {e:Env} {nx:P} {h:Hp} {k:Kv} {out:Out} {eo:Env} {no:P} {ho:Hp} {o:Oper}
theorem mem_apz {sz bt:Nat} {z:List DV} {s x:Opd} (H:insK (.apz sz bt z s x) F ih wm e nx h k=.ok out eo no ho) (hc:chkMem Pr (.apz sz bt z s x) o.op=true):Step Pr o wm e nx h k (.ok out eo no ho):=by
 cases hop:o.op<;>simp only [chkMem,hop,Bool.false_eq_true] at hc
 rename_i c
 obtain ⟨y,y',t,t',rfl,hf⟩:=chkCall2_spec hc
 simp only [Bool.and_eq_true] at hf
 obtain ⟨⟨hs,hx⟩,hA⟩:=hf
 change nilsK (ev s e) .fail (fun _=>asI (ev x e) .fail fun _ x=>natI x fun n=>chk (Nat.ble (Nat.mul n bt) (nat_lit 1073741824)) fun _=>
  Bool.rec (motive:=fun _=>Res) (apzN sz z n e nx h k) (k e .nils nx h) (Nat.beq n (nat_lit 0)))=_ at H
 rw [nilsK_eq] at H
 cases hse:ev s e<;>simp only [hse,reduceCtorEq] at H
 rw [asI_eq] at H
 cases hxe:ev x e<;>simp only [hxe,reduceCtorEq] at H
 rename_i kk i
 rw [natI_eq] at H
 by_cases h1:0≤i
 case neg=>rw [if_neg h1] at H;cases H
 rw [if_pos h1,chk_eq,ble_if] at H
 change (if i.toNat*bt≤1073741824 then _ else _)=_ at H
 by_cases h2:i.toNat*bt≤1073741824
 case neg=>rw [if_neg h2] at H;cases H
 rw [if_pos h2,brec_if,beq_if] at H
 have hi:i=(i.toNat:Int):=by omega
 generalize i.toNat=n at *
 subst hi
 by_cases h3:n=0
 ·rw [if_pos h3] at H
  subst h3
  exact ⟨_,_,_,_,H,(memOk_apz0 hop hs hx hA hse hxe).op,Moves.same _ _ _ _⟩
 ·rw [if_neg h3] at H
  unfold apzN at H
  rw [repZ_eq] at H
  unfold apNew at H
  rw [catK_eq,forceN_eq,newK_eq] at H
  change k e (.sl nx 0 (0+n) none sz) nx.suc (Tr.set nx h (some (.cells (reps z n))))=_ at H
  rw [Nat.zero_add] at H
  exact ⟨_,_,_,_,H,(memOk_apz hop hs hx hA hse hxe h3 h2).op,Moves.new⟩
theorem mem_msl {sz bt:Nat} {z:List DV} {s x:Opd} (H:insK (.msl sz bt z s x) F ih wm e nx h k=.ok out eo no ho) (hc:chkMem Pr (.msl sz bt z s x) o.op=true):Step Pr o wm e nx h k (.ok out eo no ho):=by
 cases hop:o.op<;>simp only [chkMem,hop,Bool.false_eq_true] at hc
 rename_i t y y'
 simp only [Bool.and_eq_true] at hc
 obtain ⟨⟨hs,hx⟩,hA⟩:=hc
 change asI (ev s e) .fail (fun _ x'=>natI x' fun n=>asI (ev x e) .fail fun _ y=>natI y fun c=>chk (Nat.ble n c) fun _=>
  chk (Nat.ble (Nat.mul bt c) (nat_lit 1073741824)) fun _=>repZ z c fun l=>forceN n fun n=>forceN c fun c=>newK l e nx h (fun b=>.sl b (nat_lit 0) n (some c) sz) k)=_ at H
 rw [asI_eq] at H
 cases hse:ev s e<;>simp only [hse,reduceCtorEq] at H
 rename_i k1 i1
 rw [natI_eq] at H
 by_cases h1:0≤i1
 case neg=>rw [if_neg h1] at H;cases H
 rw [if_pos h1,asI_eq] at H
 cases hxe:ev x e<;>simp only [hxe,reduceCtorEq] at H
 rename_i k2 i2
 rw [natI_eq] at H
 by_cases h2:0≤i2
 case neg=>rw [if_neg h2] at H;cases H
 rw [if_pos h2,chk_eq,ble_if] at H
 by_cases h3:i1.toNat≤i2.toNat
 case neg=>rw [if_neg h3] at H;cases H
 rw [if_pos h3,chk_eq,ble_if] at H
 change (if bt*i2.toNat≤1073741824 then _ else _)=_ at H
 by_cases h4:bt*i2.toNat≤1073741824
 case neg=>rw [if_neg h4] at H;cases H
 rw [if_pos h4,repZ_eq,forceN_eq,forceN_eq,newK_eq] at H
 have hi1:i1=(i1.toNat:Int):=by omega
 have hi2:i2=(i2.toNat:Int):=by omega
 generalize i1.toNat=n1 at *
 generalize i2.toNat=n2 at *
 subst hi1;subst hi2
 exact ⟨_,_,_,_,H,(memOk_msl hop hs hx hA hse hxe h3 h4).op,Moves.new⟩
theorem mem_al {z:List DV} (H:insK (.al z) F ih wm e nx h k=.ok out eo no ho) (hc:chkMem Pr (.al z) o.op=true):Step Pr o wm e nx h k (.ok out eo no ho):=by
 cases hop:o.op<;>simp only [chkMem,hop,Bool.false_eq_true] at hc
 rename_i t
 cases hi:Pr.info? t with
 | none=>simp [hi] at hc
 | some it=>
  cases hz:it.zero with
  | none=>simp [hi,hz] at hc
  | some zv=>
   simp only [hi,hz] at hc
   change newK z e nx h (fun n=>.ptr n (nat_lit 0)) k=_ at H
   rw [newK_eq] at H
   exact ⟨_,_,_,_,H,(memOk_al hop hi hz hc).op,Moves.new⟩
theorem mem_bx {d:Opd} (H:insK (.bx d) F ih wm e nx h k=.ok out eo no ho) (hc:chkMem Pr (.bx d) o.op=true):Step Pr o wm e nx h k (.ok out eo no ho):=by
 cases hop:o.op<;>simp only [chkMem,hop,Bool.false_eq_true] at hc
 rename_i t x
 change ovK d e (fun v=>cellsK v .fail fun l=>newK l e nx h (fun n=>.ptr n (nat_lit 0)) k)=_ at H
 rw [ovK_eq,cellsK_eq] at H
 cases hl:(ov d e).cells with
 | none=>simp only [hl,reduceCtorEq] at H
 | some l=>
  simp only [hl,newK_eq] at H
  exact ⟨_,_,_,_,H,(memOk_bx hop hc hl).op,Moves.new⟩
theorem mem_bsl {len sz:Nat} {z:List DV} {ps:List (Nat × Nat × Opd)} (H:insK (.bsl len sz z ps) F ih wm e nx h k=.ok out eo no ho) (hc:chkMem Pr (.bsl len sz z ps) o.op=true):Step Pr o wm e nx h k (.ok out eo no ho):=by
 cases hop:o.op<;>simp only [chkMem,hop,Bool.false_eq_true] at hc
 change fillK ps z e (fun l=>newK l e nx h (fun n=>.sl n (nat_lit 0) len (some len) sz) k)=_ at H
 rw [fillK_eq] at H
 cases hl:fills e ps z with
 | none=>simp only [hl,reduceCtorEq] at H
 | some l=>
  simp only [hl,newK_eq] at H
  rw [Bool.or_eq_true] at hc
  rcases hc with hc|hc
  ·exact ⟨_,_,_,_,H,(memOk_bsl hop hc hl).op,Moves.new⟩
  ·exact ⟨_,_,_,_,H,(memOk_bsl0 hop hc hl).op,Moves.new⟩
theorem mem_ld {d:Opd} (H:insK (.ld d) F ih wm e nx h k=.ok out eo no ho) (hc:chkMem Pr (.ld d) o.op=true):Step Pr o wm e nx h k (.ok out eo no ho):=by
 cases hop:o.op<;>simp only [chkMem,hop,Bool.false_eq_true] at hc
 simp only [Bool.and_eq_true] at hc
 change readK (ev d e) e h .fail (fun l o=>nthK l o .fail fun v=>fV v fun v=>k e v nx h)=_ at H
 rw [readK_eq] at H
 cases hl:look (ev d e) e h with
 | none=>simp only [hl,reduceCtorEq] at H
 | some p=>
  obtain ⟨l,i⟩:=p
  simp only [hl,nthK_eq] at H
  cases hv:l[i]? with
  | none=>simp only [hv,reduceCtorEq] at H
  | some v=>
   simp only [hv,fV_eq] at H
   exact ⟨_,_,_,_,H,(memOk_ld hop hc.1 hc.2 hl hv).op,Moves.same _ _ _ _⟩
theorem mem_lda {n:Nat} {d:Opd} (H:insK (.lda n d) F ih wm e nx h k=.ok out eo no ho) (hc:chkMem Pr (.lda n d) o.op=true):Step Pr o wm e nx h k (.ok out eo no ho):=by
 cases hop:o.op<;>simp only [chkMem,hop,Bool.false_eq_true] at hc
 simp only [Bool.and_eq_true] at hc
 change readK (ev d e) e h .fail (fun l o=>dropK o l .fail fun t=>takeK n t .fail fun r=>k e (.agg r) nx h)=_ at H
 rw [readK_eq] at H
 cases hl:look (ev d e) e h with
 | none=>simp only [hl,reduceCtorEq] at H
 | some p=>
  obtain ⟨l,i⟩:=p
  simp only [hl,dropK_eq,takeK_eq] at H
  by_cases h1:i≤l.length
  case neg=>rw [if_neg h1] at H;cases H
  rw [if_pos h1] at H
  by_cases h2:n≤(l.drop i).length
  case neg=>rw [if_neg h2] at H;cases H
  rw [if_pos h2] at H
  exact ⟨_,_,_,_,H,(memOk_lda hop hc.1.1 hc.1.2 hc.2 hl h2).op,Moves.same _ _ _ _⟩
theorem look_nl {x:DV} {e:Env} {p:List DV × Nat} (hl:look x e .nl=some p) (h:Hp):look x e h=some p:=by
 unfold look at hl ⊢
 split at hl
 ·rename_i k o
  simp only [Tr.get_e,reduceCtorEq] at hl
 all_goals first|exact hl|(simp only [Tr.get_e,reduceCtorEq] at hl)
theorem mem_vla {n:Nat} {d:Opd} (H:insK (.vla n d) F ih wm e nx h k=.ok out eo no ho) (hc:chkMem Pr (.vla n d) o.op=true):Step Pr o wm e nx h k (.ok out eo no ho):=by
 cases hop:o.op<;>simp only [chkMem,hop,Bool.false_eq_true] at hc
 simp only [Bool.and_eq_true] at hc
 change readK (ev d e) e .nl .fail (fun l o=>dropK o l .fail fun t=>takeK n t .fail fun r=>k e (.agg r) nx h)=_ at H
 rw [readK_eq] at H
 cases hl:look (ev d e) e .nl with
 | none=>simp only [hl,reduceCtorEq] at H
 | some p=>
  obtain ⟨l,i⟩:=p
  simp only [hl,dropK_eq,takeK_eq] at H
  by_cases h1:i≤l.length
  case neg=>rw [if_neg h1] at H;cases H
  rw [if_pos h1] at H
  by_cases h2:n≤(l.drop i).length
  case neg=>rw [if_neg h2] at H;cases H
  rw [if_pos h2] at H
  exact ⟨_,_,_,_,H,(memOk_lda hop hc.1.1 hc.1.2 hc.2 (look_nl hl h) h2).op,Moves.same _ _ _ _⟩
theorem mem_st {n:Nat} {d dv:Opd} (H:insK (.st n d dv) F ih wm e nx h k=.ok out eo no ho) (hc:chkMem Pr (.st n d dv) o.op=true):Step Pr o wm e nx h k (.ok out eo no ho):=by
 cases hop:o.op<;>simp only [chkMem,hop,Bool.false_eq_true] at hc
 simp only [Bool.and_eq_true] at hc
 obtain ⟨⟨hd,hdv⟩,hs⟩:=hc
 change ovK dv e (fun v=>cellsK v .fail fun c=>chk (isLen c n) fun _=>asP (ev d e) (asFl (ev d e) .fail (stF e nx h k c)) (stP wm e nx h k c))=_ at H
 rw [ovK_eq,cellsK_eq] at H
 cases hl:(ov dv e).cells with
 | none=>simp only [hl,reduceCtorEq] at H
 | some c=>
  simp only [hl] at H
  rw [chk_eq,isLen_eq] at H
  by_cases h1:c.length=n
  case neg=>rw [if_neg (by simpa using h1)] at H;cases H
  rw [if_pos (by simpa using h1),asP_eq,asFl_eq] at H
  cases hde:ev d e<;>simp only [hde,reduceCtorEq] at H
  case ptr b i=>
   unfold stP at H
   rw [wOk_eq] at H
   by_cases h2:may wm b
   case neg=>rw [if_neg h2] at H;cases H
   rw [if_pos h2,ownK_eq] at H
   cases hg:Tr.get? b h with
   | none=>simp only [hg,reduceCtorEq] at H
   | some ob=>
    cases ob<;>simp only [hg,reduceCtorEq] at H
    rename_i l
    rw [sprK_eq] at H
    by_cases h3:i+c.length≤l.length
    case neg=>rw [if_neg h3] at H;cases H
    rw [if_pos h3,Tr.setK_eq] at H
    exact ⟨_,_,_,_,H,(memOk_st hop hd hdv hs hde hg hl h1 h3).op,Moves.put h2 hg⟩
  case fld p i=>
   unfold stF at H
   rw [varK_eq] at H
   cases hg:Tr.get? p e with
   | none=>simp only [hg,reduceCtorEq] at H
   | some ob=>
    cases ob<;>simp only [hg,reduceCtorEq] at H
    rename_i l
    rw [sprK_eq] at H
    by_cases h3:i+c.length≤l.length
    case neg=>rw [if_neg h3] at H;cases H
    rw [if_pos h3,Tr.setK_eq] at H
    refine ⟨_,_,_,_,H,(memOk_stv hop hd hdv hs hde hg hl h1 h3).op,Nat.le_refl _,fun q=>?_,fun _ _ _ _ _=>rfl,fun h=>h⟩
    by_cases hq:q=p
    ·subst hq
     refine .inr ⟨l,_,hg,Tr.get_set_self _ _ _,?_⟩
     simp;omega
    ·exact .inl (Tr.get_set_ne hq _ _)
theorem mem_clr {sz:Nat} {z:List DV} {d:Opd} (H:insK (.clr sz z d) F ih wm e nx h k=.ok out eo no ho) (hc:chkMem Pr (.clr sz z d) o.op=true):Step Pr o wm e nx h k (.ok out eo no ho):=by
 cases hop:o.op<;>simp only [chkMem,hop,Bool.false_eq_true] at hc
 rename_i c
 obtain ⟨x,t,rfl,hf⟩:=chkCall1_spec hc
 simp only [Bool.and_eq_true] at hf
 obtain ⟨hd,hA⟩:=hf
 change asSl (ev d e) (nilsK (ev d e) .fail fun _=>k e (.tup []) nx h) (fun b o n _ s=>chk (Nat.beq s sz) fun _=>chk (isLen z sz) fun _=>
  Bool.rec (motive:=fun _=>Res) (clrB wm z e nx h k b o n) (k e (.tup []) nx h) (Nat.beq n (nat_lit 0)))=_ at H
 rw [asSl_eq,nilsK_eq] at H
 cases hde:ev d e<;>simp only [hde,reduceCtorEq] at H
 case nils=>exact ⟨_,_,_,_,H,(memOk_clr0 hop hd hA (.inl hde)).op,Moves.same _ _ _ _⟩
 case sl b i n cp s=>
  rw [chk_eq,beq_if] at H
  by_cases h1:s=sz
  case neg=>rw [if_neg h1] at H;cases H
  rw [if_pos h1,chk_eq,isLen_eq] at H
  by_cases h2:z.length=sz
  case neg=>rw [if_neg (by simpa using h2)] at H;cases H
  rw [if_pos (by simpa using h2)] at H
  rcases Nat.eq_zero_or_pos n with h0|h0
  ·subst h0
   exact ⟨_,_,_,_,H,(memOk_clr0 hop hd hA (.inr ⟨_,_,_,_,hde⟩)).op,Moves.same _ _ _ _⟩
  ·obtain ⟨m,rfl⟩:∃ m,n=m+1:=⟨n-1,by omega⟩
   change clrB wm z e nx h k b i (m+1)=_ at H
   unfold clrB at H
   rw [wOk_eq] at H
   by_cases h3:may wm b
   case neg=>rw [if_neg h3] at H;cases H
   rw [if_pos h3,ownK_eq] at H
   cases hg:Tr.get? b h with
   | none=>simp only [hg,reduceCtorEq] at H
   | some ob=>
    cases ob<;>simp only [hg,reduceCtorEq] at H
    rename_i l
    rw [repZ_eq,sprK_eq] at H
    by_cases h4:i+(reps z (m+1)).length≤l.length
    case neg=>rw [if_neg h4] at H;cases H
    rw [if_pos h4,Tr.setK_eq] at H
    exact ⟨_,_,_,_,H,(memOk_clr hop hd hA hde h0 hg h4).op,Moves.put h3 hg⟩
def isBad:Ins→Bool
 | .bad=>true
 | _=>false
def chkIns (Pr:Program) (i:Ins) (op:Go.Op):Bool:=(isPure i&&chkPure Pr i op)||(chkMem Pr i op||isBad i)
theorem ins_sim {i:Ins} (H:insK i F ih wm e nx h k=.ok out eo no ho) (hc:chkIns Pr i o.op=true):Step Pr o wm e nx h k (.ok out eo no ho):=by
 unfold chkIns at hc
 rw [Bool.or_eq_true,Bool.and_eq_true,Bool.or_eq_true] at hc
 rcases hc with ⟨hp,hc⟩|hc|hb
 ·rw [insK_pure i hp] at H
  cases hv:pureDV i e with
  | none=>simp only [hv,reduceCtorEq] at H
  | some v=>
   simp only [hv] at H
   exact ⟨_,_,_,_,H,(memOk_pure hv hc).op,Moves.same _ _ _ _⟩
 ·cases i
  case app=>exact mem_app H hc
  case apz=>exact mem_apz H hc
  case msl=>exact mem_msl H hc
  case al=>exact mem_al H hc
  case bx=>exact mem_bx H hc
  case bsl=>exact mem_bsl H hc
  case ld=>exact mem_ld H hc
  case lda=>exact mem_lda H hc
  case vla=>exact mem_vla H hc
  case st=>exact mem_st H hc
  case clr=>exact mem_clr H hc
  all_goals (unfold chkMem at hc;simp at hc)
 ·cases i<;>first|(simp [isBad] at hb;done)|(change Res.fail=_ at H;cases H)
end
def chkRs (Pr:Program):List Rs→List ResultVar→Bool
 | [],[]=>true
 | .t p::l,.tmp t::l'=>Nat.beq p.n t&&chkRs Pr l l'
 | .cell p none::l,.cell q t::l'=>Nat.beq p.n q&&aggIs Pr t false&&chkRs Pr l l'
 | .cell p (some n)::l,.cell q t::l'=>Nat.beq p.n q&&aggIs Pr t true&&sizeIs Pr t n&&chkRs Pr l l'
 | _,_=>false
section
variable {L:P→Prop} {N hi:Nat} {j:J} {pv:P→Option Nat} {e:Env} {nx:P} {h:Hp} {a:Act} {w:World} {Pr:Program}
theorem run_loadVar_one {t:Nat} (ht:aggIs Pr t false=true) {ad:Addr} {v:Value} (hc:w.cell? ad=some v):(loadVar t ad).run Pr w=.ok v w:=by
 simp only [loadVar,Sem.run_bind,aggIs_spec ht,Result.andThen_ok,Bool.false_eq_true,if_false,run_load,hc]
theorem run_loadVar_many {t n:Nat} (ht:aggIs Pr t true=true) (hs:sizeIs Pr t n=true) {b o:Nat} {vs:List Value} (hn:vs.length=n)
 (hc:∀ i v,vs[i]?=some v→w.cell? ⟨b,o+i,none⟩=some v):(loadVar t ⟨b,o,none⟩).run Pr w=.ok (.agg vs.toArray) w:=by
 obtain ⟨i,hi,hsz⟩:=sizeIs_spec hs
 have hso:(sizeOf t).run Pr w=.ok n w:=by simp [sizeOf,typeInfo,hi,hsz]
 have hl:(loadCells ⟨b,o,none⟩ vs.length).run Pr w=.ok vs.toArray w:=run_loadCells_list (P:=Pr) w ⟨b,o,none⟩ vs (fun q v hv=>by rw [Addr.add_mid];exact hc q v hv)
 rw [hn] at hl
 simp only [loadVar,Sem.run_bind,Sem.run_pure,Result.andThen_ok,aggIs_spec ht,if_true,hso,hl]
def resOf (tmps:Array Value):ResultVar→Sem Value
 | .tmp t=>pure (tmps.getD t undef)
 | .cell a t=>do loadVar t (← asAddr (tmps.getD a undef))
theorem Rel.rs_sim (R:Rel L N hi j pv e nx h a w):∀ (rs:List Rs) (qs:List ResultVar) (vs:List DV),chkRs Pr rs qs=true→rsv e h rs=some vs→
 ∃ vs':List Value,(qs.mapM (resOf a.tmps)).run Pr w=.ok vs' w∧VRt j vs vs':=by
 intro rs
 induction rs with
 | nil=>
  intro qs vs hc hv
  cases qs with
  | cons q qs=>simp [chkRs] at hc
  | nil=>simp only [rsv,Option.some.injEq] at hv;subst hv;exact ⟨[],by simp [List.mapM_nil],.nil⟩
 | cons r rs ih=>
  intro qs vs hc hv
  simp only [rsv] at hv
  cases hr:rs1v r e h with
  | none=>simp only [hr,reduceCtorEq] at hv
  | some v=>
   simp only [hr] at hv
   cases ht:rsv e h rs with
   | none=>simp [ht] at hv
   | some vs0=>
    simp only [ht,Option.map_some,Option.some.injEq] at hv
    subst hv
    have main:∀ q qs',qs=q::qs'→chkRs Pr rs qs'=true→(∃ v',(resOf a.tmps q).run Pr w=.ok v' w∧VR j v v')→
     ∃ vs':List Value,(qs.mapM (resOf a.tmps)).run Pr w=.ok vs' w∧VRt j (v::vs0) vs':=by
     rintro q qs' rfl hc' ⟨v',hrun,hx⟩
     obtain ⟨vs',hm,hx'⟩:=ih qs' vs0 hc' ht
     refine ⟨v'::vs',?_,.cons hx hx'⟩
     simp only [List.mapM_cons,Sem.run_bind,hrun,Result.andThen_ok,hm,Sem.run_pure]
    have cell:∀ (p:P) (q:Nat) (l:List DV) (o:Nat),Nat.beq p.n q=true→Dx.look (evT p e) e h=some (l,o)→∃ b s,a.tmps.getD q undef=.pointer (some ⟨b,s+o,none⟩)∧CellsAt j w b s l:=by
     intro p q l o hq hl
     exact R.look (R.reads (.t p) (.tmp q) hq) hl
    cases qs with
    | nil=>cases r with
     | t p=>simp [chkRs] at hc
     | cell p n=>cases n<;>simp [chkRs] at hc
    | cons q qs=>
     cases r with
     | t p=>
      cases q with
      | cell=>simp [chkRs] at hc
      | tmp t=>
       simp only [chkRs,Bool.and_eq_true] at hc
       refine main _ _ rfl hc.2 ⟨_,rfl,?_⟩
       simp only [rs1v,Option.some.injEq] at hr
       rw [←hr]
       exact R.reads.ov (d:=.t p) (x:=.tmp t) hc.1
     | cell p n=>
      cases q with
      | tmp t=>cases n<;>simp [chkRs] at hc
      | cell q t=>
       cases n with
       | none=>
        simp only [chkRs,Bool.and_eq_true] at hc
        simp only [rs1v] at hr
        cases hl:Dx.look (evT p e) e h with
        | none=>simp [hl] at hr
        | some x=>
         obtain ⟨l,o⟩:=x
         simp only [hl] at hr
         obtain ⟨b,s,hp,hcells⟩:=cell p q l o hc.1.1 hl
         obtain ⟨v',hcell,hx,_⟩:=hcells o v hr
         refine main _ _ rfl hc.2 ⟨v',?_,hx⟩
         simp only [resOf,hp,asAddr,Sem.run_bind,Sem.run_pure,Result.andThen_ok,run_loadVar_one hc.1.2 hcell]
       | some n=>
        simp only [chkRs,Bool.and_eq_true] at hc
        simp only [rs1v] at hr
        cases hl:Dx.look (evT p e) e h with
        | none=>simp [hl] at hr
        | some x=>
         obtain ⟨l,o⟩:=x
         simp only [hl] at hr
         by_cases hle:o≤l.length∧n≤(l.drop o).length
         case neg=>rw [if_neg hle] at hr;cases hr
         rw [if_pos hle] at hr
         simp only [Option.some.injEq] at hr;subst hr
         obtain ⟨b,s,hp,hcells⟩:=cell p q l o hc.1.1.1 hl
         obtain ⟨vs1,h1,h2,h3⟩:=hcells.part o n hle.2
         refine main _ _ rfl hc.2 ⟨.agg vs1.toArray,?_,.agg h1⟩
         simp only [resOf,hp,asAddr,Sem.run_bind,Sem.run_pure,Result.andThen_ok,run_loadVar_many hc.1.1.2 hc.1.2 h2 h3]
theorem Rel.results (R:Rel L N hi j pv e nx h a w) {fn:Func} {rs:List Rs} {vs:List DV} (hc:chkRs Pr rs fn.results.toList=true) (hv:rsv e h rs=some vs):
 ∃ v',(results fn a.tmps).run Pr w=.ok v' w∧VR j (one vs) v':=by
 obtain ⟨vs',hm,hx⟩:=R.rs_sim rs fn.results.toList vs hc hv
 have hm':(fn.results.mapM (resOf a.tmps)).run Pr w=.ok vs'.toArray w:=by
  simp [Array.mapM_eq_mapM_toList,hm]
 have hl:=hx.length
 have hrun:(Go.results fn a.tmps).run Pr w=.ok (if h:vs'.toArray.size=1 then vs'.toArray[0] else .tuple vs'.toArray) w:=by
  show (do let vs ← fn.results.mapM (resOf a.tmps);pure (if h:vs.size=1 then vs[0] else .tuple vs):Sem Value).run Pr w=_
  rw [Sem.run_bind,hm']
  rfl
 refine ⟨_,hrun,?_⟩
 cases hx with
 | nil=>exact VR.tup (l':=[]) .nil
 | cons h1 t1=>
  cases t1 with
  | nil=>exact h1
  | cons h2 t2=>
   rw [dif_neg (by simp)]
   exact VR.tup (.cons h1 (.cons h2 t2))
end
section
variable {L:P→Prop} {N hi:Nat} {j:J} {pv:P→Option Nat} {e:Env} {nx:P} {h:Hp} {a:Act} {w:World}
theorem binds_get:∀ (ps:List P) (vs:List DV) (e0 e:Env),binds ps vs e0=some e→∀ p v,Tr.get? p e=some v→Tr.get? p e0=some v∨∃ i:Nat,ps[i]?=some p∧vs[i]?=some v
 | [],[],e0,e,h,p,v,hv=>by simp only [binds,Option.some.injEq] at h;subst h;exact .inl hv
 | [],_::_,e0,e,h,p,v,hv=>by simp [binds] at h
 | _::_,[],e0,e,h,p,v,hv=>by simp [binds] at h
 | q::ps,u::vs,e0,e,h,p,v,hv=>by
  simp only [binds] at h
  rcases binds_get ps vs _ e h p v hv with h1|⟨i,h1,h2⟩
  ·by_cases hq:p=q
   ·subst hq
    rw [Tr.get_set_self] at h1
    cases h1
    exact .inr ⟨0,rfl,rfl⟩
   ·rw [Tr.get_set_ne hq] at h1;exact .inl h1
  ·exact .inr ⟨i+1,h1,h2⟩
theorem Rel.enter (R:Rel L N hi j pv e nx h a w) {ps:List P} {vs:List DV} {args:List Value} {e':Env} {n:Nat} (hb:binds ps vs .nl=some e') (hv:VRt j vs args) (hp:∀ (i:Nat) (p:P),ps[i]?=some p→p.n=i) (hn:args.length≤n)
 (L':P→Prop):Rel L' n hi j (fun _=>none) e' nx h { tmps:=args.toArray++Array.replicate (n-args.toArray.size) undef,defers:=[] } w where
 fresh:=R.fresh
 heap:=R.heap
 inj:=R.inj
 inr:=R.inr
 env:=fun p v hpv=>by
  rcases binds_get ps vs .nl e' hb p v hpv with h1|⟨i,h1,h2⟩
  ·rw [Tr.get_e] at h1;cases h1
  ·obtain ⟨v',h3,h4⟩:=hv.get i v h2
   have hi:=hp i p h1
   have hlt:=(List.getElem?_eq_some_iff.1 h3).1
   have ht:(args.toArray++Array.replicate (n-args.toArray.size) undef).getD p.n undef=v':=by
    rw [hi,Array.getD_eq_getD_getElem?,Array.getElem?_append_left (by simpa using hlt),List.getElem?_toArray,h3];rfl
   exact XD.tmps (XD.of_VR h4) ht
 pvv:=fun p b hpb=>by cases hpb
 pin:=fun p q b hpb=>by cases hpb
 pfr:=fun p b hpb=>by cases hpb
 pfo:=fun p b hpb=>by cases hpb
 loc:=fun p l hpl=>by
  rcases binds_get ps vs .nl e' hb p _ hpl with h1|⟨i,h1,h2⟩
  ·rw [Tr.get_e] at h1;cases h1
  ·obtain ⟨v',h3,h4⟩:=hv.get i _ h2;cases h4
 size:=by simp;omega
 lt:=R.lt
 lr:=R.lr
 top:=R.top
theorem Rel.leave (R:Rel L N hi j pv e nx h a w) {L':P→Prop} {N':Nat} {j':J} {pv':P→Option Nat} {e':Env} {nx':P} {h':Hp} {a':Act} {w':World} (R':Rel L' N' hi j' pv' e' nx' h' a' w') (F':Fr hi nx.n j (fun _=>none) w j' pv' w'):
 Rel L N hi j' pv e nx' h' a w'∧Fr hi nx.n j pv w j' pv w':=by
 have blk:∀ p b,pv p=some b→w'.heap[b]?=w.heap[b]?∧b<w.heap.size:=by
  intro p b hb
  obtain ⟨l,hl⟩:=R.pvv p b hb
  obtain ⟨b',hb',_,hlies,_⟩:=R.env p _ hl
  rw [hb] at hb';cases hb'
  exact ⟨F'.same b hlies.lt (fun k s c hk=>absurd hk (R.pfr p b hb k s c)) (fun _ h=>nomatch h),hlies.lt⟩
 refine ⟨?_,?_⟩
 ·exact {
   fresh:=R'.fresh
   heap:=R'.heap
   inj:=R'.inj
   inr:=R'.inr
   env:=fun p v hv=>ER.of_heap F'.ext F'.size (fun b hb=>(blk p b hb).1) (R.env p v hv)
   pvv:=R.pvv
   pin:=R.pin
   pfr:=fun p b hb k s c hk=>by
    rcases Nat.lt_or_ge k.n hi with hlt|hge
    ·rcases F'.new k b s c hk hlt with ⟨k0,s0,c0,h0,_⟩|h0
     ·exact R.pfr p b hb _ _ _ h0
     ·have:=(blk p b hb).2;omega
    ·rw [F'.old k hge] at hk;exact R.pfr p b hb _ _ _ hk
   pfo:=fun p b hb k s hk=>R.pfo p b hb k s (F'.ro _ _ _ hk)
   loc:=R.loc
   size:=R.size
   lt:=R'.lt
   lr:=R'.lr
   top:=R'.top }
 ·exact { F' with same:=fun x hx hj _=>F'.same x hx hj (fun _ h=>nomatch h),pnew:=fun p x hp=>.inl hp }
end
def memN (n:Nat):List Nat→Bool
 | []=>false
 | m::l=>Nat.beq m n||memN n l
def memP (p:P):List P→Bool
 | []=>false
 | q::l=>Nat.beq q.n p.n||memP p l
theorem memP_iff (p:P):∀ l:List P,memP p l=true↔p∈l
 | []=>by simp [memP]
 | q::l=>by
  simp only [memP,Bool.or_eq_true,Nat.beq_eq,memP_iff p l,List.mem_cons]
  constructor
  ·rintro (h|h)
   ·exact .inl (P.n_inj h).symm
   ·exact .inr h
  ·rintro (h|h)
   ·exact .inl (by rw [h])
   ·exact .inr h
def vars (Ls:List Nat) (p:P):Prop:=memN p.n Ls=true
def okDst (Ls:List Nat) (N:Nat):Option P→Option Nat→Bool
 | none,none=>true
 | some d,some t=>Nat.beq d.n t&&Nat.ble (Nat.succ t) N&&!memN t Ls
 | _,_=>false
def okGuard (os:List Oper):Option (P × Bool)→Option (Nat × Bool)→Bool
 | none,none=>true
 | some (p,b),some (j,b')=>(match os[j]? with|some o=>(match o.dst with|some t=>Nat.beq p.n t|none=>false)|none=>false)&&beqB b b'
 | _,_=>false
def chkCall (i:Ins) (op:Go.Op):Bool:=
 match op with
 | .call ⟨.value x,args,_⟩=>match i with
  | .call f xs=>chkOpd (.c (.fn f [])) x&&chkOpds xs args.toList
  | .callv f xs=>chkOpd f x&&chkOpds xs args.toList
  | _=>false
 | _=>false
def okLoc (Ls:List Nat) (N:Nat) (p:P) (o:Oper):Bool:=
 (match o.dst with|some t=>Nat.beq p.n t&&Nat.ble (Nat.succ t) N&&memN t Ls|none=>false)&&(match o.guard with|none=>true|some _=>false)
def chkOp (Pr:Program) (Ls:List Nat) (N:Nat) (os:List Oper) (o:Op) (o':Oper):Bool:=
 match o with
 | .mk dst g i=>okDst Ls N dst o'.dst&&okGuard os g o'.guard&&(chkIns Pr i o'.op||chkCall i o'.op)
 | .loc p z=>okLoc Ls N p o'&&chkMem Pr (.al z) o'.op
 | .locb p x=>okLoc Ls N p o'&&chkMem Pr (.bx x) o'.op
def chkOps (Pr:Program) (Ls:List Nat) (N:Nat) (os:List Oper):List Op→List Oper→Bool
 | [],[]=>true
 | o::l,o'::l'=>chkOp Pr Ls N os o o'&&chkOps Pr Ls N os l l'
 | _,_=>false
def edges (o:Oper):List Nat:=(o.after.toList.filter fun e=>Region.binds .any e).map (·.on)
def maskOf (acc:List Nat):List Nat→Nat
 | []=>0
 | i::l=>Nat.lor (Nat.lor (Nat.shiftLeft 1 i) (acc.getD i 0)) (maskOf acc l)
def maskAll:List Oper→List Nat→List Nat
 | [],acc=>acc
 | o::l,acc=>maskAll l (acc++[maskOf acc (edges o)])
def isLoad:Ins→Bool
 | .ld _ | .lda _ _ | .vla _ _=>true
 | _=>false
def isVl:Ins→Bool
 | .vla _ _=>true
 | _=>false
theorem vl_load {i:Ins} (h:isVl i=true):isLoad i=true:=by cases i<;>first|rfl|cases h
theorem load_vl {i:Ins} (h:isLoad i=false):isVl i=false:=by cases i<;>first|rfl|cases h
theorem vl_pure {i:Ins} (h:isVl i=true):isPure i=false:=by cases i<;>first|rfl|cases h
def stillO:Op→Bool
 | .mk _ _ i=>isPure i||isLoad i
 | _=>false
def isVarO:Op→Bool
 | .mk _ _ _=>false
 | _=>true
def blindO:Op→Bool
 | .mk _ _ i=>isPure i||isVl i
 | _=>false
def isW:Dop→Bool
 | .mk _ _ _ r o=>!r&&!stillO o&&!isVarO o
def isM:Dop→Bool
 | .mk _ _ _ _ o=>!blindO o
def usesD:Dop→List P
 | .mk _ u _ _ _=>u
def backD:Dop→List P
 | .mk _ _ b _ _=>b
def anyP (l m:List P):Bool:=l.any fun p=>memP p m
def clash (x y:Dop):Bool:=(isW x&&isM y)||(isM x&&isW y)||anyP (backD x) (usesD y)||anyP (usesD x) (backD y)||anyP (backD x) (backD y)
def ordRow (y:Dop) (m:Nat):List Dop→Nat→Bool
 | [],_=>true
 | x::l,i=>(!clash x y||Nat.testBit m i)&&ordRow y m l (Nat.succ i)
def ordAll (ms:List Nat) (all:List Dop):List Dop→Nat→Bool
 | [],_=>true
 | y::l,k=>ordRow y (ms.getD k 0) (all.take k) 0&&ordAll ms all l (Nat.succ k)
def dstO:Op→List P
 | .mk (some d) _ _=>[d]
 | .mk none _ _=>[]
 | .loc p _=>[p]
 | .locb p _=>[p]
def allIn (f:P→Bool):List P→Bool
 | []=>true
 | p::l=>f p&&allIn f l
def okDop (Ls:List Nat):Dop→Bool
 | .mk c u b _ o=>c&&(!isVarO o||allIn (fun p=>memP p u) (dstO o))&&allIn (fun p=>memP p b) (dstO o)&&allIn (fun p=>memP p u||memP p (dstO o)) b&&(stillO o||isVarO o||allIn (fun p=>!memN p.n Ls||memP p b) u)
def opD:Dop→Op
 | .mk _ _ _ _ o=>o
def edgesOk:List Oper→Nat→Bool
 | [],_=>true
 | o::l,k=>(edges o).all (fun i=>Nat.ble (Nat.succ i) k)&&edgesOk l (Nat.succ k)
def chkDrw (Pr:Program) (Ls:List Nat) (N:Nat) (ds:List Dop) (os:List Oper):Bool:=
 chkOps Pr Ls N os (ds.map opD) os&&ds.all (okDop Ls)&&edgesOk os 0&&ordAll (maskAll os []) ds ds 0
def chkC (Pr:Program) (Ls:List Nat) (N:Nat):C→Code→Bool
 | .skip,.skip=>true
 | .skip,.label _=>true
 | .reg ops,.region _ os false=>chkOps Pr Ls N os.toList ops os.toList
 | .drw ds,.region _ os true=>chkDrw Pr Ls N ds os.toList
 | .seq a b,.seq a' b'=>chkC Pr Ls N a a'&&chkC Pr Ls N b b'
 | .cond c a b,.cond c' a' b'=>chkOpd c c'&&chkC Pr Ls N a a'&&chkC Pr Ls N b b'
 | .block id a,.block id' a'=>Nat.beq id id'&&chkC Pr Ls N a a'
 | .loop _ a,.loop a'=>chkC Pr Ls N a a'
 | .exit id,.exit id'=>Nat.beq id id'
 | .ret,.ret=>true
 | _,_=>false
def okPs:List P→Nat→Bool
 | [],_=>true
 | p::l,i=>Nat.beq p.n i&&okPs l (Nat.succ i)
theorem okPs_get:∀ (ps:List P) (k:Nat),okPs ps k=true→∀ (i:Nat) (p:P),ps[i]?=some p→p.n=k+i
 | [],k,h,i,p,hi=>by simp at hi
 | q::ps,k,h,i,p,hi=>by
  simp only [okPs,Bool.and_eq_true,Nat.beq_eq] at h
  cases i with
  | zero=>simp at hi;subst hi;omega
  | succ i=>have:=okPs_get ps (k+1) h.2 i p (by simpa using hi);omega
def chkFd (Pr:Program) (Ls:List Nat) (fn:Func) (fd:Fd):Bool:=
 match fd,fn.body with
 | .mk ps body rs,some c=>okPs ps 0&&Nat.ble ps.length fn.ntmps&&chkC Pr Ls fn.ntmps body c&&chkRs Pr rs fn.results.toList&&(fn.name != "runtime.NumGoroutine")
 | _,_=>false
def exitOf:Out→Exit
 | .norm=>.normal
 | .exit id=>.exit id
 | .ret=>.ret
def LoopWp (Pr:Program) (c:Code) (Q:Exit→Act→World→Prop) (a:Act) (w:World):Prop:=
 ∀ (b:Frame) (k:List Item) (cs:List Frame),∃ e a' w',Q e a' w'∧Arrives Pr (lone (b.at a (.code c::.inLoop c::k)) cs w) b k cs e a' w'
def cwp (Pr:Program) (c:Code) (Q:Exit→Act→World→Prop) (a:Act) (w:World):Prop:=
 match c with
 | .loop c=>LoopWp Pr c Q a w
 | c=>c.wp Pr Q a w
theorem LoopWp.loop {Pr:Program} {c:Code} {Q:Exit→Act→World→Prop} {a:Act} {w:World} (h:LoopWp Pr c Q a w):(Code.loop c).wp Pr Q a w:=
 fun b k cs=>let ⟨e,a',w',hq,harr⟩:=h b k cs;⟨e,a',w',hq,.of_steps (.one step_loop) harr⟩
theorem LoopWp.round {Pr:Program} {c:Code} {Q:Exit→Act→World→Prop} {a:Act} {w:World} (h:c.wp Pr (Exit.then (LoopWp Pr c Q) Q) a w):LoopWp Pr c Q a w:=by
 intro b k cs
 obtain ⟨e,a₁,w₁,hq,harr⟩:=h b (.inLoop c::k) cs
 cases e with
 | normal=>
  obtain ⟨e₂,a₂,w₂,hq₂,harr₂⟩:=hq b k cs
  exact ⟨e₂,a₂,w₂,hq₂,.of_steps (Steps.trans harr (.one step_inLoop)) harr₂⟩
 | exit id=>exact ⟨_,a₁,w₁,hq,.pass (x:=.inLoop c) rfl (fun _ _=>.inl (by simp)) harr⟩
 | goto l=>exact ⟨_,a₁,w₁,hq,.pass (x:=.inLoop c) rfl (fun _ _=>.inl (by simp)) harr⟩
 | ret=>exact ⟨_,a₁,w₁,hq,.pass (x:=.inLoop c) rfl (fun _ _=>.inl (by simp)) harr⟩
 | panic ch=>exact ⟨_,a₁,w₁,hq,.pass (x:=.inLoop c) rfl (fun _ _=>.inl (by simp)) harr⟩
 | outgrown=>exact ⟨_,a₁,w₁,hq,.pass (x:=.inLoop c) rfl (fun _ _=>.inl (by simp)) harr⟩
theorem cwp_wp {Pr:Program} {c:Code} {Q:Exit→Act→World→Prop} {a:Act} {w:World} (h:cwp Pr c Q a w):c.wp Pr Q a w:=by
 cases c<;>first|exact h|exact LoopWp.loop h
structure MovesC (wm:Option P) (nx:P) (h:Hp) (nx':P) (h':Hp):Prop where
 le:nx.n≤nx'.n
 old:∀ m,wm=some m→m.n≤nx.n→∀ k:P,k.n<m.n→Tr.get? k h'=Tr.get? k h
 top:(∀ k:P,nx.n≤k.n→Tr.get? k h=none)→∀ k:P,nx'.n≤k.n→Tr.get? k h'=none
theorem MovesC.refl (wm:Option P) (nx:P) (h:Hp):MovesC wm nx h nx h:=⟨Nat.le_refl _,fun _ _ _ _ _=>rfl,fun h=>h⟩
theorem MovesC.trans {wm:Option P} {nx nx' nx'':P} {h h' h'':Hp} (m1:MovesC wm nx h nx' h') (m2:MovesC wm nx' h' nx'' h''):MovesC wm nx h nx'' h'':=
 ⟨Nat.le_trans m1.le m2.le,fun m hm hmn k hk=>by rw [m2.old m hm (Nat.le_trans hmn m1.le) k hk,m1.old m hm hmn k hk],fun ht=>m2.top (m1.top ht)⟩
theorem Moves.c {wm:Option P} {e:Env} {nx:P} {h:Hp} {e':Env} {nx':P} {h':Hp} (m:Moves wm e nx h e' nx' h'):MovesC wm nx h nx' h':=⟨m.le,m.old,m.top⟩
theorem MovesC.m {wm:Option P} {nx:P} {h:Hp} {nx':P} {h':Hp} (m:MovesC wm nx h nx' h') (e:Env):Moves wm e nx h e nx' h':=⟨m.le,fun _=>.inl rfl,m.old,m.top⟩
def CodeOk (Pr:Program) (Ls:List Nat) (N:Nat) (c:Code) (e:Env) (nx:P) (h:Hp) (out:Out) (e':Env) (nx':P) (h':Hp):Prop:=
 ∀ (hi:Nat) (j:J) (pv:P→Option Nat) (a:Act) (w:World),Rel (vars Ls) N hi j pv e nx h a w→nx'.n≤hi→∀ Q:Exit→Act→World→Prop,
  (∀ j' pv' a' w',Rel (vars Ls) N hi j' pv' e' nx' h' a' w'→Fr hi nx.n j pv w j' pv' w'→a'.defers=a.defers→Q (exitOf out) a' w')→cwp Pr c Q a w
def IhOk (Pr:Program) (ih:Ih):Prop:=∀ (c:C) (wm:Option P) (e:Env) (nx:P) (h:Hp) (out:Out) (e':Env) (nx':P) (h':Hp),ih c wm e nx h=.ok out e' nx' h'→
 ∀ (Ls:List Nat) (N:Nat) (c':Code),chkC Pr Ls N c c'=true→MovesC wm nx h nx' h'∧CodeOk Pr Ls N c' e nx h out e' nx' h'
section
variable {Pr:Program} {F:Tr Fd} {ih:Ih} {wm:Option P} {e0:Env} {nx:P} {h:Hp} {k:Kv} {out:Out} {eo:Env} {no:P} {ho:Hp}
def CallOk (Pr:Program) (f:P) (vs:List DV) (nx:P) (h:Hp) (v:DV) (nx':P) (h':Hp):Prop:=
 ∀ (L:P→Prop) (N hi:Nat) (j:J) (pv:P→Option Nat) (e:Env) (a:Act) (w:World),Rel L N hi j pv e nx h a w→nx'.n≤hi→∀ args:List Value,VRt j vs args→
  Calls Pr f.n args.toArray w fun r w'=>∃ v' j',r=.returned v'∧Rel L N hi j' pv e nx' h' a w'∧Fr hi nx.n j pv w j' pv w'∧VR j' v v'
def PrimOk (Pr:Program) (f:P) (n:Nat):Prop:=
 (∃ fn,Pr.funcs[f.n]?=some fn∧(fn.name == "runtime.NumGoroutine")=false∧fn.body.isNone=false)∧
 ∀ (wm:Option P) (vs:List DV) (nx:P) (h:Hp) (v:DV) (nx':P) (h':Hp),primV n wm vs nx h=some (v,nx',h')→CallOk Pr f vs nx h v nx' h'∧MovesC wm nx h nx' h'
def FdOk (Pr:Program) (f:P):Fd→Prop
 | .mk ps body rs=>∃ fn Ls,Pr.funcs[f.n]?=some fn∧chkFd Pr Ls fn (.mk ps body rs)=true
 | .prim n=>PrimOk Pr f n
def FOk (Pr:Program) (F:Tr Fd):Prop:=∀ f fd,Tr.get? f F=some fd→FdOk Pr f fd
theorem binds_length:∀ (ps:List P) (vs:List DV) (e0 e:Env),binds ps vs e0=some e→ps.length=vs.length
 | [],[],e0,e,h=>rfl
 | [],_::_,e0,e,h=>by simp [binds] at h
 | _::_,[],e0,e,h=>by simp [binds] at h
 | q::ps,u::vs,e0,e,h=>by simp only [binds] at h;simp [binds_length ps vs _ e h]
theorem call_sim (hF:FOk Pr F) (hih:IhOk Pr ih) {f:P} {vs:List DV} (H:callK F ih wm f vs e0 nx h k=.ok out eo no ho):
 ∃ v nx' h',k e0 v nx' h'=.ok out eo no ho∧CallOk Pr f vs nx h v nx' h'∧MovesC wm nx h nx' h'∧∃ fn,Pr.funcs[f.n]?=some fn∧(fn.name == "runtime.NumGoroutine")=false∧fn.body.isNone=false:=by
 unfold callK at H
 cases hf:Tr.get? f F with
 | none=>rw [hf] at H;cases H
 | some fd=>
  have hfd:=hF f fd hf
  rcases fd with ⟨ps,body,rs⟩|n
  rotate_left
  ·rw [hf] at H
   change primO e0 k (primV n wm vs nx h)=_ at H
   cases hp:primV n wm vs nx h with
   | none=>rw [hp] at H;cases H
   | some r=>
    obtain ⟨v,nx',h'⟩:=r
    rw [hp] at H
    obtain ⟨hfn,hall⟩:=hfd
    obtain ⟨h1,h2⟩:=hall wm vs nx h v nx' h' hp
    exact ⟨v,nx',h',H,h1,h2,hfn⟩
  obtain ⟨fn,Ls,hfn,hc⟩:=hfd
  rw [hf] at H
  change bindK ps vs .nl (fun e=>retR (ih body wm e nx h) rs e0 k)=_ at H
  rw [bindK_eq] at H
  cases hb:binds ps vs .nl with
  | none=>simp only [hb,reduceCtorEq] at H
  | some e1=>
   simp only [hb] at H
   cases hr:ih body wm e1 nx h with
   | fail=>rw [hr] at H;cases H
   | ok o1 e2 nx2 h2=>
    rw [hr] at H
    have hret:(o1=.norm∨o1=.ret)∧rsL rs e2 h2 (fun vs=>oneK vs fun v=>fV v fun v=>k e0 v nx2 h2)=.ok out eo no ho:=by
     cases o1 with
     | norm=>exact ⟨.inl rfl,H⟩
     | ret=>exact ⟨.inr rfl,H⟩
     | exit id=>cases H
    obtain ⟨ho1,H⟩:=hret
    rw [rsL_eq] at H
    cases hrs:rsv e2 h2 rs with
    | none=>simp only [hrs,reduceCtorEq] at H
    | some vs2=>
     simp only [hrs,oneK_eq,fV_eq] at H
     cases hbody:fn.body with
     | none=>simp [chkFd,hbody] at hc
     | some c=>
      simp only [chkFd,hbody,Bool.and_eq_true,Nat.ble_eq] at hc
      obtain ⟨⟨⟨⟨hps,hlen⟩,hcc⟩,hrc⟩,hname⟩:=hc
      obtain ⟨hm,hcode⟩:=hih _ _ _ _ _ _ _ _ _ hr Ls fn.ntmps c hcc
      refine ⟨one vs2,nx2,h2,H,?_,hm,fn,hfn,by simpa using hname,by rw [hbody];rfl⟩
      intro L N hi j pv e a w R hnh args hargs
      have hal:args.length≤fn.ntmps:=by rw [←hargs.length,←binds_length ps vs _ _ hb];exact hlen
      have R1:=R.enter hb hargs (fun i p hp=>by have:=okPs_get ps 0 hps i p hp;omega) hal (vars Ls)
      refine calls_of_wp hfn hbody (cwp_wp (hcode hi j _ _ w R1 hnh _ ?_))
      intro j' pv' a' w' R2 F2 hd
      obtain ⟨v',hrun,hv⟩:=R2.results hrc hrs
      obtain ⟨R3,F3⟩:=R.leave R2 F2
      rcases ho1 with rfl|rfl
      ·exact ⟨hd,v',hrun,v',j',rfl,R3,F3,hv⟩
      ·exact ⟨hd,v',hrun,v',j',rfl,R3,F3,hv⟩
theorem run_callFunc {f:Nat} {fn:Func} {args:Array Value} {w:World} (hfn:Pr.funcs[f]?=some fn) (hname:(fn.name == "runtime.NumGoroutine")=false) (hbody:fn.body.isNone=false):
 (callFunc f args).run Pr w=.ok (.enter f args) w:=by
 have h1:fn.name ≠ "runtime.NumGoroutine" := by simpa using hname
 have h2:fn.body≠none:=by intro h0;rw [h0] at hbody;cases hbody
 simp [callFunc,hfn,h1,h2]
theorem CallOk.op {o:Oper} {f:P} {cs:List DV} {e:Env} {v:DV} {nx':P} {h':Hp} {x:Operand} {args:Array Operand} {tys:Array Nat} {xs:List Opd} {vf:Opd} (C:CallOk Pr f (xs.map (fun o=>ov o e)++cs) nx h v nx' h') (ho:o.op=.call ⟨.value x,args,tys⟩) (hx:chkOpd vf x=true)
 (hfv:ev vf e=.fn f cs) (has:chkOpds xs args.toList=true) {fn:Func} (hfn:Pr.funcs[f.n]?=some fn) (hname:(fn.name == "runtime.NumGoroutine")=false) (hbody:fn.body.isNone=false):OpOk Pr o e nx h e v nx' h':=by
 intro L N hi j pv a w R hnh K Q hK
 have r1:=R.reads vf x hx
 rw [hfv] at r1
 obtain ⟨cs',hxe,hcs⟩:=r1.fn
 have r2:=R.reads.ovs xs args.toList has
 have hargs:=r2.append hcs
 have hc:=C L N hi j pv e a w R hnh _ hargs
 unfold Oper.wp
 have hrun:(execOp a.eval o).run Pr w=.ok (.enter f.n ((args.toList.map a.eval++cs').toArray)) w:=by
  have h1:args.map a.eval++cs'.toArray=(args.toList.map a.eval++cs').toArray:=by
   apply Array.toList_inj.1;simp
  simp only [execOp,ho,resolve,hxe,Deferred.ofValue,Sem.run_bind,Sem.run_pure,Result.andThen_ok,invoke]
  rw [←h1]
  simp only [Array.empty_append]
  exact run_callFunc hfn hname hbody
 rw [hrun,Oper.upon_enter]
 refine hc.mono ?_
 rintro r w' ⟨v',j',rfl,R',F',hv⟩
 exact hK j' w' v' R' F' (XD.of_VR hv)
end
section
variable {Pr:Program} {F:Tr Fd} {ih:Ih} {wm:Option P} {e:Env} {nx:P} {h:Hp} {out:Out} {eo:Env} {no:P} {ho:Hp} {o:Oper}
theorem all_sim (hF:FOk Pr F) (hih:IhOk Pr ih) {i:Ins} {k:Kv} (H:insK i F ih wm e nx h k=.ok out eo no ho) (hc:(chkIns Pr i o.op||chkCall i o.op)=true):Step Pr o wm e nx h k (.ok out eo no ho):=by
 rw [Bool.or_eq_true] at hc
 rcases hc with hc|hc
 ·exact ins_sim H hc
 ·unfold chkCall at hc
  split at hc
  case h_2=>cases hc
  rename_i x args tys hop
  split at hc
  case h_3=>cases hc
  case h_1 i f xs=>
   simp only [Bool.and_eq_true] at hc
   change ovsK xs e (fun vs=>callK F ih wm f vs e nx h k)=_ at H
   rw [ovsK_eq] at H
   obtain ⟨v,nx',h',hk,hcall,hm,fn,h1,h2,h3⟩:=call_sim hF hih H
   refine ⟨e,v,nx',h',hk,CallOk.op (cs:=[]) (by rw [List.append_nil];exact hcall) hop hc.1 rfl hc.2 h1 h2 h3,hm.m e⟩
  case h_2 i f xs=>
   simp only [Bool.and_eq_true] at hc
   change asF (ev f e) .fail (fun f cs=>ovsK xs e fun vs=>catK vs cs fun vs=>callK F ih wm f vs e nx h k)=_ at H
   rw [asF_eq] at H
   cases hfv:ev f e<;>simp only [hfv,reduceCtorEq] at H
   rename_i g cs
   rw [ovsK_eq,catK_eq] at H
   obtain ⟨v,nx',h',hk,hcall,hm,fn,h1,h2,h3⟩:=call_sim hF hih H
   exact ⟨e,v,nx',h',hk,hcall.op hop hc.1 hfv hc.2 h1 h2 h3,hm.m e⟩
structure After (L:P→Prop) (N hi:Nat) (nx:P) (j:J) (pv:P→Option Nat) (a:Act) (w:World) (e':Env) (nx':P) (h':Hp) (j':J) (pv':P→Option Nat) (a':Act) (w':World):Prop where
 rel:Rel L N hi j' pv' e' nx' h' a' w'
 fr:Fr hi nx.n j pv w j' pv' w'
 defers:a'.defers=a.defers
def OperWp (Pr:Program) (ops:Array Oper) (o:Oper) (K:Act→World→Prop) (Q:Exit→Act→World→Prop) (a:Act) (w:World):Prop:=
 if Region.wanted o (yielded ops a.tmps) then o.wp Pr a w K Q else K (a.put o.dst undef) w
theorem put_defers (a:Act) (d:Option Tmp) (v:Value):(a.put d v).defers=a.defers:=by cases d<;>rfl
inductive Guard (e:Env):Option (P × Bool)→Bool→Prop
 | no:Guard e none true
 | is (p:P) (b t:Bool) (h:evT p e=.bool t):Guard e (some (p,b)) (beqB t b)
 | un (p:P) (b:Bool) (h:evT p e=.tup []):Guard e (some (p,b)) false
theorem Guard.wanted {j:J} {pv:P→Option Nat} {a:Act} (R:Reads j pv e a.eval) {ops:Array Oper} {g:Option (P × Bool)} {g':Option (Nat × Bool)} {t:Bool} (G:Guard e g t) (hc:okGuard ops.toList g g'=true)
 (hg:o.guard=g'):Region.wanted o (yielded ops a.tmps)=t:=by
 have look:∀ (p:P) (b:Bool) (j':Nat) (b':Bool),okGuard ops.toList (some (p,b)) (some (j',b'))=true→(ops[j']?).bind (·.dst)=some p.n∧b=b':=by
  intro p b j' b' hc
  simp only [okGuard,Bool.and_eq_true] at hc
  refine ⟨?_,by cases b<;>cases b'<;>first|rfl|exact absurd hc.2 (by decide)⟩
  have h1:=hc.1
  cases ho:ops.toList[j']? with
  | none=>simp [ho] at h1
  | some o'=>
   rw [Array.getElem?_toList] at ho
   cases hd:o'.dst with
   | none=>simp [ho,hd] at h1
   | some t=>simp [ho,hd] at h1;simp [ho,hd,h1]
 cases G with
 | no=>
  cases g' with
  | none=>unfold Region.wanted;rw [hg]
  | some x=>simp [okGuard] at hc
 | is p b t hv=>
  cases g' with
  | none=>simp [okGuard] at hc
  | some x=>
   obtain ⟨j',b'⟩:=x
   obtain ⟨h1,rfl⟩:=look p b j' b' hc
   have hr:=R (.t p) (.tmp p.n) (Nat.beq_refl _)
   change XD j pv (evT p e) (a.tmps.getD p.n undef) at hr
   rw [hv] at hr
   have ht:=hr.bool
   have hlt:p.n<a.tmps.size:=by
    rcases Nat.lt_or_ge p.n a.tmps.size with h|h
    ·exact h
    ·rw [Array.getD_eq_getD_getElem?,Array.getElem?_eq_none h] at ht;cases ht
   have hy:yielded ops a.tmps j'=some t:=by
    unfold yielded
    rw [h1]
    simp only [Option.bind_some]
    rw [Array.getD_eq_getD_getElem?] at ht
    cases hx:a.tmps[p.n]? with
    | none=>rw [hx] at ht;cases ht
    | some u=>rw [hx] at ht;simp only [Option.getD_some] at ht;rw [ht]
   unfold Region.wanted
   rw [hg]
   simp only [hy]
   cases t<;>cases b<;>rfl
 | un p b hv=>
  cases g' with
  | none=>simp [okGuard] at hc
  | some x=>
   obtain ⟨j',b'⟩:=x
   obtain ⟨h1,rfl⟩:=look p b j' b' hc
   have hr:=R (.t p) (.tmp p.n) (Nat.beq_refl _)
   change XD j pv (evT p e) (a.tmps.getD p.n Go.undef) at hr
   rw [hv] at hr
   obtain ⟨l',ht,hl⟩:=hr.tup
   cases hl
   have hy:yielded ops a.tmps j'=none:=by
    unfold yielded
    rw [h1]
    simp only [Option.bind_some]
    rw [Array.getD_eq_getD_getElem?] at ht
    cases hx:a.tmps[p.n]? with
    | none=>rfl
    | some u=>rw [hx] at ht;simp only [Option.getD_some] at ht;rw [ht]
   unfold Region.wanted
   rw [hg]
   simp only [hy]
   cases b<;>rfl
theorem brec_if' (A B:Res) (t:Bool):(Bool.rec (motive:=fun _=>Res) A B t)=match t with|true=>B|false=>A:=by cases t<;>rfl
def StillOk (Pr:Program) (o:Oper) (e:Env) (nx:P) (h:Hp) (v:DV):Prop:=
 ∀ (L:P→Prop) (N hi:Nat) (j:J) (pv:P→Option Nat) (a:Act) (w:World),Rel L N hi j pv e nx h a w→∃ v',(execOp a.eval o).run Pr w=.ok (.value v') w∧XD j pv v v'
inductive OpDid (Pr:Program) (o:Oper) (wm:Option P) (e:Env) (nx:P) (h:Hp):Op→Env→P→Hp→Prop
 | run {dst:Option P} {g:Option (P × Bool)} {i:Ins} {e':Env} {v:DV} {nx':P} {h':Hp} (G:Guard e g true) (S:OpOk Pr o e nx h e' v nx' h') (M:Moves wm e nx h e' nx' h') (hs:(isPure i||isLoad i)=false):
  OpDid Pr o wm e nx h (.mk dst g i) (dstE dst v e') nx' h'
 | still {dst:Option P} {g:Option (P × Bool)} {i:Ins} {v:DV} (G:Guard e g true) (S:StillOk Pr o e nx h v) (hs:(isPure i||isLoad i)=true) (pure:isPure i=true→pureDV i e=some v∧chkPure Pr i o.op=true) (vl:isVl i=true→StillOk Pr o e .z .nl v):
  OpDid Pr o wm e nx h (.mk dst g i) (dstE dst v e) nx h
 | pass {dst:Option P} {g:Option (P × Bool)} {i:Ins} (G:Guard e g false):OpDid Pr o wm e nx h (.mk dst g i) (dstE dst (.tup []) e) nx h
 | loc {p:P} {z:List DV} (hv:¬ isVar p e):OpDid Pr o wm e nx h (.loc p z) (Tr.set p e (some (.var z))) nx h
 | locb {p:P} {x:Opd} {c:List DV} (hv:¬ isVar p e) (hc:(ov x e).cells=some c):OpDid Pr o wm e nx h (.locb p x) (Tr.set p e (some (.var c))) nx h
theorem StillOk.op {v:DV} (S:StillOk Pr o e nx h v):OpOk Pr o e nx h e v nx h:=by
 intro L N hi j pv a w R _ K Q hK
 obtain ⟨v',hrun,hx⟩:=S L N hi j pv a w R
 unfold Oper.wp
 rw [hrun]
 exact hK j w v' R (Fr.refl _ _ _ _ _) hx
theorem still_sim {i:Ins} (hs:(isPure i||isLoad i)=true) {k:Kv} (H:insK i F ih wm e nx h k=.ok out eo no ho) (hc:(chkIns Pr i o.op||chkCall i o.op)=true):∃ v,k e v nx h=.ok out eo no ho∧StillOk Pr o e nx h v∧(isPure i=true→pureDV i e=some v∧chkPure Pr i o.op=true)∧(isVl i=true→StillOk Pr o e .z .nl v):=by
 by_cases hp:isPure i=true
 ·rw [insK_pure i hp] at H
  cases hv:pureDV i e with
  | none=>simp only [hv,reduceCtorEq] at H
  | some v=>
   simp only [hv] at H
   have hcp:chkPure Pr i o.op=true:=by
    have hn:chkCall i o.op=false:=by
     unfold chkCall
     split
     ·split<;>first|rfl|(simp [isPure] at hp)
     ·rfl
    have hm:chkMem Pr i o.op=false:=by
     unfold chkMem
     split<;>first|rfl|(simp [isPure] at hp)
    rw [hn,Bool.or_false] at hc
    unfold chkIns at hc
    have hb:isBad i=false:=by cases i<;>first|rfl|(simp [isPure] at hp)
    rw [hm,hb,Bool.or_false,Bool.or_false,hp,Bool.true_and] at hc
    exact hc
   refine ⟨v,H,?_,fun _=>⟨rfl,hcp⟩,fun h=>by rw [vl_pure h] at hp;cases hp⟩
   intro L N hi j pv a w R
   obtain ⟨v',hr,hx⟩:=pure_sim hv hcp R.reads (eval_const a) w
   exact ⟨v',hr,hx⟩
 ·cases i<;>simp [isPure,isLoad] at hs hp
  case ld d=>
   have hc:chkMem Pr (.ld d) o.op=true:=by
    have:chkCall (.ld d) o.op=false:=by unfold chkCall;split<;>rfl
    rw [this] at hc
    simpa [chkIns,isPure,isBad] using hc
   cases hop:o.op<;>simp only [chkMem,hop,Bool.false_eq_true] at hc
   simp only [Bool.and_eq_true] at hc
   change readK (ev d e) e h .fail (fun l o=>nthK l o .fail fun v=>fV v fun v=>k e v nx h)=_ at H
   rw [readK_eq] at H
   cases hl:look (ev d e) e h with
   | none=>simp only [hl,reduceCtorEq] at H
   | some p=>
    obtain ⟨l,i⟩:=p
    simp only [hl,nthK_eq] at H
    cases hv:l[i]? with
    | none=>simp only [hv,reduceCtorEq] at H
    | some v=>
     simp only [hv,fV_eq] at H
     refine ⟨v,H,?_,(fun h=>by simp [isPure] at h),fun h=>by cases h⟩
     intro L N hi j pv a w R
     obtain ⟨b,s,hp,hcc⟩:=R.look (R.reads d _ hc.1) hl
     obtain ⟨v',hcell,hr,_⟩:=hcc i v hv
     refine ⟨v',?_,XD.of_VR hr⟩
     simp only [execOp,hop,hp,Sem.run_bind,run_loadAt_one hc.2 hcell,Result.andThen_ok,Sem.run_pure]
  case lda n d=>
   have hc:chkMem Pr (.lda n d) o.op=true:=by
    have:chkCall (.lda n d) o.op=false:=by unfold chkCall;split<;>rfl
    rw [this] at hc
    simpa [chkIns,isPure,isBad] using hc
   cases hop:o.op<;>simp only [chkMem,hop,Bool.false_eq_true] at hc
   simp only [Bool.and_eq_true] at hc
   change readK (ev d e) e h .fail (fun l o=>dropK o l .fail fun t=>takeK n t .fail fun r=>k e (.agg r) nx h)=_ at H
   rw [readK_eq] at H
   cases hl:look (ev d e) e h with
   | none=>simp only [hl,reduceCtorEq] at H
   | some p=>
    obtain ⟨l,i⟩:=p
    simp only [hl,dropK_eq,takeK_eq] at H
    by_cases h1:i≤l.length
    case neg=>rw [if_neg h1] at H;cases H
    rw [if_pos h1] at H
    by_cases h2:n≤(l.drop i).length
    case neg=>rw [if_neg h2] at H;cases H
    rw [if_pos h2] at H
    refine ⟨_,H,?_,(fun h=>by simp [isPure] at h),fun h=>by cases h⟩
    intro L N hi j pv a w R
    obtain ⟨b,s,hp,hcc⟩:=R.look (R.reads d _ hc.1.1) hl
    obtain ⟨vs,h1,h2,h3⟩:=hcc.part i n h2
    refine ⟨.agg vs.toArray,?_,VR.agg h1⟩
    simp only [execOp,hop,hp,Sem.run_bind,run_loadAt_many hc.1.2 hc.2 h2 h3,Result.andThen_ok,Sem.run_pure]
  case vla n d=>
   have hc:chkMem Pr (.vla n d) o.op=true:=by
    have:chkCall (.vla n d) o.op=false:=by unfold chkCall;split<;>rfl
    rw [this] at hc
    simpa [chkIns,isPure,isBad] using hc
   cases hop:o.op<;>simp only [chkMem,hop,Bool.false_eq_true] at hc
   simp only [Bool.and_eq_true] at hc
   change readK (ev d e) e .nl .fail (fun l o=>dropK o l .fail fun t=>takeK n t .fail fun r=>k e (.agg r) nx h)=_ at H
   rw [readK_eq] at H
   cases hl:look (ev d e) e .nl with
   | none=>simp only [hl,reduceCtorEq] at H
   | some p=>
    obtain ⟨l,i⟩:=p
    simp only [hl,dropK_eq,takeK_eq] at H
    by_cases h1:i≤l.length
    case neg=>rw [if_neg h1] at H;cases H
    rw [if_pos h1] at H
    by_cases h2:n≤(l.drop i).length
    case neg=>rw [if_neg h2] at H;cases H
    rw [if_pos h2] at H
    have S:∀ (nx':P) (h':Hp),StillOk Pr o e nx' h' (.agg ((l.drop i).take n)):=by
     intro nx' h' L N hi j pv a w R
     obtain ⟨b,s,hp,hcc⟩:=R.look (R.reads d _ hc.1.1) (look_nl hl h')
     obtain ⟨vs,h1,h2,h3⟩:=hcc.part i n h2
     refine ⟨.agg vs.toArray,?_,VR.agg h1⟩
     simp only [execOp,hop,hp,Sem.run_bind,run_loadAt_many hc.1.2 hc.2 h2 h3,Result.andThen_ok,Sem.run_pure]
    exact ⟨_,H,S nx h,(fun h=>by simp [isPure] at h),fun _=>S .z .nl⟩
theorem op_did (hF:FOk Pr F) (hih:IhOk Pr ih) {Ls:List Nat} {N:Nat} {os:List Oper} {op:Op} {k:Ko} (H:opK op F ih wm e nx h k=.ok out eo no ho) (hc:chkOp Pr Ls N os op o=true):
 ∃ e' nx' h',k e' nx' h'=.ok out eo no ho∧OpDid Pr o wm e nx h op e' nx' h':=by
 cases op with
 | mk dst g i=>
  simp only [chkOp,Bool.and_eq_true] at hc
  have run:opRun dst i F ih wm e nx h k=.ok out eo no ho→Guard e g true→∃ e' nx' h',k e' nx' h'=.ok out eo no ho∧OpDid Pr o wm e nx h (.mk dst g i) e' nx' h':=by
   intro H G
   change insK i F ih wm e nx h (fun e v nx h=>opDst dst v e fun e=>k e nx h)=_ at H
   simp only [opDst_eq] at H
   by_cases hs:(isPure i||isLoad i)=true
   ·obtain ⟨v,hk,S,hp,hq⟩:=still_sim hs H hc.2
    exact ⟨_,_,_,hk,.still G S hs hp hq⟩
   ·obtain ⟨e1,v1,nx1,h1,hk1,hop,hm⟩:=all_sim hF hih H hc.2
    exact ⟨_,_,_,hk1,.run G hop hm (by simpa using hs)⟩
  have skip:opSkip dst e nx h k=.ok out eo no ho→Guard e g false→∃ e' nx' h',k e' nx' h'=.ok out eo no ho∧OpDid Pr o wm e nx h (.mk dst g i) e' nx' h':=by
   intro H G
   change opDst dst (.tup []) e (fun e=>k e nx h)=_ at H
   rw [opDst_eq] at H
   exact ⟨_,_,_,H,.pass G⟩
  cases g with
  | none=>exact run H .no
  | some g=>
   obtain ⟨p,b⟩:=g
   change asB (evT p e) (asT (evT p e) .fail (opGn dst e nx h k)) (opGt dst i F ih wm e nx h k b)=_ at H
   rw [asB_eq,asT_eq] at H
   cases hp:evT p e<;>simp only [hp,reduceCtorEq] at H
   case bool t=>
    unfold opGt at H
    have G:=Guard.is p b t hp
    rw [brec_if'] at H
    cases hb:beqB t b with
    | true=>rw [hb] at H G;exact run H G
    | false=>rw [hb] at H G;exact skip H G
   case tup l=>
    cases l with
    | nil=>exact skip H (.un p b hp)
    | cons x l=>cases H
 | loc p z=>
  change notVar p e (fun _=>Tr.setK p e (some (.var z)) fun e=>k e nx h)=_ at H
  rw [notVar_eq] at H
  by_cases hv:isVar p e
  ·rw [if_pos hv] at H;cases H
  ·rw [if_neg hv,Tr.setK_eq] at H
   exact ⟨_,_,_,H,.loc hv⟩
 | locb p x=>
  change notVar p e (fun _=>ovK x e fun v=>cellsK v .fail fun l=>Tr.setK p e (some (.var l)) fun e=>k e nx h)=_ at H
  rw [notVar_eq] at H
  by_cases hv:isVar p e
  ·rw [if_pos hv] at H;cases H
  ·rw [if_neg hv,ovK_eq,cellsK_eq] at H
   cases hl:(ov x e).cells with
   | none=>simp only [hl,reduceCtorEq] at H
   | some l=>
    simp only [hl,Tr.setK_eq] at H
    exact ⟨_,_,_,H,.locb hv hl⟩
end
section
variable {Pr:Program} {F:Tr Fd} {ih:Ih} {wm:Option P} {e:Env} {nx:P} {h:Hp} {out:Out} {eo:Env} {no:P} {ho:Hp} {o:Oper}
theorem OpDid.moves {op:Op} {e':Env} {nx':P} {h':Hp} (D:OpDid Pr o wm e nx h op e' nx' h'):MovesC wm nx h nx' h':=by
 cases D with
 | run G S M hs=>exact M.c
 | _=>exact MovesC.refl _ _ _
theorem beqT {a b:Nat} (h:Nat.beq a b=true):a=b:=Nat.eq_of_beq_eq_true h
theorem okDst_some {Ls:List Nat} {N:Nat} {d:P} {d':Option Nat} (h:okDst Ls N (some d) d'=true):d'=some d.n∧¬ vars Ls d∧d.n<N:=by
 cases d' with
 | none=>simp [okDst] at h
 | some t=>
  simp only [okDst,Bool.and_eq_true,Nat.ble_eq,Bool.not_eq_true'] at h
  have h1:=beqT h.1.1
  subst h1
  exact ⟨rfl,fun hv=>by unfold vars at hv;rw [hv] at h;exact absurd h.2 (by decide),h.1.2⟩
theorem okDst_none {Ls:List Nat} {N:Nat} {d':Option Nat} (h:okDst Ls N none d'=true):d'=none:=by
 cases d' with
 | none=>rfl
 | some t=>simp [okDst] at h
theorem okLoc_spec {Ls:List Nat} {N:Nat} {p:P} (h:okLoc Ls N p o=true):o.dst=some p.n∧vars Ls p∧p.n<N∧o.guard=none:=by
 unfold okLoc at h
 simp only [Bool.and_eq_true] at h
 cases hd:o.dst with
 | none=>simp [hd] at h
 | some t=>
  simp only [hd,Bool.and_eq_true,Nat.ble_eq] at h
  have h1:=beqT h.1.1.1
  subst h1
  refine ⟨rfl,h.1.2,h.1.1.2,?_⟩
  cases hg:o.guard with
  | none=>rfl
  | some g=>simp [hg] at h
theorem Rel.dst {Ls:List Nat} {N hi:Nat} {j:J} {pv:P→Option Nat} {a:Act} {w:World} (R:Rel (vars Ls) N hi j pv e nx h a w) {dst:Option P} {d':Option Nat} (hd:okDst Ls N dst d'=true) {v:DV} {v':Value} (hv:XD j pv v v'):
 Rel (vars Ls) N hi j pv (dstE dst v e) nx h (a.put d' v') w:=by
 cases dst with
 | none=>rw [okDst_none hd];exact R
 | some d=>obtain ⟨h1,h2,h3⟩:=okDst_some hd;rw [h1];exact R.put h2 h3 hv
theorem wanted_none {ops:Array Oper} (hg:o.guard=none) (tm:Array Value):Region.wanted o (yielded ops tm)=true:=by unfold Region.wanted;rw [hg]
theorem run_alloc_al {w:World} {ρ:Operand→Value} {t:Nat} {it:TypeInfo} {zv:Value} (ho:o.op=.alloc t) (hi:Pr.info? t=some it) (hz:it.zero=some zv):
 (execOp ρ o).run Pr w=.ok (.value (.pointer (some ⟨w.heap.size,0,none⟩))) (w.alloc (.cells zv.cells t)):=by
 simp only [execOp,ho,Instr.alloc,Sem.run_bind,zeroValue,typeInfo,run_program,Result.andThen_ok,hi,Sem.run_pure,hz,newVar,newRow,run_newObj]
 rfl
theorem run_box_bx {w:World} {ρ:Operand→Value} {t:Nat} {x:Operand} (ho:o.op=.box t x):
 (execOp ρ o).run Pr w=.ok (.value (.pointer (some ⟨w.heap.size,0,none⟩))) (w.alloc (.cells (ρ x).cells t)):=by
 simp only [execOp,ho,Instr.box,Sem.run_bind,newVar,newRow,run_newObj,Result.andThen_ok,Sem.run_pure]
 rfl
theorem OpDid.wp {op:Op} {e':Env} {nx':P} {h':Hp} (D:OpDid Pr o wm e nx h op e' nx' h') {ops:Array Oper} {Ls:List Nat} {N:Nat} (hc:chkOp Pr Ls N ops.toList op o=true) {hi:Nat} {j:J} {pv:P→Option Nat} {a:Act} {w:World}
 (R:Rel (vars Ls) N hi j pv e nx h a w) (hnh:nx'.n≤hi) {K:Act→World→Prop} {Q:Exit→Act→World→Prop}
 (hK:∀ j' pv' a' w',Rel (vars Ls) N hi j' pv' e' nx' h' a' w'→Fr hi nx.n j pv w j' pv' w'→a'.defers=a.defers→K a' w'):OperWp Pr ops o K Q a w:=by
 unfold OperWp
 cases D with
 | run G S M hs=>
  simp only [chkOp,Bool.and_eq_true] at hc
  rw [G.wanted R.reads hc.1.2 rfl,if_pos rfl]
  refine S (vars Ls) N hi j pv a w R hnh K Q ?_
  intro j' w' v' R' F' hx
  exact hK j' pv _ w' (R'.dst hc.1.1 hx) F' (put_defers _ _ _)
 | still G S hs=>
  simp only [chkOp,Bool.and_eq_true] at hc
  rw [G.wanted R.reads hc.1.2 rfl,if_pos rfl]
  refine S.op (vars Ls) N hi j pv a w R hnh K Q ?_
  intro j' w' v' R' F' hx
  exact hK j' pv _ w' (R'.dst hc.1.1 hx) F' (put_defers _ _ _)
 | pass G=>
  simp only [chkOp,Bool.and_eq_true] at hc
  rw [G.wanted R.reads hc.1.2 rfl,if_neg (by decide)]
  exact hK j pv _ w (R.dst hc.1.1 (v:=.tup []) (VR.tup (l':=[]) .nil)) (Fr.refl _ _ _ _ _) (put_defers _ _ _)
 | loc hv=>
  simp only [chkOp,Bool.and_eq_true] at hc
  obtain ⟨h1,h2,h3,h4⟩:=okLoc_spec hc.1
  have hcm:=hc.2
  cases hop:o.op<;>simp only [chkMem,hop,Bool.false_eq_true] at hcm
  rename_i t
  cases hit:Pr.info? t with
  | none=>simp [hit] at hcm
  | some it=>
   cases hz:it.zero with
   | none=>simp [hit,hz] at hcm
   | some zv=>
    simp only [hit,hz] at hcm
    rw [wanted_none h4,if_pos rfl]
    unfold Oper.wp
    rw [run_alloc_al hop hit hz,Oper.upon_value,h1]
    obtain ⟨R',F'⟩:=R.var_new h2 h3 hv (okCs_sound j _ _ hcm) (t:=t)
    exact hK j _ _ _ R' F' (put_defers _ _ _)
 | locb hv hcells=>
  simp only [chkOp,Bool.and_eq_true] at hc
  obtain ⟨h1,h2,h3,h4⟩:=okLoc_spec hc.1
  have hcm:=hc.2
  cases hop:o.op<;>simp only [chkMem,hop,Bool.false_eq_true] at hcm
  rename_i t x
  rw [wanted_none h4,if_pos rfl]
  unfold Oper.wp
  rw [run_box_bx hop,Oper.upon_value,h1]
  obtain ⟨R',F'⟩:=R.var_new h2 h3 hv ((R.reads.ov hcm).cells hcells) (t:=t)
  exact hK j _ _ _ R' F' (put_defers _ _ _)
theorem ops_sim (hF:FOk Pr F) (hih:IhOk Pr ih) {ops:Array Oper} {Ls:List Nat} {N:Nat}:∀ (l:List Op) (i:Nat) (e:Env) (nx:P) (h:Hp) (k:Ko),opsK l F ih wm e nx h k=.ok out eo no ho→chkOps Pr Ls N ops.toList l (ops.toList.drop i)=true→
 ∃ e' nx' h',k e' nx' h'=.ok out eo no ho∧MovesC wm nx h nx' h'∧∀ (hi:Nat) (j:J) (pv:P→Option Nat) (a:Act) (w:World),Rel (vars Ls) N hi j pv e nx h a w→nx'.n≤hi→∀ Q:Exit→Act→World→Prop,
  (∀ j' pv' a' w',Rel (vars Ls) N hi j' pv' e' nx' h' a' w'→Fr hi nx.n j pv w j' pv' w'→a'.defers=a.defers→Q .normal a' w')→wpOps Pr ops Q (List.range' i (ops.size-i)) a w
 | [],i,e,nx,h,k,H,hc=>by
  refine ⟨e,nx,h,H,MovesC.refl _ _ _,?_⟩
  intro hi j pv a w R hnh Q hQ
  have hsz:ops.size-i=0:=by
   cases hd:ops.toList.drop i with
   | nil=>have:=List.drop_eq_nil_iff.1 hd;simp at this;omega
   | cons x l=>rw [hd] at hc;simp [chkOps] at hc
  rw [hsz]
  exact hQ j pv a w R (Fr.refl _ _ _ _ _) rfl
 | op::l,i,e,nx,h,k,H,hc=>by
  cases hd:ops.toList.drop i with
  | nil=>rw [hd] at hc;simp [chkOps] at hc
  | cons o os=>
   rw [hd] at hc
   simp only [chkOps,Bool.and_eq_true] at hc
   have hlt:i<ops.size:=by
    rcases Nat.lt_or_ge i ops.size with h|h
    ·exact h
    ·rw [List.drop_eq_nil_iff.2 (by simpa using h)] at hd;cases hd
   have ho':ops[i]?=some o:=by
    rw [←Array.getElem?_toList,←List.head?_drop,hd];rfl
   have hos:ops.toList.drop (i+1)=os:=by
    rw [←List.tail_drop,hd];rfl
   change opK op F ih wm e nx h (fun e nx h=>opsK l F ih wm e nx h k)=_ at H
   obtain ⟨e1,nx1,h1,H1,D⟩:=op_did hF hih H hc.1
   obtain ⟨e2,nx2,h2,H2,M2,W2⟩:=ops_sim hF hih l (i+1) e1 nx1 h1 k H1 (by rw [hos];exact hc.2)
   refine ⟨e2,nx2,h2,H2,D.moves.trans M2,?_⟩
   intro hi j pv a w R hnh Q hQ
   have hr:List.range' i (ops.size-i)=i::List.range' (i+1) (ops.size-(i+1)):=by
    rw [show ops.size-i=(ops.size-(i+1))+1 by omega,List.range'_succ]
   rw [hr]
   have W:=D.wp hc.1 R (Nat.le_trans M2.le hnh) (K:=wpOps Pr ops Q (List.range' (i+1) (ops.size-(i+1)))) (Q:=Q) (by
    intro j' pv' a' w' R' F' hdf
    refine W2 hi j' pv' a' w' R' hnh Q ?_
    intro j2 pv2 a2 w2 R2 F2 hd2
    exact hQ j2 pv2 a2 w2 R2 (F'.trans F2 D.moves.le) (hd2.trans hdf))
   unfold OperWp at W
   simp only [wpOps,ho']
   by_cases hw:Region.wanted o (yielded ops a.tmps)=true
   ·rw [if_pos hw] at W ⊢;exact .inl W
   ·rw [if_neg hw] at W ⊢;exact W
end
section
variable {L:P→Prop} {N hi:Nat} {j:J} {pv:P→Option Nat} {e:Env} {nx:P} {h:Hp} {a:Act} {w:World}
open Classical in
def pvOf (pv:P→Option Nat) (e:Env):P→Option Nat:=fun p=>if isVar p e then pv p else none
theorem pvOf_some {p:P} {b:Nat} (h:pvOf pv e p=some b):isVar p e∧pv p=some b:=by
 unfold pvOf at h
 by_cases hv:isVar p e
 ·rw [if_pos hv] at h;exact ⟨hv,h⟩
 ·rw [if_neg hv] at h;cases h
theorem pvOf_var {p:P} (h:isVar p e):pvOf pv e p=pv p:=if_pos h
theorem Rel.sub (R:Rel L N hi j pv e nx h a w) {e':Env} (hs:∀ p v,Tr.get? p e'=some v→Tr.get? p e=some v) (hf:∀ p q o,Tr.get? p e'=some (.fld q o)→isVar q e'):Rel L N hi j (pvOf pv e') e' nx h a w where
 fresh:=R.fresh
 heap:=R.heap
 inj:=R.inj
 inr:=R.inr
 env:=fun p v hv=>by
  have hr:=R.env p v (hs p v hv)
  cases v
  case fld q o=>
   obtain ⟨b,hb,ht⟩:=hr
   exact ⟨b,by rw [pvOf_var (hf p q o hv)];exact hb,ht⟩
  case var l=>
   obtain ⟨b,hb,ht⟩:=hr
   exact ⟨b,by rw [pvOf_var ⟨l,hv⟩];exact hb,ht⟩
  all_goals exact hr
 pvv:=fun p b hp=>(pvOf_some hp).1
 pin:=fun p q b hp hq=>R.pin p q b (pvOf_some hp).2 (pvOf_some hq).2
 pfr:=fun p b hp=>R.pfr p b (pvOf_some hp).2
 pfo:=fun p b hp=>R.pfo p b (pvOf_some hp).2
 loc:=fun p l hl=>R.loc p l (hs p _ hl)
 size:=R.size
 lt:=R.lt
 lr:=R.lr
 top:=R.top
theorem keep_spec (e:Env):∀ (l:List P) (acc:Env),(∀ p v,Tr.get? p acc=some v→Tr.get? p e=some v∧∀ q o,v≠.fld q o)→∀ p v,Tr.get? p (keep e l acc)=some v→Tr.get? p e=some v∧∀ q o,v≠.fld q o
 | [],acc,ha,p,v,hv=>ha p v hv
 | q::l,acc,ha,p,v,hv=>by
  simp only [keep] at hv
  have step:∀ u,Tr.get? q e=some u→(∀ q' o,u≠.fld q' o)→∀ p v,Tr.get? p (Tr.set q acc (some u))=some v→Tr.get? p e=some v∧∀ q o,v≠.fld q o:=by
   intro u hu hn p v hv
   by_cases hp:p=q
   ·subst hp;rw [Tr.get_set_self] at hv;cases hv;exact ⟨hu,hn⟩
   ·rw [Tr.get_set_ne hp] at hv;exact ha p v hv
  cases hq:Tr.get? q e with
  | none=>rw [hq] at hv;exact keep_spec e l acc ha p v hv
  | some u=>
   rw [hq] at hv
   cases u
   case fld=>exact keep_spec e l acc ha p v hv
   all_goals exact keep_spec e l _ (step _ hq (by intro q' o h;cases h)) p v hv
theorem Rel.keep (R:Rel L N hi j pv e nx h a w) (l:List P):∃ pv',Rel L N hi j pv' (keep e l .nl) nx h a w∧Fr hi nx.n j pv w j pv' w:=by
 have hk:=keep_spec e l .nl (fun p v hv=>by rw [Tr.get_e] at hv;cases hv)
 refine ⟨_,R.sub (fun p v hv=>(hk p v hv).1) (fun p q o hv=>absurd rfl ((hk p _ hv).2 q o)),?_⟩
 exact { Fr.refl hi nx.n j pv w with pnew:=fun p x hp=>.inl (pvOf_some hp).2 }
end
inductive Bef (os:List Oper):Nat→Nat→Prop
 | one {k i:Nat} {o:Oper} (ho:os[k]?=some o) (hi:i∈edges o):Bef os k i
 | more {k m i:Nat} {o:Oper} (ho:os[k]?=some o) (hm:m∈edges o) (h:Bef os m i):Bef os k i
theorem maskOf_spec {os:List Oper} {acc:List Nat} (hacc:∀ m i,Nat.testBit (acc.getD m 0) i=true→Bef os m i) {k:Nat} {o:Oper} (ho:os[k]?=some o):∀ (l:List Nat),(∀ m∈l,m∈edges o)→∀ i,Nat.testBit (maskOf acc l) i=true→Bef os k i
 | [],_,i,h=>by simp [maskOf] at h
 | m::l,hl,i,h=>by
  have h':Nat.testBit (((1 <<< m) ||| (acc.getD m 0)) ||| maskOf acc l) i=true:=h
  rw [Nat.testBit_or,Nat.testBit_or,Bool.or_eq_true,Bool.or_eq_true] at h'
  rcases h' with (h1|h1)|h1
  ·rw [Nat.testBit_shiftLeft] at h1
   simp only [Bool.and_eq_true,decide_eq_true_eq] at h1
   have:i=m:=by
    have h2:=h1.2
    rcases Nat.eq_zero_or_pos (i-m) with h0|h0
    ·omega
    ·rw [show (1:Nat)=2 ^ 0 from rfl,Nat.testBit_two_pow] at h2
     simp at h2;omega
   subst this
   exact .one ho (hl _ (by simp))
  ·exact .more ho (hl m (by simp)) (hacc m i h1)
  ·exact maskOf_spec hacc ho l (fun m hm=>hl m (by simp [hm])) i h1
theorem maskAll_spec {os:List Oper}:∀ (l:List Oper) (acc:List Nat),(∀ m i,Nat.testBit (acc.getD m 0) i=true→Bef os m i)→os.drop acc.length=l→∀ m i,Nat.testBit ((maskAll l acc).getD m 0) i=true→Bef os m i
 | [],acc,hacc,_,m,i,h=>hacc m i h
 | o::l,acc,hacc,hd,m,i,h=>by
  have ho:os[acc.length]?=some o:=by rw [←List.head?_drop,hd];rfl
  refine maskAll_spec l (acc++[maskOf acc (edges o)]) ?_ ?_ m i h
  ·intro m' i' h'
   rw [List.getD_eq_getElem?_getD] at h'
   by_cases h1:m'<acc.length
   ·rw [List.getElem?_append_left h1,←List.getD_eq_getElem?_getD] at h';exact hacc m' i' h'
   ·rw [List.getElem?_append_right (by omega)] at h'
    by_cases h2:m'=acc.length
    ·subst h2
     simp only [Nat.sub_self,List.getElem?_cons_zero,Option.getD_some] at h'
     exact maskOf_spec hacc ho _ (fun _ h=>h) i' h'
    ·rw [List.getElem?_eq_none (by simp;omega)] at h';simp at h'
  ·rw [List.length_append,List.length_singleton,←List.tail_drop,hd];rfl
theorem ordRow_spec {os:List Oper} {y:Dop} {m k:Nat} (hm:∀ i,Nat.testBit m i=true→Bef os k i):∀ (l:List Dop) (s:Nat),ordRow y m l s=true→∀ (i:Nat) (x:Dop),l[i]?=some x→clash x y=true→Bef os k (s+i)
 | [],s,_,i,x,hx,_=>by simp at hx
 | z::l,s,h,i,x,hx,hc=>by
  simp only [ordRow,Bool.and_eq_true,Bool.or_eq_true,Bool.not_eq_true'] at h
  cases i with
  | zero=>
   simp at hx;subst hx
   rcases h.1 with h1|h1
   ·rw [hc] at h1;cases h1
   ·exact hm _ h1
  | succ i=>have:=ordRow_spec hm l (s+1) h.2 i x (by simpa using hx) hc;rwa [show s+(i+1)=s+1+i by omega]
theorem ordAll_spec {os:List Oper} {ms:List Nat} (hms:∀ m i,Nat.testBit (ms.getD m 0) i=true→Bef os m i) (all:List Dop):∀ (l:List Dop) (k:Nat),ordAll ms all l k=true→∀ (i j:Nat) (x y:Dop),(all.take (k+j))[i]?=some x→l[j]?=some y→clash x y=true→Bef os (k+j) i
 | [],k,_,i,j,x,y,_,hy,_=>by simp at hy
 | z::l,k,h,i,j,x,y,hx,hy,hc=>by
  simp only [ordAll,Bool.and_eq_true] at h
  cases j with
  | zero=>
   simp at hy;subst hy
   have:=ordRow_spec (hms k) _ 0 h.1 i x (by simpa using hx) hc
   simpa using this
  | succ j=>have:=ordAll_spec hms all l (k+1) h.2 i j x y (by rwa [show k+1+j=k+(j+1) by omega]) (by simpa using hy) hc;rwa [show k+(j+1)=k+1+j by omega]
theorem edgesOk_spec {os:List Oper}:∀ (l:List Oper) (k:Nat),edgesOk l k=true→∀ (i:Nat) (o:Oper),l[i]?=some o→∀ m∈edges o,m<k+i
 | [],k,_,i,o,ho,m,hm=>by simp at ho
 | z::l,k,h,i,o,ho,m,hm=>by
  simp only [edgesOk,Bool.and_eq_true,List.all_eq_true,Nat.ble_eq] at h
  cases i with
  | zero=>simp at ho;subst ho;have:=h.1 m hm;omega
  | succ i=>have:=edgesOk_spec (os:=os) l (k+1) h.2 i o (by simpa using ho) m hm;omega
theorem allIn_spec {f:P→Bool}:∀ {l:List P},allIn f l=true→∀ p∈l,f p=true
 | [],_,p,hp=>by simp at hp
 | q::l,h,p,hp=>by
  simp only [allIn,Bool.and_eq_true] at h
  rcases List.mem_cons.1 hp with rfl|hp
  ·exact h.1
  ·exact allIn_spec h.2 p hp
theorem anyP_of {l m:List P} {p:P} (h1:p∈l) (h2:p∈m):anyP l m=true:=by
 unfold anyP;rw [List.any_eq_true];exact ⟨p,h1,(memP_iff p m).2 h2⟩
structure DrwOk (Pr:Program) (Ls:List Nat) (N:Nat) (ds:List Dop) (os:List Oper):Prop where
 ops:∀ (i:Nat) (d:Dop) (o:Oper),ds[i]?=some d→os[i]?=some o→chkOp Pr Ls N os (opD d) o=true
 len:ds.length=os.length
 dop:∀ (i:Nat) (d:Dop),ds[i]?=some d→okDop Ls d=true
 edge:∀ (i:Nat) (o:Oper),os[i]?=some o→∀ m∈edges o,m<i
 ord:∀ (i k:Nat) (x y:Dop),i<k→ds[i]?=some x→ds[k]?=some y→clash x y=true→Bef os k i
theorem chkOps_spec {Pr:Program} {Ls:List Nat} {N:Nat} {os:List Oper}:∀ (l:List Op) (l':List Oper),chkOps Pr Ls N os l l'=true→l.length=l'.length∧∀ (i:Nat) (d:Op) (o:Oper),l[i]?=some d→l'[i]?=some o→chkOp Pr Ls N os d o=true
 | [],[],_=>⟨rfl,fun i d o hd=>by simp at hd⟩
 | [],_::_,h=>by simp [chkOps] at h
 | _::_,[],h=>by simp [chkOps] at h
 | d::l,o::l',h=>by
  simp only [chkOps,Bool.and_eq_true] at h
  obtain ⟨h1,h2⟩:=chkOps_spec l l' h.2
  refine ⟨by simp [h1],fun i d' o' hd ho=>?_⟩
  cases i with
  | zero=>simp at hd ho;subst hd;subst ho;exact h.1
  | succ i=>exact h2 i d' o' (by simpa using hd) (by simpa using ho)
theorem chkDrw_spec {Pr:Program} {Ls:List Nat} {N:Nat} {ds:List Dop} {os:List Oper} (h:chkDrw Pr Ls N ds os=true):DrwOk Pr Ls N ds os:=by
 simp only [chkDrw,Bool.and_eq_true,List.all_eq_true] at h
 obtain ⟨⟨⟨h1,h2⟩,h3⟩,h4⟩:=h
 obtain ⟨h5,h6⟩:=chkOps_spec _ _ h1
 refine ⟨fun i d o hd ho=>h6 i (opD d) o (by simp [hd]) ho,by simpa using h5,fun i d hd=>h2 d (List.mem_of_getElem? hd),fun i o ho m hm=>by have:=edgesOk_spec (os:=os) os 0 h3 i o ho m hm;omega,?_⟩
 intro i k x y hik hx hy hc
 have:=ordAll_spec (maskAll_spec os [] (fun m i h=>by simp at h) rfl) ds ds 0 h4 i k x y (by rw [List.getElem?_take,if_pos (by omega)];exact hx) hy hc
 simpa using this
theorem clash_comm_w {x y:Dop} (h:clash x y=true):clash y x=true:=by
 unfold clash at *
 simp only [Bool.or_eq_true,Bool.and_eq_true] at h ⊢
 have ac:∀ l m,anyP l m=true→anyP m l=true:=by
  intro l m h
  unfold anyP at h
  rw [List.any_eq_true] at h
  obtain ⟨p,h1,h2⟩:=h
  exact anyP_of ((memP_iff p m).1 h2) h1
 rcases h with (((h|h)|h)|h)|h
 ·exact .inl (.inl (.inl (.inr ⟨h.2,h.1⟩)))
 ·exact .inl (.inl (.inl (.inl ⟨h.2,h.1⟩)))
 ·exact .inl (.inr (ac _ _ h))
 ·exact .inl (.inl (.inr (ac _ _ h)))
 ·exact .inr (ac _ _ h)
def Down (os:List Oper) (S:Nat→Prop):Prop:=∀ (i:Nat) (o:Oper),S i→os[i]?=some o→∀ m∈edges o,S m
theorem Down.bef {os:List Oper} {S:Nat→Prop} (hS:Down os S) {k i:Nat} (h:Bef os k i):S k→S i:=by
 induction h with
 | one ho hi=>exact fun hk=>hS _ _ hk ho _ hi
 | more ho hm _ ih=>exact fun hk=>ih (hS _ _ hk ho _ hm)
theorem DrwOk.side {Pr:Program} {Ls:List Nat} {N:Nat} {ds:List Dop} {os:List Oper} (D:DrwOk Pr Ls N ds os) {S:Nat→Prop} (hS:Down os S) {i:Nat} {o:Oper} (ho:os[i]?=some o) (hr:∀ m∈edges o,S m) (hn:¬ S i)
 {x y:Dop} {q:Nat} (hx:ds[q]?=some x) (hy:ds[i]?=some y) (hc:clash x y=true):q<i↔S q:=by
 rcases Nat.lt_trichotomy q i with h|h|h
 ·refine ⟨fun _=>?_,fun _=>h⟩
  have hb:=D.ord q i x y h hx hy hc
  cases hb with
  | one ho' hi=>rw [ho] at ho';cases ho';exact hr _ hi
  | more ho' hm hb=>rw [ho] at ho';cases ho';exact hS.bef hb (hr _ hm)
 ·subst h;exact ⟨fun h=>absurd h (Nat.lt_irrefl _),fun h=>absurd h hn⟩
 ·refine ⟨fun h'=>absurd h' (by omega),fun hq=>?_⟩
  exact absurd (hS.bef (D.ord i q y x h hy hx (clash_comm_w hc)) hq) hn
section
variable {Pr:Program} {F:Tr Fd} {ih:Ih} {wm:Option P} {out:Out} {eo:Env} {no:P} {ho:Hp}
def DStep (Pr:Program) (wm:Option P) (d:Dop) (o:Oper) (e:Env) (nx:P) (h:Hp) (e':Env) (nx':P) (h':Hp):Prop:=
 match d with
 | .mk c u b r op=>∃ r1,OpDid Pr o (wmOf r nx wm) (use c e u .nl) nx h op r1 nx' h'∧e'=back r1 b e
theorem wmOf_old {r:Bool} {nx nx':P} {h h':Hp} (M:MovesC (wmOf r nx wm) nx h nx' h') (hle:∀ m,wm=some m→m.n≤nx.n):MovesC wm nx h nx' h':=by
 refine ⟨M.le,fun m hm hmn k hk=>?_,M.top⟩
 cases r with
 | false=>exact M.old m hm hmn k hk
 | true=>exact M.old nx rfl (Nat.le_refl _) k (Nat.lt_of_lt_of_le hk (hle m hm))
theorem DStep.moves {d:Dop} {o:Oper} {e e':Env} {nx nx':P} {h h':Hp} (D:DStep Pr wm d o e nx h e' nx' h') (hle:∀ m,wm=some m→m.n≤nx.n):MovesC wm nx h nx' h':=by
 obtain ⟨c,u,b,r,op⟩:=d
 obtain ⟨r1,hd,_⟩:=D
 exact wmOf_old hd.moves hle
structure Sts (Pr:Program) (wm:Option P) (ds:List Dop) (os:List Oper) (e:Env) (nx:P) (h:Hp) (E:Nat→Env) (X:Nat→P) (H:Nat→Hp):Prop where
 e0:E 0=e
 x0:X 0=nx
 h0:H 0=h
 step:∀ (i:Nat) (d:Dop) (o:Oper),ds[i]?=some d→os[i]?=some o→DStep Pr wm d o (E i) (X i) (H i) (E (i+1)) (X (i+1)) (H (i+1))
theorem dops_sim (hF:FOk Pr F) (hih:IhOk Pr ih) {all:List Oper} {Ls:List Nat} {N:Nat}:∀ (ds:List Dop) (os:List Oper) (e:Env) (nx:P) (h:Hp) (k:Ko),dopsK ds F ih wm e nx h k=.ok out eo no ho→chkOps Pr Ls N all (ds.map opD) os=true→
 ∃ E X H,Sts Pr wm ds os e nx h E X H∧k (E ds.length) (X ds.length) (H ds.length)=.ok out eo no ho
 | [],os,e,nx,h,k,hk,_=>⟨fun _=>e,fun _=>nx,fun _=>h,⟨rfl,rfl,rfl,fun i d o hd=>by simp at hd⟩,hk⟩
 | d::ds,[],e,nx,h,k,hk,hc=>by simp [chkOps] at hc
 | d::ds,o::os,e,nx,h,k,hk,hc=>by
  simp only [List.map_cons,chkOps,Bool.and_eq_true] at hc
  obtain ⟨c,u,b,r,op⟩:=d
  change useK c u e .nl (fun r0=>opK op F ih (wmOf r nx wm) r0 nx h fun r1 nx h=>backK b r1 e fun e=>dopsK ds F ih wm e nx h k)=_ at hk
  rw [useK_eq] at hk
  simp only [backK_eq] at hk
  obtain ⟨r1,nx1,h1,hk1,D⟩:=op_did hF hih hk hc.1
  obtain ⟨E,X,H,st,hk2⟩:=dops_sim hF hih ds os _ nx1 h1 k hk1 hc.2
  refine ⟨fun i=>match i with|0=>e|i+1=>E i,fun i=>match i with|0=>nx|i+1=>X i,fun i=>match i with|0=>h|i+1=>H i,⟨rfl,rfl,rfl,?_⟩,hk2⟩
  intro i d' o' hd ho
  cases i with
  | zero=>
   simp at hd ho;subst hd;subst ho
   refine ⟨r1,?_,st.e0⟩
   show OpDid Pr o (wmOf r nx wm) (use c e u .nl) nx h op r1 (X 0) (H 0)
   rw [st.x0,st.h0];exact D
  | succ i=>exact st.step i d' o' (by simpa using hd) (by simpa using ho)
section
variable {ds:List Dop} {os:List Oper} {e:Env} {nx:P} {h:Hp} {E:Nat→Env} {X:Nat→P} {H:Nat→Hp}
theorem Sts.mono (st:Sts Pr wm ds os e nx h E X H) (hl:ds.length=os.length) (hle:∀ m,wm=some m→m.n≤nx.n):∀ (n:Nat),n≤ds.length→MovesC wm nx h (X n) (H n):=by
 intro n
 induction n with
 | zero=>intro _;rw [st.x0,st.h0];exact MovesC.refl _ _ _
 | succ n ih=>
  intro hn
  have M:=ih (by omega)
  have hd:=st.step n ds[n] os[n] (List.getElem?_eq_getElem (by omega)) (List.getElem?_eq_getElem (by omega))
  exact M.trans (hd.moves fun m hm=>Nat.le_trans (hle m hm) M.le)
theorem Sts.top (st:Sts Pr wm ds os e nx h E X H) (hl:ds.length=os.length) (ht:∀ k:P,nx.n≤k.n→Tr.get? k h=none):∀ (n:Nat),n≤ds.length→∀ k:P,(X n).n≤k.n→Tr.get? k (H n)=none:=by
 intro n
 induction n with
 | zero=>intro _;rw [st.x0,st.h0];exact ht
 | succ n ih=>
  intro hn
  have hd:=st.step n ds[n] os[n] (List.getElem?_eq_getElem (by omega)) (List.getElem?_eq_getElem (by omega))
  cases hdd:ds[n] with
  | mk c u b r op=>rw [hdd] at hd;obtain ⟨r1,hd,_⟩:=hd;exact hd.moves.top (ih (by omega))
theorem Sts.one_le (st:Sts Pr wm ds os e nx h E X H) (hl:ds.length=os.length) {i:Nat} (hi:i<ds.length):(X i).n≤(X (i+1)).n:=by
 have hd:=st.step i ds[i] os[i] (List.getElem?_eq_getElem hi) (List.getElem?_eq_getElem (by omega))
 cases hdd:ds[i] with
 | mk c u b r op=>rw [hdd] at hd;obtain ⟨r1,hd,_⟩:=hd;exact hd.moves.le
theorem Sts.le (st:Sts Pr wm ds os e nx h E X H) (hl:ds.length=os.length) {i k:Nat} (hik:i≤k) (hk:k≤ds.length):(X i).n≤(X k).n:=by
 induction k with
 | zero=>rw [show i=0 by omega];exact Nat.le_refl _
 | succ k ih=>
  rcases Nat.lt_or_ge i (k+1) with h|h
  ·exact Nat.le_trans (ih (by omega) (by omega)) (st.one_le hl (by omega))
  ·rw [show i=k+1 by omega];exact Nat.le_refl _
theorem backP_ne {p q:P} (h:q≠p) (r e:Env):Tr.get? q (backP p r e)=Tr.get? q e:=by
 unfold backP;cases Tr.get? p r with
 | none=>rfl
 | some v=>exact Tr.get_set_ne h _ _
theorem back_out (r:Env):∀ (b:List P) (e:Env) (q:P),q ∉ b→Tr.get? q (back r b e)=Tr.get? q e
 | [],e,q,_=>rfl
 | p::b,e,q,hq=>by
  simp only [back]
  rw [back_out r b _ q (fun h=>hq (by simp [h])),backP_ne (fun h=>hq (by simp [h]))]
theorem back_none (r:Env) (q:P) (hr:Tr.get? q r=none):∀ (b:List P) (e:Env),Tr.get? q (back r b e)=Tr.get? q e
 | [],e=>rfl
 | p::b,e=>by
  simp only [back]
  rw [back_none r q hr b]
  by_cases h:q=p
  ·subst h;unfold backP;rw [hr]
  ·exact backP_ne h _ _
theorem back_in (r:Env) (q:P) {v:DV} (hr:Tr.get? q r=some v):∀ (b:List P) (e:Env),q∈b→Tr.get? q (back r b e)=some v
 | [],e,hq=>by simp at hq
 | p::b,e,hq=>by
  simp only [back]
  by_cases hb:q∈b
  ·exact back_in r q hr b _ hb
  ·rw [back_out r b _ q hb]
   rcases List.mem_cons.1 hq with rfl|h
   ·unfold backP;rw [hr];exact Tr.get_set_self _ _ _
   ·exact absurd h hb
theorem Sts.env_stays (st:Sts Pr wm ds os e nx h E X H) (hl:ds.length=os.length) {p:P} {t:Nat}:∀ (t':Nat),t≤t'→t'≤ds.length→(∀ (q:Nat) (d:Dop),t≤q→q<t'→ds[q]?=some d→p ∉ backD d)→Tr.get? p (E t')=Tr.get? p (E t):=by
 intro t'
 induction t' with
 | zero=>intro h1 _ _;rw [show t=0 by omega]
 | succ t' ih=>
  intro h1 h2 h3
  rcases Nat.lt_or_ge t (t'+1) with hlt|hge
  ·rw [←ih (by omega) (by omega) (fun q d hq1 hq2 hd=>h3 q d hq1 (by omega) hd)]
   have hd:=st.step t' ds[t'] os[t'] (List.getElem?_eq_getElem (by omega)) (List.getElem?_eq_getElem (by omega))
   have hp:=h3 t' ds[t'] (by omega) (by omega) (List.getElem?_eq_getElem (by omega))
   cases hdd:ds[t'] with
   | mk c u b r op=>
    rw [hdd] at hd hp
    obtain ⟨r1,_,he⟩:=hd
    rw [he]
    exact back_out r1 b _ p hp
  ·rw [show t=t'+1 by omega]
theorem Sts.heap_one (st:Sts Pr wm ds os e nx h E X H) {i:Nat} {d:Dop} {o:Oper} (hd:ds[i]?=some d) (ho:os[i]?=some o) (hw:isW d=false) {k:P} (hk:k.n<(X i).n):Tr.get? k (H (i+1))=Tr.get? k (H i):=by
 have D:=st.step i d o hd ho
 obtain ⟨c,u,b,r,op⟩:=d
 obtain ⟨r1,D,_⟩:=D
 generalize hx:X (i+1)=x at D
 generalize hh:H (i+1)=hp at D
 cases D with
 | run G S M hs=>
  have hr:r=true:=by
   cases r with
   | true=>rfl
   | false=>simp [isW,stillO,isVarO,hs] at hw
  subst hr
  exact M.old (X i) rfl (Nat.le_refl _) k hk
 | _=>rfl
theorem Sts.heap_stays (st:Sts Pr wm ds os e nx h E X H) (hl:ds.length=os.length) {k:P} {t:Nat} (hk:k.n<(X t).n):∀ (t':Nat),t≤t'→t'≤ds.length→(∀ (q:Nat) (d:Dop),t≤q→q<t'→ds[q]?=some d→isW d=false)→Tr.get? k (H t')=Tr.get? k (H t):=by
 intro t'
 induction t' with
 | zero=>intro h1 _ _;rw [show t=0 by omega]
 | succ t' ih=>
  intro h1 h2 h3
  rcases Nat.lt_or_ge t (t'+1) with hlt|hge
  ·rw [←ih (by omega) (by omega) (fun q d hq1 hq2 hd=>h3 q d hq1 (by omega) hd)]
   exact st.heap_one (List.getElem?_eq_getElem (by omega)) (List.getElem?_eq_getElem (by omega)) (h3 t' ds[t'] (by omega) (by omega) (List.getElem?_eq_getElem (by omega))) (Nat.lt_of_lt_of_le hk (st.le hl (by omega) (by omega)))
  ·rw [show t=t'+1 by omega]
def VE (ds:List Dop) (S:Nat→Prop) (p:P) (t:Nat):Prop:=∀ (q:Nat) (d:Dop),ds[q]?=some d→p∈backD d→(q<t↔S q)
def VT (ds:List Dop) (S:Nat→Prop) (t:Nat):Prop:=∀ (q:Nat) (d:Dop),ds[q]?=some d→isW d=true→(q<t↔S q)
theorem Sts.env_same (st:Sts Pr wm ds os e nx h E X H) (hl:ds.length=os.length) {S:Nat→Prop} {p:P} {t t':Nat} (ht:t≤ds.length) (ht':t'≤ds.length) (h1:VE ds S p t) (h2:VE ds S p t'):Tr.get? p (E t')=Tr.get? p (E t):=by
 rcases Nat.le_total t t' with h|h
 ·refine st.env_stays hl t' h ht' ?_
  intro q d hq1 hq2 hd hp
  have:=(h1 q d hd hp).2 ((h2 q d hd hp).1 hq2);omega
 ·refine (st.env_stays hl t h ht ?_).symm
  intro q d hq1 hq2 hd hp
  have:=(h2 q d hd hp).2 ((h1 q d hd hp).1 hq2);omega
theorem Sts.heap_same (st:Sts Pr wm ds os e nx h E X H) (hl:ds.length=os.length) {S:Nat→Prop} {k:P} {t t':Nat} (ht:t≤ds.length) (ht':t'≤ds.length) (h1:VT ds S t) (h2:VT ds S t') (hk:k.n<(X t).n) (hk':k.n<(X t').n):Tr.get? k (H t')=Tr.get? k (H t):=by
 rcases Nat.le_total t t' with h|h
 ·refine st.heap_stays hl hk t' h ht' ?_
  intro q d hq1 hq2 hd
  cases hw:isW d with
  | false=>rfl
  | true=>have:=(h1 q d hd hw).2 ((h2 q d hd hw).1 hq2);omega
 ·refine (st.heap_stays hl hk' t h ht ?_).symm
  intro q d hq1 hq2 hd
  cases hw:isW d with
  | false=>rfl
  | true=>have:=(h2 q d hd hw).2 ((h1 q d hd hw).1 hq2);omega
theorem useP_sub {e acc:Env} {p:P} (ha:∀ q v,Tr.get? q acc=some v→Tr.get? q e=some v):∀ q v,Tr.get? q (useP true p e acc)=some v→Tr.get? q e=some v:=by
 intro q v hv
 unfold useP at hv
 cases hp:Tr.get? p e with
 | none=>rw [hp] at hv;exact ha q v hv
 | some u=>
  rw [hp] at hv
  have set:∀ u,Tr.get? p e=some u→Tr.get? q (Tr.set p acc (some u))=some v→Tr.get? q e=some v:=by
   intro u hu hv
   by_cases hq:q=p
   ·subst hq;rw [Tr.get_set_self] at hv;cases hv;exact hu
   ·rw [Tr.get_set_ne hq] at hv;exact ha q v hv
  cases u
  case fld q' o=>
   simp only [] at hv
   cases hq':Tr.get? q' acc with
   | none=>rw [hq'] at hv;exact ha q v hv
   | some x=>
    rw [hq'] at hv
    cases x<;>first|exact ha q v hv|exact set _ hp hv
  all_goals exact set _ hp hv
theorem useP_fld {e acc:Env} {p:P} (hae:∀ q v,Tr.get? q acc=some v→Tr.get? q e=some v) (ha:∀ q q' o,Tr.get? q acc=some (.fld q' o)→isVar q' acc):∀ q q' o,Tr.get? q (useP true p e acc)=some (.fld q' o)→isVar q' (useP true p e acc):=by
 intro q q' o hv
 unfold useP at hv ⊢
 cases hp:Tr.get? p e with
 | none=>rw [hp] at hv;exact ha q q' o hv
 | some u=>
  rw [hp] at hv
  have keepv:∀ u q',Tr.get? p e=some u→isVar q' acc→isVar q' (Tr.set p acc (some u)):=by
   rintro u q' hu ⟨l,hl⟩
   by_cases hq:q'=p
   ·subst hq
    have:=hae _ _ hl
    rw [hu] at this;cases this
    exact ⟨l,Tr.get_set_self _ _ _⟩
   ·exact ⟨l,by rw [Tr.get_set_ne hq];exact hl⟩
  have set:∀ u,Tr.get? p e=some u→(∀ q' o,u=.fld q' o→isVar q' acc)→Tr.get? q (Tr.set p acc (some u))=some (.fld q' o)→isVar q' (Tr.set p acc (some u)):=by
   intro u hu hf hv
   by_cases hq:q=p
   ·subst hq
    rw [Tr.get_set_self] at hv;cases hv
    exact keepv _ _ hu (hf _ _ rfl)
   ·rw [Tr.get_set_ne hq] at hv;exact keepv _ _ hu (ha q q' o hv)
  cases u
  case fld q'' o'=>
   simp only [] at hv ⊢
   cases hq':Tr.get? q'' acc with
   | none=>rw [hq'] at hv;exact ha q q' o hv
   | some x=>
    rw [hq'] at hv
    cases x
    case var l=>exact set _ hp (fun q3 o3 h=>by cases h;exact ⟨l,hq'⟩) hv
    all_goals exact ha q q' o hv
  all_goals exact set _ hp (fun _ _ h=>by cases h) hv
theorem use_sub {e:Env}:∀ (u:List P) (acc:Env),(∀ q v,Tr.get? q acc=some v→Tr.get? q e=some v)→∀ q v,Tr.get? q (use true e u acc)=some v→Tr.get? q e=some v
 | [],acc,ha=>ha
 | p::u,acc,ha=>use_sub u _ (useP_sub ha)
theorem use_fld {e:Env}:∀ (u:List P) (acc:Env),(∀ q v,Tr.get? q acc=some v→Tr.get? q e=some v)→(∀ q q' o,Tr.get? q acc=some (.fld q' o)→isVar q' acc)→∀ q q' o,Tr.get? q (use true e u acc)=some (.fld q' o)→isVar q' (use true e u acc)
 | [],acc,_,ha=>ha
 | p::u,acc,hae,ha=>use_fld u _ (useP_sub hae) (useP_fld hae ha)
theorem use_only {e:Env}:∀ (u:List P) (acc:Env) (q:P) (v:DV),Tr.get? q (use true e u acc)=some v→Tr.get? q acc=some v∨q∈u
 | [],acc,q,v,h=>.inl h
 | p::u,acc,q,v,h=>by
  rcases use_only u _ q v h with h1|h1
  ·by_cases hq:q=p
   ·exact .inr (by simp [hq])
   ·left
    rw [←h1]
    unfold useP
    cases hp:Tr.get? p e with
    | none=>rfl
    | some x=>
     cases x
     case fld q' o=>
      simp only []
      cases hq':Tr.get? q' acc with
      | none=>rfl
      | some y=>cases y<;>first|rfl|exact (Tr.get_set_ne hq _ _).symm
     all_goals exact (Tr.get_set_ne hq _ _).symm
  ·exact .inr (by simp [h1])
theorem use_var {e:Env}:∀ (u:List P) (acc:Env) (q:P) (l:List DV),(∀ q v,Tr.get? q acc=some v→Tr.get? q e=some v)→Tr.get? q e=some (.var l)→(q∈u∨Tr.get? q acc=some (.var l))→Tr.get? q (use true e u acc)=some (.var l)
 | [],acc,q,l,_,hq,h=>by
  rcases h with h|h
  ·simp at h
  ·exact h
 | p::u,acc,q,l,hae,hq,h=>by
  refine use_var u _ q l (useP_sub hae) hq ?_
  by_cases hqu:q∈u
  ·exact .inl hqu
  ·right
   by_cases hqp:q=p
   ·subst hqp
    unfold useP;rw [hq];exact Tr.get_set_self _ _ _
   ·have h':Tr.get? q acc=some (.var l):=by
     rcases h with h|h
     ·simp [hqp,hqu] at h
     ·exact h
    rw [←h']
    unfold useP
    cases hp:Tr.get? p e with
    | none=>rfl
    | some x=>
     cases x
     case fld q' o=>
      simp only []
      cases hq':Tr.get? q' acc with
      | none=>rfl
      | some y=>cases y<;>first|rfl|exact Tr.get_set_ne hqp _ _
     all_goals exact Tr.get_set_ne hqp _ _
end
end
end Go.Proofs.YthdlkpmhjbaplaaGreat.Dx
