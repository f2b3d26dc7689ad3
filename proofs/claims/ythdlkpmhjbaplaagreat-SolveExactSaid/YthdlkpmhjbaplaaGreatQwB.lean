/- A part of the proof of ExactS: a small machine, what its functions come to, plain laws. No statement of this seat is proved here. -/
import Derived.Test.YthdlkpmhjbaplaaGreatQwA
set_option autoImplicit false
set_option linter.unusedVariables false
set_option linter.unusedSimpArgs false
set_option maxRecDepth 100000
noncomputable section
namespace Go.Proofs.YthdlkpmhjbaplaaGreat.Dx
open Go
noncomputable section
def vbinds:List P→List VV→VEnv→Option VEnv
 | [],[],e=>some e
 | p::ps,v::vs,e=>vbinds ps vs (Tr.set p e (some v))
 | _,_,_=>none
def vrs1 (r:Rs) (s:VSt):Option VV:=
 match r with
 | .t p=>vov (.t p) s.e
 | .cell p none=>match vev (.t p) s.e with
  | some (.fld q o)=>(match Tr.get? q s.e with|some (.var l)=>l[o]?|_=>none)
  | some (.pt k m o)=>(match live s.h k m with|some ob=>ob.cells[o]?|none=>none)
  | _=>none
 | .cell p (some n)=>match vev (.t p) s.e with
  | some (.fld q o)=>(match Tr.get? q s.e with|some (.var l)=>if o+n≤l.length then some (.agg ((l.drop o).take n)) else none|_=>none)
  | some (.pt k m o)=>(match live s.h k m with|some ob=>if o+n≤ob.cells.length then some (.agg ((ob.cells.drop o).take n)) else none|none=>none)
  | _=>none
def vrsL:List Rs→VSt→Option (List VV)
 | [],_=>some []
 | r::l,s=>match vrs1 r s with|some v=>(match vrsL l s with|some t=>some (v::t)|none=>none)|none=>none
def vone (vs:List VV):VV:=match vs with|[v]=>v|vs=>.tup vs
def vres (rs:List Rs) (s:VSt):Option VV:=match vrsL rs s with|some vs=>some (vone vs)|none=>none
end
section
variable {Z:P→Prop} {h:Hp} {M:Option MM}
theorem vbinds_sound:∀ {ps:List P} {vs:List VV} {ds:List DV} {e e':VEnv} {d:Env},XRs Z h M vs ds→EnvR Z h M e d→vbinds ps vs e=some e'→∃ d',binds ps ds d=some d'∧EnvR Z h M e' d'
 | [],[],ds,e,e',d,x,hE,H=>by
  simp only [vbinds,Option.some.injEq] at H;subst H;cases x;exact ⟨d,rfl,hE⟩
 | p::ps,v::vs,ds,e,e',d,x,hE,H=>by
  simp only [vbinds] at H
  cases x with
  | cons hv hl=>exact vbinds_sound (ps:=ps) (vs:=vs) hl (hE.set hv) H
 | [],_::_,ds,e,e',d,x,hE,H=>by simp [vbinds] at H
 | _::_,[],ds,e,e',d,x,hE,H=>by simp [vbinds] at H
end
theorem vrs1_sound {c:Ctx} {s:VSt} {d:DS} {g:Gh} (R:RS c s d g) {r:Rs} {v:VV} (H:vrs1 r s=some v):∃ x,rs1v r d.e d.h=some x∧XR g.Z d.h (mm s.nx s.h g) v x:=by
 cases r with
 | t p=>
  refine ⟨_,rfl,?_⟩
  exact vov_sound (o:=.t p) R.env H
 | cell p n=>
  have main:∀ (l:List VV) (l':List DV) (o:Nat),Dx.look (evT p d.e) d.e d.h=some (l',o)→XRs g.Z d.h (mm s.nx s.h g) l ((l'.drop 0))→True:=fun _ _ _ _ _=>trivial
  cases n with
  | none=>
   simp only [vrs1] at H
   cases hp:vev (.t p) s.e with
   | none=>simp only [hp,reduceCtorEq] at H
   | some u=>
    have hx:XR g.Z d.h (mm s.nx s.h g) u (evT p d.e):=vev_sound (o:=.t p) R.env hp
    cases u<;>simp only [hp,reduceCtorEq] at H
    case fld q o=>
     cases hq:Tr.get? q s.e with
     | none=>simp only [hq,reduceCtorEq] at H
     | some y=>
      cases y<;>simp only [hq,reduceCtorEq] at H
      obtain ⟨z,hz,hzz⟩:=R.env.get hq
      obtain ⟨l',rfl,hl⟩:=hzz.var_inv
      obtain ⟨x,h1,h2⟩:=hl.get _ _ H
      refine ⟨x,?_,h2⟩
      simp only [rs1v,hx.fld_inv,look_var hz,h1]
    case pt k m o=>
     cases hl:live s.h k m with
     | none=>simp only [hl,reduceCtorEq] at H
     | some ob=>
      simp only [hl] at H
      obtain ⟨r,b,q,cells,hxx,e1,e2,e3,e4,e5,e6,e7,e8⟩:=pt_blk R hl hx
      obtain ⟨x,h1,h2⟩:=(VOb.m_any e8).get _ _ H
      refine ⟨x,?_,h2⟩
      simp only [rs1v,hxx,look_cells e6,cut_get h1]
  | some n=>
   simp only [vrs1] at H
   cases hp:vev (.t p) s.e with
   | none=>simp only [hp,reduceCtorEq] at H
   | some u=>
    have hx:XR g.Z d.h (mm s.nx s.h g) u (evT p d.e):=vev_sound (o:=.t p) R.env hp
    cases u<;>simp only [hp,reduceCtorEq] at H
    case fld q o=>
     cases hq:Tr.get? q s.e with
     | none=>simp only [hq,reduceCtorEq] at H
     | some y=>
      cases y<;>simp only [hq,reduceCtorEq] at H
      rename_i l
      obtain ⟨z,hz,hzz⟩:=R.env.get hq
      obtain ⟨l',rfl,hl⟩:=hzz.var_inv
      have hlen:=hl.length
      by_cases hle:o+n≤l.length
      ·rw [if_pos hle] at H;cases H
       refine ⟨.agg ((l'.drop o).take n),?_,.agg ((hl.drop o).take n)⟩
       simp only [rs1v,hx.fld_inv,look_var hz]
       rw [if_pos ⟨by omega,by rw [List.length_drop];omega⟩]
      ·rw [if_neg hle] at H;cases H
    case pt k m o=>
     cases hl:live s.h k m with
     | none=>simp only [hl,reduceCtorEq] at H
     | some ob=>
      simp only [hl] at H
      obtain ⟨r,b,q,cells,hxx,e1,e2,e3,e4,e5,e6,e7,e8⟩:=pt_blk R hl hx
      by_cases hle:o+n≤ob.cells.length
      ·rw [if_pos hle] at H;cases H
       refine ⟨.agg ((cells.drop (q+o)).take n),?_,.agg ?_⟩
       ·simp only [rs1v,hxx,look_cells e6]
        rw [if_pos ⟨by omega,by rw [List.length_drop];omega⟩]
       ·have:=((VOb.m_any e8).drop o).take n
        rw [cut_cut _ (by omega)] at this
        exact this
      ·rw [if_neg hle] at H;cases H
theorem vrsL_sound {c:Ctx} {s:VSt} {d:DS} {g:Gh} (R:RS c s d g):∀ {rs:List Rs} {vs:List VV},vrsL rs s=some vs→∃ xs,rsv d.e d.h rs=some xs∧XRs g.Z d.h (mm s.nx s.h g) vs xs
 | [],vs,H=>by simp only [vrsL,Option.some.injEq] at H;subst H;exact ⟨[],rfl,.nil⟩
 | r::rs,vs,H=>by
  simp only [vrsL] at H
  cases h1:vrs1 r s with
  | none=>simp only [h1,reduceCtorEq] at H
  | some v=>
   simp only [h1] at H
   cases h2:vrsL rs s with
   | none=>simp only [h2,reduceCtorEq] at H
   | some t=>
    simp only [h2,Option.some.injEq] at H;subst H
    obtain ⟨x,h3,h4⟩:=vrs1_sound R h1
    obtain ⟨xs,h5,h6⟩:=vrsL_sound R h2
    exact ⟨x::xs,by simp only [rsv,h3,h5,Option.map_some],.cons h4 h6⟩
theorem vone_sound {Z:P→Prop} {h:Hp} {M:Option MM} {vs:List VV} {xs:List DV} (x:XRs Z h M vs xs):XR Z h M (vone vs) (one xs):=by
 cases x with
 | nil=>exact .tup .nil
 | cons h1 t1=>
  cases t1 with
  | nil=>exact h1
  | cons h2 t2=>exact .tup (.cons h1 (.cons h2 t2))
def FSem (F:Tr Fd) (f:P) (args:List VV) (nx:Nat) (h:VHp) (R:VV→Nat→VHp→Prop):Prop:=
 ∀ (c:Ctx) (dnx:P) (dh:Hp) (g:Gh) (ds:List DV),c.wm=c.wm0→HpR c nx 0 h dnx dh g→XRs g.Z dh (mm nx h g) args ds→
  ∃ r nx' h' x dnx' dh' g',(∃ fuel,∀ n,fuel≤n→∀ (e0:Env) (k:Kv),callK F (exec F n) c.wm f ds e0 dnx dh k=k e0 x dnx' dh')∧
   HpR c nx' 0 h' dnx' dh' g'∧XR g'.Z dh' (mm nx' h' g') r x∧Evo nx h dnx dh g nx' h' dnx' dh' g'∧R r nx' h'
def retK (rs:List Rs) (R:VV→Nat→VHp→Prop) (o:Out) (s:VSt):Prop:=
 match o with
 | .exit _=>False
 | _=>match vres rs s with|some r=>R r s.nx s.h|none=>False
theorem fsem_of_body {F:Tr Fd} {f:P} {ps:List P} {body:C} {rs:List Rs} {args:List VV} {nx:Nat} {h:VHp} {R:VV→Nat→VHp→Prop} {e:VEnv}
 (hf:Tr.get? f F=some (.mk ps body rs)) (he:vbinds ps args .nl=some e) (H:wC F body ⟨e,nx,0,h⟩ (retK rs R)):FSem F f args nx h R:=by
 intro c dnx dh g ds hc hR hx
 obtain ⟨d,hb,hE⟩:=vbinds_sound hx EnvR.nl he
 obtain ⟨o,s',d',g',⟨fuel,hrun⟩,R',hw,E,hK⟩:=wC_sound H c ⟨d,dnx,dh⟩ g hc ⟨hE,hR⟩
 have main:∀ r,vres rs s'=some r→R r s'.nx s'.h→(o=.norm∨o=.ret)→∃ r nx' h' x dnx' dh' g',(∃ fuel,∀ n,fuel≤n→∀ (e0:Env) (k:Kv),callK F (exec F n) c.wm f ds e0 dnx dh k=k e0 x dnx' dh')∧
  HpR c nx' 0 h' dnx' dh' g'∧XR g'.Z dh' (mm nx' h' g') r x∧Evo nx h dnx dh g nx' h' dnx' dh' g'∧R r nx' h':=by
  intro r hr hRr ho
  unfold vres at hr
  cases hv:vrsL rs s' with
  | none=>simp only [hv,reduceCtorEq] at hr
  | some vs=>
   simp only [hv,Option.some.injEq] at hr;subst hr
   obtain ⟨xs,h1,h2⟩:=vrsL_sound R' hv
   have hh:s'.w=0:=hw
   refine ⟨_,s'.nx,s'.h,one xs,d'.nx,d'.h,g',⟨fuel+1,fun n hn e0 k=>?_⟩,by have:=R'.hp;rw [hh] at this;exact this,vone_sound h2,E,hRr⟩
   obtain ⟨n,rfl⟩:∃ m,n=m+1:=⟨n-1,by omega⟩
   show Option.rec (motive:=fun _=>Res) .fail (callF (exec F (n+1)) c.wm ds e0 dnx dh k) (Tr.get? f F)=_
   rw [hf]
   show bindK ps ds .nl (fun e=>retR (exec F (n+1) body c.wm e dnx dh) rs e0 k)=_
   rw [bindK_eq,hb]
   show retR (step body F (exec F n) c.wm d dnx dh) rs e0 k=_
   rw [hrun n (by omega)]
   have:retE rs e0 k d'.e d'.nx d'.h=k e0 (one xs) d'.nx d'.h:=by
    show rsL rs d'.e d'.h (fun vs=>oneK vs fun v=>fV v fun v=>k e0 v d'.nx d'.h)=_
    rw [rsL_eq,h1]
    show oneK xs (fun v=>fV v fun v=>k e0 v d'.nx d'.h)=_
    rw [oneK_eq,fV_eq]
   rcases ho with rfl|rfl<;>exact this
 unfold retK at hK
 cases o with
 | exit i=>exact hK.elim
 | norm=>
  simp only at hK
  cases hr:vres rs s' with
  | none=>simp only [hr] at hK
  | some r=>simp only [hr] at hK;exact main r hr hK (.inl rfl)
 | ret=>
  simp only at hK
  cases hr:vres rs s' with
  | none=>simp only [hr] at hK
  | some r=>simp only [hr] at hK;exact main r hr hK (.inr rfl)
def VPure (F:Tr Fd) (f:P) (args:List VV) (r:VV):Prop:=FSem F f args 0 [] fun r' _ _=>r'=r
theorem FSem.mono {F:Tr Fd} {f:P} {args:List VV} {nx:Nat} {h:VHp} {R R':VV→Nat→VHp→Prop} (H:FSem F f args nx h R) (hR:∀ r n h,R r n h→R' r n h):FSem F f args nx h R':=by
 intro c dnx dh g ds hc hH hx
 obtain ⟨r,nx',h',x,dnx',dh',g',a,b,cc,d,e⟩:=H c dnx dh g ds hc hH hx
 exact ⟨r,nx',h',x,dnx',dh',g',a,b,cc,d,hR _ _ _ e⟩
theorem FSem.view {F:Tr Fd} {f:P} {args:List VV} {nx:Nat} {h:VHp} {r:VV} (H:FSem F f args nx h fun r' _ h'=>vw h' r'=some r):FSem F f args nx h fun r' _ _=>r'=r:=by
 intro c dnx dh g ds hc hH hx
 obtain ⟨r',nx',h',x,dnx',dh',g',a,b,cc,d,e⟩:=H c dnx dh g ds hc hH hx
 obtain ⟨R1,E1⟩:=b.freeze (keysV r') (zOf h' g' (keysV r')) fun b=>Iff.rfl
 exact ⟨r,nx',_,x,dnx',dh',⟨zOf h' g' (keysV r'),g'.μ⟩,a,R1,(vw_sound b cc e fun k h=>h).none_any,d.trans E1,rfl⟩
def retV (rs:List Rs) (r:VV) (o:Out) (s:VSt):Prop:=
 match o with
 | .exit _=>False
 | _=>match vres rs s with|some r'=>vw s.h r'=some r|none=>False
theorem vpure_of_body {F:Tr Fd} {f:P} {ps:List P} {body:C} {rs:List Rs} {args:List VV} {r:VV} {e:VEnv}
 (hf:Tr.get? f F=some (.mk ps body rs)) (he:vbinds ps args .nl=some e) (H:wC F body ⟨e,0,0,[]⟩ (retV rs r)):VPure F f args r:=by
 refine FSem.view (fsem_of_body hf he (R:=fun r' _ h'=>vw h' r'=some r) ?_)
 have:retK rs (fun r' _ h'=>vw h' r'=some r)=retV rs r:=by
  funext o s;cases o<;>rfl
 rw [this];exact H
section
variable {F:Tr Fd} {f:P} {args:List VV} {s:VSt} {K:VSt→VV→Prop}
theorem wCall_freeze {args':List VV} (hv:vwL s.h args=some args') (H:wCall F f args' ⟨s.e,s.nx,s.w,hdels s.h (keysL args)⟩ K):wCall F f args s K:=by
 intro c d g ds R hx
 obtain ⟨R1,E1⟩:=R.hp.freeze (keysL args) (zOf s.h g (keysL args)) fun b=>Iff.rfl
 have hx1:=vwL_sound R.hp hx hv (ks:=keysL args) fun k h=>h
 obtain ⟨s',v,d',x,g',hrun,R',hw,hxr,E,hK⟩:=H c d ⟨zOf s.h g (keysL args),g.μ⟩ ds ⟨E1.env R.env,R1⟩ hx1.none_any
 exact ⟨s',v,d',x,g',hrun,R',hw,hxr,E1.trans E,hK⟩
mutual
theorem vw_pure (h:VHp):∀ (v:VV),pureV v=true→vw h v=some v
 | .ow _ _ _,hp=>by simp [pureV] at hp
 | .pt _ _ _,hp=>by simp [pureV] at hp
 | .os _ _ _ _ _,hp=>by simp [pureV] at hp
 | .var _,hp=>by simp [pureV] at hp
 | .fld _ _,hp=>by simp [pureV] at hp
 | .fn f cs,hp=>by simp only [pureV] at hp;simp only [vw,vwL_pure h cs hp]
 | .ifc t v,hp=>by simp only [pureV] at hp;simp only [vw,vw_pure h v hp]
 | .agg l,hp=>by simp only [pureV] at hp;simp only [vw,vwL_pure h l hp]
 | .tup l,hp=>by simp only [pureV] at hp;simp only [vw,vwL_pure h l hp]
 | .unk,_=>rfl | .bool _,_=>rfl | .int _ _,_=>rfl | .nilp,_=>rfl | .nils,_=>rfl | .nilf,_=>rfl | .nili,_=>rfl | .nilm,_=>rfl
 | .fz _ _ _ _,_=>rfl | .fp _ _,_=>rfl
theorem vwL_pure (h:VHp):∀ (l:List VV),pureL l=true→vwL h l=some l
 | [],_=>rfl
 | v::l,hp=>by simp only [pureL,Bool.and_eq_true] at hp;simp only [vwL,vw_pure h v hp.1,vwL_pure h l hp.2]
end
theorem wCall_pure {args':List VV} {r:VV} (hv:vwL s.h args=some args') (hp:VPure F f args' r) (hr:pureV r=true) (hs:scal r=true∨pureL args=true) (hK:K s r):wCall F f args s K:=by
 intro c d g ds R hx
 obtain ⟨Z1,hZ1,hlt,hx1⟩:∃ Z1:P→Prop,(∀ b,g.Z b→Z1 b)∧(∀ b,Z1 b→b.n<d.nx.n)∧XRs Z1 d.h none args' ds∧(scal r=true∨Z1=g.Z):=by
  rcases hs with hs|hs
  ·refine ⟨zOf s.h g (keysL args),fun b h=>.inl h,fun b hb=>?_,vwL_sound R.hp hx hv fun k h=>h,.inl hs⟩
   rcases hb with hb|⟨k,_,o,r',q,h1,h2,h3⟩
   ·exact R.hp.zlt b hb
   ·exact R.hp.lt h1 h2 h3
  ·have e:vwL s.h args=some args:=vwL_pure s.h args hs
   rw [e] at hv;cases hv
   exact ⟨g.Z,fun _ h=>h,R.hp.zlt,hx.pure hs,.inr rfl⟩
 obtain ⟨hx1,hcase⟩:=hx1
 have hR0:HpR ⟨c.wm,c.wm,d.nx,d.h,Z1,fun _=>False⟩ 0 0 [] d.nx d.h ⟨Z1,fun _=>none⟩:={
  blk:=fun k o h=>by cases h
  own:=fun k o r b q h=>by cases h
  inj:=fun k k' o o' r r' b q q' h=>by cases h
  zlt:=hlt
  zold:=fun b h=>.inl h
  top:=R.hp.top
  keep:=fun _ _ _=>rfl
  le:=Nat.le_refl _
  wm:=R.hp.wm
  wf:=fun m hm=>⟨R.hp.wm m hm,fun b h=>h.elim⟩ }
 obtain ⟨r',nx',h',x,dnx',dh',g',hrun,R1,hxr,E1,rfl⟩:=hp _ d.nx d.h _ ds rfl hR0 hx1.none_any
 have hkeep:∀ b:P,b.n<d.nx.n→Tr.get? b dh'=Tr.get? b d.h:=fun b hb=>R1.keep b hb (fun h=>h)
 obtain ⟨Zf,hzf,hzn,hxf⟩:∃ Zf:P→Prop,(∀ b,g.Z b→Zf b)∧(∀ b,Zf b→g.Z b∨(d.nx.n≤b.n∧b.n<dnx'.n))∧∀ M,XR Zf dh' M r' x:=by
  rcases hcase with hs|rfl
  ·exact ⟨g.Z,fun _ h=>h,fun _ h=>.inl h,fun M=>hxr.scal hs⟩
  ·refine ⟨g'.Z,E1.z,fun b hb=>?_,fun M=>(hxr.pure hr).none_any⟩
   rcases R1.zold b hb with h|h|h
   ·exact .inl h
   ·exact .inr ⟨h,R1.zlt b hb⟩
   ·exact h.elim
 have hm:MLe (mm s.nx s.h g) (mm s.nx s.h ⟨Zf,g.μ⟩):=MLe.refl _
 have ho:∀ b,g.Z b→objAt b dh'=objAt b d.h:=fun b hb=>objAt_of (hkeep b (R.hp.zlt b hb))
 have E:Evo s.nx s.h d.nx d.h g s.nx s.h dnx' dh' ⟨Zf,g.μ⟩:=⟨hm,hzf,ho,E1.nx⟩
 refine ⟨s,r',⟨d.e,dnx',dh'⟩,x,⟨Zf,g.μ⟩,⟨rfl,hrun⟩,⟨E.env R.env,?_⟩,rfl,hxf _,E,hK⟩
 constructor
 ·intro k o hk
  obtain ⟨h1,r1,e1,B1⟩:=R.hp.blk k o hk
  exact ⟨h1,r1,e1,B1.mono hzf ho hm fun b q hb=>hkeep b (R.hp.lt hk e1 hb)⟩
 ·intro k o r1 b q hk hr1 hb
  obtain ⟨a1,a2,a3⟩:=R.hp.own k o r1 b q hk hr1 hb
  refine ⟨fun h=>?_,a2,a3⟩
  rcases hzn b h with h|h
  ·exact a1 h
  ·have:=R.hp.lt hk hr1 hb;omega
 ·exact R.hp.inj
 ·intro b hb
  rcases hzn b hb with h|h
  ·exact Nat.lt_of_lt_of_le (R.hp.zlt b h) E1.nx
  ·exact h.2
 ·intro b hb
  rcases hzn b hb with h|h
  ·exact R.hp.zold b h
  ·exact .inr (.inl (Nat.le_trans R.hp.le h.1))
 ·exact R1.top
 ·intro b hb hn
  rw [hkeep b (Nat.lt_of_lt_of_le hb R.hp.le)];exact R.hp.keep b hb hn
 ·exact Nat.le_trans R.hp.le E1.nx
 ·intro m hm;exact Nat.le_trans (R.hp.wm m hm) E1.nx
 ·exact R.hp.wf
theorem wCall_any {args':List VV} {r:VV} {b:Bool} (hv:vwL s.h args=some args') (hp:VPure F f args' r) (hr:pureV r=true) (ha:pureL args'=true) (hb:(scal r||pureL args)=b) (hK:K (cond b s ⟨s.e,s.nx,s.w,hdels s.h (keysL args)⟩) r):wCall F f args s K:=by
 cases b with
 | true=>exact wCall_pure hv hp hr (by rw [Bool.or_eq_true] at hb;exact hb) hK
 | false=>exact wCall_freeze hv (wCall_pure (vwL_pure _ _ ha) hp hr (.inr ha) hK)
mutual
theorem XR.ext {Z:P→Prop} {h:Hp} {N N':Nat} {f f':Nat→Option (Nat × DV)} (hN:N≤N'):∀ {v:VV} {d:DV},(∀ k∈keysV v,f' k=f k)→XR Z h (some (N,f)) v d→XR Z h (some (N',f')) v d
 | _,_,_,.unk hd=>.unk hd
 | _,_,_,.bool b=>.bool b
 | _,_,_,.int k n=>.int k n
 | _,_,_,.nilp=>.nilp
 | _,_,_,.nils=>.nils
 | _,_,_,.nilf=>.nilf
 | _,_,_,.nili=>.nili
 | _,_,_,.nilm=>.nilm
 | _,_,_,.fz0 hc=>.fz0 hc
 | _,_,_,.fz hn hz hk ho hl hc hx=>.fz hn hz hk ho hl hc hx
 | _,_,_,.fp hz hk ho hl=>.fp hz hk ho hl
 | _,_,he,.ow hd hk hf=>.ow hd (Nat.lt_of_lt_of_le hk hN) fun m r e=>hf m r (by rw [←he _ (List.mem_singleton.2 rfl)];exact e)
 | _,_,he,.pt hd hk hf=>.pt hd (Nat.lt_of_lt_of_le hk hN) fun m r e=>hf m r (by rw [←he _ (List.mem_singleton.2 rfl)];exact e)
 | _,_,he,.os hd hk hf=>.os hd (Nat.lt_of_lt_of_le hk hN) fun m r e=>hf m r (by rw [←he _ (List.mem_singleton.2 rfl)];exact e)
 | _,_,he,.fn hl=>.fn (XRs.ext hN (fun k hk=>he k (by simpa [keysV] using hk)) hl)
 | _,_,he,.ifc hv=>.ifc (XR.ext hN (fun k hk=>he k (by simpa [keysV] using hk)) hv)
 | _,_,he,.agg hl=>.agg (XRs.ext hN (fun k hk=>he k (by simpa [keysV] using hk)) hl)
 | _,_,he,.tup hl=>.tup (XRs.ext hN (fun k hk=>he k (by simpa [keysV] using hk)) hl)
 | _,_,he,.var hl=>.var (XRs.ext hN (fun k hk=>he k (by simpa [keysV] using hk)) hl)
 | _,_,_,.fld p o=>.fld p o
theorem XRs.ext {Z:P→Prop} {h:Hp} {N N':Nat} {f f':Nat→Option (Nat × DV)} (hN:N≤N'):∀ {l:List VV} {l':List DV},(∀ k∈keysL l,f' k=f k)→XRs Z h (some (N,f)) l l'→XRs Z h (some (N',f')) l l'
 | _,_,_,.nil=>.nil
 | _,_,he,.cons hv hl=>.cons (XR.ext hN (fun k hk=>he k (by simp [keysL,hk])) hv) (XRs.ext hN (fun k hk=>he k (by simp [keysL,hk])) hl)
end
def okeys:VOb→List Nat | .row _=>[] | .obj l=>keysL l
def hkeys:VHp→List Nat
 | []=>[]
 | (k,_)::t=>k::hkeys t
theorem hget_hkeys:∀ {h:VHp} {k:Nat} {o:VOb},hget h k=some o→k∈hkeys h
 | [],k,o,e=>by cases e
 | (j,x)::t,k,o,e=>by
  simp only [hget] at e
  by_cases hk:k=j
  ·subst hk;exact List.mem_cons_self
  ·rw [if_neg hk] at e;exact List.mem_cons_of_mem _ (hget_hkeys e)
theorem hkeys_hget:∀ {h:VHp} {k:Nat},k∈hkeys h→∃ o,hget h k=some o
 | [],k,e=>by cases e
 | (j,x)::t,k,e=>by
  simp only [hget]
  by_cases hk:k=j
  ·rw [if_pos hk];exact ⟨x,rfl⟩
  ·rw [if_neg hk]
   rcases List.mem_cons.1 e with h|h
   ·exact absurd h hk
   ·exact hkeys_hget h
def closed (h:VHp) (ks:List Nat):Prop:=∀ k∈ks,k∈hkeys h
def closedH (h:VHp):Prop:=∀ k o,hget h k=some o→closed h (okeys o)
theorem wCall_heap {hin:VHp} {R:VV→Nat→VHp→Prop} (hp:FSem F f args s.nx hin R) (hsub:∀ k o,hget hin k=some o→hget s.h k=some o∧s.w≤k)
 (hcl:∀ r nx' h',R r nx' h'→closed h' (keysV r)∧closedH h')
 (hK:∀ r nx' h',R r nx' h'→s.nx≤nx'→K ⟨s.e,nx',s.w,h'++hdels s.h (hkeys hin)⟩ r):wCall F f args s K:=by
 intro c d g ds R0 hx
 obtain ⟨Rs,Es⟩:=R0.hp.sub (vh':=hin) fun k o h=>(hsub k o h).1
 let own0:P→Prop:=fun b=>∃ k o r q,hget hin k=some o∧g.μ k=some r∧refAt r=some (b,q)
 have hmay:∀ b,own0 b→∀ m,c.wm=some m→m.n≤b.n:=by
  rintro b ⟨k,o,r,q,h1,h2,h3⟩ m hm
  exact (R0.hp.own k o r b q (hsub k o h1).1 h2 h3).2.2 (hsub k o h1).2 m hm
 have hR0:HpR ⟨c.wm,c.wm,d.nx,d.h,g.Z,own0⟩ s.nx 0 hin d.nx d.h g:={
  blk:=Rs.blk
  own:=fun k o r b q hk hr hb=>⟨(Rs.own k o r b q hk hr hb).1,.inr ⟨k,o,r,q,hk,hr,hb⟩,fun _=>hmay b ⟨k,o,r,q,hk,hr,hb⟩⟩
  inj:=Rs.inj
  zlt:=Rs.zlt
  zold:=fun b h=>.inl h
  top:=Rs.top
  keep:=fun _ _ _=>rfl
  le:=Nat.le_refl _
  wm:=R0.hp.wm
  wf:=fun m hm=>⟨R0.hp.wm m hm,fun b h=>hmay b h m hm⟩ }
 obtain ⟨r,nx',h',x,dnx',dh',g',hrun,R1,hxr,E1,hR⟩:=hp _ d.nx d.h g ds rfl hR0 (Es.xrs hx)
 obtain ⟨hc1,hc2⟩:=hcl r nx' h' hR
 have hK':=hK r nx' h' hR E1.m.1
 let μ2:Nat→Option DV:=fun k=>match hget h' k with|some _=>g'.μ k|none=>g.μ k
 let vh2:VHp:=h'++hdels s.h (hkeys hin)
 let g2:Gh:=⟨g'.Z,μ2⟩
 have get_new:∀ k o,hget h' k=some o→hget vh2 k=some o∧μ2 k=g'.μ k:=by
  intro k o h
  exact ⟨by show hget (h'++_) k=_;rw [hget_append,h],by show (match hget h' k with|some _=>g'.μ k|none=>g.μ k)=_;rw [h]⟩
 have get_old:∀ k,hget h' k=none→μ2 k=g.μ k∧∀ o,hget vh2 k=some o→hget s.h k=some o∧k ∉ hkeys hin:=by
  intro k h
  refine ⟨by show (match hget h' k with|some _=>g'.μ k|none=>g.μ k)=_;rw [h],fun o ho=>?_⟩
  have ho:hget (h'++hdels s.h (hkeys hin)) k=some o:=ho
  rw [hget_append,h] at ho
  change hget (hdels s.h (hkeys hin)) k=some o at ho
  rw [hget_dels] at ho
  by_cases hk:k∈hkeys hin
  ·rw [if_pos hk] at ho;cases ho
  ·rw [if_neg hk] at ho;exact ⟨ho,hk⟩
 have rest_not:∀ k o r b q,hget s.h k=some o→k ∉ hkeys hin→g.μ k=some r→refAt r=some (b,q)→¬ own0 b:=by
  rintro k o r b q h1 h2 h3 h4 ⟨k',o',r',q',e1,e2,e3⟩
  have:=R0.hp.inj k k' o o' r r' b q q' h1 (hsub k' o' e1).1 h3 e2 h4 e3
  subst this
  exact h2 (hget_hkeys e1)
 have hmeq:∀ k,k∈hkeys h'→mof vh2 μ2 k=mof h' g'.μ k:=by
  intro k hk
  obtain ⟨o,ho⟩:=hkeys_hget hk
  obtain ⟨e1,e2⟩:=get_new k o ho
  unfold mof;rw [e1,e2,ho]
 have hm:MLe (mm s.nx s.h g) (mm nx' vh2 g2):=by
  refine ⟨E1.m.1,fun k hk m' r' e=>?_⟩
  obtain ⟨o,h1,h2,h3⟩:=mof_some e
  cases h4:hget h' k with
  | some o'=>
   obtain ⟨e1,e2⟩:=get_new k o' h4
   rw [e1] at h1;cases h1
   have h2':μ2 k=some r':=h2
   rw [e2] at h2'
   obtain ⟨m,r0,a1,a2,a3⟩:=E1.m.2 k hk m' r' (by rw [mof_eq h4 h2',h3])
   obtain ⟨o0,b1,b2,b3⟩:=mof_some a1
   exact ⟨m,r0,by rw [mof_eq (hsub k o0 b1).1 b2,b3],a2,a3⟩
  | none=>
   obtain ⟨e1,e2⟩:=get_old k h4
   have h2':μ2 k=some r':=h2
   rw [e1] at h2'
   exact ⟨m',r',by rw [mof_eq (e2 o h1).1 h2',h3],Nat.le_refl _,fun _=>rfl⟩
 have E:Evo s.nx s.h d.nx d.h g nx' vh2 dnx' dh' g2:=⟨hm,E1.z,E1.o,E1.nx⟩
 have hxf:XR g2.Z dh' (mm nx' vh2 g2) r x:=XR.ext (Nat.le_refl _) (fun k hk=>hmeq k (hc1 k hk)) hxr
 refine ⟨⟨s.e,nx',s.w,vh2⟩,r,⟨d.e,dnx',dh'⟩,x,g2,⟨rfl,hrun⟩,⟨E.env R0.env,?_⟩,rfl,hxf,E,hK'⟩
 constructor
 ·intro k o hk
  cases h4:hget h' k with
  | some o'=>
   obtain ⟨e1,e2⟩:=get_new k o' h4
   rw [e1] at hk;cases hk
   obtain ⟨b1,r1,b2,B⟩:=R1.blk k o h4
   refine ⟨b1,r1,e2.trans b2,?_⟩
   have conv:∀ l',XRs g'.Z dh' (o.m (mm nx' h' g')) o.cells l'→XRs g2.Z dh' (o.m (mm nx' vh2 g2)) o.cells l':=by
    intro l' hl
    cases o with
    | row l=>exact hl
    | obj l=>exact XRs.ext (Nat.le_refl _) (fun k' hk'=>hmeq k' (hc2 k (.obj l) h4 k' hk')) hl
   rcases B with ⟨h1,h2⟩|⟨b,q,n,cp,sz,cells,h1,h2,h3,h5,h6,h7⟩|⟨b,q,cells,h1,h2,h3,h7⟩
   ·exact .inl ⟨h1,h2⟩
   ·exact .inr (.inl ⟨b,q,n,cp,sz,cells,h1,h2,h3,h5,h6,conv _ h7⟩)
   ·exact .inr (.inr ⟨b,q,cells,h1,h2,h3,conv _ h7⟩)
  | none=>
   obtain ⟨e1,e2⟩:=get_old k h4
   obtain ⟨h1,hn⟩:=e2 o hk
   obtain ⟨b1,r1,b2,B⟩:=R0.hp.blk k o h1
   refine ⟨Nat.lt_of_lt_of_le b1 E1.m.1,r1,e1.trans b2,B.mono E1.z E1.o hm fun b q hb=>?_⟩
   exact R1.keep b (R0.hp.lt h1 b2 hb) (rest_not k o r1 b q h1 hn b2 hb)
 ·intro k o r1 b q hk hr1 hb
  cases h4:hget h' k with
  | some o'=>
   obtain ⟨e1,e2⟩:=get_new k o' h4
   have hr1':μ2 k=some r1:=hr1
   rw [e2] at hr1'
   obtain ⟨a1,a2,a3⟩:=R1.own k o' r1 b q h4 hr1' hb
   refine ⟨a1,?_,fun _=>a3 (Nat.zero_le _)⟩
   rcases a2 with h|⟨k0,o0,r0,q0,h1,h2,h3⟩
   ·exact .inl (Nat.le_trans R0.hp.le h)
   ·exact (R0.hp.own k0 o0 r0 b q0 (hsub k0 o0 h1).1 h2 h3).2.1
  | none=>
   obtain ⟨e1,e2⟩:=get_old k h4
   obtain ⟨h1,hn⟩:=e2 o hk
   have hr1':μ2 k=some r1:=hr1
   rw [e1] at hr1'
   obtain ⟨a1,a2,a3⟩:=R0.hp.own k o r1 b q h1 hr1' hb
   refine ⟨fun hz=>?_,a2,a3⟩
   rcases R1.zold b hz with h|h|h
   ·exact a1 h
   ·have:=R0.hp.lt h1 hr1' hb;have h:d.nx.n≤b.n:=h;omega
   ·exact rest_not k o r1 b q h1 hn hr1' hb h
 ·intro k k' o o' r1 r2 b q1 q2 hk hk' hr1 hr2 hb hb'
  have hr1':μ2 k=some r1:=hr1
  have hr2':μ2 k'=some r2:=hr2
  have cross:∀ k k' o o' r1 r2 q1 q2,hget h' k=some o→hget h' k'=none→hget vh2 k'=some o'→μ2 k=some r1→μ2 k'=some r2→refAt r1=some (b,q1)→refAt r2=some (b,q2)→False:=by
   intro k k' o o' r1 r2 q1 q2 h4 h5 hk' hr1 hr2 hb hb'
   obtain ⟨_,e2⟩:=get_new k o h4
   rw [e2] at hr1
   obtain ⟨e3,e4⟩:=get_old k' h5
   obtain ⟨h1,hn⟩:=e4 o' hk'
   rw [e3] at hr2
   rcases (R1.own k o r1 b q1 h4 hr1 hb).2.1 with h|h
   ·have:=R0.hp.lt h1 hr2 hb';have h:d.nx.n≤b.n:=h;omega
   ·exact rest_not k' o' r2 b q2 h1 hn hr2 hb' h
  cases h4:hget h' k with
  | some o1=>
   cases h5:hget h' k' with
   | some o2=>
    rw [(get_new k o1 h4).2] at hr1'
    rw [(get_new k' o2 h5).2] at hr2'
    exact R1.inj k k' o1 o2 r1 r2 b q1 q2 h4 h5 hr1' hr2' hb hb'
   | none=>exact (cross k k' o1 o' r1 r2 q1 q2 h4 h5 hk' hr1' hr2' hb hb').elim
  | none=>
   cases h5:hget h' k' with
   | some o2=>exact (cross k' k o2 o r2 r1 q2 q1 h5 h4 hk hr2' hr1' hb' hb).elim
   | none=>
    obtain ⟨e1,e2⟩:=get_old k h4
    obtain ⟨e3,e4⟩:=get_old k' h5
    rw [e1] at hr1';rw [e3] at hr2'
    exact R0.hp.inj k k' o o' r1 r2 b q1 q2 (e2 o hk).1 (e4 o' hk').1 hr1' hr2' hb hb'
 ·exact R1.zlt
 ·intro b hb
  rcases R1.zold b hb with h|h|⟨k0,o0,r0,q0,h1,h2,h3⟩
  ·exact R0.hp.zold b h
  ·exact .inr (.inl (Nat.le_trans R0.hp.le h))
  ·exact .inr (R0.hp.own k0 o0 r0 b q0 (hsub k0 o0 h1).1 h2 h3).2.1
 ·exact R1.top
 ·intro b hb hn
  rw [R1.keep b (Nat.lt_of_lt_of_le hb R0.hp.le) ?_]
  ·exact R0.hp.keep b hb hn
  ·rintro ⟨k0,o0,r0,q0,h1,h2,h3⟩
   rcases (R0.hp.own k0 o0 r0 b q0 (hsub k0 o0 h1).1 h2 h3).2.1 with h|h
   ·omega
   ·exact hn h
 ·exact Nat.le_trans R0.hp.le E1.nx
 ·intro m hm';exact Nat.le_trans (R0.hp.wm m hm') E1.nx
 ·exact R0.hp.wf
end
noncomputable section
def kOs (F:Tr Fd) (l:List Op) (K:VSt→Prop):VSt→Prop:=fun s=>wOs F l s K
def kDs (F:Tr Fd) (l:List Dop) (K:VSt→Prop):VSt→Prop:=fun s=>wDs F l s K
def kPut (dst:Option P) (K:VSt→Prop):VSt→VV→Prop:=fun s v=>K (vput dst v s)
def kBack (b:List P) (e:VEnv) (w:Nat) (K:VSt→Prop):VSt→Prop:=fun s1=>K ⟨vback s1.e b e,s1.nx,w,s1.h⟩
def kSeq (F:Tr Fd) (b:C) (K:Out→VSt→Prop):Out→VSt→Prop:=fun o s'=>match o with | .norm=>wC F b s' K | .exit i=>K (.exit i) s' | .ret=>K .ret s'
def kBlk (id:Nat) (K:Out→VSt→Prop):Out→VSt→Prop:=fun o s'=>match o with | .norm=>K .norm s' | .exit i=>if i=id then K .norm s' else K (.exit i) s' | .ret=>K .ret s'
end
section
variable (F:Tr Fd) (s:VSt) (v:VV)
theorem eOs_n (K:VSt→Prop):wOs F [] s K=K s:=rfl
theorem eOs_c (o:Op) (l:List Op) (K:VSt→Prop):wOs F (o::l) s K=wO F o s (kOs F l K):=rfl
theorem eDs_n (K:VSt→Prop):wDs F [] s K=K s:=rfl
theorem eDs_c (o:Dop) (l:List Dop) (K:VSt→Prop):wDs F (o::l) s K=wD F o s (kDs F l K):=rfl
theorem ekOs (l:List Op) (K:VSt→Prop):kOs F l K s=wOs F l s K:=rfl
theorem ekDs (l:List Dop) (K:VSt→Prop):kDs F l K s=wDs F l s K:=rfl
theorem ekPut (dst:Option P) (K:VSt→Prop):kPut dst K s v=K (vput dst v s):=rfl
theorem ekBack (b:List P) (e:VEnv) (w:Nat) (K:VSt→Prop):kBack b e w K s=K ⟨vback s.e b e,s.nx,w,s.h⟩:=rfl
theorem ekSeq_n (b:C) (K:Out→VSt→Prop):kSeq F b K .norm s=wC F b s K:=rfl
theorem ekSeq_x (b:C) (i:Nat) (K:Out→VSt→Prop):kSeq F b K (.exit i) s=K (.exit i) s:=rfl
theorem ekSeq_r (b:C) (K:Out→VSt→Prop):kSeq F b K .ret s=K .ret s:=rfl
theorem ekBlk_n (id:Nat) (K:Out→VSt→Prop):kBlk id K .norm s=K .norm s:=rfl
theorem ekBlk_x (id i:Nat) (K:Out→VSt→Prop):kBlk id K (.exit i) s=if i=id then K .norm s else K (.exit i) s:=rfl
theorem ekBlk_r (id:Nat) (K:Out→VSt→Prop):kBlk id K .ret s=K .ret s:=rfl
theorem eO_mk (dst:Option P) (i:Ins) (K:VSt→Prop):wO F (.mk dst none i) s K=wI F i s (kPut dst K):=rfl
theorem eO_gd (dst:Option P) (p:P) (b:Bool) (i:Ins) (K:VSt→Prop):wO F (.mk dst (some (p,b)) i) s K=match vev (.t p) s.e with
 | some (.bool t)=>gSplit t b (wI F i ⟨Tr.set p s.e (some (.bool b)),s.nx,s.w,s.h⟩ (kPut dst K)) (K (vput dst (.tup []) ⟨Tr.set p s.e (some (.bool !b)),s.nx,s.w,s.h⟩))
 | some (.tup [])=>K (vput dst (.tup []) s)
 | _=>False:=rfl
theorem eO_loc (p:P) (z:List DV) (K:VSt→Prop):wO F (.loc p z) s K=match ofDVs z with
 | some l=>isVarV p s.e=false∧K ⟨Tr.set p s.e (some (.var l)),s.nx,s.w,s.h⟩
 | none=>False:=rfl
theorem eO_locb (p:P) (a:Opd) (K:VSt→Prop):wO F (.locb p a) s K=match vov a s.e with
 | some v=>(match vcells v with|some l=>isVarV p s.e=false∧K ⟨Tr.set p s.e (some (.var l)),s.nx,s.w,s.h⟩|none=>False)
 | none=>False:=rfl
theorem eD_mk (c:Bool) (u b:List P) (r:Bool) (dst:Option P) (i:Ins) (K:VSt→Prop):wD F (.mk c u b r (.mk dst none i)) s K=wO F (.mk dst none i) ⟨vuse c s.e u .nl,s.nx,wOf r s.nx s.w,s.h⟩ (kBack b s.e s.w K):=rfl
theorem eD_loc (c:Bool) (u b:List P) (r:Bool) (p:P) (z:List DV) (K:VSt→Prop):wD F (.mk c u b r (.loc p z)) s K=wO F (.loc p z) ⟨vuse c s.e u .nl,s.nx,wOf r s.nx s.w,s.h⟩ (kBack b s.e s.w K):=rfl
theorem eD_locb (c:Bool) (u b:List P) (r:Bool) (p:P) (a:Opd) (K:VSt→Prop):wD F (.mk c u b r (.locb p a)) s K=wO F (.locb p a) ⟨vuse c s.e u .nl,s.nx,wOf r s.nx s.w,s.h⟩ (kBack b s.e s.w K):=rfl
theorem eD_gd (c:Bool) (u b:List P) (r:Bool) (dst:Option P) (p:P) (g:Bool) (i:Ins) (K:VSt→Prop):wD F (.mk c u b r (.mk dst (some (p,g)) i)) s K=match vev (.t p) s.e with
 | some (.bool t)=>gSplit t g (wDr F (.mk c u b r (.mk dst (some (p,g)) i)) ⟨Tr.set p s.e (some (.bool g)),s.nx,s.w,s.h⟩ K) (wDr F (.mk c u b r (.mk dst (some (p,g)) i)) ⟨Tr.set p s.e (some (.bool !g)),s.nx,s.w,s.h⟩ K)
 | _=>wDr F (.mk c u b r (.mk dst (some (p,g)) i)) s K:=rfl
theorem eDr (c:Bool) (u b:List P) (r:Bool) (o:Op) (K:VSt→Prop):wDr F (.mk c u b r o) s K=wO F o ⟨vuse c s.e u .nl,s.nx,wOf r s.nx s.w,s.h⟩ (kBack b s.e s.w K):=rfl
theorem eC_skip (K:Out→VSt→Prop):wC F .skip s K=K .norm s:=rfl
theorem eC_reg (l:List Op) (K:Out→VSt→Prop):wC F (.reg l) s K=wOs F l s (K .norm):=rfl
theorem eC_drw (l:List Dop) (K:Out→VSt→Prop):wC F (.drw l) s K=wDs F l s (K .norm):=rfl
theorem eC_seq (a b:C) (K:Out→VSt→Prop):wC F (.seq a b) s K=wC F a s (kSeq F b K):=rfl
theorem eC_cond (c:Opd) (a b:C) (K:Out→VSt→Prop):wC F (.cond c a b) s K=match vev c s.e with|some (.bool t)=>gSplit t true (wC F a s K) (wC F b s K)|_=>False:=rfl
theorem eC_block (id:Nat) (a:C) (K:Out→VSt→Prop):wC F (.block id a) s K=wC F a s (kBlk id K):=rfl
theorem eC_loop (lv:List P) (a:C) (K:Out→VSt→Prop):wC F (.loop lv a) s K=wLoop F lv a s K:=rfl
theorem eC_exit (id:Nat) (K:Out→VSt→Prop):wC F (.exit id) s K=K (.exit id) s:=rfl
theorem eC_ret (K:Out→VSt→Prop):wC F .ret s K=K .ret s:=rfl
theorem eRet_n (rs:List Rs) (r:VV):retV rs r .norm s=match vres rs s with|some r'=>vw s.h r'=some r|none=>False:=rfl
theorem eRet_r (rs:List Rs) (r:VV):retV rs r .ret s=match vres rs s with|some r'=>vw s.h r'=some r|none=>False:=rfl
end
theorem gTT (A B:Prop):gSplit true true A B=A:=propext ⟨fun h=>h.1 rfl,fun h=>⟨fun _=>h,fun h'=>by cases h'⟩⟩
theorem gFF (A B:Prop):gSplit false false A B=A:=propext ⟨fun h=>h.1 rfl,fun h=>⟨fun _=>h,fun h'=>by cases h'⟩⟩
theorem gTF (A B:Prop):gSplit true false A B=B:=propext ⟨fun h=>h.2 rfl,fun h=>⟨fun h'=>(by cases h'),fun _=>h⟩⟩
theorem gFT (A B:Prop):gSplit false true A B=B:=propext ⟨fun h=>h.2 rfl,fun h=>⟨fun h'=>(by cases h'),fun _=>h⟩⟩
theorem gs_t {t:Bool} {A B:Prop} (h1:t=true→A) (h2:t=false→B):gSplit t true A B:=⟨h1,h2⟩
theorem gs_f {t:Bool} {A B:Prop} (h1:t=false→A) (h2:t=true→B):gSplit t false A B:=⟨h1,h2⟩
def kLp (J:Nat→VSt→Prop) (n:Nat) (K:Out→VSt→Prop):Out→VSt→Prop:=fun o s'=>match o with | .norm=>∃ m,m<n∧J m s' | .exit i=>K (.exit i) s' | .ret=>K .ret s'
section
variable (J:Nat→VSt→Prop) (n:Nat) (K:Out→VSt→Prop) (s:VSt)
theorem ekLp_n:kLp J n K .norm s=∃ m,m<n∧J m s:=rfl
theorem ekLp_x (i:Nat):kLp J n K (.exit i) s=K (.exit i) s:=rfl
theorem ekLp_r:kLp J n K .ret s=K .ret s:=rfl
end
theorem wLoop_by {F:Tr Fd} {lv:List P} {a:C} {s:VSt} {K:Out→VSt→Prop} (J:Nat→VSt→Prop) (n:Nat) (h0:J n s)
 (hstep:∀ n s,J n s→wC F a ⟨vkeep s.e lv .nl,s.nx,s.w,s.h⟩ (kLp J n K)):wLoop F lv a s K:=wLoop_of J n h0 hstep
theorem drop_cons' {α:Type} {l:List α} {i:Nat} {x:α} (h:l[i]?=some x):l.drop i=x::l.drop (i+1):=by
 obtain ⟨hi,rfl⟩:=List.getElem?_eq_some_iff.1 h
 rw [List.drop_eq_getElem_cons hi]
mutual
def wk:VV→VV→Prop
 | .nils,.fz n c _ l=>n=0∧c=none∧l=[]
 | .agg l,.agg l'=>wkL l l'
 | .tup l,.tup l'=>wkL l l'
 | v,v'=>v=v'
def wkL:List VV→List VV→Prop
 | [],[]=>True
 | v::l,v'::l'=>wk v v'∧wkL l l'
 | _,_=>False
end
mutual
theorem wk_sound {Z:P→Prop} {h:Hp} {M:Option MM}:∀ {v v':VV} {d:DV},wk v v'→XR Z h M v d→XR Z h M v' d
 | .nils,v',d,e,x=>by
  cases v'<;>simp only [wk,reduceCtorEq] at e
  case fz n c sz l=>obtain ⟨rfl,rfl,rfl⟩:=e;cases x;exact .fz0 (.inl rfl)
  case nils=>exact x
 | .agg l,v',d,e,x=>by
  cases v'<;>simp only [wk,reduceCtorEq] at e
  cases x with|agg hl=>exact .agg (wkL_sound e hl)
 | .tup l,v',d,e,x=>by
  cases v'<;>simp only [wk,reduceCtorEq] at e
  cases x with|tup hl=>exact .tup (wkL_sound e hl)
 | .unk,v',d,e,x=>by simp only [wk] at e;exact e▸x
 | .bool _,v',d,e,x=>by simp only [wk] at e;exact e▸x
 | .int _ _,v',d,e,x=>by simp only [wk] at e;exact e▸x
 | .nilp,v',d,e,x=>by simp only [wk] at e;exact e▸x
 | .nilf,v',d,e,x=>by simp only [wk] at e;exact e▸x
 | .nili,v',d,e,x=>by simp only [wk] at e;exact e▸x
 | .nilm,v',d,e,x=>by simp only [wk] at e;exact e▸x
 | .fz _ _ _ _,v',d,e,x=>by simp only [wk] at e;exact e▸x
 | .fp _ _,v',d,e,x=>by simp only [wk] at e;exact e▸x
 | .ow _ _ _,v',d,e,x=>by simp only [wk] at e;exact e▸x
 | .pt _ _ _,v',d,e,x=>by simp only [wk] at e;exact e▸x
 | .os _ _ _ _ _,v',d,e,x=>by simp only [wk] at e;exact e▸x
 | .fn _ _,v',d,e,x=>by simp only [wk] at e;exact e▸x
 | .ifc _ _,v',d,e,x=>by simp only [wk] at e;exact e▸x
 | .var _,v',d,e,x=>by simp only [wk] at e;exact e▸x
 | .fld _ _,v',d,e,x=>by simp only [wk] at e;exact e▸x
theorem wkL_sound {Z:P→Prop} {h:Hp} {M:Option MM}:∀ {l l':List VV} {d:List DV},wkL l l'→XRs Z h M l d→XRs Z h M l' d
 | [],l',d,e,x=>by
  cases l'<;>simp only [wkL] at e
  exact x
 | v::l,l',d,e,x=>by
  cases l'<;>simp only [wkL] at e
  cases x with|cons hv hl=>exact .cons (wk_sound e.1 hv) (wkL_sound e.2 hl)
end
def retW (rs:List Rs) (r:VV) (o:Out) (s:VSt):Prop:=
 match o with
 | .exit _=>False
 | _=>match vres rs s with|some r'=>(match vw s.h r' with|some r0=>wk r0 r|none=>False)|none=>False
theorem eRetW_n (rs:List Rs) (r:VV) (s:VSt):retW rs r .norm s=match vres rs s with|some r'=>(match vw s.h r' with|some r0=>wk r0 r|none=>False)|none=>False:=rfl
theorem eRetW_r (rs:List Rs) (r:VV) (s:VSt):retW rs r .ret s=match vres rs s with|some r'=>(match vw s.h r' with|some r0=>wk r0 r|none=>False)|none=>False:=rfl
theorem FSem.weak {F:Tr Fd} {f:P} {args:List VV} {nx:Nat} {h:VHp} {R:VV→Nat→VHp→Prop} {r:VV} (H:FSem F f args nx h R) (hR:∀ r' n h',R r' n h'→∃ r0,vw h' r'=some r0∧wk r0 r):FSem F f args nx h fun r' _ _=>r'=r:=by
 intro c dnx dh g ds hc hH hx
 obtain ⟨r',nx',h',x,dnx',dh',g',a,b,cc,d,e⟩:=H c dnx dh g ds hc hH hx
 obtain ⟨r0,e1,e2⟩:=hR _ _ _ e
 obtain ⟨R1,E1⟩:=b.freeze (keysV r') (zOf h' g' (keysV r')) fun b=>Iff.rfl
 exact ⟨r,nx',_,x,dnx',dh',⟨zOf h' g' (keysV r'),g'.μ⟩,a,R1,(wk_sound e2 (vw_sound b cc e1 fun k h=>h)).none_any,d.trans E1,rfl⟩
theorem vpure_of_body' {F:Tr Fd} {f:P} {ps:List P} {body:C} {rs:List Rs} {args:List VV} {r:VV} {e:VEnv}
 (hf:Tr.get? f F=some (.mk ps body rs)) (he:vbinds ps args .nl=some e) (H:wC F body ⟨e,0,0,[]⟩ (retW rs r)):VPure F f args r:=by
 refine FSem.weak (fsem_of_body hf he (R:=fun r' _ h'=>∃ r0,vw h' r'=some r0∧wk r0 r) ?_) (fun _ _ _ h=>h)
 have:retK rs (fun r' _ h'=>∃ r0,vw h' r'=some r0∧wk r0 r)=retW rs r:=by
  funext o s
  have key:∀ x:Option VV,(match x with|some r'=>(∃ r0,vw s.h r'=some r0∧wk r0 r)|none=>False)=(match x with|some r'=>(match vw s.h r' with|some r0=>wk r0 r|none=>False)|none=>False):=by
   intro x
   cases x with
   | none=>rfl
   | some r'=>
    have k2:∀ y:Option VV,(∃ r0,y=some r0∧wk r0 r)=(match y with|some r0=>wk r0 r|none=>False):=by
     intro y
     cases y with
     | none=>exact propext ⟨fun ⟨r0,h1,_⟩=>(by cases h1),fun h=>h.elim⟩
     | some r0=>exact propext ⟨fun ⟨r1,h1,h2⟩=>by cases h1;exact h2,fun h2=>⟨r0,rfl,h2⟩⟩
    exact k2 (vw s.h r')
  cases o with
  | norm=>exact key _
  | exit i=>rfl
  | ret=>exact key _
 rw [this];exact H
def subH (h' h:VHp):Prop:=∀ k o,hget h' k=some o→hget h k=some o
theorem subH_refl (h:VHp):subH h h:=fun _ _ e=>e
theorem subH_tail {h:VHp} {k:Nat} {o:VOb} (hk:hget h k=none):subH h ((k,o)::h):=by
 intro i x e
 simp only [hget]
 by_cases hi:i=k
 ·subst hi;rw [hk] at e;cases e
 ·rw [if_neg hi];exact e
theorem subH_trans {a b c:VHp} (h1:subH a b) (h2:subH b c):subH a c:=fun k o e=>h2 k o (h1 k o e)
theorem RS.sub {c:Ctx} {s:VSt} {d:DS} {g:Gh} (R:RS c s d g) {h':VHp} (hs:subH h' s.h):RS c ⟨s.e,s.nx,s.w,h'⟩ d g∧EvoS s d g ⟨s.e,s.nx,s.w,h'⟩ d g:=by
 obtain ⟨R1,E1⟩:=R.hp.sub hs
 exact ⟨⟨E1.env R.env,R1⟩,E1⟩
theorem CSem.drop {F:Tr Fd} {cd:C} {s:VSt} {K:Out→VSt→Prop} {h':VHp} (hs:subH h' s.h) (H:CSem F cd ⟨s.e,s.nx,s.w,h'⟩ K):CSem F cd s K:=by
 intro c d g hc R
 obtain ⟨R1,E1⟩:=R.sub hs
 obtain ⟨o,s',d',g',hr,R',hw,E,hK⟩:=H c d g hc R1
 exact ⟨o,s',d',g',hr,R',hw,E1.trans E,hK⟩
theorem CSem.own {F:Tr Fd} {cd:C} {s:VSt} {K:Out→VSt→Prop} (p:P) (sz:Nat) (hp:Tr.get? p s.e=some .nils) (H:CSem F cd ⟨Tr.set p s.e (some (.ow s.nx 0 sz)),s.nx+1,s.w,(s.nx,.row [])::s.h⟩ K):CSem F cd s K:=by
 intro c d g hc R
 obtain ⟨R1,E1⟩:=R.hp.addNil
 have hE:=E1.env R.env
 obtain ⟨y,hy,hx⟩:=R.env.get hp
 have hy':=hx.nils_inv
 subst hy'
 have R2:RS c ⟨Tr.set p s.e (some (.ow s.nx 0 sz)),s.nx+1,s.w,(s.nx,.row [])::s.h⟩ d ⟨g.Z,upd g.μ s.nx .nils⟩:=by
  refine ⟨fun q=>?_,R1⟩
  show match Tr.get? q (Tr.set p s.e (some (.ow s.nx 0 sz))),Tr.get? q d.e with|none,none=>True|some v,some x=>XR g.Z d.h (mm (s.nx+1) ((s.nx,.row [])::s.h) ⟨g.Z,upd g.μ s.nx .nils⟩) v x|_,_=>False
  rw [Tr.get_set]
  by_cases hq:q=p
  ·subst hq;rw [if_pos rfl,hy];exact xr_ow_new (by simp) (.inl ⟨rfl,rfl⟩)
  ·rw [if_neg hq];exact hE q
 obtain ⟨o,s',d',g',hr,R',hw,E,hK⟩:=H c d _ hc R2
 exact ⟨o,s',d',g',hr,R',hw,E1.trans E,hK⟩
theorem wLoop_own {F:Tr Fd} {lv:List P} {a:C} {s:VSt} {K:Out→VSt→Prop} (p:P) (sz:Nat) (hp:Tr.get? p s.e=some .nils) (H:wLoop F lv a ⟨Tr.set p s.e (some (.ow s.nx 0 sz)),s.nx+1,s.w,(s.nx,.row [])::s.h⟩ K):wLoop F lv a s K:=CSem.own p sz hp H
theorem CSem.ownV {F:Tr Fd} {cd:C} {s:VSt} {K:Out→VSt→Prop} (p:P) (i sz:Nat) {l:List VV} (hp:Tr.get? p s.e=some (.var l)) (hi:l[i]?=some .nils)
 (H:CSem F cd ⟨Tr.set p s.e (some (.var (l.take i++.ow s.nx 0 sz::l.drop (i+1)))),s.nx+1,s.w,(s.nx,.row [])::s.h⟩ K):CSem F cd s K:=by
 intro c d g hc R
 obtain ⟨R1,E1⟩:=R.hp.addNil
 have hE:=E1.env R.env
 obtain ⟨y,hy,hx⟩:=R.env.get hp
 obtain ⟨l',rfl,hl⟩:=hx.var_inv
 obtain ⟨d0,hd0,hd1⟩:=hl.get i _ hi
 have hd2:=hd1.nils_inv
 subst hd2
 have R2:RS c ⟨Tr.set p s.e (some (.var (l.take i++.ow s.nx 0 sz::l.drop (i+1)))),s.nx+1,s.w,(s.nx,.row [])::s.h⟩ d ⟨g.Z,upd g.μ s.nx .nils⟩:=by
  refine ⟨fun q=>?_,R1⟩
  show match Tr.get? q (Tr.set p s.e (some (.var (l.take i++.ow s.nx 0 sz::l.drop (i+1))))),Tr.get? q d.e with|none,none=>True|some v,some x=>XR g.Z d.h (mm (s.nx+1) ((s.nx,.row [])::s.h) ⟨g.Z,upd g.μ s.nx .nils⟩) v x|_,_=>False
  rw [Tr.get_set]
  by_cases hq:q=p
  ·subst hq;rw [if_pos rfl,hy]
   have hl2:XRs g.Z d.h (mm (s.nx+1) ((s.nx,.row [])::s.h) ⟨g.Z,upd g.μ s.nx .nils⟩) l l':=E1.xrs hl
   have e:l'=l'.take i++.nils::l'.drop (i+1):=by
    rw [←drop_cons' hd0,List.take_append_drop]
   show XR _ _ _ (.var _) (.var l')
   rw [e]
   exact .var ((hl2.take i).append (.cons (xr_ow_new (by simp) (.inl ⟨rfl,rfl⟩)) (hl2.drop _)))
  ·rw [if_neg hq];exact hE q
 obtain ⟨o,s',d',g',hr,R',hw,E,hK⟩:=H c d _ hc R2
 exact ⟨o,s',d',g',hr,R',hw,E1.trans E,hK⟩
theorem wLoop_ownV {F:Tr Fd} {lv:List P} {a:C} {s:VSt} {K:Out→VSt→Prop} (p:P) (i sz:Nat) {l:List VV} (hp:Tr.get? p s.e=some (.var l)) (hi:l[i]?=some .nils)
 (H:wLoop F lv a ⟨Tr.set p s.e (some (.var (l.take i++.ow s.nx 0 sz::l.drop (i+1)))),s.nx+1,s.w,(s.nx,.row [])::s.h⟩ K):wLoop F lv a s K:=CSem.ownV p i sz hp hi H
def kLd (J:Nat→VSt→Prop) (n:Nat) (K:Out→VSt→Prop):Out→VSt→Prop:=fun o s'=>match o with | .norm=>∃ m,m<n∧∃ h',subH h' s'.h∧J m ⟨s'.e,s'.nx,s'.w,h'⟩ | .exit i=>K (.exit i) s' | .ret=>K .ret s'
section
variable (J:Nat→VSt→Prop) (n:Nat) (K:Out→VSt→Prop) (s:VSt)
theorem ekLd_n:kLd J n K .norm s=∃ m,m<n∧∃ h',subH h' s.h∧J m ⟨s.e,s.nx,s.w,h'⟩:=rfl
theorem ekLd_x (i:Nat):kLd J n K (.exit i) s=K (.exit i) s:=rfl
theorem ekLd_r:kLd J n K .ret s=K .ret s:=rfl
end
theorem wLoop_dr {F:Tr Fd} {lv:List P} {a:C} {s:VSt} {K:Out→VSt→Prop} (J:Nat→VSt→Prop) (n:Nat) (h0:J n s)
 (hstep:∀ n s,J n s→wC F a ⟨vkeep s.e lv .nl,s.nx,s.w,s.h⟩ (kLd J n K)):wLoop F lv a s K:=by
 induction n using Nat.strongRecOn generalizing s with
 | _ n ih=>
  intro c d g hc R
  have R0:RS c ⟨vkeep s.e lv .nl,s.nx,s.w,s.h⟩ ⟨keep d.e lv .nl,d.nx,d.h⟩ g:=⟨vkeep_sound R.env lv EnvR.nl,R.hp⟩
  obtain ⟨o1,s1,d1,g1,⟨f1,r1⟩,R1,hw1,E1,H1⟩:=wC_sound (hstep n s h0) c _ g hc R0
  have run:∀ m,f1≤m→step (.loop lv a) F (exec F m) c.wm d.e d.nx d.h=lpO (.loop lv a) F (exec F m) c.wm o1 d1.e d1.nx d1.h:=by
   intro m hm
   show keepK lv d.e .nl (fun e=>Res.rec (motive:=fun _=>Res) .fail (lpO (.loop lv a) F (exec F m) c.wm) (step a F (exec F m) c.wm e d.nx d.h))=_
   rw [keepK_eq,r1 m hm]
  cases o1 with
  | norm=>
   obtain ⟨m,hm,h',hs,hJ⟩:=H1
   obtain ⟨R1',E1'⟩:=R1.sub hs
   obtain ⟨o2,s2,d2,g2,⟨f2,r2⟩,R2,hw2,E2,H2⟩:=ih m hm hJ c d1 g1 hc R1'
   refine ⟨o2,s2,d2,g2,⟨max f1 (f2+1),fun n hn=>?_⟩,R2,hw2.trans hw1,(E1.trans E1').trans E2,H2⟩
   rw [run n (by omega)]
   obtain ⟨n',rfl⟩:∃ n',n=n'+1:=⟨n-1,by omega⟩
   exact r2 n' (by omega)
  | exit i=>exact ⟨.exit i,s1,d1,g1,⟨f1,fun n hn=>by rw [run n hn];rfl⟩,R1,hw1,E1,H1⟩
  | ret=>exact ⟨.ret,s1,d1,g1,⟨f1,fun n hn=>by rw [run n hn];rfl⟩,R1,hw1,E1,H1⟩
theorem Tr.set_z_e {α:Type} (x:Option α):Tr.set .z .nl x=.nd x .nl .nl:=rfl
theorem Tr.set_z_n {α:Type} (v:Option α) (l r:Tr α) (x:Option α):Tr.set .z (.nd v l r) x=.nd x l r:=rfl
structure Mono where
 v:Int
 k:Int
structure Term where
 c:Int
 l:List Mono
structure Cons where
 t:Term
 eq:Bool
def encM:List Mono→List VV
 | []=>[]
 | m::l=>.int .i64 m.v::.int .i64 m.k::encM l
def vMs (l:List Mono):VV:=.fz l.length none 2 (encM l)
def cT (t:Term):List VV:=[.int .i64 t.c,vMs t.l]
def vT (t:Term):VV:=.agg (cT t)
def cC (x:Cons):List VV:=[.int .i64 x.t.c,vMs x.t.l,.bool x.eq]
def vC (x:Cons):VV:=.agg (cC x)
def encC:List Cons→List VV
 | []=>[]
 | x::l=>.int .i64 x.t.c::vMs x.t.l::.bool x.eq::encC l
def vCs (l:List Cons):VV:=.fz l.length none 3 (encC l)
def encI:List Int→List VV
 | []=>[]
 | x::l=>.int .i64 x::encI l
def vIs (l:List Int):VV:=.fz l.length none 1 (encI l)
theorem encM_len (l:List Mono):(encM l).length=l.length*2:=by
 induction l with
 | nil=>rfl
 | cons m l ih=>simp only [encM,List.length_cons,ih];omega
theorem encC_len (l:List Cons):(encC l).length=l.length*3:=by
 induction l with
 | nil=>rfl
 | cons m l ih=>simp only [encC,List.length_cons,ih];omega
theorem encI_len (l:List Int):(encI l).length=l.length:=by
 induction l with
 | nil=>rfl
 | cons m l ih=>simp only [encI,List.length_cons,ih]
theorem encM_app (l m:List Mono):encM (l++m)=encM l++encM m:=by
 induction l with
 | nil=>rfl
 | cons x l ih=>simp only [encM,List.cons_append,ih]
theorem encC_app (l m:List Cons):encC (l++m)=encC l++encC m:=by
 induction l with
 | nil=>rfl
 | cons x l ih=>simp only [encC,List.cons_append,ih]
theorem encI_app (l m:List Int):encI (l++m)=encI l++encI m:=by
 induction l with
 | nil=>rfl
 | cons x l ih=>simp only [encI,List.cons_append,ih]
theorem encM_drop (l:List Mono):∀ i:Nat,(encM l).drop (i*2)=encM (l.drop i):=by
 induction l with
 | nil=>intro i;simp [encM]
 | cons x l ih=>intro i;cases i with
  | zero=>simp
  | succ i=>rw [show (i+1)*2=i*2+1+1 by omega];simp only [encM,List.drop_succ_cons,ih]
theorem encC_drop (l:List Cons):∀ i:Nat,(encC l).drop (i*3)=encC (l.drop i):=by
 induction l with
 | nil=>intro i;simp [encC]
 | cons x l ih=>intro i;cases i with
  | zero=>simp
  | succ i=>rw [show (i+1)*3=i*3+1+1+1 by omega];simp only [encC,List.drop_succ_cons,ih]
theorem encI_drop (l:List Int):∀ i:Nat,(encI l).drop i=encI (l.drop i):=by
 induction l with
 | nil=>intro i;simp [encI]
 | cons x l ih=>intro i;cases i with
  | zero=>simp
  | succ i=>simp only [encI,List.drop_succ_cons,ih]
theorem encM_take (l:List Mono):∀ i:Nat,(encM l).take (i*2)=encM (l.take i):=by
 induction l with
 | nil=>intro i;simp [encM]
 | cons x l ih=>intro i;cases i with
  | zero=>simp [encM]
  | succ i=>rw [show (i+1)*2=i*2+1+1 by omega];simp only [encM,List.take_succ_cons,ih]
theorem encC_take (l:List Cons):∀ i:Nat,(encC l).take (i*3)=encC (l.take i):=by
 induction l with
 | nil=>intro i;simp [encC]
 | cons x l ih=>intro i;cases i with
  | zero=>simp [encC]
  | succ i=>rw [show (i+1)*3=i*3+1+1+1 by omega];simp only [encC,List.take_succ_cons,ih]
theorem encI_take (l:List Int):∀ i:Nat,(encI l).take i=encI (l.take i):=by
 induction l with
 | nil=>intro i;simp [encI]
 | cons x l ih=>intro i;cases i with
  | zero=>simp [encI]
  | succ i=>simp only [encI,List.take_succ_cons,ih]
theorem drop_cons {α:Type} {l:List α} {i:Nat} {x:α} (h:l[i]?=some x):l.drop i=x::l.drop (i+1):=by
 obtain ⟨hi,rfl⟩:=List.getElem?_eq_some_iff.1 h
 rw [List.drop_eq_getElem_cons hi]
theorem encM_cut {l:List Mono} {i:Nat} {m:Mono} (h:l[i]?=some m):((encM l).drop (i*2)).take 2=[.int .i64 m.v,.int .i64 m.k]:=by
 rw [encM_drop,drop_cons h];rfl
theorem encC_cut {l:List Cons} {i:Nat} {x:Cons} (h:l[i]?=some x):((encC l).drop (i*3)).take 3=cC x:=by
 rw [encC_drop,drop_cons h];rfl
theorem get_of_drop {α:Type} {l m:List α} {i j:Nat} (h:l.drop i=m):l[i+j]?=m[j]?:=by rw [←h,List.getElem?_drop]
theorem encM_g0 {l:List Mono} {i:Nat} {m:Mono} (h:l[i]?=some m):(encM l)[i*2]?=some (.int .i64 m.v):=by
 have:=get_of_drop (j:=0) (encM_drop l i);rw [drop_cons h] at this;exact this
theorem encM_g1 {l:List Mono} {i:Nat} {m:Mono} (h:l[i]?=some m):(encM l)[i*2+1]?=some (.int .i64 m.k):=by
 have:=get_of_drop (j:=1) (encM_drop l i);rw [drop_cons h] at this;exact this
theorem encC_g0 {l:List Cons} {i:Nat} {m:Cons} (h:l[i]?=some m):(encC l)[i*3]?=some (.int .i64 m.t.c):=by
 have:=get_of_drop (j:=0) (encC_drop l i);rw [drop_cons h] at this;exact this
theorem encC_g1 {l:List Cons} {i:Nat} {m:Cons} (h:l[i]?=some m):(encC l)[i*3+1]?=some (vMs m.t.l):=by
 have:=get_of_drop (j:=1) (encC_drop l i);rw [drop_cons h] at this;exact this
theorem encC_g2 {l:List Cons} {i:Nat} {m:Cons} (h:l[i]?=some m):(encC l)[i*3+2]?=some (.bool m.eq):=by
 have:=get_of_drop (j:=2) (encC_drop l i);rw [drop_cons h] at this;exact this
theorem encI_g {l:List Int} {i:Nat} {m:Int} (h:l[i]?=some m):(encI l)[i]?=some (.int .i64 m):=by
 have:=get_of_drop (j:=0) (encI_drop l i);rw [drop_cons h] at this;exact this
theorem i64 {z:Int} (h:-9223372036854775808≤z∧z<9223372036854775808):IntKind.i64.wrap z=z:=wrap_of_fits (by
 cases z with
 | ofNat a=>show Nat.ble a 9223372036854775807=true;rw [Nat.ble_eq];simp only [Int.ofNat_eq_natCast] at h;omega
 | negSucc a=>show Nat.ble a 9223372036854775807=true;rw [Nat.ble_eq];simp only [Int.negSucc_eq] at h;omega)
theorem inc64 {i n:Nat} (h:i<n) (hn:n≤4611686018427387904):IntKind.i64.wrap ((i:Int)+1)=((i+1:Nat):Int):=by rw [i64 (by omega)];omega
theorem sub64 {i n:Nat} (h:i+1<n) (hn:n≤4611686018427387904):IntKind.i64.wrap (((i+1:Nat):Int)-1)=(i:Int):=by rw [i64 (by omega)];omega
theorem ltT {i n:Nat} (h:i<n):decide ((i:Int)<(n:Int))=true:=by simpa using h
theorem ltF {i n:Nat} (h:n≤i):decide ((i:Int)<(n:Int))=false:=by simpa using h
theorem has {α:Type} {l:List α} {i:Nat} (h:i<l.length):∃ m,l[i]?=some m:=⟨_,List.getElem?_eq_getElem h⟩
theorem take_snoc {α:Type} {l:List α} {i:Nat} {x:α} (h:l[i]?=some x):l.take (i+1)=l.take i++[x]:=by
 rw [List.take_add_one,h];rfl
theorem wCall_frz {F:Tr Fd} {f:P} {args args':List VV} {s:VSt} {K:VSt→VV→Prop} (p:P) {v v':VV} (hp:Tr.get? p s.e=some v) (hv:vw s.h v=some v') (ha:vwL s.h args=some args')
 (H:wCall F f args' ⟨Tr.set p s.e (some v'),s.nx,s.w,hdels s.h (keysV v++keysL args)⟩ K):wCall F f args s K:=by
 intro c d g ds R hx
 obtain ⟨R1,E1⟩:=R.hp.freeze (keysV v++keysL args) (zOf s.h g (keysV v++keysL args)) fun b=>Iff.rfl
 have hx1:=vwL_sound R.hp hx ha (ks:=keysV v++keysL args) fun k h=>List.mem_append_right _ h
 obtain ⟨y,hy,hxy⟩:=R.env.get hp
 have hy1:=vw_sound R.hp hxy hv (ks:=keysV v++keysL args) fun k h=>List.mem_append_left _ h
 have hE:=E1.env R.env
 have R2:RS c ⟨Tr.set p s.e (some v'),s.nx,s.w,hdels s.h (keysV v++keysL args)⟩ d ⟨zOf s.h g (keysV v++keysL args),g.μ⟩:=by
  refine ⟨fun q=>?_,R1⟩
  show match Tr.get? q (Tr.set p s.e (some v')),Tr.get? q d.e with|none,none=>True|some u,some x=>XR (zOf s.h g (keysV v++keysL args)) d.h (mm s.nx (hdels s.h (keysV v++keysL args)) ⟨zOf s.h g (keysV v++keysL args),g.μ⟩) u x|_,_=>False
  rw [Tr.get_set]
  by_cases hq:q=p
  ·subst hq;rw [if_pos rfl,hy];exact hy1.none_any
  ·rw [if_neg hq];exact hE q
 obtain ⟨s',v0,d',x,g',hrun,R',hw,hxr,E,hK⟩:=H c d _ ds R2 hx1.none_any
 exact ⟨s',v0,d',x,g',hrun,R',hw,hxr,E1.trans E,hK⟩
theorem wCall_wk {F:Tr Fd} {f:P} {args args':List VV} {s:VSt} {K:VSt→VV→Prop} (hw:wkL args args') (H:wCall F f args' s K):wCall F f args s K:=by
 intro c d g ds R hx
 exact H c d g ds R (wkL_sound hw hx)
def Slots (e:VEnv):List (P × VV)→Prop
 | []=>True
 | (p,v)::t=>Tr.get? p e=some v∧Slots e t
def At (s:VSt) (l:List (P × VV)) (nx w:Nat) (h:VHp):Prop:=Slots s.e l∧s.nx=nx∧s.w=w∧s.h=h
abbrev mI (d:P) (i:Ins):Op:=.mk (some d) none i
abbrev mX (d:P) (a:Opd):Op:=.mk (some d) none (.mv a)
abbrev mG (d g:P) (b:Bool) (i:Ins):Op:=.mk (some d) (some (g,b)) i
abbrev dI (r:List P) (d:P) (i:Ins):Dop:=.mk true r [d] true (mI d i)
abbrev dG (r:List P) (d g:P) (b:Bool) (i:Ins):Dop:=.mk true r [d] true (mG d g b i)
abbrev nZ:DV:=.int .i64 (.ofNat 0)
abbrev kZ0:Opd:=.c nZ
abbrev kZ1:Opd:=.c (.int .i64 (.ofNat 1))
abbrev kZ2:Opd:=.c (.int .i64 (.ofNat 2))
abbrev kZ3:Opd:=.c (.int .i64 (.ofNat 3))
abbrev kF:Opd:=.c (.bool false)
abbrev kT:Opd:=.c (.bool true)
abbrev kN:Opd:=.c .nils
abbrev zC:List DV:=[nZ,.nils,.bool false]
abbrev zT:List DV:=[nZ,.nils]
abbrev zM:List DV:=[nZ,nZ]
abbrev p0:P:=.z
abbrev t0:Opd:=.t p0
abbrev p1:P:=(.l .z)
abbrev t1:Opd:=.t p1
abbrev p2:P:=(.r .z)
abbrev t2:Opd:=.t p2
abbrev p3:P:=(.l (.l .z))
abbrev t3:Opd:=.t p3
abbrev p4:P:=(.r (.l .z))
abbrev t4:Opd:=.t p4
abbrev p5:P:=(.l (.r .z))
abbrev t5:Opd:=.t p5
abbrev p6:P:=(.r (.r .z))
abbrev t6:Opd:=.t p6
abbrev p7:P:=(.l (.l (.l .z)))
abbrev t7:Opd:=.t p7
abbrev p8:P:=(.r (.l (.l .z)))
abbrev t8:Opd:=.t p8
abbrev p9:P:=(.l (.r (.l .z)))
abbrev t9:Opd:=.t p9
abbrev p10:P:=(.r (.r (.l .z)))
abbrev t10:Opd:=.t p10
abbrev p11:P:=(.l (.l (.r .z)))
abbrev t11:Opd:=.t p11
abbrev p12:P:=(.r (.l (.r .z)))
abbrev t12:Opd:=.t p12
abbrev p13:P:=(.l (.r (.r .z)))
abbrev t13:Opd:=.t p13
abbrev p14:P:=(.r (.r (.r .z)))
abbrev t14:Opd:=.t p14
abbrev p15:P:=(.l (.l (.l (.l .z))))
abbrev t15:Opd:=.t p15
abbrev p16:P:=(.r (.l (.l (.l .z))))
abbrev t16:Opd:=.t p16
abbrev p17:P:=(.l (.r (.l (.l .z))))
abbrev t17:Opd:=.t p17
abbrev p18:P:=(.r (.r (.l (.l .z))))
abbrev t18:Opd:=.t p18
abbrev p19:P:=(.l (.l (.r (.l .z))))
abbrev t19:Opd:=.t p19
abbrev p20:P:=(.r (.l (.r (.l .z))))
abbrev t20:Opd:=.t p20
abbrev p21:P:=(.l (.r (.r (.l .z))))
abbrev t21:Opd:=.t p21
abbrev p22:P:=(.r (.r (.r (.l .z))))
abbrev t22:Opd:=.t p22
abbrev p23:P:=(.l (.l (.l (.r .z))))
abbrev t23:Opd:=.t p23
abbrev p24:P:=(.r (.l (.l (.r .z))))
abbrev t24:Opd:=.t p24
abbrev p25:P:=(.l (.r (.l (.r .z))))
abbrev t25:Opd:=.t p25
abbrev p26:P:=(.r (.r (.l (.r .z))))
abbrev t26:Opd:=.t p26
abbrev p27:P:=(.l (.l (.r (.r .z))))
abbrev t27:Opd:=.t p27
abbrev p28:P:=(.r (.l (.r (.r .z))))
abbrev t28:Opd:=.t p28
abbrev p29:P:=(.l (.r (.r (.r .z))))
abbrev t29:Opd:=.t p29
abbrev p30:P:=(.r (.r (.r (.r .z))))
abbrev t30:Opd:=.t p30
abbrev p31:P:=(.l (.l (.l (.l (.l .z)))))
abbrev t31:Opd:=.t p31
abbrev p32:P:=(.r (.l (.l (.l (.l .z)))))
abbrev t32:Opd:=.t p32
abbrev p33:P:=(.l (.r (.l (.l (.l .z)))))
abbrev t33:Opd:=.t p33
abbrev p34:P:=(.r (.r (.l (.l (.l .z)))))
abbrev t34:Opd:=.t p34
abbrev p35:P:=(.l (.l (.r (.l (.l .z)))))
abbrev t35:Opd:=.t p35
abbrev p36:P:=(.r (.l (.r (.l (.l .z)))))
abbrev t36:Opd:=.t p36
abbrev p37:P:=(.l (.r (.r (.l (.l .z)))))
abbrev t37:Opd:=.t p37
abbrev p38:P:=(.r (.r (.r (.l (.l .z)))))
abbrev t38:Opd:=.t p38
abbrev p39:P:=(.l (.l (.l (.r (.l .z)))))
abbrev t39:Opd:=.t p39
abbrev p40:P:=(.r (.l (.l (.r (.l .z)))))
abbrev t40:Opd:=.t p40
abbrev p41:P:=(.l (.r (.l (.r (.l .z)))))
abbrev t41:Opd:=.t p41
abbrev p42:P:=(.r (.r (.l (.r (.l .z)))))
abbrev t42:Opd:=.t p42
abbrev p43:P:=(.l (.l (.r (.r (.l .z)))))
abbrev t43:Opd:=.t p43
abbrev p44:P:=(.r (.l (.r (.r (.l .z)))))
abbrev t44:Opd:=.t p44
abbrev p45:P:=(.l (.r (.r (.r (.l .z)))))
abbrev t45:Opd:=.t p45
abbrev p46:P:=(.r (.r (.r (.r (.l .z)))))
abbrev t46:Opd:=.t p46
abbrev p47:P:=(.l (.l (.l (.l (.r .z)))))
abbrev t47:Opd:=.t p47
abbrev p48:P:=(.r (.l (.l (.l (.r .z)))))
abbrev t48:Opd:=.t p48
abbrev p49:P:=(.l (.r (.l (.l (.r .z)))))
abbrev t49:Opd:=.t p49
abbrev p50:P:=(.r (.r (.l (.l (.r .z)))))
abbrev t50:Opd:=.t p50
abbrev p51:P:=(.l (.l (.r (.l (.r .z)))))
abbrev t51:Opd:=.t p51
abbrev p52:P:=(.r (.l (.r (.l (.r .z)))))
abbrev t52:Opd:=.t p52
abbrev p53:P:=(.l (.r (.r (.l (.r .z)))))
abbrev t53:Opd:=.t p53
abbrev p54:P:=(.r (.r (.r (.l (.r .z)))))
abbrev t54:Opd:=.t p54
abbrev p55:P:=(.l (.l (.l (.r (.r .z)))))
abbrev t55:Opd:=.t p55
abbrev p56:P:=(.r (.l (.l (.r (.r .z)))))
abbrev t56:Opd:=.t p56
abbrev p57:P:=(.l (.r (.l (.r (.r .z)))))
abbrev t57:Opd:=.t p57
abbrev p58:P:=(.r (.r (.l (.r (.r .z)))))
abbrev t58:Opd:=.t p58
abbrev p59:P:=(.l (.l (.r (.r (.r .z)))))
abbrev t59:Opd:=.t p59
abbrev p60:P:=(.r (.l (.r (.r (.r .z)))))
abbrev t60:Opd:=.t p60
abbrev p61:P:=(.l (.r (.r (.r (.r .z)))))
abbrev t61:Opd:=.t p61
abbrev p62:P:=(.r (.r (.r (.r (.r .z)))))
abbrev t62:Opd:=.t p62
abbrev p63:P:=(.l (.l (.l (.l (.l (.l .z))))))
abbrev t63:Opd:=.t p63
abbrev p64:P:=(.r (.l (.l (.l (.l (.l .z))))))
abbrev t64:Opd:=.t p64
abbrev p65:P:=(.l (.r (.l (.l (.l (.l .z))))))
abbrev t65:Opd:=.t p65
abbrev p66:P:=(.r (.r (.l (.l (.l (.l .z))))))
abbrev t66:Opd:=.t p66
abbrev p67:P:=(.l (.l (.r (.l (.l (.l .z))))))
abbrev t67:Opd:=.t p67
abbrev p68:P:=(.r (.l (.r (.l (.l (.l .z))))))
abbrev t68:Opd:=.t p68
abbrev p69:P:=(.l (.r (.r (.l (.l (.l .z))))))
abbrev t69:Opd:=.t p69
abbrev p70:P:=(.r (.r (.r (.l (.l (.l .z))))))
abbrev t70:Opd:=.t p70
abbrev p71:P:=(.l (.l (.l (.r (.l (.l .z))))))
abbrev t71:Opd:=.t p71
abbrev p72:P:=(.r (.l (.l (.r (.l (.l .z))))))
abbrev t72:Opd:=.t p72
abbrev p73:P:=(.l (.r (.l (.r (.l (.l .z))))))
abbrev t73:Opd:=.t p73
abbrev p74:P:=(.r (.r (.l (.r (.l (.l .z))))))
abbrev t74:Opd:=.t p74
abbrev p75:P:=(.l (.l (.r (.r (.l (.l .z))))))
abbrev t75:Opd:=.t p75
abbrev p76:P:=(.r (.l (.r (.r (.l (.l .z))))))
abbrev t76:Opd:=.t p76
abbrev p77:P:=(.l (.r (.r (.r (.l (.l .z))))))
abbrev t77:Opd:=.t p77
abbrev p78:P:=(.r (.r (.r (.r (.l (.l .z))))))
abbrev t78:Opd:=.t p78
abbrev p79:P:=(.l (.l (.l (.l (.r (.l .z))))))
abbrev t79:Opd:=.t p79
abbrev p80:P:=(.r (.l (.l (.l (.r (.l .z))))))
abbrev t80:Opd:=.t p80
abbrev p81:P:=(.l (.r (.l (.l (.r (.l .z))))))
abbrev t81:Opd:=.t p81
abbrev p82:P:=(.r (.r (.l (.l (.r (.l .z))))))
abbrev t82:Opd:=.t p82
abbrev p83:P:=(.l (.l (.r (.l (.r (.l .z))))))
abbrev t83:Opd:=.t p83
abbrev p84:P:=(.r (.l (.r (.l (.r (.l .z))))))
abbrev t84:Opd:=.t p84
abbrev p85:P:=(.l (.r (.r (.l (.r (.l .z))))))
abbrev t85:Opd:=.t p85
abbrev p86:P:=(.r (.r (.r (.l (.r (.l .z))))))
abbrev t86:Opd:=.t p86
abbrev p87:P:=(.l (.l (.l (.r (.r (.l .z))))))
abbrev t87:Opd:=.t p87
abbrev p88:P:=(.r (.l (.l (.r (.r (.l .z))))))
abbrev t88:Opd:=.t p88
abbrev p89:P:=(.l (.r (.l (.r (.r (.l .z))))))
abbrev t89:Opd:=.t p89
abbrev p90:P:=(.r (.r (.l (.r (.r (.l .z))))))
abbrev t90:Opd:=.t p90
abbrev p91:P:=(.l (.l (.r (.r (.r (.l .z))))))
abbrev t91:Opd:=.t p91
abbrev p92:P:=(.r (.l (.r (.r (.r (.l .z))))))
abbrev t92:Opd:=.t p92
abbrev p93:P:=(.l (.r (.r (.r (.r (.l .z))))))
abbrev t93:Opd:=.t p93
abbrev p94:P:=(.r (.r (.r (.r (.r (.l .z))))))
abbrev t94:Opd:=.t p94
abbrev p95:P:=(.l (.l (.l (.l (.l (.r .z))))))
abbrev t95:Opd:=.t p95
abbrev p96:P:=(.r (.l (.l (.l (.l (.r .z))))))
abbrev t96:Opd:=.t p96
abbrev p97:P:=(.l (.r (.l (.l (.l (.r .z))))))
abbrev t97:Opd:=.t p97
abbrev p98:P:=(.r (.r (.l (.l (.l (.r .z))))))
abbrev t98:Opd:=.t p98
abbrev p99:P:=(.l (.l (.r (.l (.l (.r .z))))))
abbrev t99:Opd:=.t p99
abbrev p100:P:=(.r (.l (.r (.l (.l (.r .z))))))
abbrev t100:Opd:=.t p100
abbrev p101:P:=(.l (.r (.r (.l (.l (.r .z))))))
abbrev t101:Opd:=.t p101
abbrev p102:P:=(.r (.r (.r (.l (.l (.r .z))))))
abbrev t102:Opd:=.t p102
abbrev p103:P:=(.l (.l (.l (.r (.l (.r .z))))))
abbrev t103:Opd:=.t p103
abbrev p104:P:=(.r (.l (.l (.r (.l (.r .z))))))
abbrev t104:Opd:=.t p104
abbrev p105:P:=(.l (.r (.l (.r (.l (.r .z))))))
abbrev t105:Opd:=.t p105
abbrev p106:P:=(.r (.r (.l (.r (.l (.r .z))))))
abbrev t106:Opd:=.t p106
abbrev p107:P:=(.l (.l (.r (.r (.l (.r .z))))))
abbrev t107:Opd:=.t p107
abbrev p108:P:=(.r (.l (.r (.r (.l (.r .z))))))
abbrev t108:Opd:=.t p108
abbrev p109:P:=(.l (.r (.r (.r (.l (.r .z))))))
abbrev t109:Opd:=.t p109
abbrev p110:P:=(.r (.r (.r (.r (.l (.r .z))))))
abbrev t110:Opd:=.t p110
abbrev p111:P:=(.l (.l (.l (.l (.r (.r .z))))))
abbrev t111:Opd:=.t p111
abbrev p112:P:=(.r (.l (.l (.l (.r (.r .z))))))
abbrev t112:Opd:=.t p112
abbrev p113:P:=(.l (.r (.l (.l (.r (.r .z))))))
abbrev t113:Opd:=.t p113
abbrev p114:P:=(.r (.r (.l (.l (.r (.r .z))))))
abbrev t114:Opd:=.t p114
abbrev p115:P:=(.l (.l (.r (.l (.r (.r .z))))))
abbrev t115:Opd:=.t p115
abbrev p116:P:=(.r (.l (.r (.l (.r (.r .z))))))
abbrev t116:Opd:=.t p116
abbrev p117:P:=(.l (.r (.r (.l (.r (.r .z))))))
abbrev t117:Opd:=.t p117
abbrev p118:P:=(.r (.r (.r (.l (.r (.r .z))))))
abbrev t118:Opd:=.t p118
abbrev p119:P:=(.l (.l (.l (.r (.r (.r .z))))))
abbrev t119:Opd:=.t p119
abbrev p120:P:=(.r (.l (.l (.r (.r (.r .z))))))
abbrev t120:Opd:=.t p120
abbrev p121:P:=(.l (.r (.l (.r (.r (.r .z))))))
abbrev t121:Opd:=.t p121
abbrev p122:P:=(.r (.r (.l (.r (.r (.r .z))))))
abbrev t122:Opd:=.t p122
abbrev p123:P:=(.l (.l (.r (.r (.r (.r .z))))))
abbrev t123:Opd:=.t p123
abbrev p124:P:=(.r (.l (.r (.r (.r (.r .z))))))
abbrev t124:Opd:=.t p124
abbrev p125:P:=(.l (.r (.r (.r (.r (.r .z))))))
abbrev t125:Opd:=.t p125
abbrev p126:P:=(.r (.r (.r (.r (.r (.r .z))))))
abbrev t126:Opd:=.t p126
abbrev p127:P:=(.l (.l (.l (.l (.l (.l (.l .z)))))))
abbrev t127:Opd:=.t p127
abbrev p128:P:=(.r (.l (.l (.l (.l (.l (.l .z)))))))
abbrev t128:Opd:=.t p128
abbrev p129:P:=(.l (.r (.l (.l (.l (.l (.l .z)))))))
abbrev t129:Opd:=.t p129
abbrev p130:P:=(.r (.r (.l (.l (.l (.l (.l .z)))))))
abbrev t130:Opd:=.t p130
abbrev p131:P:=(.l (.l (.r (.l (.l (.l (.l .z)))))))
abbrev t131:Opd:=.t p131
abbrev p132:P:=(.r (.l (.r (.l (.l (.l (.l .z)))))))
abbrev t132:Opd:=.t p132
abbrev p133:P:=(.l (.r (.r (.l (.l (.l (.l .z)))))))
abbrev t133:Opd:=.t p133
abbrev p134:P:=(.r (.r (.r (.l (.l (.l (.l .z)))))))
abbrev t134:Opd:=.t p134
abbrev p135:P:=(.l (.l (.l (.r (.l (.l (.l .z)))))))
abbrev t135:Opd:=.t p135
abbrev p136:P:=(.r (.l (.l (.r (.l (.l (.l .z)))))))
abbrev t136:Opd:=.t p136
abbrev p137:P:=(.l (.r (.l (.r (.l (.l (.l .z)))))))
abbrev t137:Opd:=.t p137
def f3:Fd:=.mk [p0,p1,p2] (.seq (.reg [mX p6 kF]) (.seq (.seq (.reg [mX p17 t0,mX p18 t1,mX p19 t2,mI p20 (.call p4 [t17,t18,t19])]) (.cond t20 (.seq (.reg [mX p6 kT]) .ret) .skip)) (.seq (.reg [mX p21 t1,mI p22 (.call p5 [t21]),mX p7 t22]) (.seq (.reg [mX p24 t0,mX p25 t7,mX p26 t2,mI p27 (.call p6 [t24,t25,t26]),mX p23 t27,mI p28 (.ex t23 0),mI p29 (.ex t23 1),mI p30 (.ex t23 2),mI p31 (.ex t23 3),mX p8 t28,mX p9 t29,mX p10 t30,mX p11 t31]) (.seq (.reg [mX p33 t0,mI p34 (.call p7 [t33]),mX p32 t34,mI p35 (.ex t32 0),mI p36 (.ex t32 1),mX p12 t35,mX p13 t36]) (.seq (.seq (.reg [mX p37 t0,mI p38 (.bin .lt t37 kZ0),mX p39 t38,mG p40 p39 false (.mv t0),mG p41 p39 false (.bin .gt t40 (.c (.int .i64 (.ofNat 40)))),mI p42 (.pick t39 kT t41)]) (.cond t42 (.seq (.reg [mX p43 t13,mI p44 (.bin .ne t43 kZ1),mX p45 t44,mG p46 p45 false (.mv t12),mG p47 p45 false (.len t46),mG p48 p45 false (.bin .ne t47 kZ0),mI p49 (.pick t45 kT t48)]) (.cond t49 (.seq (.reg [mX p6 kF]) .ret) .skip)) (.seq (.reg [mX p50 t13,mI p51 (.bin .ne t50 kZ0),mX p52 t51,mG p53 p52 false (.mv t12),mG p54 p52 false (.mv t0),mG p55 p52 false (.call p9 [t54]),mG p56 p52 false (.call p8 [t53,t55]),mG p57 p52 false (.not t56),mI p58 (.pick t52 kT t57)]) (.cond t58 (.seq (.reg [mX p6 kF]) .ret) .skip)))) (.seq (.seq (.reg [mX p59 t0,mX p60 t1,mX p61 t2,mI p62 (.call p10 [t59,t60,t61]),mI p63 (.not t62)]) (.cond t63 (.seq (.reg [mX p64 t11,mI p65 (.bin .eq t64 kZ1),mX p66 t65,mG p67 p66 true (.mv t8),mG p68 p66 true (.mv t10),mG p69 p66 true (.bin .add t67 t68),mG p70 p66 true (.mv t9),mG p71 p66 true (.len t70),mG p72 p66 true (.bin .add t69 t71),mG p73 p66 true (.bin .eq t72 kZ0),mI p74 (.pick t66 t73 kF),mX p75 t74,mG p76 p75 true (.mv t7),mG p77 p75 true (.mv t1),mG p78 p75 true (.call p8 [t76,t77]),mI p79 (.pick t75 t78 kF),mX p80 t79,mG p81 p80 true (.call p11 []),mI p82 (.pick t80 t81 kF),mX p6 t82]) .ret) .skip)) (.seq (.reg [mX p84 t0,mX p85 t1,mX p86 t2,mI p87 (.call p12 [t84,t85,t86]),mX p83 t87,mI p88 (.ex t83 0),mI p89 (.ex t83 1),mI p90 (.ex t83 2),mX p14 t88,mX p15 t89,mX p16 t90]) (.seq (.reg [mX p91 t11,mI p92 (.bin .eq t91 kZ0),mX p93 t92,mG p94 p93 true (.mv t8),mG p95 p93 true (.mv t14),mG p96 p93 true (.bin .eq t94 t95),mI p97 (.pick t93 t96 kF),mX p98 t97,mG p99 p98 true (.mv t10),mG p100 p98 true (.mv t16),mG p101 p98 true (.bin .eq t99 t100),mI p102 (.pick t98 t101 kF),mX p103 t102,mG p104 p103 true (.mv t9),mG p105 p103 true (.mv t15),mG p106 p103 true (.call p13 [t104,t105]),mI p107 (.pick t103 t106 kF),mX p108 t107,mG p109 p108 true (.mv t7),mG p110 p108 true (.mv t1),mG p111 p108 true (.call p8 [t109,t110]),mI p112 (.pick t108 t111 kF),mX p113 t112,mG p114 p113 true (.call p11 []),mI p115 (.pick t113 t114 kF),mX p6 t115]) .ret))))))))) [.t p6]
def ls3:List Nat:=[]
def f4:Fd:=.mk [p0,p1,p2] (.seq (.reg [mX p6 kF]) (.seq (.reg [mX p7 t1,mI p8 (.call p14 [t7]),mX p9 t8,mG p10 p9 false (.mv t0),mG p11 p9 false (.mv t1),mG p12 p9 false (.mv t2),mG p13 p9 false (.call p10 [t10,t11,t12]),mG p14 p9 false (.mv t13),mG p15 p14 true (.mv t0),mG p16 p14 true (.bin .gt t15 (.c (.int .i64 (.ofNat 8)))),mG p17 p14 true (.mv t16),mG p18 p17 false (.mv t1),mG p19 p17 false (.len t18),mG p20 p17 false (.bin .gt t19 (.c (.int .i64 (.ofNat 16)))),mG p21 p14 true (.pick t17 kT t20),mG p22 p14 true (.mv t21),mG p23 p22 false (.mv t2),mG p24 p22 false (.bin .gt t23 (.c (.int .i64 (.ofNat 1500)))),mG p25 p14 true (.pick t22 kT t24),mG p26 p9 false (.pick t14 t25 kF),mI p27 (.pick t9 kT t26),mX p6 t27]) .ret)) [.t p6]
def ls4:List Nat:=[]
def f5:Fd:=.mk [p0] (.seq (.reg [mX p2 kN]) (.seq (.reg [mX p3 kN]) (.seq (.seq (.reg [mX p4 kZ0]) (.block 0 (.loop [p0,p3,p4] (.seq (.seq (.reg [mX p5 t4,mX p6 t0,mI p7 (.len t6),mI p8 (.bin .lt t5 t7)]) (.cond t8 .skip (.exit 0))) (.seq (.block 1 (.drw [dI [p3] p11 (.mv t3),dI [p0] p12 (.mv t0),dI [p4] p13 (.mv t4),dI [p12,p13] p14 (.ia 3 t12 t13),dI [p14] p15 (.fa 0 t14),dI [p15] p16 (.lda 2 t15),dI [p16] p17 (.call p15 [t16]),dI [p0] p18 (.mv t0),dI [p4] p19 (.mv t4),dI [p18,p19] p20 (.ia 3 t18 t19),dI [p20] p21 (.fa 2 t20),dI [p21] p22 (.ld t21),dI [p17,p22] p23 (.bld zC [(0,2,t17),(2,1,t22)]),dI [p23] p24 (.bsl 1 3 zC [(0,3,t23)]),.mk true [p11,p24] [p25] false (mI p25 (.app 3 40 t11 t24)),dI [p25] p3 (.mv t25)])) (.reg [mX p9 t4,mI p10 (.bin .add t9 kZ1),mX p4 t10])))))) (.seq (.reg [mX p26 t3,mX p2 t26]) .ret)))) [.t p2]
def ls5:List Nat:=[]
def f6:Fd:=.mk [p0,p1,p2] (.seq (.reg [mX p6 kZ0,mX p7 kN,mX p8 kZ0,mX p9 kZ0]) (.seq (.seq (.reg [mX p13 t0,mI p14 (.bin .lt t13 kZ0),mX p15 t14,mG p16 p15 false (.mv t0),mG p17 p15 false (.bin .gt t16 (.c (.int .i64 (.ofNat 40)))),mI p18 (.pick t15 kT t17),mX p19 t18,mG p20 p19 false (.mv t2),mG p21 p19 false (.bin .lt t20 kZ0),mI p22 (.pick t19 kT t21),mX p23 t22,mG p24 p23 false (.mv t2),mG p25 p23 false (.bin .gt t24 (.c (.int .i64 (.ofNat 4000)))),mI p26 (.pick t23 kT t25),mX p27 t26,mG p28 p27 false (.mv t1),mG p29 p27 false (.len t28),mG p30 p27 false (.bin .gt t29 (.c (.int .i64 (.ofNat 240)))),mI p31 (.pick t27 kT t30)]) (.cond t31 (.seq (.reg [mX p6 kZ0,mX p7 kN,mX p8 kZ0,mX p9 kZ1]) .ret) .skip)) (.seq (.seq (.reg [mX p32 t1,mI p33 (.len t32),mX p34 kZ0]) (.block 0 (.loop [p0,p1,p2,p7,p32,p33,p34] (.seq (.reg [mI p35 (.bin .lt t34 t33)]) (.seq (.cond t35 .skip (.exit 0)) (.seq (.block 1 (.seq (.reg [mI p36 (.ia 3 t32 t34),mI p37 (.lda 3 t36),.loc p11 zC,.mk none none (.st 3 t11 t37)]) (.seq (.reg [mI p38 (.fa 0 t11),mI p39 (.lda 2 t38),mI p40 (.call p16 [t39]),mI p41 (.bin .ne t40 kZ0),mX p42 t41,mG p43 p42 false (.fa 0 t11),mG p44 p42 false (.fa 1 t43),mG p45 p42 false (.ld t44),mG p46 p42 false (.len t45),mG p47 p42 false (.bin .gt t46 kZ0),mG p48 p42 false (.mv t47),mG p49 p48 true (.fa 0 t11),mG p50 p48 true (.fa 1 t49),mG p51 p48 true (.ld t50),mG p52 p48 true (.fa 0 t11),mG p53 p48 true (.fa 1 t52),mG p54 p48 true (.ld t53),mG p55 p48 true (.len t54),mG p56 p48 true (.bin .sub t55 kZ1),mG p57 p48 true (.ia 2 t51 t56),mG p58 p48 true (.fa 0 t57),mG p59 p48 true (.ld t58),mG p60 p48 true (.mv t0),mG p61 p48 true (.bin .ge t59 t60),mG p62 p42 false (.pick t48 t61 kF),mI p63 (.pick t42 kT t62)]) (.cond t63 (.seq (.reg [mX p6 kZ0,mX p7 kN,mX p8 kZ0,mX p9 kZ1]) .ret) .skip)))) (.reg [mI p64 (.bin .add t34 kZ1),mX p34 t64]))))))) (.seq (.reg [mX p65 t2,mX p66 t0,mI p67 (.msl 1 8 [nZ] t66 t66),mI p68 (.bld zT [(0,1,t65),(1,1,t67)]),mI p69 (.bx t68),mX p12 t69]) (.seq (.reg [mX p70 t12,mX p71 t1,mI p72 (.call p18 [t71]),mX p73 t0,mI p74 (.call p19 [t73]),mI p75 (.app 3 40 t72 t74),mI p76 (.call p17 [t70,t75]),mX p6 t76]) (.seq (.seq (.reg [mX p77 t6,mI p78 (.bin .eq t77 kZ2)]) (.cond t78 (.reg [mX p79 t12,mI p80 (.nc t79),mI p81 (.fa 1 t80),mI p82 (.ld t81),mX p7 t82]) .skip)) (.seq (.drw [dI [p6] p83 (.mv t6),dI [p7] p84 (.mv t7),dI [p12] p85 (.mv t12),dI [p85] p86 (.nc t85),dI [p86] p87 (.fa 0 t86),dI [p87] p88 (.ld t87),dI [p83] p6 (.mv t83),dI [p84] p7 (.mv t84),dI [p88] p8 (.mv t88),dI [] p9 (.mv kZ0)]) .ret))))))) [.t p6,.t p7,.t p8,.t p9]
def ls6:List Nat:=[11]
def f7:Fd:=.mk [p0] (.seq (.reg [mX p2 kN,mX p3 kZ0]) (.seq (.seq (.reg [mX p4 t0,mI p5 (.bin .lt t4 kZ0),mX p6 t5,mG p7 p6 false (.mv t0),mG p8 p6 false (.bin .gt t7 (.c (.int .i64 (.ofNat 40)))),mI p9 (.pick t6 kT t8)]) (.cond t9 (.seq (.reg [mX p2 kN,mX p3 kZ1]) .ret) .skip)) (.seq (.reg [mX p10 t0,mI p11 (.call p19 [t10]),mX p2 t11,mX p3 kZ0]) .ret))) [.t p2,.t p3]
def ls7:List Nat:=[]
def f9:Fd:=.mk [p0] (.seq (.reg [mX p2 kN]) (.seq (.reg [mX p3 kN]) (.seq (.seq (.reg [mX p4 kZ0]) (.block 0 (.loop [p0,p3,p4] (.seq (.seq (.reg [mX p5 t4,mX p6 t0,mI p7 (.bin .lt t5 t6)]) (.cond t7 .skip (.exit 0))) (.seq (.block 1 (.reg [mX p10 t3,mX p11 t4,mI p12 (.bld zM [(0,1,t11),(1,1,kZ1)]),mI p13 (.bsl 1 2 zM [(0,2,t12)]),mI p14 (.bld zT [(0,1,(.c (.int .i64 (.negSucc 2147483646)))),(1,1,t13)]),mI p15 (.bld zC [(0,2,t14)]),mX p16 t4,mI p17 (.bld zM [(0,1,t16),(1,1,(.c (.int .i64 (.negSucc 0))))]),mI p18 (.bsl 1 2 zM [(0,2,t17)]),mI p19 (.bld zT [(0,1,(.c (.int .i64 (.negSucc 2147483647)))),(1,1,t18)]),mI p20 (.bld zC [(0,2,t19)]),mI p21 (.bsl 2 3 [(.int .i64 (.ofNat 0)),.nils,(.bool false),(.int .i64 (.ofNat 0)),.nils,(.bool false)] [(0,3,t15),(3,3,t20)]),mI p22 (.app 3 40 t10 t21),mX p3 t22])) (.reg [mX p8 t4,mI p9 (.bin .add t8 kZ1),mX p4 t9])))))) (.seq (.reg [mX p23 t3,mX p2 t23]) .ret)))) [.t p2]
def ls9:List Nat:=[]
def f8:Fd:=.mk [p0,p1] (.seq (.reg [mX p4 kF]) (.seq (.seq (.reg [mX p6 t0,mI p7 (.len t6),mX p8 t1,mI p9 (.len t8),mI p10 (.bin .ne t7 t9)]) (.cond t10 (.seq (.reg [mX p4 kF]) .ret) .skip)) (.seq (.seq (.reg [mX p5 kZ0]) (.block 0 (.loop [p0,p1,p5] (.seq (.seq (.reg [mX p11 t5,mX p12 t0,mI p13 (.len t12),mI p14 (.bin .lt t11 t13)]) (.cond t14 .skip (.exit 0))) (.seq (.block 1 (.seq (.drw [dI [p0] p17 (.mv t0),dI [p5] p18 (.mv t5),dI [p17,p18] p19 (.ia 3 t17 t18),dI [p19] p20 (.fa 2 t19),dI [p20] p21 (.ld t20),dI [p1] p22 (.mv t1),dI [p5] p23 (.mv t5),dI [p22,p23] p24 (.ia 3 t22 t23),dI [p24] p25 (.fa 2 t24),dI [p25] p26 (.ld t25),dI [p21,p26] p27 (.beq true t21 t26),dI [p27] p28 (.mv t27),dG [p0,p28] p29 p28 false (.mv t0),dG [p5,p28] p30 p28 false (.mv t5),dG [p29,p30,p28] p31 p28 false (.ia 3 t29 t30),dG [p31,p28] p32 p28 false (.fa 0 t31),dG [p32,p28] p33 p28 false (.lda 2 t32),dG [p1,p28] p34 p28 false (.mv t1),dG [p5,p28] p35 p28 false (.mv t5),dG [p34,p35,p28] p36 p28 false (.ia 3 t34 t35),dG [p36,p28] p37 p28 false (.fa 0 t36),dG [p37,p28] p38 p28 false (.lda 2 t37),.mk true [p33,p38,p28] [p39] false (mG p39 p28 false (.call p20 [t33,t38])),dG [p39,p28] p40 p28 false (.not t39),dI [p28,p40] p41 (.pick t28 kT t40)]) (.cond t41 (.seq (.reg [mX p4 kF]) .ret) .skip))) (.reg [mX p15 t5,mI p16 (.bin .add t15 kZ1),mX p5 t16])))))) (.seq (.reg [mX p4 kT]) .ret)))) [.t p4]
def ls8:List Nat:=[]
def f10:Fd:=.mk [p0,p1,p2] (.seq (.reg [mX p6 kF]) (.seq (.seq (.reg [mX p9 t0,mI p10 (.bin .lt t9 kZ0),mX p11 t10,mG p12 p11 false (.mv t0),mG p13 p11 false (.bin .gt t12 (.c (.int .i64 (.ofNat 40)))),mI p14 (.pick t11 kT t13),mX p15 t14,mG p16 p15 false (.mv t2),mG p17 p15 false (.bin .lt t16 kZ0),mI p18 (.pick t15 kT t17),mX p19 t18,mG p20 p19 false (.mv t2),mG p21 p19 false (.bin .gt t20 (.c (.int .i64 (.ofNat 4000)))),mI p22 (.pick t19 kT t21),mX p23 t22,mG p24 p23 false (.mv t1),mG p25 p23 false (.len t24),mG p26 p23 false (.bin .gt t25 (.c (.int .i64 (.ofNat 240)))),mI p27 (.pick t23 kT t26),mX p28 t27,mG p29 p28 false (.mv t1),mG p30 p28 false (.call p21 [t29]),mG p31 p28 false (.not t30),mI p32 (.pick t28 kT t31)]) (.cond t32 (.seq (.reg [mX p6 kF]) .ret) .skip)) (.seq (.seq (.reg [mX p7 kZ0]) (.block 0 (.loop [p0,p1,p7] (.seq (.seq (.reg [mX p33 t7,mX p34 t1,mI p35 (.len t34),mI p36 (.bin .lt t33 t35)]) (.cond t36 .skip (.exit 0))) (.seq (.block 1 (.seq (.reg [mX p8 kZ0]) (.block 2 (.loop [p0,p1,p7,p8] (.seq (.seq (.reg [mX p39 t8,mX p40 t1,mX p41 t7,mI p42 (.ia 3 t40 t41),mI p43 (.fa 0 t42),mI p44 (.fa 1 t43),mI p45 (.ld t44),mI p46 (.len t45),mI p47 (.bin .lt t39 t46)]) (.cond t47 .skip (.exit 2))) (.seq (.block 3 (.seq (.reg [mX p50 t1,mX p51 t7,mI p52 (.ia 3 t50 t51),mI p53 (.fa 0 t52),mI p54 (.fa 1 t53),mI p55 (.ld t54),mX p56 t8,mI p57 (.ia 2 t55 t56),mI p58 (.fa 0 t57),mI p59 (.ld t58),mX p60 t0,mI p61 (.bin .ge t59 t60)]) (.cond t61 (.seq (.reg [mX p6 kF]) .ret) .skip))) (.reg [mX p48 t8,mI p49 (.bin .add t48 kZ1),mX p8 t49]))))))) (.reg [mX p37 t7,mI p38 (.bin .add t37 kZ1),mX p7 t38])))))) (.seq (.reg [mX p6 kT]) .ret)))) [.t p6]
def ls10:List Nat:=[]
def f11:Fd:=.mk [] (.seq (.reg [mX p0 kF]) (.seq (.reg [mI p15 (.bld zM [(0,1,kZ0),(1,1,kZ1)]),mI p16 (.bld zM [(0,1,kZ1),(1,1,(.c (.int .i64 (.negSucc 0))))]),mI p17 (.bsl 2 2 [(.int .i64 (.ofNat 0)),(.int .i64 (.ofNat 0)),(.int .i64 (.ofNat 0)),(.int .i64 (.ofNat 0))] [(0,2,t15),(2,2,t16)]),mI p18 (.bld zT [(0,1,kZ1),(1,1,t17)]),mI p19 (.bld zC [(0,2,t18)]),.loc p1 zC,.mk none none (.st 3 t1 t19)]) (.seq (.reg [mI p20 (.bld zM [(0,1,kZ0),(1,1,(.c (.int .i64 (.negSucc 0))))]),mI p21 (.bld zM [(0,1,kZ1),(1,1,kZ1)]),mI p22 (.bsl 2 2 [(.int .i64 (.ofNat 0)),(.int .i64 (.ofNat 0)),(.int .i64 (.ofNat 0)),(.int .i64 (.ofNat 0))] [(0,2,t20),(2,2,t21)]),mI p23 (.bld zT [(0,1,kZ1),(1,1,t22)]),mI p24 (.bld zC [(0,2,t23)]),.loc p2 zC,.mk none none (.st 3 t2 t24)]) (.seq (.reg [mI p26 (.lda 3 t1),mI p27 (.bsl 1 3 zC [(0,3,t26)]),mI p28 (.call p6 [kZ2,t27,(.c (.int .i64 (.ofNat 100)))]),mX p25 t28,mI p29 (.ex t25 0),mI p30 (.ex t25 1),mI p31 (.ex t25 2),mI p32 (.ex t25 3),mX p3 t29,mX p4 t30,mX p5 t31,mX p6 t32]) (.seq (.reg [mI p34 (.lda 3 t1),mI p35 (.lda 3 t2),mI p36 (.bsl 2 3 [(.int .i64 (.ofNat 0)),.nils,(.bool false),(.int .i64 (.ofNat 0)),.nils,(.bool false)] [(0,3,t34),(3,3,t35)]),mI p37 (.call p6 [kZ2,t36,(.c (.int .i64 (.ofNat 100)))]),mX p33 t37,mI p38 (.ex t33 0),mI p39 (.ex t33 1),mI p40 (.ex t33 2),mI p41 (.ex t33 3),mX p7 t38,mX p8 t39,mX p9 t40,mX p10 t41]) (.seq (.reg [mI p43 (.lda 3 t1),mI p44 (.bsl 1 3 zC [(0,3,t43)]),mI p45 (.call p6 [kZ2,t44,kZ0]),mX p42 t45,mI p46 (.ex t42 0),mI p47 (.ex t42 1),mI p48 (.ex t42 2),mI p49 (.ex t42 3),mX p11 t46,mX p12 t47,mX p13 t48,mX p14 t49]) (.seq (.drw [dI [p6] p50 (.mv t6),dI [p50] p51 (.bin .eq t50 kZ0),dI [p51] p52 (.mv t51),dG [p10,p52] p53 p52 true (.mv t10),dG [p53,p52] p54 p52 true (.bin .eq t53 kZ0),dI [p52,p54] p55 (.pick t52 t54 kF),dI [p55] p56 (.mv t55),dG [p14,p56] p57 p56 true (.mv t14),dG [p57,p56] p58 p56 true (.bin .eq t57 kZ0),dI [p56,p58] p59 (.pick t56 t58 kF),dI [p59] p60 (.mv t59),dG [p3,p60] p61 p60 true (.mv t3),dG [p61,p60] p62 p60 true (.bin .eq t61 kZ2),dI [p60,p62] p63 (.pick t60 t62 kF),dI [p63] p64 (.mv t63),dG [p4,p64] p65 p64 true (.mv t4),dG [p65,p64] p66 p64 true (.len t65),dG [p66,p64] p67 p64 true (.bin .eq t66 kZ2),dI [p64,p67] p68 (.pick t64 t67 kF),dI [p68] p69 (.mv t68),dG [p4,p69] p70 p69 true (.mv t4),dG [p70,p69] p71 p69 true (.ia 1 t70 kZ0),dG [p71,p69] p72 p69 true (.ld t71),dG [p4,p69] p73 p69 true (.mv t4),dG [p73,p69] p74 p69 true (.ia 1 t73 kZ1),dG [p74,p69] p75 p69 true (.ld t74),dG [p72,p75,p69] p76 p69 true (.bin .lt t72 t75),dI [p69,p76] p77 (.pick t69 t76 kF),dI [p77] p78 (.mv t77),dG [p7,p78] p79 p78 true (.mv t7),dG [p79,p78] p80 p78 true (.bin .eq t79 kZ1),dI [p78,p80] p81 (.pick t78 t80 kF),dI [p81] p82 (.mv t81),dG [p11,p82] p83 p82 true (.mv t11),dG [p83,p82] p84 p82 true (.bin .eq t83 kZ3),dI [p82,p84] p85 (.pick t82 t84 kF),dI [p85] p0 (.mv t85)]) .ret))))))) [.t p0]
def ls11:List Nat:=[1,2]
def f12:Fd:=.mk [p0,p1,p2] (.seq (.reg [mX p6 kZ0,mX p7 kN,mX p8 kZ0]) (.seq (.reg [mX p12 t0,mX p13 t2,mI p14 (.bld zM [(0,1,t12),(1,1,t13)]),mI p15 (.bx t14),mX p9 t15]) (.seq (.reg [mX p17 t9,mX p18 t1,mI p19 (.call p5 [t18]),mX p20 t0,mI p21 (.call p9 [t20]),mI p22 (.app 3 40 t19 t21),mI p23 (.call p22 [t17,t22]),mX p16 t23,mI p24 (.ex t16 0),mI p25 (.ex t16 1),mX p10 t24,mX p11 t25]) (.seq (.seq (.reg [mX p26 t10,mI p27 (.bin .ne t26 kZ2)]) (.cond t27 (.seq (.drw [dI [p10] p28 (.mv t10),dI [p9] p29 (.mv t9),dI [p29] p30 (.nc t29),dI [p30] p31 (.fa 1 t30),dI [p31] p32 (.ld t31),dI [p28] p6 (.mv t28),dI [] p7 (.mv kN),dI [p32] p8 (.mv t32)]) .ret) .skip)) (.seq (.drw [dI [p10] p33 (.mv t10),dI [p11] p34 (.mv t11),dI [p9] p35 (.mv t9),dI [p35] p36 (.nc t35),dI [p36] p37 (.fa 1 t36),dI [p37] p38 (.ld t37),dI [p33] p6 (.mv t33),dI [p34] p7 (.mv t34),dI [p38] p8 (.mv t38)]) .ret))))) [.t p6,.t p7,.t p8]
def ls12:List Nat:=[]
def f13:Fd:=.mk [p0,p1] (.seq (.reg [mX p4 kF]) (.seq (.seq (.reg [mX p6 t0,mI p7 (.len t6),mX p8 t1,mI p9 (.len t8),mI p10 (.bin .ne t7 t9)]) (.cond t10 (.seq (.reg [mX p4 kF]) .ret) .skip)) (.seq (.seq (.reg [mX p5 kZ0]) (.block 0 (.loop [p0,p1,p5] (.seq (.seq (.reg [mX p11 t5,mX p12 t0,mI p13 (.len t12),mI p14 (.bin .lt t11 t13)]) (.cond t14 .skip (.exit 0))) (.seq (.block 1 (.seq (.drw [dI [p0] p17 (.mv t0),dI [p5] p18 (.mv t5),dI [p17,p18] p19 (.ia 1 t17 t18),dI [p19] p20 (.ld t19),dI [p1] p21 (.mv t1),dI [p5] p22 (.mv t5),dI [p21,p22] p23 (.ia 1 t21 t22),dI [p23] p24 (.ld t23),dI [p20,p24] p25 (.bin .ne t20 t24)]) (.cond t25 (.seq (.reg [mX p4 kF]) .ret) .skip))) (.reg [mX p15 t5,mI p16 (.bin .add t15 kZ1),mX p5 t16])))))) (.seq (.reg [mX p4 kT]) .ret)))) [.t p4]
def ls13:List Nat:=[]
def f14:Fd:=.mk [p0] (.seq (.reg [mX p2 kF]) (.seq (.seq (.reg [mX p4 t0,mI p5 (.len t4),mI p6 (.bin .gt t5 (.c (.int .i64 (.ofNat 60))))]) (.cond t6 (.seq (.reg [mX p2 kT]) .ret) .skip)) (.seq (.seq (.reg [mX p3 kZ0]) (.block 0 (.loop [p0,p3] (.seq (.seq (.reg [mX p7 t3,mX p8 t0,mI p9 (.len t8),mI p10 (.bin .lt t7 t9)]) (.cond t10 .skip (.exit 0))) (.seq (.block 1 (.seq (.reg [mX p13 t0,mX p14 t3,mI p15 (.ia 3 t13 t14),mI p16 (.fa 0 t15),mI p17 (.lda 2 t16),mI p18 (.call p23 [t17])]) (.cond t18 (.seq (.reg [mX p2 kT]) .ret) .skip))) (.reg [mX p11 t3,mI p12 (.bin .add t11 kZ1),mX p3 t12])))))) (.seq (.reg [mX p2 kF]) .ret)))) [.t p2]
def ls14:List Nat:=[]
def f15:Fd:=.mk [p0] (.seq (.reg [.locb p1 t0,.loc p2 zT]) (.seq (.reg [mX p3 kN]) (.seq (.drw [dI [p1] p4 (.fa 0 t1),dI [p1,p4] p5 (.ld t4),dI [p3] p6 (.mv t3),dI [p1] p7 (.fa 1 t1),dI [p1,p7] p8 (.ld t7),dI [p6,p8] p9 (.app 2 16 t6 t8),dI [p5,p9] p10 (.bld zT [(0,1,t5),(1,1,t9)]),.mk true [p2,p10] [p2] true (.mk none none (.st 2 t2 t10))]) .ret))) [.cell p2 (some 2)]
def ls15:List Nat:=[1,2]
def f16:Fd:=.mk [p0] (.seq (.reg [.locb p1 t0,mX p2 kZ0]) (.seq (.seq (.reg [mI p5 (.fa 0 t1),mI p6 (.ld t5),mI p7 (.call p24 [t6,(.c (.int .i64 (.ofNat 1099511627776)))]),mI p8 (.not t7),mX p9 t8,mG p10 p9 false (.fa 1 t1),mG p11 p9 false (.ld t10),mG p12 p9 false (.len t11),mG p13 p9 false (.bin .gt t12 (.c (.int .i64 (.ofNat 40)))),mI p14 (.pick t9 kT t13)]) (.cond t14 (.seq (.reg [mX p2 kZ1]) .ret) .skip)) (.seq (.seq (.reg [mI p15 (.fa 1 t1),mI p16 (.ld t15),mI p17 (.len t16),mX p18 kZ0]) (.block 0 (.loop [p1,p16,p17,p18] (.seq (.reg [mI p19 (.bin .lt t18 t17)]) (.seq (.cond t19 .skip (.exit 0)) (.seq (.block 1 (.seq (.reg [mX p20 t18,mI p21 (.ia 2 t16 t18),mI p22 (.lda 2 t21),.loc p4 zM,mX p3 t20,.mk none none (.st 2 t4 t22)]) (.seq (.drw [dI [p4] p23 (.fa 0 t4),dI [p4,p23] p24 (.ld t23),dI [p24] p25 (.bin .lt t24 kZ0),dI [p25] p26 (.mv t25),dG [p4,p26] p27 p26 false (.fa 0 t4),dG [p4,p27,p26] p28 p26 false (.ld t27),.mk true [p28,p26] [p29] true (mG p29 p26 false (.bin .ge t28 (.c (.int .i64 (.ofNat 40))))),dI [p26,p29] p30 (.pick t26 kT t29),dI [p30] p31 (.mv t30),dG [p3,p31] p32 p31 false (.mv t3),dG [p32,p31] p33 p31 false (.bin .gt t32 kZ0),dG [p33,p31] p34 p31 false (.mv t33),dG [p4,p34] p35 p34 true (.fa 0 t4),dG [p4,p35,p34] p36 p34 true (.ld t35),dG [p1,p34] p37 p34 true (.fa 1 t1),dG [p1,p37,p34] p38 p34 true (.ld t37),dG [p3,p34] p39 p34 true (.mv t3),dG [p39,p34] p40 p34 true (.bin .sub t39 kZ1),dG [p38,p40,p34] p41 p34 true (.ia 2 t38 t40),dG [p41,p34] p42 p34 true (.fa 0 t41),dG [p42,p34] p43 p34 true (.ld t42),dG [p36,p43,p34] p44 p34 true (.bin .le t36 t43),dG [p34,p44,p31] p45 p31 false (.pick t34 t44 kF),dI [p31,p45] p46 (.pick t31 kT t45),dI [p46] p47 (.mv t46),dG [p4,p47] p48 p47 false (.fa 1 t4),dG [p4,p48,p47] p49 p47 false (.ld t48),dG [p49,p47] p50 p47 false (.bin .eq t49 kZ0),dI [p47,p50] p51 (.pick t47 kT t50),dI [p51] p52 (.mv t51),dG [p4,p52] p53 p52 false (.fa 1 t4),dG [p4,p53,p52] p54 p52 false (.ld t53),.mk true [p54,p52] [p55] false (mG p55 p52 false (.call p24 [t54,(.c (.int .i64 (.ofNat 1048576)))])),dG [p55,p52] p56 p52 false (.not t55),dI [p52,p56] p57 (.pick t52 kT t56)]) (.cond t57 (.seq (.reg [mX p2 kZ1]) .ret) .skip)))) (.reg [mI p58 (.bin .add t18 kZ1),mX p18 t58]))))))) (.seq (.reg [mX p2 kZ0]) .ret)))) [.t p2]
def ls16:List Nat:=[1,4]
def f18:Fd:=.mk [p0] (.seq (.reg [mX p2 kN]) (.seq (.seq (.reg [mX p3 t0,mI p4 (.isnil false t3)]) (.cond t4 (.seq (.reg [mX p2 kN]) .ret) .skip)) (.seq (.reg [mI p5 (.bsl 0 3 [] []),mX p6 t0,mI p7 (.app 3 40 t5 t6),mX p2 t7]) .ret))) [.t p2]
def ls18:List Nat:=[]
def f19:Fd:=.mk [p0] (.seq (.reg [mX p2 kN]) (.seq (.reg [mX p3 kN]) (.seq (.seq (.reg [mX p5 t0,mX p6 kZ0]) (.block 0 (.loop [p3,p5,p6] (.seq (.reg [mI p7 (.bin .lt t6 t5)]) (.seq (.cond t7 .skip (.exit 0)) (.seq (.block 1 (.seq (.reg [mX p8 t6,mX p4 t8]) (.reg [mX p9 t3,mX p10 t4,mI p11 (.bld zM [(0,1,t10),(1,1,kZ1)]),mI p12 (.bsl 1 2 zM [(0,2,t11)]),mI p13 (.bld zT [(0,1,(.c (.int .i64 (.negSucc 2147483646)))),(1,1,t12)]),mI p14 (.bld zC [(0,2,t13)]),mX p15 t4,mI p16 (.bld zM [(0,1,t15),(1,1,(.c (.int .i64 (.negSucc 0))))]),mI p17 (.bsl 1 2 zM [(0,2,t16)]),mI p18 (.bld zT [(0,1,(.c (.int .i64 (.negSucc 2147483647)))),(1,1,t17)]),mI p19 (.bld zC [(0,2,t18)]),mI p20 (.bsl 2 3 [(.int .i64 (.ofNat 0)),.nils,(.bool false),(.int .i64 (.ofNat 0)),.nils,(.bool false)] [(0,3,t14),(3,3,t19)]),mI p21 (.app 3 40 t9 t20),mX p3 t21]))) (.reg [mI p22 (.bin .add t6 kZ1),mX p6 t22]))))))) (.seq (.reg [mX p23 t3,mX p2 t23]) .ret)))) [.t p2]
def ls19:List Nat:=[]
def f17:Fd:=.mk [p0,p1] (.seq (.reg [mX p4 kZ0]) (.seq (.reg [mX p18 t1,mI p19 (.call p25 [t18]),mX p17 t19,mI p20 (.ex t17 0),mI p21 (.ex t17 1),mI p22 (.ex t17 2),mX p1 t20,mX p5 t21,mX p6 t22]) (.seq (.block 0 (.seq (.reg [mX p24 t6,mI p25 (.bin .ne t24 kZ0),mX p23 t25]) (.cond t23 (.seq (.reg [mI p4 (.mv (.c (.int .i64 (.ofNat 4))))]) .ret) (.seq (.reg [mX p27 t5,mI p28 (.bin .ne t27 kZ0),mX p26 t28]) (.cond t26 (.seq (.reg [mX p29 t5,mX p4 t29]) .ret) (.seq (.reg [mX p31 t1,mI p32 (.len t31),mI p33 (.bin .gt t32 (.c (.int .i64 (.ofNat 240)))),mX p30 t33]) (.cond t30 (.seq (.reg [mX p4 kZ3]) .ret) .skip))))))) (.seq (.reg [mX p35 t1,mI p36 (.call p26 [t35]),mX p34 t36,mI p37 (.ex t34 0),mI p38 (.ex t34 1),mI p39 (.ex t34 2),mX p7 t37,mX p8 t38,mX p6 t39]) (.seq (.seq (.reg [mX p40 t6,mI p41 (.bin .eq t40 kZ0)]) (.cond t41 (.seq (.seq (.reg [mX p42 t0,mI p43 (.call p27 [t42,kZ1]),mI p44 (.not t43)]) (.cond t44 (.seq (.reg [mX p4 kZ3]) .ret) .skip)) (.seq (.reg [mX p46 t1,mX p47 t7,mI p48 (.ia 3 t46 t47),mI p49 (.lda 3 t48),mX p50 t8,mI p51 (.call p28 [t49,t50]),mX p45 t51,mI p52 (.ex t45 0),mI p53 (.ex t45 1),.loc p9 zT,.mk none none (.st 2 t9 t52),mX p10 t53]) (.seq (.drw [dI [p0] p54 (.mv t0),dI [p1] p55 (.mv t1),.mk true [p55] [p56] false (mI p56 (.call p18 [t55])),dI [p7] p57 (.mv t7),dI [p7] p58 (.mv t7),dI [p58] p59 (.bin .add t58 kZ1),.mk true [p56,p57,p59] [p60] false (mI p60 (.call p30 [t56,t57,t59])),dI [p8] p61 (.mv t8),dI [p9] p62 (.vla 2 t9),.mk true [p54,p60,p61,p62] [p63] false (mI p63 (.call p29 [t54,t60,t61,t62])),dI [p63] p4 (.mv t63)]) .ret))) .skip)) (.seq (.reg [mX p64 t1,mI p65 (.call p31 [t64]),mX p1 t65]) (.seq (.seq (.reg [mX p66 t1,mI p67 (.len t66),mI p68 (.bin .gt t67 (.c (.int .i64 (.ofNat 240))))]) (.cond t68 (.seq (.reg [mX p4 kZ3]) .ret) .skip)) (.seq (.reg [mX p70 t1,mI p71 (.call p32 [t70]),mX p69 t71,mI p72 (.ex t69 0),mI p73 (.ex t69 1),mX p11 t72,mX p12 t73]) (.seq (.seq (.reg [mX p74 t12,mI p75 (.bin .lt t74 kZ0)]) (.cond t75 (.seq (.reg [mX p76 t0,mX p77 t1,mX p78 t11,mI p79 (.call p33 [t76,t77,t78]),mX p4 t79]) .ret) .skip)) (.seq (.seq (.reg [mX p80 t0,mX p81 t1,mX p82 t12,mI p83 (.call p34 [t81,t82]),mI p84 (.mx t83 [kZ1]),mI p85 (.call p27 [t80,t84]),mI p86 (.not t85)]) (.cond t86 (.seq (.reg [mX p4 kZ3]) .ret) .skip)) (.seq (.reg [mX p88 t1,mX p89 t12,mI p90 (.call p35 [t88,t89]),mX p87 t90,mI p91 (.ex t87 0),mI p92 (.ex t87 1),mX p13 t91,mX p6 t92]) (.seq (.seq (.reg [mX p93 t6,mI p94 (.bin .ne t93 kZ0)]) (.cond t94 (.seq (.reg [mI p4 (.mv (.c (.int .i64 (.ofNat 4))))]) .ret) .skip)) (.seq (.reg [mX p95 t0,mX p96 t13,mI p97 (.call p17 [t95,t96]),mX p5 t97]) (.seq (.seq (.reg [mX p98 t5,mI p99 (.bin .eq t98 kZ2)]) (.cond t99 (.seq (.reg [mX p101 t1,mX p102 t12,mX p103 t0,mI p104 (.nc t103),mI p105 (.fa 1 t104),mI p106 (.ld t105),mI p107 (.call p36 [t101,t102,t106]),mX p100 t107,mI p108 (.ex t100 0),mI p109 (.ex t100 1),mI p110 (.ex t100 2),mX p14 t108,mX p15 t109,mX p16 t110]) (.drw [dI [p0] p112 (.mv t0),dI [p112] p113 (.nc t112),dI [p113] p114 (.fa 1 t113),dI [p114] p115 (.ld t114),dI [p12] p116 (.mv t12),dI [p14] p117 (.mv t14),dI [p15] p118 (.mv t15),dI [p117,p118] p119 (.call p37 [t117,t118]),dI [p119] p111 (.mv t119),dI [p111] p120 (.ex t111 0),dI [p111] p121 (.ex t111 1),dI [p115,p116] p122 (.ia 1 t115 t116),.mk true [p122,p120] [] false (.mk none none (.st 1 t122 t120))])) .skip)) (.seq (.reg [mX p123 t5,mX p4 t123]) .ret))))))))))))))) [.t p4]
def ls17:List Nat:=[9]
def f20:Fd:=.mk [p0,p1] (.seq (.reg [.locb p2 t0,.locb p3 t1,mX p4 kF]) (.seq (.seq (.reg [mI p6 (.fa 0 t2),mI p7 (.ld t6),mI p8 (.fa 0 t3),mI p9 (.ld t8),mI p10 (.bin .ne t7 t9),mX p11 t10,mG p12 p11 false (.fa 1 t2),mG p13 p11 false (.ld t12),mG p14 p11 false (.len t13),mG p15 p11 false (.fa 1 t3),mG p16 p11 false (.ld t15),mG p17 p11 false (.len t16),mG p18 p11 false (.bin .ne t14 t17),mI p19 (.pick t11 kT t18)]) (.cond t19 (.seq (.reg [mX p4 kF]) .ret) .skip)) (.seq (.seq (.reg [mX p5 kZ0]) (.block 0 (.loop [p2,p3,p5] (.seq (.seq (.reg [mX p20 t5,mI p21 (.fa 1 t2),mI p22 (.ld t21),mI p23 (.len t22),mI p24 (.bin .lt t20 t23)]) (.cond t24 .skip (.exit 0))) (.seq (.block 1 (.seq (.drw [dI [p2] p27 (.fa 1 t2),dI [p2,p27] p28 (.ld t27),dI [p5] p29 (.mv t5),dI [p28,p29] p30 (.ia 2 t28 t29),dI [p30] p31 (.lda 2 t30),dI [p3] p32 (.fa 1 t3),dI [p3,p32] p33 (.ld t32),dI [p5] p34 (.mv t5),dI [p33,p34] p35 (.ia 2 t33 t34),dI [p35] p36 (.lda 2 t35),dI [p31,p36] p37 (.aeq [false,false] true t31 t36)]) (.cond t37 (.seq (.reg [mX p4 kF]) .ret) .skip))) (.reg [mX p25 t5,mI p26 (.bin .add t25 kZ1),mX p5 t26])))))) (.seq (.reg [mX p4 kT]) .ret)))) [.t p4]
def ls20:List Nat:=[2,3]
def f21:Fd:=.mk [p0] (.seq (.reg [mX p2 kF]) (.seq (.seq (.reg [mX p3 kZ0]) (.block 0 (.loop [p0,p3] (.seq (.seq (.reg [mX p4 t3,mX p5 t0,mI p6 (.len t5),mI p7 (.bin .lt t4 t6)]) (.cond t7 .skip (.exit 0))) (.seq (.block 1 (.seq (.reg [mX p10 t0,mX p11 t3,mI p12 (.ia 3 t10 t11),mI p13 (.fa 0 t12),mI p14 (.lda 2 t13),mI p15 (.call p38 [t14]),mI p16 (.not t15)]) (.cond t16 (.seq (.reg [mX p2 kF]) .ret) .skip))) (.reg [mX p8 t3,mI p9 (.bin .add t8 kZ1),mX p3 t9])))))) (.seq (.reg [mX p2 kT]) .ret))) [.t p2]
def ls21:List Nat:=[]
def f22:Fd:=.mk [p0,p1] (.seq (.reg [mX p4 kZ0,mX p5 kN]) (.seq (.reg [mX p15 t1,mI p16 (.call p39 [t15]),mX p14 t16,mI p17 (.ex t14 0),mI p18 (.ex t14 1),mX p1 t17,mX p6 t18]) (.seq (.seq (.reg [mX p19 t6,mI p20 (.bin .eq t19 kZ1)]) (.cond t20 (.seq (.reg [mX p4 kZ1,mX p5 kN]) .ret) .skip)) (.seq (.seq (.reg [mX p21 t6,mI p22 (.bin .eq t21 kZ2)]) (.cond t22 (.seq (.drw [dI [p0] p23 (.mv t0),dI [p23] p24 (.nc t23),dI [p24] p25 (.fa 0 t24),dI [p25] p26 (.ld t25),dI [p26] p27 (.msl 1 8 [nZ] t26 t26),dI [] p4 (.mv kZ2),dI [p27] p5 (.mv t27)]) .ret) .skip)) (.seq (.seq (.reg [mX p28 t1,mI p29 (.len t28),mI p30 (.bin .gt t29 (.c (.int .i64 (.ofNat 240))))]) (.cond t30 (.seq (.reg [mX p4 kZ3,mX p5 kN]) .ret) .skip)) (.seq (.seq (.reg [mX p32 t1,mI p33 (.call p40 [t32]),mX p31 t33,mI p34 (.ex t31 0),mI p35 (.ex t31 1),mX p7 t34,mX p8 t35]) (.seq (.reg [mX p36 t7,mI p37 (.bin .ge t36 kZ0)]) (.cond t37 (.seq (.reg [mX p38 t0,mX p39 t1,mX p40 t7,mX p41 t8,mI p42 (.call p41 [t38,t39,t40,t41]),mI p43 (.ex t42 0),mI p44 (.ex t42 1),mX p4 t43,mX p5 t44]) .ret) .skip))) (.seq (.reg [mX p9 kN]) (.seq (.seq (.reg [mX p10 kZ0]) (.block 0 (.loop [p0,p1,p9,p10] (.seq (.seq (.reg [mX p45 t10,mX p46 t1,mI p47 (.len t46),mI p48 (.bin .lt t45 t47)]) (.cond t48 .skip (.exit 0))) (.seq (.block 1 (.seq (.reg [mX p51 t9,mX p52 t1,mX p53 t10,mI p54 (.ia 3 t52 t53),mI p55 (.fa 0 t54),mI p56 (.lda 2 t55),mI p57 (.bld zC [(0,2,t56)]),mI p58 (.bsl 1 3 zC [(0,3,t57)]),mI p59 (.app 3 40 t51 t58),mX p9 t59]) (.seq (.reg [mX p60 t1,mX p61 t10,mI p62 (.ia 3 t60 t61),mI p63 (.fa 2 t62),mI p64 (.ld t63)]) (.cond t64 (.seq (.reg [mX p66 t1,mX p67 t10,mI p68 (.ia 3 t66 t67),mI p69 (.fa 0 t68),mI p70 (.lda 2 t69),mI p71 (.call p42 [t70,(.c (.int .i64 (.negSucc 0)))]),mX p65 t71,mI p72 (.ex t65 0),mI p73 (.ex t65 1),.loc p11 zT,.mk none none (.st 2 t11 t72),mX p12 t73]) (.reg [mX p74 t9,mI p75 (.lda 2 t11),mI p76 (.bld zC [(0,2,t75)]),mI p77 (.bsl 1 3 zC [(0,3,t76)]),mI p78 (.app 3 40 t74 t77),mX p9 t78])) .skip)))) (.reg [mX p49 t10,mI p50 (.bin .add t49 kZ1),mX p10 t50])))))) (.seq (.seq (.reg [mX p79 t9,mI p80 (.len t79),mI p81 (.bin .gt t80 (.c (.int .i64 (.ofNat 240))))]) (.cond t81 (.seq (.reg [mX p4 kZ3,mX p5 kN]) .ret) .skip)) (.seq (.seq (.reg [mX p13 kZ0]) (.block 2 (.loop [p0,p9,p13] (.seq (.seq (.reg [mX p82 t13,mX p83 t0,mI p84 (.nc t83),mI p85 (.fa 0 t84),mI p86 (.ld t85),mI p87 (.bin .lt t82 t86)]) (.cond t87 .skip (.exit 2))) (.seq (.block 3 (.seq (.reg [mX p90 t9,mX p91 t13,mI p92 (.call p43 [t90,t91]),mX p93 t92,mG p94 p93 true (.mv t9),mG p95 p93 true (.mv t13),mG p96 p93 true (.call p44 [t94,t95]),mI p97 (.pick t93 t96 kF)]) (.cond t97 (.seq (.reg [mX p98 t0,mX p99 t9,mX p100 t13,mI p101 (.call p45 [t98,t99,t100]),mI p102 (.ex t101 0),mI p103 (.ex t101 1),mX p4 t102,mX p5 t103]) .ret) .skip))) (.reg [mX p88 t13,mI p89 (.bin .add t88 kZ1),mX p13 t89])))))) (.seq (.reg [mX p104 t0,mX p105 t9,mI p106 (.call p46 [t104,t105]),mI p107 (.ex t106 0),mI p108 (.ex t106 1),mX p4 t107,mX p5 t108]) .ret))))))))))) [.t p4,.t p5]
def ls22:List Nat:=[11]
def f23:Fd:=.mk [p0] (.seq (.reg [.locb p1 t0,mX p2 kF]) (.seq (.reg [mI p3 (.fa 1 t1),mI p4 (.ld t3),mI p5 (.len t4),mI p6 (.bin .gt t5 (.c (.int .i64 (.ofNat 60)))),mX p2 t6]) .ret)) [.t p2]
def ls23:List Nat:=[1]
def f24:Fd:=.mk [p0,p1] (.seq (.reg [mX p4 kF]) (.seq (.reg [mX p5 t0,mX p6 t1,mI p7 (.neg t6),mI p8 (.bin .ge t5 t7),mX p9 t8,mG p10 p9 true (.mv t0),mG p11 p9 true (.mv t1),mG p12 p9 true (.bin .le t10 t11),mI p13 (.pick t9 t12 kF),mX p4 t13]) .ret)) [.t p4]
def ls24:List Nat:=[]
def f25:Fd:=.mk [p0] (.seq (.reg [mX p2 kN,mX p3 kZ0,mX p4 kZ0]) (.seq (.reg [mX p5 kF]) (.seq (.seq (.reg [mX p11 t0,mI p12 (.len t11),mX p13 kZ0]) (.block 0 (.loop [p2,p5,p11,p12,p13] (.seq (.reg [mI p14 (.bin .lt t13 t12)]) (.seq (.cond t14 .skip (.exit 0)) (.seq (.block 1 (.seq (.reg [mI p15 (.ia 3 t11 t13),mI p16 (.lda 3 t15),.loc p7 zC,.mk none none (.st 3 t7 t16)]) (.seq (.reg [mI p18 (.lda 3 t7),mI p19 (.call p47 [t18]),mX p17 t19,mI p20 (.ex t17 0),mI p21 (.ex t17 1),mI p22 (.ex t17 2),mI p8 (.al zC),.mk none none (.st 3 t8 t20),mX p9 t21,mX p10 t22]) (.seq (.seq (.reg [mX p23 t10,mI p24 (.bin .ne t23 kZ0)]) (.cond t24 (.seq (.reg [mX p25 t10,mX p2 kN,mX p3 kZ0,mX p4 t25]) .ret) .skip)) (.seq (.reg [mX p26 t5,mX p27 t26,mG p28 p27 false (.mv t9),mG p29 p27 false (.bin .eq t28 kZ1),mI p30 (.pick t27 kT t29),mX p5 t30]) (.seq (.reg [mX p31 t9,mI p32 (.bin .eq t31 kZ0),mX p33 t32,mG p34 p33 true (.mv t2),mG p35 p33 true (.mfn p49 [t8]),mG p36 p33 true (.call p48 [t34,t35]),mG p37 p33 true (.not t36),mI p38 (.pick t33 t37 kF)]) (.cond t38 (.reg [mX p39 t2,mI p40 (.lda 3 t8),mI p41 (.bsl 1 3 zC [(0,3,t40)]),mI p42 (.app 3 40 t39 t41),mX p2 t42]) .skip))))))) (.reg [mI p43 (.bin .add t13 kZ1),mX p13 t43]))))))) (.seq (.block 2 (.seq (.reg [mX p45 t5,mX p44 t45]) (.cond t44 (.seq (.reg [mX p2 kN,mX p3 kZ1,mX p4 kZ0]) .ret) (.seq (.reg [mX p47 t2,mI p48 (.len t47),mI p49 (.bin .eq t48 kZ0),mX p46 t49]) (.cond t46 (.seq (.reg [mX p2 kN,mX p3 kZ2,mX p4 kZ0]) .ret) .skip))))) (.seq (.reg [mX p50 t2,mX p2 t50,mX p3 kZ0,mX p4 kZ0]) .ret))))) [.t p2,.t p3,.t p4]
def ls25:List Nat:=[7]
def f26:Fd:=.mk [p0] (.seq (.reg [mX p2 kZ0,mX p3 kZ0,mX p4 kZ0]) (.seq (.seq (.reg [mX p9 t0,mI p10 (.call p51 [t9,kZ0]),mI p11 (.not t10)]) (.cond t11 (.seq (.reg [mX p2 kZ0,mX p3 kZ0,mX p4 kZ1]) .ret) .skip)) (.seq (.seq (.reg [mX p12 t0,mI p13 (.len t12),mX p14 kZ0]) (.block 0 (.loop [p12,p13,p14] (.seq (.reg [mI p15 (.bin .lt t14 t13)]) (.seq (.cond t15 .skip (.exit 0)) (.seq (.block 1 (.seq (.reg [mX p16 t14,mI p17 (.ia 3 t12 t14),mI p18 (.lda 3 t17),.loc p6 zC,mX p5 t16,.mk none none (.st 3 t6 t18)]) (.seq (.reg [mI p19 (.fa 0 t6),mI p20 (.fa 1 t19),mI p21 (.ld t20),mI p22 (.len t21),mX p23 kZ0]) (.block 2 (.loop [p5,p6,p12,p13,p14,p21,p22,p23] (.seq (.reg [mI p24 (.bin .lt t23 t22)]) (.seq (.cond t24 .skip (.exit 2)) (.seq (.block 3 (.seq (.reg [mI p25 (.ia 2 t21 t23),mI p26 (.lda 2 t25),.loc p8 zM,.mk none none (.st 2 t8 t26)]) (.seq (.reg [mI p27 (.fa 2 t6),mI p28 (.ld t27),mX p29 t28,mG p30 p29 true (.fa 1 t8),mG p31 p29 true (.ld t30),mG p32 p29 true (.call p52 [t31]),mI p33 (.pick t29 t32 kF)]) (.cond t33 (.seq (.drw [dI [p5] p34 (.mv t5),dI [p8] p35 (.fa 0 t8),dI [p8,p35] p36 (.ld t35),dI [p34] p2 (.mv t34),dI [p36] p3 (.mv t36),dI [] p4 (.mv kZ0)]) .ret) .skip)))) (.reg [mI p37 (.bin .add t23 kZ1),mX p23 t37]))))))))) (.reg [mI p38 (.bin .add t14 kZ1),mX p14 t38]))))))) (.seq (.reg [mX p2 kZ0,mX p3 kZ0,mI p4 (.mv (.c (.int .i64 (.ofNat 5))))]) .ret)))) [.t p2,.t p3,.t p4]
def ls26:List Nat:=[6,8]
def f27:Fd:=.mk [p0,p1] (.seq (.reg [mX p4 kF]) (.seq (.seq (.reg [mX p5 t1,mX p6 t0,mI p7 (.nc t6),mI p8 (.fa 0 t7),mI p9 (.ld t8),mI p10 (.bin .gt t5 t9)]) (.cond t10 (.seq (.reg [mX p4 kF]) .ret) .skip)) (.seq (.reg [mX p11 t0,mI p12 (.nc t11),mI p13 (.fa 0 t12),mI p14 (.ld t13),mX p15 t1,mI p16 (.bin .sub t14 t15),mI p17 (.nc t11),mI p18 (.fa 0 t17),.mk none none (.st 1 t18 t16)]) (.seq (.reg [mX p4 kT]) .ret)))) [.t p4]
def ls27:List Nat:=[]
def f28:Fd:=.mk [p0,p1] (.seq (.reg [.locb p2 t0,.loc p4 zT,mX p5 kZ0]) (.seq (.reg [mI p9 (.fa 0 t2),mI p10 (.lda 2 t9),mX p11 t1,mI p12 (.call p53 [t10,t11]),mX p6 t12]) (.seq (.block 0 (.seq (.reg [mI p14 (.lda 3 t2),mI p15 (.bsl 1 3 zC [(0,3,t14)]),mX p16 t1,mI p17 (.call p51 [t15,t16]),mI p18 (.not t17),mX p13 t18]) (.cond t13 (.seq (.reg [mI p19 (.bld zT []),.mk none none (.st 2 t4 t19),mX p5 kZ1]) .ret) (.seq (.reg [mI p21 (.fa 2 t2),mI p22 (.ld t21),mI p23 (.not t22),mX p24 t23,mG p25 p24 false (.mv t6),mG p26 p24 false (.call p52 [t25]),mG p27 p24 false (.not t26),mI p28 (.pick t24 kT t27),mX p20 t28]) (.cond t20 (.seq (.reg [mI p29 (.bld zT []),.mk none none (.st 2 t4 t29),mI p5 (.mv (.c (.int .i64 (.ofNat 11))))]) .ret) .skip))))) (.seq (.reg [mI p31 (.fa 0 t2),mI p32 (.lda 2 t31),mX p33 t1,mI p34 (.bld zT []),mI p35 (.call p54 [t32,t33,t34]),mX p30 t35,mI p36 (.ex t30 0),mI p37 (.ex t30 1),.loc p7 zT,.mk none none (.st 2 t7 t36),mX p8 t37]) (.seq (.reg [mI p38 (.lda 2 t7),mX p39 t6,mI p40 (.neg t39),mI p41 (.call p55 [t38,t40]),mI p42 (.ex t41 0),mI p43 (.ex t41 1),.mk none none (.st 2 t4 t42),mX p5 t43]) .ret))))) [.cell p4 (some 2),.t p5]
def ls28:List Nat:=[2,4,7]
def f30:Fd:=.prim 1
def f29:Fd:=.mk [p0,p1,p2,p3] (.seq (.reg [.locb p7 t3,mX p8 kZ0]) (.seq (.reg [mX p13 t1,mX p14 t2,mI p15 (.lda 2 t7),mI p16 (.call p56 [t13,t14,t15]),mX p12 t16,mI p17 (.ex t12 0),mI p18 (.ex t12 1),mX p9 t17,mX p10 t18]) (.seq (.seq (.reg [mX p19 t10,mI p20 (.bin .ne t19 kZ0)]) (.cond t20 (.seq (.reg [mI p8 (.mv (.c (.int .i64 (.ofNat 4))))]) .ret) .skip)) (.seq (.reg [mX p21 t0,mX p22 t9,mI p23 (.call p17 [t21,t22]),mX p11 t23]) (.seq (.seq (.reg [mX p24 t11,mI p25 (.bin .eq t24 kZ2)]) (.cond t25 (.drw [dI [p0] p27 (.mv t0),dI [p27] p28 (.nc t27),dI [p28] p29 (.fa 1 t28),dI [p29] p30 (.ld t29),dI [p2] p31 (.mv t2),dI [p7] p32 (.vla 2 t7),dI [p0] p33 (.mv t0),dI [p33] p34 (.nc t33),dI [p34] p35 (.fa 1 t34),dI [p35] p36 (.ld t35),dI [p32,p36] p37 (.call p57 [t32,t36]),dI [p37] p26 (.mv t37),dI [p26] p38 (.ex t26 0),dI [p26] p39 (.ex t26 1),dI [p30,p31] p40 (.ia 1 t30 t31),.mk true [p40,p38] [] false (.mk none none (.st 1 t40 t38))]) .skip)) (.seq (.reg [mX p41 t11,mX p8 t41]) .ret)))))) [.t p8]
def ls29:List Nat:=[7]
def f31:Fd:=.mk [p0] (.seq (.reg [mX p2 kN]) (.seq (.reg [mX p3 kN]) (.seq (.seq (.reg [mX p8 t0,mI p9 (.len t8),mX p10 kZ0]) (.block 0 (.loop [p3,p8,p9,p10] (.seq (.reg [mI p11 (.bin .lt t10 t9)]) (.seq (.cond t11 .skip (.exit 0)) (.seq (.block 1 (.seq (.reg [mI p12 (.ia 3 t8 t10),mI p13 (.lda 3 t12),.loc p5 zC,.mk none none (.st 3 t5 t13)]) (.seq (.reg [mX p14 t3,mI p15 (.fa 0 t5),mI p16 (.lda 2 t15),mI p17 (.bld zC [(0,2,t16)]),mI p18 (.bsl 1 3 zC [(0,3,t17)]),mI p19 (.app 3 40 t14 t18),mX p3 t19]) (.seq (.reg [mI p20 (.fa 2 t5),mI p21 (.ld t20)]) (.cond t21 (.seq (.reg [mI p23 (.fa 0 t5),mI p24 (.lda 2 t23),mI p25 (.call p55 [t24,(.c (.int .i64 (.negSucc 0)))]),mX p22 t25,mI p26 (.ex t22 0),mI p27 (.ex t22 1),.loc p6 zT,.mk none none (.st 2 t6 t26),mX p7 t27]) (.reg [mX p28 t3,mI p29 (.lda 2 t6),mI p30 (.bld zC [(0,2,t29)]),mI p31 (.bsl 1 3 zC [(0,3,t30)]),mI p32 (.app 3 40 t28 t31),mX p3 t32])) .skip))))) (.reg [mI p33 (.bin .add t10 kZ1),mX p10 t33]))))))) (.seq (.reg [mX p34 t3,mX p2 t34]) .ret)))) [.t p2]
def ls31:List Nat:=[5,6]
def f32:Fd:=.mk [p0] (.seq (.reg [mI p1 (.bx t0),mX p2 kZ0,mX p3 kZ0]) (.seq (.reg [mX p4 kN]) (.seq (.seq (.reg [mI p10 (.ld t1),mI p11 (.len t10),mX p12 kZ0]) (.block 0 (.loop [p1,p4,p10,p11,p12] (.seq (.reg [mI p13 (.bin .lt t12 t11)]) (.seq (.cond t13 .skip (.exit 0)) (.seq (.block 1 (.seq (.reg [mI p14 (.ia 3 t10 t12),mI p15 (.lda 3 t14),.loc p6 zC,.mk none none (.st 3 t6 t15)]) (.seq (.reg [mI p16 (.fa 0 t6),mI p17 (.fa 1 t16),mI p18 (.ld t17),mI p19 (.len t18),mX p20 kZ0]) (.block 2 (.loop [p1,p4,p10,p11,p12,p18,p19,p20] (.seq (.reg [mI p21 (.bin .lt t20 t19)]) (.seq (.cond t21 .skip (.exit 2)) (.seq (.block 3 (.seq (.reg [mI p22 (.ia 2 t18 t20),mI p23 (.lda 2 t22),.loc p8 zM,.mk none none (.st 2 t8 t23)]) (.reg [mX p24 t4,mI p25 (.fa 0 t8),mI p26 (.ld t25),mI p27 (.bsl 1 1 [nZ] [(0,1,t26)]),mI p28 (.app 1 8 t24 t27),mX p4 t28]))) (.reg [mI p29 (.bin .add t20 kZ1),mX p20 t29]))))))))) (.reg [mI p30 (.bin .add t12 kZ1),mX p12 t30]))))))) (.seq (.reg [mX p31 t4,mI p32 (.call p58 [t31])]) (.seq (.reg [mX p33 t4,mI p34 (.call p59 [t33]),mX p4 t34]) (.seq (.reg [mX p35 t4,mI p36 (.mfn p61 [t1]),mI p37 (.call p60 [t35,t36]),mX p9 t37]) (.seq (.seq (.reg [mX p38 t9,mI p39 (.bin .lt t38 kZ0)]) (.cond t39 (.seq (.reg [mX p40 t4,mI p41 (.ia 1 t40 kZ0),mI p42 (.ld t41),mX p2 t42,mI p3 (.mv (.c (.int .i64 (.negSucc 0))))]) .ret) .skip)) (.seq (.drw [dI [p4] p43 (.mv t4),dI [p43] p44 (.ia 1 t43 kZ0),dI [p44] p45 (.ld t44),dI [p4] p46 (.mv t4),dI [p9] p47 (.mv t9),dI [p46,p47] p48 (.ia 1 t46 t47),dI [p48] p49 (.ld t48),dI [p45] p2 (.mv t45),dI [p49] p3 (.mv t49)]) .ret)))))))) [.t p2,.t p3]
def ls32:List Nat:=[6,8]
def f33:Fd:=.mk [p0,p1,p2] (.seq (.reg [mX p6 kZ0]) (.seq (.reg [mX p7 kN]) (.seq (.seq (.reg [mX p17 t1,mI p18 (.len t17),mX p19 kZ0]) (.block 0 (.loop [p0,p1,p2,p7,p17,p18,p19] (.seq (.reg [mI p20 (.bin .lt t19 t18)]) (.seq (.cond t20 .skip (.exit 0)) (.seq (.block 1 (.seq (.reg [mI p21 (.ia 3 t17 t19),mI p22 (.lda 3 t21),.loc p9 zC,.mk none none (.st 3 t9 t22)]) (.seq (.reg [mI p23 (.fa 0 t9),mI p24 (.fa 1 t23),mI p25 (.ld t24),mI p26 (.len t25),mI p27 (.bin .eq t26 kZ1),mX p28 t27,mG p29 p28 true (.fa 0 t9),mG p30 p28 true (.fa 1 t29),mG p31 p28 true (.ld t30),mG p32 p28 true (.ia 2 t31 kZ0),mG p33 p28 true (.fa 0 t32),mG p34 p28 true (.ld t33),mG p35 p28 true (.mv t2),mG p36 p28 true (.bin .eq t34 t35),mI p37 (.pick t28 t36 kF)]) (.cond t37 (.reg [mX p38 t7,mI p39 (.lda 3 t9),mI p40 (.bsl 1 3 zC [(0,3,t39)]),mI p41 (.app 3 40 t38 t40),mX p7 t41]) .skip)))) (.reg [mI p42 (.bin .add t19 kZ1),mX p19 t42]))))))) (.seq (.reg [mX p44 t7,mX p45 t2,mI p46 (.call p36 [t44,t45,kN]),mX p43 t46,mI p47 (.ex t43 0),mI p48 (.ex t43 1),mI p49 (.ex t43 2),mX p10 t47,mX p11 t48,mX p12 t49]) (.seq (.block 2 (.seq (.reg [mX p51 t10,mX p52 t11,mI p53 (.bin .gt t51 t52),mX p50 t53]) (.cond t50 (.seq (.reg [mX p6 kZ1]) .ret) (.seq (.reg [mX p55 t0,mI p56 (.call p27 [t55,kZ1]),mI p57 (.not t56),mX p54 t57]) (.cond t54 (.seq (.reg [mX p6 kZ3]) .ret) (.seq (.reg [mX p59 t10,mX p60 t11,mI p61 (.bin .eq t59 t60),mX p58 t61]) (.cond t58 (.seq (.reg [mX p62 t0,mX p63 t1,mX p64 t2,mX p65 t10,mI p66 (.bld zT [(0,1,t65)]),mI p67 (.call p29 [t62,t63,t64,t66]),mX p6 t67]) .ret) .skip))))))) (.seq (.reg [mX p68 t10,mX p69 t11,mI p70 (.bin .add t68 t69),mI p71 (.shr t70 (.c (.int .u64 (.ofNat 1)))),mX p13 t71]) (.seq (.reg [mX p72 t13,mI p73 (.neg t72),mX p74 t2,mI p75 (.bld zM [(0,1,t74),(1,1,kZ1)]),mI p76 (.bsl 1 2 zM [(0,2,t75)]),mI p77 (.bld zT [(0,1,t73),(1,1,t76)]),mI p78 (.bld zC [(0,2,t77)]),.loc p14 zC,.mk none none (.st 3 t14 t78)]) (.seq (.reg [mX p79 t13,mI p80 (.bin .add t79 kZ1),mX p81 t2,mI p82 (.bld zM [(0,1,t81),(1,1,(.c (.int .i64 (.negSucc 0))))]),mI p83 (.bsl 1 2 zM [(0,2,t82)]),mI p84 (.bld zT [(0,1,t80),(1,1,t83)]),mI p85 (.bld zC [(0,2,t84)]),.loc p15 zC,.mk none none (.st 3 t15 t85)]) (.seq (.drw [dI [p0] p86 (.mv t0),dI [p1] p87 (.mv t1),dI [p87] p88 (.call p18 [t87]),dI [p14] p89 (.vla 3 t14),dI [p89] p90 (.bsl 1 3 zC [(0,3,t89)]),.mk true [p88,p90] [p91] false (mI p91 (.app 3 40 t88 t90)),.mk true [p86,p91] [p92] false (mI p92 (.call p17 [t86,t91])),dI [p92] p16 (.mv t92)]) (.seq (.seq (.reg [mX p93 t16,mI p94 (.bin .eq t93 kZ1)]) (.cond t94 (.drw [dI [p0] p95 (.mv t0),dI [p1] p96 (.mv t1),dI [p96] p97 (.call p18 [t96]),dI [p15] p98 (.vla 3 t15),dI [p98] p99 (.bsl 1 3 zC [(0,3,t98)]),.mk true [p97,p99] [p100] false (mI p100 (.app 3 40 t97 t99)),.mk true [p95,p100] [p101] false (mI p101 (.call p17 [t95,t100])),dI [p101] p16 (.mv t101)]) .skip)) (.seq (.reg [mX p102 t16,mX p6 t102]) .ret))))))))))) [.t p6]
def ls33:List Nat:=[9,14,15]
def f34:Fd:=.mk [p0,p1] (.seq (.reg [mX p4 kZ0]) (.seq (.reg [mX p9 t0,mX p10 t1,mI p11 (.call p63 [t9,t10]),mX p8 t11,mI p12 (.ex t8 0),mI p13 (.ex t8 1),mI p14 (.ex t8 2),mX p5 t12,mX p6 t13,mX p7 t14]) (.seq (.reg [mX p15 t5,mI p16 (.len t15),mX p17 t6,mI p18 (.len t17),mI p19 (.bin .mul t16 t18),mX p4 t19]) .ret))) [.t p4]
def ls34:List Nat:=[]
def f35:Fd:=.mk [p0,p1] (.seq (.reg [mX p4 kN,mX p5 kZ0]) (.seq (.reg [mX p19 t0,mX p20 t1,mI p21 (.call p64 [t19,t20]),mX p6 t21]) (.seq (.seq (.reg [mX p22 t6,mI p23 (.bin .ne t22 kZ0)]) (.cond t23 (.seq (.reg [mX p24 t6,mX p4 kN,mX p5 t24]) .ret) .skip)) (.seq (.reg [mX p26 t0,mX p27 t1,mI p28 (.call p63 [t26,t27]),mX p25 t28,mI p29 (.ex t25 0),mI p30 (.ex t25 1),mI p31 (.ex t25 2),mX p7 t29,mX p8 t30,mX p9 t31]) (.seq (.reg [mX p10 kN]) (.seq (.seq (.reg [mX p32 t9,mI p33 (.len t32),mX p34 kZ0]) (.block 0 (.loop [p1,p7,p8,p10,p32,p33,p34] (.seq (.reg [mI p35 (.bin .lt t34 t33)]) (.seq (.cond t35 .skip (.exit 0)) (.seq (.block 1 (.seq (.reg [mI p36 (.ia 3 t32 t34),mI p37 (.lda 3 t36),.loc p12 zC,.mk none none (.st 3 t12 t37)]) (.reg [mX p38 t10,mI p39 (.lda 3 t12),mI p40 (.call p65 [t39]),mI p41 (.bsl 1 3 zC [(0,3,t40)]),mI p42 (.app 3 40 t38 t41),mX p10 t42]))) (.reg [mI p43 (.bin .add t34 kZ1),mX p34 t43]))))))) (.seq (.seq (.reg [mX p44 t7,mI p45 (.len t44),mX p46 kZ0]) (.block 2 (.loop [p1,p8,p10,p44,p45,p46] (.seq (.reg [mI p47 (.bin .lt t46 t45)]) (.seq (.cond t47 .skip (.exit 2)) (.seq (.block 3 (.seq (.reg [mI p48 (.ia 3 t44 t46),mI p49 (.lda 3 t48),.loc p14 zC,.mk none none (.st 3 t14 t49)]) (.seq (.reg [mX p50 t8,mI p51 (.len t50),mX p52 kZ0]) (.block 4 (.loop [p1,p8,p10,p14,p44,p45,p46,p50,p51,p52] (.seq (.reg [mI p53 (.bin .lt t52 t51)]) (.seq (.cond t53 .skip (.exit 4)) (.seq (.block 5 (.seq (.reg [mI p54 (.ia 3 t50 t52),mI p55 (.lda 3 t54),.loc p16 zC,.mk none none (.st 3 t16 t55)]) (.seq (.reg [mI p57 (.lda 3 t14),mI p58 (.lda 3 t16),mX p59 t1,mI p60 (.call p66 [t57,t58,t59]),mX p56 t60,mI p61 (.ex t56 0),mI p62 (.ex t56 1),.loc p17 zC,.mk none none (.st 3 t17 t61),mX p18 t62]) (.seq (.seq (.reg [mX p63 t18,mI p64 (.bin .ne t63 kZ0)]) (.cond t64 (.seq (.reg [mX p65 t18,mX p4 kN,mX p5 t65]) .ret) .skip)) (.reg [mX p66 t10,mI p67 (.lda 3 t17),mI p68 (.bsl 1 3 zC [(0,3,t67)]),mI p69 (.app 3 40 t66 t68),mX p10 t69]))))) (.reg [mI p70 (.bin .add t52 kZ1),mX p52 t70]))))))))) (.reg [mI p71 (.bin .add t46 kZ1),mX p46 t71]))))))) (.seq (.reg [mX p72 t10,mX p4 t72,mX p5 kZ0]) .ret)))))))) [.t p4,.t p5]
def ls35:List Nat:=[12,14,16,17]
def f36:Fd:=.mk [p0,p1,p2] (.seq (.reg [mI p4 (.bx t1),mI p5 (.bx t2),mX p6 kZ0,mX p7 kZ0,mX p8 kZ0]) (.seq (.reg [mX p20 t0,mI p21 (.ld t4),mI p22 (.call p64 [t20,t21]),mX p8 t22]) (.seq (.seq (.reg [mX p23 t8,mI p24 (.bin .ne t23 kZ0)]) (.cond t24 (.seq (.reg [mX p25 t8,mX p6 kZ0,mX p7 kZ0,mX p8 t25]) .ret) .skip)) (.seq (.reg [mX p27 t0,mI p28 (.ld t4),mI p29 (.call p63 [t27,t28]),mX p26 t29,mI p30 (.ex t26 0),mI p31 (.ex t26 1),mI p32 (.ex t26 2),mX p9 t30,mX p10 t31,mX p11 t32]) (.seq (.reg [mI p6 (.mv (.c (.int .i64 (.negSucc 2147483647)))),mI p7 (.mv (.c (.int .i64 (.ofNat 2147483647))))]) (.seq (.seq (.reg [mX p33 t9,mX p34 t10,mI p35 (.bsl 2 1 [.nils,.nils] [(0,1,t33),(1,1,t34)]),mI p36 (.call p67 [t35]),mI p37 (.len t36),mX p38 kZ0]) (.block 0 (.loop [p4,p5,p6,p7,p9,p10,p36,p37,p38] (.seq (.reg [mI p39 (.bin .lt t38 t37)]) (.seq (.cond t39 .skip (.exit 0)) (.seq (.block 1 (.seq (.reg [mI p40 (.ia 3 t36 t38),mI p41 (.lda 3 t40),.loc p13 zC,.mk none none (.st 3 t13 t41)]) (.seq (.reg [mI p42 (.fa 0 t13),mI p43 (.fa 1 t42),mI p44 (.ld t43),mI p45 (.mfn p69 [t4,t5]),mI p46 (.call p68 [t44,t45])]) (.cond t46 (.seq (.reg [mX p6 kZ0,mX p7 kZ0,mI p8 (.mv (.c (.int .i64 (.ofNat 5))))]) .ret) .skip)))) (.reg [mI p47 (.bin .add t38 kZ1),mX p38 t47]))))))) (.seq (.seq (.reg [mI p48 (.ld t5),mI p49 (.call p70 [t48,(.c (.fn p71 []))])]) (.cond t49 (.seq (.reg [mX p6 kZ0,mX p7 kZ0,mX p8 kZ1]) .ret) .skip)) (.seq (.seq (.reg [mX p50 t9,mX p51 t10,mI p52 (.bsl 2 1 [.nils,.nils] [(0,1,t50),(1,1,t51)]),mI p53 (.call p67 [t52]),mI p54 (.len t53),mX p55 kZ0]) (.block 2 (.loop [p4,p5,p6,p7,p53,p54,p55] (.seq (.reg [mI p56 (.bin .lt t55 t54)]) (.seq (.cond t56 .skip (.exit 2)) (.seq (.block 3 (.seq (.reg [mI p57 (.ia 3 t53 t55),mI p58 (.lda 3 t57),.loc p15 zC,.mk none none (.st 3 t15 t58)]) (.seq (.reg [mI p59 (.fa 0 t15),mI p60 (.fa 0 t59),mI p61 (.ld t60),mX p16 t61]) (.seq (.seq (.reg [mI p62 (.fa 0 t15),mI p63 (.fa 1 t62),mI p64 (.ld t63),mI p65 (.len t64),mX p66 kZ0]) (.block 4 (.loop [p4,p5,p6,p7,p15,p16,p53,p54,p55,p64,p65,p66] (.seq (.reg [mI p67 (.bin .lt t66 t65)]) (.seq (.cond t67 .skip (.exit 4)) (.seq (.block 5 (.seq (.reg [mI p68 (.ia 2 t64 t66),mI p69 (.lda 2 t68),.loc p18 zM,.mk none none (.st 2 t18 t69)]) (.seq (.reg [mI p70 (.fa 0 t18),mI p71 (.ld t70),mI p72 (.ld t4),mI p73 (.bin .ne t71 t72)]) (.cond t73 (.drw [dI [p16] p74 (.mv t16),dI [p18] p75 (.fa 1 t18),dI [p18,p75] p76 (.ld t75),dI [p5] p77 (.ld t5),dI [p18] p78 (.fa 0 t18),dI [p18,p78] p79 (.ld t78),dI [p77,p79] p80 (.ia 1 t77 t79),dI [p80] p81 (.ld t80),dI [p76,p81] p82 (.bin .mul t76 t81),dI [p74,p82] p83 (.bin .add t74 t82),dI [p83] p16 (.mv t83)]) .skip)))) (.reg [mI p84 (.bin .add t66 kZ1),mX p66 t84]))))))) (.seq (.reg [mI p85 (.fa 0 t15),mI p86 (.lda 2 t85),mI p87 (.ld t4),mI p88 (.call p53 [t86,t87]),mX p19 t88]) (.seq (.reg [mX p89 t19,mI p90 (.bin .lt t89 kZ0)]) (.cond t90 (.reg [mX p91 t6,mX p92 t16,mI p93 (.neg t92),mX p94 t19,mI p95 (.neg t94),mI p96 (.call p72 [t93,t95]),mI p97 (.neg t96),mI p98 (.mx t91 [t97]),mX p6 t98]) (.reg [mX p99 t7,mX p100 t16,mI p101 (.neg t100),mX p102 t19,mI p103 (.call p72 [t101,t102]),mI p104 (.mn t99 [t103]),mX p7 t104])))))))) (.reg [mI p105 (.bin .add t55 kZ1),mX p55 t105]))))))) (.seq (.reg [mX p106 t6,mI p107 (.mn t106 [(.c (.int .i64 (.ofNat 2147483647)))]),mX p108 t7,mI p109 (.mx t108 [(.c (.int .i64 (.negSucc 2147483647)))]),mX p6 t107,mX p7 t109,mX p8 kZ0]) .ret))))))))) [.t p6,.t p7,.t p8]
def ls36:List Nat:=[13,15,18]
def f37:Fd:=.mk [p0,p1] (.seq (.reg [mX p4 kZ0,mX p5 kF]) (.seq (.seq (.reg [mX p6 t0,mX p7 t1,mI p8 (.bin .gt t6 t7)]) (.cond t8 (.seq (.reg [mX p4 kZ0,mX p5 kF]) .ret) .skip)) (.seq (.reg [mX p9 t0,mI p10 (.mx kZ0 [t9]),mX p11 t1,mI p12 (.mn t10 [t11]),mX p4 t12,mX p5 kT]) .ret))) [.t p4,.t p5]
def ls37:List Nat:=[]
def f38:Fd:=.mk [p0] (.seq (.reg [.locb p1 t0,mX p2 kF]) (.seq (.seq (.reg [mI p5 (.fa 0 t1),mI p6 (.ld t5),mI p7 (.call p73 [t6,(.c (.int .i64 (.negSucc 1099511627775))),(.c (.int .i64 (.ofNat 1099511627776)))]),mI p8 (.not t7),mX p9 t8,mG p10 p9 false (.fa 1 t1),mG p11 p9 false (.ld t10),mG p12 p9 false (.len t11),mG p13 p9 false (.bin .gt t12 (.c (.int .i64 (.ofNat 40)))),mI p14 (.pick t9 kT t13)]) (.cond t14 (.seq (.reg [mX p2 kF]) .ret) .skip)) (.seq (.seq (.reg [mX p3 kZ0]) (.block 0 (.loop [p1,p3] (.seq (.seq (.reg [mX p15 t3,mI p16 (.fa 1 t1),mI p17 (.ld t16),mI p18 (.len t17),mI p19 (.bin .lt t15 t18)]) (.cond t19 .skip (.exit 0))) (.seq (.block 1 (.seq (.reg [mI p22 (.fa 1 t1),mI p23 (.ld t22),mX p24 t3,mI p25 (.ia 2 t23 t24),mI p26 (.lda 2 t25),.loc p4 zM,.mk none none (.st 2 t4 t26)]) (.seq (.drw [dI [p4] p27 (.fa 0 t4),dI [p4,p27] p28 (.ld t27),.mk true [p28] [p29] false (mI p29 (.call p73 [t28,kZ0,(.c (.int .i64 (.ofNat 39)))])),dI [p29] p30 (.not t29),dI [p30] p31 (.mv t30),dG [p3,p31] p32 p31 false (.mv t3),dG [p32,p31] p33 p31 false (.bin .gt t32 kZ0),dG [p33,p31] p34 p31 false (.mv t33),dG [p4,p34] p35 p34 true (.fa 0 t4),dG [p4,p35,p34] p36 p34 true (.ld t35),dG [p1,p34] p37 p34 true (.fa 1 t1),dG [p1,p37,p34] p38 p34 true (.ld t37),dG [p3,p34] p39 p34 true (.mv t3),dG [p39,p34] p40 p34 true (.bin .sub t39 kZ1),dG [p38,p40,p34] p41 p34 true (.ia 2 t38 t40),dG [p41,p34] p42 p34 true (.fa 0 t41),dG [p42,p34] p43 p34 true (.ld t42),dG [p36,p43,p34] p44 p34 true (.bin .le t36 t43),dG [p34,p44,p31] p45 p31 false (.pick t34 t44 kF),dI [p31,p45] p46 (.pick t31 kT t45),dI [p46] p47 (.mv t46),dG [p4,p47] p48 p47 false (.fa 1 t4),dG [p4,p48,p47] p49 p47 false (.ld t48),.mk true [p49,p47] [p50] false (mG p50 p47 false (.call p73 [t49,(.c (.int .i64 (.negSucc 1048575))),(.c (.int .i64 (.ofNat 1048576)))])),dG [p50,p47] p51 p47 false (.not t50),dI [p47,p51] p52 (.pick t47 kT t51),dI [p52] p53 (.mv t52),dG [p4,p53] p54 p53 false (.fa 1 t4),dG [p4,p54,p53] p55 p53 false (.ld t54),dG [p55,p53] p56 p53 false (.bin .eq t55 kZ0),dI [p53,p56] p57 (.pick t53 kT t56)]) (.cond t57 (.seq (.reg [mX p2 kF]) .ret) .skip)))) (.reg [mX p20 t3,mI p21 (.bin .add t20 kZ1),mX p3 t21])))))) (.seq (.reg [mX p2 kT]) .ret)))) [.t p2]
def ls38:List Nat:=[1,4]
def f39:Fd:=.mk [p0] (.seq (.reg [mX p2 kN,mX p3 kZ0]) (.seq (.reg [mX p4 kN]) (.seq (.seq (.reg [mX p5 kZ0]) (.block 0 (.loop [p0,p4,p5] (.seq (.seq (.reg [mX p8 t5,mX p9 t0,mI p10 (.len t9),mI p11 (.bin .lt t8 t10)]) (.cond t11 .skip (.exit 0))) (.seq (.block 1 (.seq (.reg [mX p15 t0,mX p16 t5,mI p17 (.ia 3 t15 t16),mI p18 (.lda 3 t17),mI p19 (.call p74 [t18]),mX p14 t19,mI p20 (.ex t14 0),mI p21 (.ex t14 1),.loc p6 zC,.mk none none (.st 3 t6 t20),mX p7 t21]) (.seq (.seq (.reg [mX p22 t7,mI p23 (.bin .eq t22 kZ1)]) (.cond t23 (.seq (.reg [mX p2 kN,mX p3 kZ1]) .ret) .skip)) (.seq (.seq (.reg [mX p24 t7,mI p25 (.bin .eq t24 kZ2),mX p26 t25,mG p27 p26 false (.mv t4),mG p28 p26 false (.lda 3 t6),mG p29 p26 false (.call p75 [t27,t28]),mI p30 (.pick t26 kT t29)]) (.cond t30 (.exit 1) .skip)) (.reg [mX p31 t4,mI p32 (.lda 3 t6),mI p33 (.bsl 1 3 zC [(0,3,t32)]),mI p34 (.app 3 40 t31 t33),mX p4 t34]))))) (.reg [mX p12 t5,mI p13 (.bin .add t12 kZ1),mX p5 t13])))))) (.seq (.seq (.reg [mX p35 t4,mI p36 (.len t35),mI p37 (.bin .eq t36 kZ0)]) (.cond t37 (.seq (.reg [mX p2 kN,mX p3 kZ2]) .ret) .skip)) (.seq (.reg [mX p38 t4,mX p2 t38,mX p3 kZ0]) .ret))))) [.t p2,.t p3]
def ls39:List Nat:=[6]
def f40:Fd:=.mk [p0] (.seq (.reg [mX p2 kZ0,mX p3 kZ0]) (.seq (.seq (.reg [mX p4 kZ0]) (.block 0 (.loop [p0,p4] (.seq (.seq (.reg [mX p6 t4,mX p7 t0,mI p8 (.len t7),mI p9 (.bin .lt t6 t8)]) (.cond t9 .skip (.exit 0))) (.seq (.block 1 (.seq (.reg [mX p5 kZ0]) (.block 2 (.loop [p0,p4,p5] (.seq (.seq (.reg [mX p12 t0,mX p13 t4,mI p14 (.ia 3 t12 t13),mI p15 (.fa 2 t14),mI p16 (.ld t15),mX p17 t16,mG p18 p17 true (.mv t5),mG p19 p17 true (.mv t0),mG p20 p17 true (.mv t4),mG p21 p17 true (.ia 3 t19 t20),mG p22 p17 true (.fa 0 t21),mG p23 p17 true (.fa 1 t22),mG p24 p17 true (.ld t23),mG p25 p17 true (.len t24),mG p26 p17 true (.bin .lt t18 t25),mI p27 (.pick t17 t26 kF)]) (.cond t27 .skip (.exit 2))) (.seq (.block 3 (.seq (.reg [mX p30 t0,mX p31 t4,mI p32 (.ia 3 t30 t31),mI p33 (.fa 0 t32),mI p34 (.fa 1 t33),mI p35 (.ld t34),mX p36 t5,mI p37 (.ia 2 t35 t36),mI p38 (.fa 1 t37),mI p39 (.ld t38),mI p40 (.call p76 [t39]),mI p41 (.bin .eq t40 kZ1)]) (.cond t41 (.seq (.drw [dI [p4] p42 (.mv t4),dI [p0] p43 (.mv t0),dI [p4] p44 (.mv t4),dI [p43,p44] p45 (.ia 3 t43 t44),dI [p45] p46 (.fa 0 t45),dI [p46] p47 (.fa 1 t46),dI [p47] p48 (.ld t47),dI [p5] p49 (.mv t5),dI [p48,p49] p50 (.ia 2 t48 t49),dI [p50] p51 (.fa 0 t50),dI [p51] p52 (.ld t51),dI [p42] p2 (.mv t42),dI [p52] p3 (.mv t52)]) .ret) .skip))) (.reg [mX p28 t5,mI p29 (.bin .add t28 kZ1),mX p5 t29]))))))) (.reg [mX p10 t4,mI p11 (.bin .add t10 kZ1),mX p4 t11])))))) (.seq (.reg [mI p2 (.mv (.c (.int .i64 (.negSucc 0)))),mX p3 kZ0]) .ret))) [.t p2,.t p3]
def ls40:List Nat:=[]
def f41:Fd:=.mk [p0,p1,p2,p3] (.seq (.reg [mX p8 kZ0,mX p9 kN]) (.seq (.seq (.reg [mX p16 t0,mI p17 (.call p77 [t16,kZ1]),mI p18 (.not t17)]) (.cond t18 (.seq (.reg [mX p8 kZ3,mX p9 kN]) .ret) .skip)) (.seq (.reg [mX p19 t1,mX p20 t2,mI p21 (.ia 3 t19 t20),mI p22 (.lda 3 t21),mX p23 t3,mI p24 (.call p78 [t22,t23]),.loc p10 zT,.mk none none (.st 2 t10 t24)]) (.seq (.reg [mX p11 kN]) (.seq (.drw [dI [p11] p25 (.mv t11),dI [p1] p26 (.mv t1),dI [p2] p27 (.mv t2),dI [p26,p27] p28 (.sla 3 t26 none (some t27) none),.mk true [p25,p28] [p29] false (mI p29 (.app 3 40 t25 t28)),dI [p1] p30 (.mv t1),dI [p2] p31 (.mv t2),dI [p31] p32 (.bin .add t31 kZ1),dI [p30,p32] p33 (.sla 3 t30 (some t32) none none),.mk true [p29,p33] [p34] false (mI p34 (.app 3 40 t29 t33)),dI [p34] p11 (.mv t34)]) (.seq (.reg [mX p36 t11,mX p37 t3,mI p38 (.lda 2 t10),mI p39 (.call p79 [t36,t37,t38]),mX p35 t39,mI p40 (.ex t35 0),mI p41 (.ex t35 1),mX p12 t40,mX p13 t41]) (.seq (.seq (.reg [mX p42 t13,mI p43 (.not t42)]) (.cond t43 (.seq (.reg [mI p8 (.mv (.c (.int .i64 (.ofNat 4)))),mX p9 kN]) .ret) .skip)) (.seq (.reg [mX p45 t0,mX p46 t12,mI p47 (.call p22 [t45,t46]),mX p44 t47,mI p48 (.ex t44 0),mI p49 (.ex t44 1),mX p14 t48,mX p15 t49]) (.seq (.seq (.reg [mX p50 t14,mI p51 (.bin .eq t50 kZ2)]) (.cond t51 (.reg [mX p52 t15,mX p53 t3,mI p54 (.lda 2 t10),mX p55 t15,mI p56 (.call p80 [t54,t55]),mI p57 (.ia 1 t52 t53),.mk none none (.st 1 t57 t56)]) .skip)) (.seq (.reg [mX p58 t14,mX p59 t15,mX p8 t58,mX p9 t59]) .ret)))))))))) [.t p8,.t p9]
def ls41:List Nat:=[10]
def f42:Fd:=.mk [p0,p1] (.seq (.reg [.locb p2 t0,.loc p4 zT,mX p5 kF]) (.seq (.seq (.reg [mX p8 t1,mI p9 (.bin .eq t8 kZ0)]) (.cond t9 (.seq (.reg [mI p10 (.bld zT []),.mk none none (.st 2 t4 t10),mX p5 kT]) .ret) .skip)) (.seq (.seq (.reg [mI p11 (.fa 0 t2),mI p12 (.ld t11),mX p13 t1,mI p14 (.call p81 [t12,t13,(.c (.int .i64 (.ofNat 1099511627776)))]),mI p15 (.not t14)]) (.cond t15 (.seq (.reg [mI p16 (.bld zT []),.mk none none (.st 2 t4 t16),mX p5 kF]) .ret) .skip)) (.seq (.reg [mI p17 (.fa 0 t2),mI p18 (.ld t17),mX p19 t1,mI p20 (.bin .mul t18 t19),mI p21 (.bld zT [(0,1,t20)]),.loc p6 zT,.mk none none (.st 2 t6 t21)]) (.seq (.seq (.reg [mX p7 kZ0]) (.block 0 (.loop [p1,p2,p4,p6,p7] (.seq (.seq (.reg [mX p22 t7,mI p23 (.fa 1 t2),mI p24 (.ld t23),mI p25 (.len t24),mI p26 (.bin .lt t22 t25)]) (.cond t26 .skip (.exit 0))) (.seq (.block 1 (.seq (.seq (.reg [mI p29 (.fa 1 t2),mI p30 (.ld t29),mX p31 t7,mI p32 (.ia 2 t30 t31),mI p33 (.fa 1 t32),mI p34 (.ld t33),mX p35 t1,mI p36 (.call p81 [t34,t35,(.c (.int .i64 (.ofNat 1048576)))]),mI p37 (.not t36)]) (.cond t37 (.seq (.reg [mI p38 (.bld zT []),.mk none none (.st 2 t4 t38),mX p5 kF]) .ret) .skip)) (.drw [dI [p6] p39 (.fa 1 t6),dI [p6,p39] p40 (.ld t39),dI [p2] p41 (.fa 1 t2),dI [p2,p41] p42 (.ld t41),dI [p7] p43 (.mv t7),dI [p42,p43] p44 (.ia 2 t42 t43),dI [p44] p45 (.fa 0 t44),dI [p45] p46 (.ld t45),dI [p2] p47 (.fa 1 t2),dI [p2,p47] p48 (.ld t47),dI [p7] p49 (.mv t7),dI [p48,p49] p50 (.ia 2 t48 t49),dI [p50] p51 (.fa 1 t50),dI [p51] p52 (.ld t51),dI [p1] p53 (.mv t1),dI [p52,p53] p54 (.bin .mul t52 t53),dI [p46,p54] p55 (.bld zM [(0,1,t46),(1,1,t54)]),dI [p55] p56 (.bsl 1 2 zM [(0,2,t55)]),.mk true [p40,p56] [p57] false (mI p57 (.app 2 16 t40 t56)),dI [p6] p58 (.fa 1 t6),.mk true [p6,p58,p57] [p6] true (.mk none none (.st 1 t58 t57))]))) (.reg [mX p27 t7,mI p28 (.bin .add t27 kZ1),mX p7 t28])))))) (.seq (.reg [mI p59 (.lda 2 t6),.mk none none (.st 2 t4 t59),mX p5 kT]) .ret)))))) [.cell p4 (some 2),.t p5]
def ls42:List Nat:=[2,4,6]
def f43:Fd:=.mk [p0,p1] (.seq (.reg [mX p4 kF]) (.seq (.seq (.reg [mX p5 kZ0]) (.block 0 (.loop [p0,p1,p5] (.seq (.seq (.reg [mX p6 t5,mX p7 t0,mI p8 (.len t7),mI p9 (.bin .lt t6 t8)]) (.cond t9 .skip (.exit 0))) (.seq (.block 1 (.seq (.reg [mX p12 t0,mX p13 t5,mI p14 (.ia 3 t12 t13),mI p15 (.fa 0 t14),mI p16 (.lda 2 t15),mX p17 t1,mI p18 (.call p82 [t16,t17]),mI p19 (.bin .ne t18 kZ0)]) (.cond t19 (.seq (.reg [mX p4 kT]) .ret) .skip))) (.reg [mX p10 t5,mI p11 (.bin .add t10 kZ1),mX p5 t11])))))) (.seq (.reg [mX p4 kF]) .ret))) [.t p4]
def ls43:List Nat:=[]
def f44:Fd:=.mk [p0,p1] (.seq (.reg [mX p4 kF]) (.seq (.reg [mX p5 kT,mX p6 kT]) (.seq (.seq (.reg [mX p7 kZ0]) (.block 0 (.loop [p0,p1,p5,p6,p7] (.seq (.seq (.reg [mX p9 t7,mX p10 t0,mI p11 (.len t10),mI p12 (.bin .lt t9 t11)]) (.cond t12 .skip (.exit 0))) (.seq (.block 1 (.seq (.reg [mX p15 t0,mX p16 t7,mI p17 (.ia 3 t15 t16),mI p18 (.fa 0 t17),mI p19 (.lda 2 t18),mX p20 t1,mI p21 (.call p82 [t19,t20]),mX p8 t21]) (.reg [mX p22 t5,mX p23 t22,mG p24 p23 true (.mv t8),mG p25 p23 true (.bin .ge t24 kZ0),mG p26 p23 true (.mv t25),mG p27 p26 false (.mv t8),mG p28 p26 false (.bin .eq t27 (.c (.int .i64 (.negSucc 0)))),mG p29 p23 true (.pick t26 kT t28),mI p30 (.pick t23 t29 kF),mX p31 t6,mX p32 t31,mG p33 p32 true (.mv t8),mG p34 p32 true (.bin .le t33 kZ0),mG p35 p32 true (.mv t34),mG p36 p35 false (.mv t8),mG p37 p35 false (.bin .eq t36 kZ1),mG p38 p32 true (.pick t35 kT t37),mI p39 (.pick t32 t38 kF),mX p5 t30,mX p6 t39]))) (.reg [mX p13 t7,mI p14 (.bin .add t13 kZ1),mX p7 t14])))))) (.seq (.reg [mX p40 t5,mX p41 t40,mG p42 p41 false (.mv t6),mI p43 (.pick t41 kT t42),mX p4 t43]) .ret)))) [.t p4]
def ls44:List Nat:=[]
def f45:Fd:=.mk [p0,p1,p2] (.seq (.reg [mX p6 kZ0,mX p7 kN]) (.seq (.reg [mX p8 kZ0,mX p9 kZ0]) (.seq (.seq (.reg [mX p10 kZ0]) (.block 0 (.loop [p0,p1,p2,p8,p9,p10] (.seq (.seq (.reg [mX p15 t10,mX p16 t1,mI p17 (.len t16),mI p18 (.bin .lt t15 t17)]) (.cond t18 .skip (.exit 0))) (.seq (.block 1 (.seq (.reg [mX p21 t1,mX p22 t10,mI p23 (.ia 3 t21 t22),mI p24 (.fa 0 t23),mI p25 (.lda 2 t24),mX p26 t2,mI p27 (.call p82 [t25,t26]),mI p28 (.bin .lt t27 kZ0)]) (.cond t28 (.reg [mX p29 t8,mI p30 (.bin .add t29 kZ1),mX p8 t30]) (.seq (.reg [mX p31 t1,mX p32 t10,mI p33 (.ia 3 t31 t32),mI p34 (.fa 0 t33),mI p35 (.lda 2 t34),mX p36 t2,mI p37 (.call p82 [t35,t36]),mI p38 (.bin .gt t37 kZ0)]) (.cond t38 (.reg [mX p39 t9,mI p40 (.bin .add t39 kZ1),mX p9 t40]) .skip))))) (.reg [mX p19 t10,mI p20 (.bin .add t19 kZ1),mX p10 t20])))))) (.seq (.seq (.reg [mX p41 t0,mX p42 t8,mX p43 t9,mI p44 (.bin .mul t42 t43),mI p45 (.mx t44 [kZ1]),mI p46 (.call p77 [t41,t45]),mI p47 (.not t46)]) (.cond t47 (.seq (.reg [mX p6 kZ3,mX p7 kN]) .ret) .skip)) (.seq (.reg [mX p49 t1,mX p50 t2,mI p51 (.call p83 [t49,t50]),mX p48 t51,mI p52 (.ex t48 0),mI p53 (.ex t48 1),mX p11 t52,mX p12 t53]) (.seq (.seq (.reg [mX p54 t12,mI p55 (.not t54)]) (.cond t55 (.seq (.reg [mI p6 (.mv (.c (.int .i64 (.ofNat 4)))),mX p7 kN]) .ret) .skip)) (.seq (.reg [mX p57 t0,mX p58 t11,mI p59 (.call p22 [t57,t58]),mX p56 t59,mI p60 (.ex t56 0),mI p61 (.ex t56 1),mX p13 t60,mX p14 t61]) (.seq (.seq (.reg [mX p62 t13,mI p63 (.bin .eq t62 kZ2)]) (.cond t63 (.reg [mX p65 t14,mX p66 t2,mX p67 t1,mX p68 t2,mX p69 t14,mI p70 (.call p85 [t67,t68,t69]),mI p71 (.ex t70 0),mI p72 (.ex t70 1),mI p73 (.call p84 [t71,t72]),mX p64 t73,mI p74 (.ex t64 0),mI p75 (.ex t64 1),mI p76 (.ia 1 t65 t66),.mk none none (.st 1 t76 t74)]) .skip)) (.seq (.reg [mX p77 t13,mX p78 t14,mX p6 t77,mX p7 t78]) .ret))))))))) [.t p6,.t p7]
def ls45:List Nat:=[]
def f46:Fd:=.mk [p0,p1] (.seq (.reg [mX p4 kZ0,mX p5 kN]) (.seq (.reg [mX p6 kZ0]) (.seq (.block 0 (.loop [p0,p1,p6] (.seq (.seq (.reg [mX p18 t1,mX p19 t6,mI p20 (.call p43 [t18,t19]),mI p21 (.not t20)]) (.cond t21 .skip (.exit 0))) (.block 1 (.reg [mX p22 t6,mI p23 (.bin .add t22 kZ1),mX p6 t23]))))) (.seq (.reg [mX p7 kN]) (.seq (.seq (.reg [mX p8 kZ0]) (.block 2 (.loop [p0,p1,p6,p7,p8] (.seq (.seq (.reg [mX p24 t8,mX p25 t1,mI p26 (.len t25),mI p27 (.bin .lt t24 t26)]) (.cond t27 .skip (.exit 2))) (.seq (.block 3 (.seq (.reg [mX p30 t1,mX p31 t8,mI p32 (.ia 3 t30 t31),mI p33 (.fa 0 t32),mI p34 (.fa 1 t33),mI p35 (.ld t34),mI p36 (.len t35),mI p37 (.bin .eq t36 kZ1),mX p38 t37,mG p39 p38 true (.mv t1),mG p40 p38 true (.mv t8),mG p41 p38 true (.ia 3 t39 t40),mG p42 p38 true (.fa 0 t41),mG p43 p38 true (.fa 1 t42),mG p44 p38 true (.ld t43),mG p45 p38 true (.ia 2 t44 kZ0),mG p46 p38 true (.fa 0 t45),mG p47 p38 true (.ld t46),mG p48 p38 true (.mv t6),mG p49 p38 true (.bin .eq t47 t48),mI p50 (.pick t38 t49 kF)]) (.cond t50 (.reg [mX p51 t7,mX p52 t1,mX p53 t8,mI p54 (.ia 3 t52 t53),mI p55 (.lda 3 t54),mI p56 (.bsl 1 3 zC [(0,3,t55)]),mI p57 (.app 3 40 t51 t56),mX p7 t57]) .skip))) (.reg [mX p28 t8,mI p29 (.bin .add t28 kZ1),mX p8 t29])))))) (.seq (.reg [mX p59 t7,mX p60 t6,mI p61 (.call p85 [t59,t60,kN]),mX p58 t61,mI p62 (.ex t58 0),mI p63 (.ex t58 1),mX p9 t62,mX p10 t63]) (.seq (.seq (.reg [mX p64 t9,mX p65 t10,mI p66 (.bin .gt t64 t65)]) (.cond t66 (.seq (.reg [mX p4 kZ1,mX p5 kN]) .ret) .skip)) (.seq (.seq (.reg [mX p67 t0,mI p68 (.call p77 [t67,kZ1]),mI p69 (.not t68)]) (.cond t69 (.seq (.reg [mX p4 kZ3,mX p5 kN]) .ret) .skip)) (.seq (.seq (.reg [mX p70 t9,mX p71 t10,mI p72 (.bin .eq t70 t71)]) (.cond t72 (.seq (.reg [mX p74 t1,mX p75 t6,mX p76 t9,mI p77 (.call p86 [t76]),mI p78 (.call p79 [t74,t75,t77]),mX p73 t78,mI p79 (.ex t73 0),mI p80 (.ex t73 1),mX p11 t79,mX p12 t80]) (.seq (.seq (.reg [mX p81 t12,mI p82 (.not t81)]) (.cond t82 (.seq (.reg [mI p4 (.mv (.c (.int .i64 (.ofNat 4)))),mX p5 kN]) .ret) .skip)) (.seq (.reg [mX p84 t0,mX p85 t11,mI p86 (.call p22 [t84,t85]),mX p83 t86,mI p87 (.ex t83 0),mI p88 (.ex t83 1),mX p13 t87,mX p14 t88]) (.seq (.seq (.reg [mX p89 t13,mI p90 (.bin .eq t89 kZ2)]) (.cond t90 (.reg [mX p91 t14,mX p92 t6,mX p93 t9,mI p94 (.ia 1 t91 t92),.mk none none (.st 1 t94 t93)]) .skip)) (.seq (.reg [mX p95 t13,mX p96 t14,mX p4 t95,mX p5 t96]) .ret))))) .skip)) (.seq (.reg [mX p97 t9,mX p98 t10,mI p99 (.bin .add t97 t98),mI p100 (.call p87 [t99,kZ2]),mX p15 t100]) (.seq (.reg [mX p102 t0,mX p103 t1,mI p104 (.call p5 [t103]),mX p105 t15,mI p106 (.bin .sub kZ0 t105),mX p107 t6,mI p108 (.bld zM [(0,1,t107),(1,1,kZ1)]),mI p109 (.bsl 1 2 zM [(0,2,t108)]),mI p110 (.bld zT [(0,1,t106),(1,1,t109)]),mI p111 (.bld zC [(0,2,t110)]),mI p112 (.bsl 1 3 zC [(0,3,t111)]),mI p113 (.app 3 40 t104 t112),mI p114 (.call p22 [t102,t113]),mX p101 t114,mI p115 (.ex t101 0),mI p116 (.ex t101 1),mX p16 t115,mX p17 t116]) (.seq (.seq (.reg [mX p117 t16,mI p118 (.bin .ne t117 kZ1)]) (.cond t118 (.seq (.reg [mX p119 t16,mX p120 t17,mX p4 t119,mX p5 t120]) .ret) .skip)) (.seq (.reg [mX p121 t0,mX p122 t1,mI p123 (.call p5 [t122]),mX p124 t15,mI p125 (.bin .add t124 kZ1),mX p126 t6,mI p127 (.bld zM [(0,1,t126),(1,1,(.c (.int .i64 (.negSucc 0))))]),mI p128 (.bsl 1 2 zM [(0,2,t127)]),mI p129 (.bld zT [(0,1,t125),(1,1,t128)]),mI p130 (.bld zC [(0,2,t129)]),mI p131 (.bsl 1 3 zC [(0,3,t130)]),mI p132 (.app 3 40 t123 t131),mI p133 (.call p22 [t121,t132]),mI p134 (.ex t133 0),mI p135 (.ex t133 1),mX p4 t134,mX p5 t135]) .ret))))))))))))) [.t p4,.t p5]
def ls46:List Nat:=[]
def f47:Fd:=.mk [p0] (.seq (.reg [.locb p1 t0,.loc p2 zC,mX p3 kZ0,mX p4 kZ0]) (.seq (.reg [mI p11 (.fa 0 t1),mI p12 (.lda 2 t11),mI p13 (.call p16 [t12]),mX p4 t13]) (.seq (.block 0 (.seq (.reg [mX p15 t4,mI p16 (.bin .ne t15 kZ0),mX p14 t16]) (.cond t14 (.seq (.reg [mI p17 (.bld zC []),mX p18 t4,.mk none none (.st 3 t2 t17),mX p3 kZ0,mX p4 t18]) .ret) (.seq (.reg [mI p20 (.fa 0 t1),mI p21 (.fa 1 t20),mI p22 (.ld t21),mI p23 (.len t22),mI p24 (.bin .eq t23 kZ0),mX p19 t24]) (.cond t19 (.seq (.reg [mI p25 (.bld zC []),mI p26 (.lda 3 t1),mI p27 (.call p88 [t26]),.mk none none (.st 3 t2 t25),mX p3 t27,mX p4 kZ0]) .ret) .skip))))) (.seq (.reg [mX p5 kZ0]) (.seq (.seq (.reg [mI p28 (.fa 0 t1),mI p29 (.fa 1 t28),mI p30 (.ld t29),mI p31 (.len t30),mX p32 kZ0]) (.block 1 (.loop [p1,p2,p5,p30,p31,p32] (.seq (.reg [mI p33 (.bin .lt t32 t31)]) (.seq (.cond t33 .skip (.exit 1)) (.seq (.block 2 (.seq (.reg [mI p34 (.ia 2 t30 t32),mI p35 (.lda 2 t34),.loc p7 zM,.mk none none (.st 2 t7 t35)]) (.reg [mX p36 t5,mI p37 (.fa 1 t7),mI p38 (.ld t37),mI p39 (.call p89 [t36,t38]),mX p5 t39]))) (.reg [mI p40 (.bin .add t32 kZ1),mX p32 t40]))))))) (.seq (.seq (.reg [mI p41 (.fa 2 t1),mI p42 (.ld t41),mX p43 t42,mG p44 p43 true (.fa 0 t1),mG p45 p43 true (.fa 0 t44),mG p46 p43 true (.ld t45),mG p47 p43 true (.mv t5),mG p48 p43 true (.bin .rem t46 t47),mG p49 p43 true (.bin .ne t48 kZ0),mI p50 (.pick t43 t49 kF)]) (.cond t50 (.seq (.reg [mI p51 (.bld zC []),.mk none none (.st 3 t2 t51),mX p3 kZ1,mX p4 kZ0]) .ret) .skip)) (.seq (.reg [mX p8 kZ1]) (.seq (.seq (.reg [mI p52 (.fa 2 t1),mI p53 (.ld t52),mX p54 t53,mG p55 p54 true (.fa 0 t1),mG p56 p54 true (.fa 1 t55),mG p57 p54 true (.ld t56),mG p58 p54 true (.ia 2 t57 kZ0),mG p59 p54 true (.fa 1 t58),mG p60 p54 true (.ld t59),mG p61 p54 true (.bin .lt t60 kZ0),mI p62 (.pick t54 t61 kF)]) (.cond t62 (.reg [mI p8 (.mv (.c (.int .i64 (.negSucc 0))))]) .skip)) (.seq (.drw [dI [p8] p63 (.mv t8),dI [p1] p64 (.fa 0 t1),dI [p1,p64] p65 (.fa 0 t64),dI [p1,p65] p66 (.ld t65),dI [p5] p67 (.mv t5),dI [p66,p67] p68 (.call p90 [t66,t67]),dI [p63,p68] p69 (.bin .mul t63 t68),dI [p69] p70 (.bld zT [(0,1,t69)]),dI [p1] p71 (.fa 2 t1),dI [p1,p71] p72 (.ld t71),dI [p70,p72] p73 (.bld zC [(0,2,t70),(2,1,t72)]),.mk true [p2,p73] [p2] true (.mk none none (.st 3 t2 t73))]) (.seq (.seq (.reg [mI p74 (.fa 0 t1),mI p75 (.fa 1 t74),mI p76 (.ld t75),mI p77 (.len t76),mX p78 kZ0]) (.block 3 (.loop [p2,p5,p8,p76,p77,p78] (.seq (.reg [mI p79 (.bin .lt t78 t77)]) (.seq (.cond t79 .skip (.exit 3)) (.seq (.block 4 (.seq (.reg [mI p80 (.ia 2 t76 t78),mI p81 (.lda 2 t80),.loc p10 zM,.mk none none (.st 2 t10 t81)]) (.drw [dI [p2] p82 (.fa 0 t2),dI [p2,p82] p83 (.fa 1 t82),dI [p2,p83] p84 (.ld t83),dI [p10] p85 (.fa 0 t10),dI [p10,p85] p86 (.ld t85),dI [p8] p87 (.mv t8),dI [p10] p88 (.fa 1 t10),dI [p10,p88] p89 (.ld t88),dI [p87,p89] p90 (.bin .mul t87 t89),dI [p5] p91 (.mv t5),dI [p90,p91] p92 (.bin .quo t90 t91),dI [p86,p92] p93 (.bld zM [(0,1,t86),(1,1,t92)]),dI [p93] p94 (.bsl 1 2 zM [(0,2,t93)]),.mk true [p84,p94] [p95] false (mI p95 (.app 2 16 t84 t94)),dI [p2] p96 (.fa 0 t2),dI [p2,p96] p97 (.fa 1 t96),.mk true [p2,p97,p95] [p2] true (.mk none none (.st 1 t97 t95))]))) (.reg [mI p98 (.bin .add t78 kZ1),mX p78 t98]))))))) (.seq (.reg [mI p99 (.lda 3 t2),.mk none none (.st 3 t2 t99),mX p3 kZ0,mX p4 kZ0]) .ret))))))))))) [.cell p2 (some 3),.t p3,.t p4]
def ls47:List Nat:=[1,2,7,10]
def f49:Fd:=.mk [p0,p1] (.seq (.reg [.locb p2 t0,mX p3 kF]) (.seq (.reg [mI p4 (.fa 2 t2),mI p5 (.ld t4),mI p6 (.fa 2 t1),mI p7 (.ld t6),mI p8 (.beq false t5 t7),mX p9 t8,mG p10 p9 true (.fa 0 t2),mG p11 p9 true (.lda 2 t10),mG p12 p9 true (.fa 0 t1),mG p13 p9 true (.lda 2 t12),mG p14 p9 true (.call p50 [t11,t13]),mI p15 (.pick t9 t14 kF),mX p3 t15]) .ret)) [.t p3]
def ls49:List Nat:=[2]
def f48:Fd:=.mk [p0,p1] (.seq (.reg [mX p4 kF]) (.seq (.reg [mX p5 t0,mX p6 t1,mI p7 (.call p91 [t5,t6]),mI p8 (.bin .ge t7 kZ0),mX p4 t8]) .ret)) [.t p4]
def ls48:List Nat:=[]
def f51:Fd:=.mk [p0,p1] (.seq (.reg [mX p4 kF]) (.seq (.reg [mX p5 t1,mI p6 (.bin .ge t5 kZ0),mX p7 t6,mG p8 p7 true (.mv t1),mG p9 p7 true (.bin .lt t8 (.c (.int .i64 (.ofNat 40)))),mI p10 (.pick t7 t9 kF),mX p11 t10,mG p12 p11 true (.mv t0),mG p13 p11 true (.call p48 [t12,(.c (.fn p93 []))]),mG p14 p11 true (.not t13),mI p15 (.pick t11 t14 kF),mX p4 t15]) .ret)) [.t p4]
def ls51:List Nat:=[]
def f52:Fd:=.mk [p0] (.seq (.reg [mX p2 kF]) (.seq (.reg [mX p3 t0,mI p4 (.bin .eq t3 kZ1),mX p5 t4,mG p6 p5 false (.mv t0),mG p7 p5 false (.bin .eq t6 (.c (.int .i64 (.negSucc 0)))),mI p8 (.pick t5 kT t7),mX p2 t8]) .ret)) [.t p2]
def ls52:List Nat:=[]
def f53:Fd:=.mk [p0,p1] (.seq (.reg [.locb p2 t0,mX p4 kZ0]) (.seq (.seq (.reg [mI p7 (.fa 1 t2),mI p8 (.ld t7),mI p9 (.len t8),mX p10 kZ0]) (.block 0 (.loop [p1,p8,p9,p10] (.seq (.reg [mI p11 (.bin .lt t10 t9)]) (.seq (.cond t11 .skip (.exit 0)) (.seq (.block 1 (.seq (.reg [mI p12 (.ia 2 t8 t10),mI p13 (.lda 2 t12),.loc p6 zM,.mk none none (.st 2 t6 t13)]) (.seq (.reg [mI p14 (.fa 0 t6),mI p15 (.ld t14),mX p16 t1,mI p17 (.bin .eq t15 t16)]) (.cond t17 (.seq (.reg [mI p18 (.fa 1 t6),mI p19 (.ld t18),mX p4 t19]) .ret) .skip)))) (.reg [mI p20 (.bin .add t10 kZ1),mX p10 t20]))))))) (.seq (.reg [mX p4 kZ0]) .ret))) [.t p4]
def ls53:List Nat:=[2,6]
def f54:Fd:=.mk [p0,p1,p2] (.seq (.reg [.locb p3 t0,mI p4 (.bx t1),.locb p5 t2,.loc p6 zT,mX p7 kZ0]) (.seq (.seq (.reg [mI p11 (.lda 2 t3),mI p12 (.call p16 [t11]),mI p13 (.bin .ne t12 kZ0),mX p14 t13,mG p15 p14 false (.lda 2 t5),mG p16 p14 false (.call p16 [t15]),mG p17 p14 false (.bin .ne t16 kZ0),mI p18 (.pick t14 kT t17)]) (.cond t18 (.seq (.reg [mI p19 (.bld zT []),.mk none none (.st 2 t6 t19),mX p7 kZ1]) .ret) .skip)) (.seq (.drw [dI [p5] p21 (.vla 2 t5),dI [p3] p22 (.vla 2 t3),dI [p4] p23 (.ld t4),dI [p22,p23] p24 (.call p53 [t22,t23]),dI [p21,p24] p25 (.call p55 [t21,t24]),dI [p25] p20 (.mv t25),dI [p20] p26 (.ex t20 0),dI [p20] p27 (.ex t20 1),.mk true [p8] [p8] true (.loc p8 zT),.mk true [p8,p26] [p8] true (.mk none none (.st 2 t8 t26)),dI [p27] p9 (.mv t27)]) (.seq (.seq (.reg [mX p28 t9,mI p29 (.bin .ne t28 kZ0)]) (.cond t29 (.seq (.reg [mI p30 (.bld zT []),mX p31 t9,.mk none none (.st 2 t6 t30),mX p7 t31]) .ret) .skip)) (.seq (.reg [mI p32 (.lda 2 t3),mI p33 (.call p94 [t32]),.loc p10 zT,.mk none none (.st 2 t10 t33)]) (.seq (.reg [mI p34 (.fa 1 t10),mI p35 (.ld t34),mI p36 (.mfn p96 [t4]),mI p37 (.call p95 [t35,t36]),mI p38 (.fa 1 t10),.mk none none (.st 1 t38 t37)]) (.seq (.reg [mI p39 (.lda 2 t10),mI p40 (.lda 2 t8),mI p41 (.call p97 [t39,t40]),mI p42 (.ex t41 0),mI p43 (.ex t41 1),.mk none none (.st 2 t6 t42),mX p7 t43]) .ret))))))) [.cell p6 (some 2),.t p7]
def ls54:List Nat:=[3,5,6,8,10]
def f55:Fd:=.mk [p0,p1] (.seq (.reg [.locb p2 t0,.loc p4 zT,mX p5 kZ0]) (.seq (.seq (.reg [mI p13 (.lda 2 t2),mI p14 (.call p16 [t13]),mI p15 (.bin .ne t14 kZ0)]) (.cond t15 (.seq (.reg [mI p16 (.bld zT []),.mk none none (.st 2 t4 t16),mX p5 kZ1]) .ret) .skip)) (.seq (.reg [mI p18 (.fa 0 t2),mI p19 (.ld t18),mX p20 t1,mI p21 (.call p98 [t19,t20,(.c (.int .i64 (.ofNat 1099511627776)))]),mX p17 t21,mI p22 (.ex t17 0),mI p23 (.ex t17 1),mX p6 t22,mX p7 t23]) (.seq (.reg [mX p24 t6,mI p25 (.bld zT [(0,1,t24)]),.loc p8 zT,.mk none none (.st 2 t8 t25)]) (.seq (.seq (.reg [mI p26 (.fa 1 t2),mI p27 (.ld t26),mI p28 (.len t27),mX p29 kZ0]) (.block 0 (.loop [p1,p4,p7,p8,p27,p28,p29] (.seq (.reg [mI p30 (.bin .lt t29 t28)]) (.seq (.cond t30 .skip (.exit 0)) (.seq (.block 1 (.seq (.reg [mI p31 (.ia 2 t27 t29),mI p32 (.lda 2 t31),.loc p10 zM,.mk none none (.st 2 t10 t32)]) (.seq (.reg [mI p34 (.fa 1 t10),mI p35 (.ld t34),mX p36 t1,mI p37 (.call p98 [t35,t36,(.c (.int .i64 (.ofNat 1048576)))]),mX p33 t37,mI p38 (.ex t33 0),mI p39 (.ex t33 1),mX p11 t38,mX p12 t39]) (.seq (.reg [mX p40 t7,mX p41 t40,mG p42 p41 true (.mv t12),mI p43 (.pick t41 t42 kF),mX p7 t43]) (.seq (.reg [mX p44 t11,mI p45 (.bin .ne t44 kZ0)]) (.cond t45 (.reg [mI p46 (.fa 1 t8),mI p47 (.ld t46),mI p48 (.fa 0 t10),mI p49 (.ld t48),mX p50 t11,mI p51 (.bld zM [(0,1,t49),(1,1,t50)]),mI p52 (.bsl 1 2 zM [(0,2,t51)]),mI p53 (.app 2 16 t47 t52),mI p54 (.fa 1 t8),.mk none none (.st 1 t54 t53)]) .skip)))))) (.reg [mI p55 (.bin .add t29 kZ1),mX p29 t55]))))))) (.seq (.seq (.reg [mX p56 t7,mI p57 (.not t56)]) (.cond t57 (.seq (.reg [mI p58 (.bld zT []),.mk none none (.st 2 t4 t58),mI p5 (.mv (.c (.int .i64 (.ofNat 12))))]) .ret) .skip)) (.seq (.reg [mI p59 (.lda 2 t8),.mk none none (.st 2 t4 t59),mX p5 kZ0]) .ret))))))) [.cell p4 (some 2),.t p5]
def ls55:List Nat:=[2,4,8,10]
def f56:Fd:=.mk [p0,p1,p2] (.seq (.reg [.locb p5 t2,mX p6 kN,mX p7 kZ0]) (.seq (.seq (.reg [mX p13 t0,mX p14 t1,mI p15 (.call p51 [t13,t14]),mI p16 (.not t15),mX p17 t16,mG p18 p17 false (.lda 2 t5),mG p19 p17 false (.call p16 [t18]),mG p20 p17 false (.bin .ne t19 kZ0),mI p21 (.pick t17 kT t20)]) (.cond t21 (.seq (.reg [mX p6 kN,mX p7 kZ1]) .ret) .skip)) (.seq (.reg [mX p8 kN]) (.seq (.seq (.reg [mX p22 t0,mI p23 (.len t22),mX p24 kZ0]) (.block 0 (.loop [p1,p5,p8,p22,p23,p24] (.seq (.reg [mI p25 (.bin .lt t24 t23)]) (.seq (.cond t25 .skip (.exit 0)) (.seq (.block 1 (.seq (.reg [mI p26 (.ia 3 t22 t24),mI p27 (.lda 3 t26),.loc p10 zC,.mk none none (.st 3 t10 t27)]) (.seq (.reg [mI p29 (.fa 0 t10),mI p30 (.lda 2 t29),mX p31 t1,mI p32 (.lda 2 t5),mI p33 (.call p54 [t30,t31,t32]),mX p28 t33,mI p34 (.ex t28 0),mI p35 (.ex t28 1),.loc p11 zT,.mk none none (.st 2 t11 t34),mX p12 t35]) (.seq (.seq (.reg [mX p36 t12,mI p37 (.bin .ne t36 kZ0)]) (.cond t37 (.seq (.reg [mX p6 kN,mI p7 (.mv (.c (.int .i64 (.ofNat 12))))]) .ret) .skip)) (.reg [mX p38 t8,mI p39 (.lda 2 t11),mI p40 (.fa 2 t10),mI p41 (.ld t40),mI p42 (.bld zC [(0,2,t39),(2,1,t41)]),mI p43 (.bsl 1 3 zC [(0,3,t42)]),mI p44 (.app 3 40 t38 t43),mX p8 t44]))))) (.reg [mI p45 (.bin .add t24 kZ1),mX p24 t45]))))))) (.seq (.reg [mX p46 t8,mX p6 t46,mX p7 kZ0]) .ret))))) [.t p6,.t p7]
def ls56:List Nat:=[5,10,11]
def f57:Fd:=.mk [p0,p1] (.seq (.reg [.locb p2 t0,mI p3 (.bx t1),mX p4 kZ0,mX p5 kZ0]) (.seq (.block 0 (.seq (.reg [mI p10 (.lda 2 t2),mI p11 (.call p16 [t10]),mI p12 (.bin .ne t11 kZ0),mX p9 t12]) (.cond t9 (.seq (.reg [mX p4 kZ0,mX p5 kZ1]) .ret) (.seq (.reg [mI p14 (.fa 1 t2),mI p15 (.ld t14),mI p16 (.mfn p99 [t3]),mI p17 (.call p68 [t15,t16]),mX p13 t17]) (.cond t13 (.seq (.reg [mX p4 kZ0,mI p5 (.mv (.c (.int .i64 (.ofNat 5))))]) .ret) (.seq (.reg [mI p19 (.ld t3),mI p20 (.call p70 [t19,(.c (.fn p100 []))]),mX p18 t20]) (.cond t18 (.seq (.reg [mX p4 kZ0,mX p5 kZ1]) .ret) .skip))))))) (.seq (.reg [mI p21 (.fa 0 t2),mI p22 (.ld t21),mX p6 t22]) (.seq (.seq (.reg [mI p23 (.fa 1 t2),mI p24 (.ld t23),mI p25 (.len t24),mX p26 kZ0]) (.block 1 (.loop [p3,p6,p24,p25,p26] (.seq (.reg [mI p27 (.bin .lt t26 t25)]) (.seq (.cond t27 .skip (.exit 1)) (.seq (.block 2 (.seq (.reg [mI p28 (.ia 2 t24 t26),mI p29 (.lda 2 t28),.loc p8 zM,.mk none none (.st 2 t8 t29)]) (.drw [dI [p6] p30 (.mv t6),dI [p8] p31 (.fa 1 t8),dI [p8,p31] p32 (.ld t31),dI [p3] p33 (.ld t3),dI [p8] p34 (.fa 0 t8),dI [p8,p34] p35 (.ld t34),dI [p33,p35] p36 (.ia 1 t33 t35),dI [p36] p37 (.ld t36),dI [p32,p37] p38 (.bin .mul t32 t37),dI [p30,p38] p39 (.bin .add t30 t38),dI [p39] p6 (.mv t39)]))) (.reg [mI p40 (.bin .add t26 kZ1),mX p26 t40]))))))) (.seq (.reg [mX p41 t6,mX p4 t41,mX p5 kZ0]) .ret))))) [.t p4,.t p5]
def ls57:List Nat:=[2,8]
def f58:Fd:=.prim 0
def f59:Fd:=.mk [p0] (.seq (.reg [mX p2 kN]) (.seq (.seq (.reg [mX p6 t0,mI p7 (.len t6),mI p8 (.bin .lt t7 kZ2)]) (.cond t8 (.seq (.reg [mX p9 t0,mX p2 t9]) .ret) .skip)) (.seq (.seq (.reg [mX p3 kZ1]) (.block 0 (.loop [p0,p3] (.seq (.seq (.reg [mX p10 t3,mX p11 t0,mI p12 (.len t11),mI p13 (.bin .lt t10 t12)]) (.cond t13 .skip (.exit 0))) (.seq (.block 1 (.seq (.drw [dI [p0] p16 (.mv t0),dI [p3] p17 (.mv t3),dI [p16,p17] p18 (.ia 1 t16 t17),dI [p18] p19 (.ld t18),dI [p0] p20 (.mv t0),dI [p3] p21 (.mv t3),dI [p21] p22 (.bin .sub t21 kZ1),dI [p20,p22] p23 (.ia 1 t20 t22),dI [p23] p24 (.ld t23),dI [p19,p24] p25 (.bin .eq t19 t24)]) (.cond t25 (.seq (.reg [mX p26 t0,mX p27 t3,mI p28 (.sla 1 t26 (some t27) none none),mX p4 t28]) (.seq (.seq (.reg [mX p5 kZ1]) (.block 2 (.loop [p0,p3,p4,p5] (.seq (.seq (.reg [mX p29 t5,mX p30 t4,mI p31 (.len t30),mI p32 (.bin .lt t29 t31)]) (.cond t32 .skip (.exit 2))) (.seq (.block 3 (.seq (.drw [dI [p4] p35 (.mv t4),dI [p5] p36 (.mv t5),dI [p35,p36] p37 (.ia 1 t35 t36),dI [p37] p38 (.ld t37),dI [p4] p39 (.mv t4),dI [p5] p40 (.mv t5),dI [p40] p41 (.bin .sub t40 kZ1),dI [p39,p41] p42 (.ia 1 t39 t41),dI [p42] p43 (.ld t42),dI [p38,p43] p44 (.bin .ne t38 t43)]) (.cond t44 (.seq (.reg [mX p45 t0,mX p46 t3,mX p47 t4,mX p48 t5,mI p49 (.ia 1 t47 t48),mI p50 (.ld t49),mI p51 (.ia 1 t45 t46),.mk none none (.st 1 t51 t50)]) (.reg [mX p52 t3,mI p53 (.bin .add t52 kZ1),mX p3 t53])) .skip))) (.reg [mX p33 t5,mI p34 (.bin .add t33 kZ1),mX p5 t34])))))) (.seq (.reg [mX p54 t0,mX p55 t3,mI p56 (.sla 1 t54 (some t55) none none),.mk none none (.clr 1 [nZ] t56)]) (.seq (.reg [mX p57 t0,mX p58 t3,mI p59 (.sla 1 t57 none (some t58) none),mX p2 t59]) .ret)))) .skip))) (.reg [mX p14 t3,mI p15 (.bin .add t14 kZ1),mX p3 t15])))))) (.seq (.reg [mX p60 t0,mX p2 t60]) .ret)))) [.t p2]
def ls59:List Nat:=[]
def f61:Fd:=.mk [p0,p1] (.seq (.reg [mX p3 kF]) (.seq (.reg [mI p7 (.ld t1),mX p8 t0,mI p9 (.call p62 [t7,t8]),mX p6 t9,mI p10 (.ex t6 0),mI p11 (.ex t6 1),mX p4 t10,mX p5 t11]) (.seq (.reg [mX p12 t4,mX p3 t12]) .ret))) [.t p3]
def ls61:List Nat:=[]
def f60:Fd:=.mk [p0,p1] (.seq (.reg [mX p4 kZ0]) (.seq (.seq (.reg [mX p6 t0,mI p7 (.len t6),mX p8 kZ0]) (.block 0 (.loop [p0,p1,p7,p8] (.seq (.reg [mI p9 (.bin .lt t8 t7)]) (.seq (.cond t9 .skip (.exit 0)) (.seq (.block 1 (.seq (.reg [mX p10 t8,mX p5 t10]) (.seq (.reg [mX p11 t1,mX p12 t0,mX p13 t5,mI p14 (.ia 1 t12 t13),mI p15 (.ld t14),mI p16 (.callv t11 [t15])]) (.cond t16 (.seq (.reg [mX p17 t5,mX p4 t17]) .ret) .skip)))) (.reg [mI p18 (.bin .add t8 kZ1),mX p8 t18]))))))) (.seq (.reg [mI p4 (.mv (.c (.int .i64 (.negSucc 0))))]) .ret))) [.t p4]
def ls60:List Nat:=[]
def f63:Fd:=.mk [p0,p1] (.seq (.reg [mX p4 kN,mX p5 kN,mX p6 kN]) (.seq (.seq (.reg [mX p10 t0,mI p11 (.len t10),mX p12 kZ0]) (.block 0 (.loop [p1,p4,p5,p6,p10,p11,p12] (.seq (.reg [mI p13 (.bin .lt t12 t11)]) (.seq (.cond t13 .skip (.exit 0)) (.seq (.block 1 (.seq (.reg [mI p14 (.ia 3 t10 t12),mI p15 (.lda 3 t14),.loc p8 zC,.mk none none (.st 3 t8 t15)]) (.seq (.reg [mI p16 (.fa 0 t8),mI p17 (.lda 2 t16),mX p18 t1,mI p19 (.call p53 [t17,t18]),mX p9 t19]) (.block 2 (.seq (.reg [mX p25 t9,mI p26 (.bin .lt t25 kZ0),mX p24 t26]) (.cond t24 (.reg [mX p27 t4,mI p28 (.lda 3 t8),mI p29 (.bsl 1 3 zC [(0,3,t28)]),mI p30 (.app 3 40 t27 t29),mX p4 t30]) (.seq (.reg [mX p32 t9,mI p33 (.bin .gt t32 kZ0),mX p31 t33]) (.cond t31 (.reg [mX p34 t5,mI p35 (.lda 3 t8),mI p36 (.bsl 1 3 zC [(0,3,t35)]),mI p37 (.app 3 40 t34 t36),mX p5 t37]) (.reg [mX p20 t6,mI p21 (.lda 3 t8),mI p22 (.bsl 1 3 zC [(0,3,t21)]),mI p23 (.app 3 40 t20 t22),mX p6 t23]))))))))) (.reg [mI p38 (.bin .add t12 kZ1),mX p12 t38]))))))) (.seq (.reg [mX p39 t4,mX p40 t5,mX p41 t6,mX p4 t39,mX p5 t40,mX p6 t41]) .ret))) [.t p4,.t p5,.t p6]
def ls63:List Nat:=[8]
def f64:Fd:=.mk [p0,p1] (.seq (.reg [mX p4 kZ0]) (.seq (.block 0 (.seq (.reg [mX p6 t0,mX p7 t1,mI p8 (.call p51 [t6,t7]),mI p9 (.not t8),mX p5 t9]) (.cond t5 (.seq (.reg [mX p4 kZ1]) .ret) (.seq (.reg [mX p11 t0,mX p12 t1,mI p13 (.call p104 [t11,t12]),mX p10 t13]) (.cond t10 (.seq (.reg [mI p4 (.mv (.c (.int .i64 (.ofNat 11))))]) .ret) .skip))))) (.seq (.reg [mX p4 kZ0]) .ret))) [.t p4]
def ls64:List Nat:=[]
def f65:Fd:=.mk [p0] (.seq (.reg [.locb p1 t0,.loc p2 zC]) (.seq (.drw [dI [p1] p3 (.fa 0 t1),dI [p1,p3] p4 (.lda 2 t3),dI [p4] p5 (.call p94 [t4]),dI [p1] p6 (.fa 2 t1),dI [p1,p6] p7 (.ld t6),dI [p5,p7] p8 (.bld zC [(0,2,t5),(2,1,t7)]),.mk true [p2,p8] [p2] true (.mk none none (.st 3 t2 t8))]) .ret)) [.cell p2 (some 3)]
def ls65:List Nat:=[1,2]
def f66:Fd:=.mk [p0,p1,p2] (.seq (.reg [.locb p3 t0,.locb p4 t1,.loc p6 zC,mX p7 kZ0]) (.seq (.drw [dI [p4] p14 (.fa 0 t4),dI [p4,p14] p15 (.lda 2 t14),dI [p3] p16 (.fa 0 t3),dI [p3,p16] p17 (.lda 2 t16),dI [p2] p18 (.mv t2),dI [p17,p18] p19 (.call p53 [t17,t18]),dI [p19] p20 (.neg t19),dI [p15,p20] p21 (.call p55 [t15,t20]),dI [p21] p13 (.mv t21),dI [p13] p22 (.ex t13 0),dI [p13] p23 (.ex t13 1),.mk true [p8] [p8] true (.loc p8 zT),.mk true [p8,p22] [p8] true (.mk none none (.st 2 t8 t22)),dI [p23] p9 (.mv t23)]) (.seq (.drw [dI [p3] p25 (.fa 0 t3),dI [p3,p25] p26 (.lda 2 t25),dI [p4] p27 (.fa 0 t4),dI [p4,p27] p28 (.lda 2 t27),dI [p2] p29 (.mv t2),dI [p28,p29] p30 (.call p53 [t28,t29]),dI [p26,p30] p31 (.call p55 [t26,t30]),dI [p31] p24 (.mv t31),dI [p24] p32 (.ex t24 0),dI [p24] p33 (.ex t24 1),.mk true [p10] [p10] true (.loc p10 zT),.mk true [p10,p32] [p10] true (.mk none none (.st 2 t10 t32)),dI [p33] p11 (.mv t33)]) (.seq (.seq (.reg [mX p34 t9,mI p35 (.bin .ne t34 kZ0),mX p36 t35,mG p37 p36 false (.mv t11),mG p38 p36 false (.bin .ne t37 kZ0),mI p39 (.pick t36 kT t38)]) (.cond t39 (.seq (.reg [mI p40 (.bld zC []),.mk none none (.st 3 t6 t40),mI p7 (.mv (.c (.int .i64 (.ofNat 12))))]) .ret) .skip)) (.seq (.reg [mI p42 (.lda 2 t8),mI p43 (.lda 2 t10),mI p44 (.call p97 [t42,t43]),mX p41 t44,mI p45 (.ex t41 0),mI p46 (.ex t41 1),.loc p12 zT,.mk none none (.st 2 t12 t45),mX p9 t46]) (.seq (.reg [mI p47 (.lda 2 t12),mI p48 (.bld zC [(0,2,t47)]),mX p49 t9,.mk none none (.st 3 t6 t48),mX p7 t49]) .ret)))))) [.cell p6 (some 3),.t p7]
def ls66:List Nat:=[3,4,6,8,10,12]
def f67:Fd:=.mk [p0] (.seq (.reg [mX p2 kN]) (.seq (.reg [mX p3 kZ0]) (.seq (.seq (.reg [mX p9 t0,mI p10 (.len t9),mX p11 kZ0]) (.block 0 (.loop [p0,p3,p9,p10,p11] (.seq (.reg [mI p12 (.bin .lt t11 t10)]) (.seq (.cond t12 .skip (.exit 0)) (.seq (.block 1 (.seq (.reg [mI p13 (.ia 1 t9 t11),mI p14 (.ld t13),mX p5 t14]) (.seq (.reg [mX p15 t3,mX p16 t5,mI p17 (.len t16),mI p18 (.bin .add t15 t17),mX p3 t18]) (.seq (.reg [mX p19 t3,mI p20 (.bin .lt t19 kZ0)]) (.cond t20 (.reg [mI p21 (.bad),.mk none none (.bad)]) .skip))))) (.reg [mI p22 (.bin .add t11 kZ1),mX p11 t22]))))))) (.seq (.reg [mX p23 t3,mI p24 (.call p105 [kN,t23]),mX p6 t24]) (.seq (.seq (.reg [mX p25 t0,mI p26 (.len t25),mX p27 kZ0]) (.block 2 (.loop [p6,p25,p26,p27] (.seq (.reg [mI p28 (.bin .lt t27 t26)]) (.seq (.cond t28 .skip (.exit 2)) (.seq (.block 3 (.seq (.reg [mI p29 (.ia 1 t25 t27),mI p30 (.ld t29),mX p8 t30]) (.reg [mX p31 t6,mX p32 t8,mI p33 (.app 3 40 t31 t32),mX p6 t33]))) (.reg [mI p34 (.bin .add t27 kZ1),mX p27 t34]))))))) (.seq (.reg [mX p35 t6,mX p2 t35]) .ret)))))) [.t p2]
def ls67:List Nat:=[]
def f69:Fd:=.mk [p0,p1,p2] (.seq (.reg [.locb p3 t0,mX p4 kF]) (.seq (.reg [mI p5 (.fa 0 t3),mI p6 (.ld t5),mI p7 (.ld t1),mI p8 (.bin .ne t6 t7),mX p9 t8,mG p10 p9 true (.fa 0 t3),mG p11 p9 true (.ld t10),mG p12 p9 true (.ld t2),mG p13 p9 true (.len t12),mG p14 p9 true (.bin .ge t11 t13),mI p15 (.pick t9 t14 kF),mX p4 t15]) .ret)) [.t p4]
def ls69:List Nat:=[3]
def f68:Fd:=.mk [p0,p1] (.seq (.reg [mX p4 kF]) (.seq (.reg [mX p5 t0,mX p6 t1,mI p7 (.call p106 [t5,t6]),mI p8 (.bin .ge t7 kZ0),mX p4 t8]) .ret)) [.t p4]
def ls68:List Nat:=[]
def f70:Fd:=.mk [p0,p1] (.seq (.reg [mX p4 kF]) (.seq (.reg [mX p5 t0,mX p6 t1,mI p7 (.call p60 [t5,t6]),mI p8 (.bin .ge t7 kZ0),mX p4 t8]) .ret)) [.t p4]
def ls70:List Nat:=[]
def f71:Fd:=.mk [p0] (.seq (.reg [mX p2 kF]) (.seq (.reg [mX p3 t0,mI p4 (.bin .lt t3 (.c (.int .i64 (.negSucc 2147483647)))),mX p5 t4,mG p6 p5 false (.mv t0),mG p7 p5 false (.bin .gt t6 (.c (.int .i64 (.ofNat 2147483647)))),mI p8 (.pick t5 kT t7),mX p2 t8]) .ret)) [.t p2]
def ls71:List Nat:=[]
def f72:Fd:=.mk [p0,p1] (.seq (.reg [mX p4 kZ0]) (.seq (.reg [mX p6 t0,mX p7 t1,mI p8 (.bin .quo t6 t7),mX p5 t8]) (.seq (.seq (.reg [mX p9 t0,mX p10 t1,mI p11 (.bin .rem t9 t10),mI p12 (.bin .lt t11 kZ0)]) (.cond t12 (.reg [mX p13 t5,mI p14 (.bin .sub t13 kZ1),mX p5 t14]) .skip)) (.seq (.reg [mX p15 t5,mX p4 t15]) .ret)))) [.t p4]
def ls72:List Nat:=[]
def f73:Fd:=.mk [p0,p1,p2] (.seq (.reg [mX p6 kF]) (.seq (.reg [mX p7 t0,mX p8 t1,mI p9 (.bin .ge t7 t8),mX p10 t9,mG p11 p10 true (.mv t0),mG p12 p10 true (.mv t2),mG p13 p10 true (.bin .le t11 t12),mI p14 (.pick t10 t13 kF),mX p6 t14]) .ret)) [.t p6]
def ls73:List Nat:=[]
def f74:Fd:=.mk [p0] (.seq (.reg [.locb p1 t0,.loc p2 zC,mX p3 kZ0]) (.seq (.seq (.reg [mI p9 (.fa 0 t1),mI p10 (.fa 1 t9),mI p11 (.ld t10),mI p12 (.len t11),mI p13 (.bin .eq t12 kZ0)]) (.cond t13 (.seq (.seq (.reg [mI p14 (.fa 0 t1),mI p15 (.fa 0 t14),mI p16 (.ld t15),mI p17 (.bin .eq t16 kZ0),mX p18 t17,mG p19 p18 false (.fa 2 t1),mG p20 p18 false (.ld t19),mG p21 p18 false (.not t20),mG p22 p18 false (.mv t21),mG p23 p22 true (.fa 0 t1),mG p24 p22 true (.fa 0 t23),mG p25 p22 true (.ld t24),mG p26 p22 true (.bin .lt t25 kZ0),mG p27 p18 false (.pick t22 t26 kF),mI p28 (.pick t18 kT t27)]) (.cond t28 (.seq (.reg [mI p29 (.bld zC []),.mk none none (.st 3 t2 t29),mX p3 kZ2]) .ret) .skip)) (.seq (.reg [mI p30 (.bld zC []),.mk none none (.st 3 t2 t30),mX p3 kZ1]) .ret)) .skip)) (.seq (.reg [mX p4 kZ0]) (.seq (.seq (.reg [mX p5 kZ0]) (.block 0 (.loop [p1,p2,p4,p5] (.seq (.seq (.reg [mX p31 t5,mI p32 (.fa 0 t1),mI p33 (.fa 1 t32),mI p34 (.ld t33),mI p35 (.len t34),mI p36 (.bin .lt t31 t35)]) (.cond t36 .skip (.exit 0))) (.seq (.block 1 (.reg [mX p39 t4,mI p40 (.fa 0 t1),mI p41 (.fa 1 t40),mI p42 (.ld t41),mX p43 t5,mI p44 (.ia 2 t42 t43),mI p45 (.fa 1 t44),mI p46 (.ld t45),mI p47 (.call p107 [t39,t46]),mX p4 t47])) (.reg [mX p37 t5,mI p38 (.bin .add t37 kZ1),mX p5 t38])))))) (.seq (.seq (.reg [mI p48 (.fa 2 t1),mI p49 (.ld t48),mX p50 t49,mG p51 p50 true (.fa 0 t1),mG p52 p50 true (.fa 0 t51),mG p53 p50 true (.ld t52),mG p54 p50 true (.mv t4),mG p55 p50 true (.bin .rem t53 t54),mG p56 p50 true (.bin .ne t55 kZ0),mI p57 (.pick t50 t56 kF)]) (.cond t57 (.seq (.reg [mI p58 (.bld zC []),.mk none none (.st 3 t2 t58),mX p3 kZ1]) .ret) .skip)) (.seq (.reg [mX p6 kZ1]) (.seq (.seq (.reg [mI p59 (.fa 2 t1),mI p60 (.ld t59),mX p61 t60,mG p62 p61 true (.fa 0 t1),mG p63 p61 true (.fa 1 t62),mG p64 p61 true (.ld t63),mG p65 p61 true (.ia 2 t64 kZ0),mG p66 p61 true (.fa 1 t65),mG p67 p61 true (.ld t66),mG p68 p61 true (.bin .lt t67 kZ0),mI p69 (.pick t61 t68 kF)]) (.cond t69 (.reg [mI p6 (.mv (.c (.int .i64 (.negSucc 0))))]) .skip)) (.seq (.drw [dI [p1] p70 (.fa 2 t1),dI [p1,p70] p71 (.ld t70),dI [p6] p72 (.mv t6),dI [p1] p73 (.fa 0 t1),dI [p1,p73] p74 (.fa 0 t73),dI [p1,p74] p75 (.ld t74),dI [p4] p76 (.mv t4),dI [p75,p76] p77 (.call p108 [t75,t76]),dI [p72,p77] p78 (.bin .mul t72 t77),dI [p78] p79 (.bld zT [(0,1,t78)]),dI [p71,p79] p80 (.bld zC [(2,1,t71),(0,2,t79)]),.mk true [p7] [p7] true (.loc p7 zC),.mk true [p7,p80] [p7] true (.mk none none (.st 3 t7 t80))]) (.seq (.seq (.reg [mX p8 kZ0]) (.block 2 (.loop [p1,p2,p4,p6,p7,p8] (.seq (.seq (.reg [mX p81 t8,mI p82 (.fa 0 t1),mI p83 (.fa 1 t82),mI p84 (.ld t83),mI p85 (.len t84),mI p86 (.bin .lt t81 t85)]) (.cond t86 .skip (.exit 2))) (.seq (.block 3 (.drw [dI [p7] p89 (.fa 0 t7),dI [p7,p89] p90 (.fa 1 t89),dI [p7,p90] p91 (.ld t90),dI [p1] p92 (.fa 0 t1),dI [p1,p92] p93 (.fa 1 t92),dI [p1,p93] p94 (.ld t93),dI [p8] p95 (.mv t8),dI [p94,p95] p96 (.ia 2 t94 t95),dI [p96] p97 (.fa 0 t96),dI [p97] p98 (.ld t97),dI [p6] p99 (.mv t6),dI [p1] p100 (.fa 0 t1),dI [p1,p100] p101 (.fa 1 t100),dI [p1,p101] p102 (.ld t101),dI [p8] p103 (.mv t8),dI [p102,p103] p104 (.ia 2 t102 t103),dI [p104] p105 (.fa 1 t104),dI [p105] p106 (.ld t105),dI [p4] p107 (.mv t4),dI [p106,p107] p108 (.bin .quo t106 t107),dI [p99,p108] p109 (.bin .mul t99 t108),dI [p98,p109] p110 (.bld zM [(0,1,t98),(1,1,t109)]),dI [p110] p111 (.bsl 1 2 zM [(0,2,t110)]),.mk true [p91,p111] [p112] false (mI p112 (.app 2 16 t91 t111)),dI [p7] p113 (.fa 0 t7),dI [p7,p113] p114 (.fa 1 t113),.mk true [p7,p114,p112] [p7] true (.mk none none (.st 1 t114 t112))])) (.reg [mX p87 t8,mI p88 (.bin .add t87 kZ1),mX p8 t88])))))) (.seq (.reg [mI p115 (.lda 3 t7),.mk none none (.st 3 t2 t115),mX p3 kZ0]) .ret)))))))))) [.cell p2 (some 3),.t p3]
def ls74:List Nat:=[1,2,7]
def f75:Fd:=.mk [p0,p1] (.seq (.reg [.locb p3 t1,mX p4 kF]) (.seq (.seq (.reg [mX p5 kZ0]) (.block 0 (.loop [p0,p3,p5] (.seq (.seq (.reg [mX p6 t5,mX p7 t0,mI p8 (.len t7),mI p9 (.bin .lt t6 t8)]) (.cond t9 .skip (.exit 0))) (.seq (.block 1 (.seq (.drw [dI [p0] p12 (.mv t0),dI [p5] p13 (.mv t5),dI [p12,p13] p14 (.ia 3 t12 t13),dI [p14] p15 (.fa 2 t14),dI [p15] p16 (.ld t15),dI [p3] p17 (.fa 2 t3),dI [p3,p17] p18 (.ld t17),dI [p16,p18] p19 (.beq false t16 t18),dI [p19] p20 (.mv t19),dG [p0,p20] p21 p20 true (.mv t0),dG [p5,p20] p22 p20 true (.mv t5),dG [p21,p22,p20] p23 p20 true (.ia 3 t21 t22),dG [p23,p20] p24 p20 true (.fa 0 t23),dG [p24,p20] p25 p20 true (.lda 2 t24),dG [p3,p20] p26 p20 true (.fa 0 t3),dG [p3,p26,p20] p27 p20 true (.lda 2 t26),.mk true [p25,p27,p20] [p28] false (mG p28 p20 true (.call p20 [t25,t27])),dI [p20,p28] p29 (.pick t20 t28 kF)]) (.cond t29 (.seq (.reg [mX p4 kT]) .ret) .skip))) (.reg [mX p10 t5,mI p11 (.bin .add t10 kZ1),mX p5 t11])))))) (.seq (.reg [mX p4 kF]) .ret))) [.t p4]
def ls75:List Nat:=[3]
def f76:Fd:=.mk [p0] (.seq (.reg [mX p2 kZ0]) (.seq (.seq (.reg [mX p3 t0,mI p4 (.bin .lt t3 kZ0)]) (.cond t4 (.seq (.reg [mX p5 t0,mI p6 (.bin .sub kZ0 t5),mX p2 t6]) .ret) .skip)) (.seq (.reg [mX p7 t0,mX p2 t7]) .ret))) [.t p2]
def ls76:List Nat:=[]
def f77:Fd:=.mk [p0,p1] (.seq (.reg [mX p4 kF]) (.seq (.seq (.reg [mX p5 t0,mI p6 (.nc t5),mI p7 (.fa 1 t6),mI p8 (.ld t7),mX p9 t1,mI p10 (.bin .lt t8 t9)]) (.cond t10 (.seq (.reg [mX p4 kF]) .ret) .skip)) (.seq (.reg [mX p11 t0,mX p12 t0,mI p13 (.nc t12),mI p14 (.fa 1 t13),mI p15 (.ld t14),mX p16 t1,mI p17 (.bin .sub t15 t16),mI p18 (.nc t11),mI p19 (.fa 1 t18),.mk none none (.st 1 t19 t17)]) (.seq (.reg [mX p4 kT]) .ret)))) [.t p4]
def ls77:List Nat:=[]
def f78:Fd:=.mk [p0,p1] (.seq (.reg [.locb p2 t0,.loc p4 zT]) (.seq (.drw [dI [p2] p8 (.fa 0 t2),dI [p2,p8] p9 (.lda 2 t8),dI [p1] p10 (.mv t1),dI [p9,p10] p11 (.call p109 [t9,t10]),dI [p2] p12 (.fa 0 t2),dI [p2,p12] p13 (.lda 2 t12),dI [p1] p14 (.mv t1),dI [p13,p14] p15 (.call p82 [t13,t14]),dI [p15] p16 (.bin .sub kZ0 t15),dI [p11,p16] p17 (.call p42 [t11,t16]),dI [p17] p7 (.mv t17),dI [p7] p18 (.ex t7 0),dI [p7] p19 (.ex t7 1),.mk true [p5] [p5] true (.loc p5 zT),.mk true [p5,p18] [p5] true (.mk none none (.st 2 t5 t18)),dI [p19] p6 (.mv t19)]) (.seq (.reg [mI p20 (.lda 2 t5),.mk none none (.st 2 t4 t20)]) .ret))) [.cell p4 (some 2)]
def ls78:List Nat:=[2,4,5]
def f79:Fd:=.mk [p0,p1,p2] (.seq (.reg [.locb p5 t2,mX p6 kN,mX p7 kF]) (.seq (.reg [mX p8 kN]) (.seq (.seq (.reg [mX p9 kZ0]) (.block 0 (.loop [p0,p1,p5,p8,p9] (.seq (.seq (.reg [mX p12 t9,mX p13 t0,mI p14 (.len t13),mI p15 (.bin .lt t12 t14)]) (.cond t15 .skip (.exit 0))) (.seq (.block 1 (.seq (.drw [dI [p0] p19 (.mv t0),dI [p9] p20 (.mv t9),dI [p19,p20] p21 (.ia 3 t19 t20),dI [p21] p22 (.fa 0 t21),dI [p22] p23 (.lda 2 t22),dI [p1] p24 (.mv t1),dI [p5] p25 (.vla 2 t5),dI [p23,p24,p25] p26 (.call p110 [t23,t24,t25]),dI [p26] p18 (.mv t26),dI [p18] p27 (.ex t18 0),dI [p18] p28 (.ex t18 1),.mk true [p10] [p10] true (.loc p10 zT),.mk true [p10,p27] [p10] true (.mk none none (.st 2 t10 t27)),dI [p28] p11 (.mv t28)]) (.seq (.seq (.reg [mX p29 t11,mI p30 (.not t29)]) (.cond t30 (.seq (.reg [mX p6 kN,mX p7 kF]) .ret) .skip)) (.drw [dI [p8] p31 (.mv t8),dI [p10] p32 (.vla 2 t10),dI [p0] p33 (.mv t0),dI [p9] p34 (.mv t9),dI [p33,p34] p35 (.ia 3 t33 t34),dI [p35] p36 (.fa 2 t35),dI [p36] p37 (.ld t36),dI [p32,p37] p38 (.bld zC [(0,2,t32),(2,1,t37)]),dI [p38] p39 (.bsl 1 3 zC [(0,3,t38)]),.mk true [p31,p39] [p40] false (mI p40 (.app 3 40 t31 t39)),dI [p40] p8 (.mv t40)])))) (.reg [mX p16 t9,mI p17 (.bin .add t16 kZ1),mX p9 t17])))))) (.seq (.reg [mX p41 t8,mX p6 t41,mX p7 kT]) .ret)))) [.t p6,.t p7]
def ls79:List Nat:=[5,10]
def f80:Fd:=.mk [p0,p1] (.seq (.reg [.locb p2 t0,mX p4 kZ0]) (.seq (.reg [mI p7 (.fa 0 t2),mI p8 (.ld t7),mX p5 t8]) (.seq (.seq (.reg [mX p6 kZ0]) (.block 0 (.loop [p1,p2,p5,p6] (.seq (.seq (.reg [mX p9 t6,mI p10 (.fa 1 t2),mI p11 (.ld t10),mI p12 (.len t11),mI p13 (.bin .lt t9 t12)]) (.cond t13 .skip (.exit 0))) (.seq (.block 1 (.drw [dI [p5] p16 (.mv t5),dI [p2] p17 (.fa 1 t2),dI [p2,p17] p18 (.ld t17),dI [p6] p19 (.mv t6),dI [p18,p19] p20 (.ia 2 t18 t19),dI [p20] p21 (.fa 1 t20),dI [p21] p22 (.ld t21),dI [p1] p23 (.mv t1),dI [p2] p24 (.fa 1 t2),dI [p2,p24] p25 (.ld t24),dI [p6] p26 (.mv t6),dI [p25,p26] p27 (.ia 2 t25 t26),dI [p27] p28 (.fa 0 t27),dI [p28] p29 (.ld t28),dI [p23,p29] p30 (.ia 1 t23 t29),dI [p30] p31 (.ld t30),dI [p22,p31] p32 (.bin .mul t22 t31),dI [p16,p32] p33 (.bin .add t16 t32),dI [p33] p5 (.mv t33)])) (.reg [mX p14 t6,mI p15 (.bin .add t14 kZ1),mX p6 t15])))))) (.seq (.reg [mX p34 t5,mX p4 t34]) .ret)))) [.t p4]
def ls80:List Nat:=[2]
def f81:Fd:=.mk [p0,p1,p2] (.seq (.reg [mX p6 kF]) (.seq (.seq (.reg [mX p7 t0,mI p8 (.bin .eq t7 kZ0),mX p9 t8,mG p10 p9 false (.mv t1),mG p11 p9 false (.bin .eq t10 kZ0),mI p12 (.pick t9 kT t11)]) (.cond t12 (.seq (.reg [mX p6 kT]) .ret) .skip)) (.seq (.drw [dI [p0] p13 (.mv t0),dI [p2] p14 (.mv t2),dI [p14] p15 (.neg t14),dI [p2] p16 (.mv t2),.mk true [p13,p15,p16] [p17] false (mI p17 (.call p73 [t13,t15,t16])),dI [p17] p18 (.mv t17),dG [p1,p18] p19 p18 true (.mv t1),dG [p2,p18] p20 p18 true (.mv t2),dG [p20,p18] p21 p18 true (.neg t20),dG [p2,p18] p22 p18 true (.mv t2),.mk true [p19,p21,p22,p18] [p23] false (mG p23 p18 true (.call p73 [t19,t21,t22])),dI [p18,p23] p24 (.pick t18 t23 kF),dI [p24] p25 (.mv t24),dG [p0,p25] p26 p25 true (.mv t0),dG [p2,p25] p27 p25 true (.mv t2),dG [p27,p25] p28 p25 true (.neg t27),dG [p1,p25] p29 p25 true (.mv t1),.mk true [p29,p25] [p30] false (mG p30 p25 true (.call p76 [t29])),dG [p28,p30,p25] p31 p25 true (.bin .quo t28 t30),dG [p2,p25] p32 p25 true (.mv t2),dG [p1,p25] p33 p25 true (.mv t1),.mk true [p33,p25] [p34] false (mG p34 p25 true (.call p76 [t33])),dG [p32,p34,p25] p35 p25 true (.bin .quo t32 t34),.mk true [p26,p31,p35,p25] [p36] false (mG p36 p25 true (.call p73 [t26,t31,t35])),dI [p25,p36] p37 (.pick t25 t36 kF),dI [p37] p6 (.mv t37)]) .ret))) [.t p6]
def ls81:List Nat:=[]
def f82:Fd:=.mk [p0,p1] (.seq (.reg [.locb p2 t0,mX p4 kZ0]) (.seq (.seq (.reg [mX p5 kZ0]) (.block 0 (.loop [p1,p2,p5] (.seq (.seq (.reg [mX p6 t5,mI p7 (.fa 1 t2),mI p8 (.ld t7),mI p9 (.len t8),mI p10 (.bin .lt t6 t9)]) (.cond t10 .skip (.exit 0))) (.seq (.block 1 (.seq (.reg [mI p13 (.fa 1 t2),mI p14 (.ld t13),mX p15 t5,mI p16 (.ia 2 t14 t15),mI p17 (.fa 0 t16),mI p18 (.ld t17),mX p19 t1,mI p20 (.bin .eq t18 t19)]) (.cond t20 (.seq (.reg [mI p21 (.fa 1 t2),mI p22 (.ld t21),mX p23 t5,mI p24 (.ia 2 t22 t23),mI p25 (.fa 1 t24),mI p26 (.ld t25),mX p4 t26]) .ret) .skip))) (.reg [mX p11 t5,mI p12 (.bin .add t11 kZ1),mX p5 t12])))))) (.seq (.reg [mX p4 kZ0]) .ret))) [.t p4]
def ls82:List Nat:=[2]
def f83:Fd:=.mk [p0,p1] (.seq (.reg [mX p4 kN,mX p5 kF]) (.seq (.reg [mX p6 kN]) (.seq (.seq (.reg [mX p7 kZ0]) (.block 0 (.loop [p0,p1,p6,p7] (.seq (.seq (.reg [mX p17 t7,mX p18 t0,mI p19 (.len t18),mI p20 (.bin .lt t17 t19)]) (.cond t20 .skip (.exit 0))) (.seq (.block 1 (.seq (.reg [mX p23 t0,mX p24 t7,mI p25 (.ia 3 t23 t24),mI p26 (.fa 0 t25),mI p27 (.lda 2 t26),mX p28 t1,mI p29 (.call p82 [t27,t28]),mI p30 (.bin .eq t29 kZ0)]) (.cond t30 (.reg [mX p31 t6,mX p32 t0,mX p33 t7,mX p34 t7,mI p35 (.bin .add t34 kZ1),mI p36 (.sla 3 t32 (some t33) (some t35) none),mI p37 (.call p5 [t36]),mI p38 (.app 3 40 t31 t37),mX p6 t38]) .skip))) (.reg [mX p21 t7,mI p22 (.bin .add t21 kZ1),mX p7 t22])))))) (.seq (.seq (.reg [mX p8 kZ0]) (.block 2 (.loop [p0,p1,p6,p8] (.seq (.seq (.reg [mX p39 t8,mX p40 t0,mI p41 (.len t40),mI p42 (.bin .lt t39 t41)]) (.cond t42 .skip (.exit 2))) (.seq (.block 3 (.seq (.reg [mX p45 t0,mX p46 t8,mI p47 (.ia 3 t45 t46),mI p48 (.fa 0 t47),mI p49 (.lda 2 t48),mX p50 t1,mI p51 (.call p82 [t49,t50]),mX p9 t51]) (.seq (.seq (.reg [mX p52 t9,mI p53 (.bin .ge t52 kZ0)]) (.cond t53 (.exit 3) .skip)) (.seq (.reg [mX p10 kZ0]) (.block 4 (.loop [p0,p1,p6,p8,p9,p10] (.seq (.seq (.reg [mX p54 t10,mX p55 t0,mI p56 (.len t55),mI p57 (.bin .lt t54 t56)]) (.cond t57 .skip (.exit 4))) (.seq (.block 5 (.seq (.reg [mX p60 t0,mX p61 t10,mI p62 (.ia 3 t60 t61),mI p63 (.fa 0 t62),mI p64 (.lda 2 t63),mX p65 t1,mI p66 (.call p82 [t64,t65]),mX p11 t66]) (.seq (.seq (.reg [mX p67 t11,mI p68 (.bin .le t67 kZ0)]) (.cond t68 (.exit 5) .skip)) (.seq (.reg [mX p70 t0,mX p71 t10,mI p72 (.ia 3 t70 t71),mI p73 (.fa 0 t72),mI p74 (.lda 2 t73),mX p75 t9,mI p76 (.bin .sub kZ0 t75),mI p77 (.call p42 [t74,t76]),mX p69 t77,mI p78 (.ex t69 0),mI p79 (.ex t69 1),.loc p12 zT,.mk none none (.st 2 t12 t78),mX p13 t79]) (.seq (.reg [mX p81 t0,mX p82 t8,mI p83 (.ia 3 t81 t82),mI p84 (.fa 0 t83),mI p85 (.lda 2 t84),mX p86 t11,mI p87 (.call p42 [t85,t86]),mX p80 t87,mI p88 (.ex t80 0),mI p89 (.ex t80 1),.loc p14 zT,.mk none none (.st 2 t14 t88),mX p15 t89]) (.seq (.seq (.reg [mX p90 t13,mI p91 (.not t90),mX p92 t91,mG p93 p92 false (.mv t15),mG p94 p92 false (.not t93),mI p95 (.pick t92 kT t94)]) (.cond t95 (.seq (.reg [mX p4 kN,mX p5 kF]) .ret) .skip)) (.seq (.reg [mI p97 (.lda 2 t12),mI p98 (.lda 2 t14),mI p99 (.call p111 [t97,t98]),mX p96 t99,mI p100 (.ex t96 0),mI p101 (.ex t96 1),.loc p16 zT,.mk none none (.st 2 t16 t100),mX p13 t101]) (.seq (.seq (.reg [mX p102 t13,mI p103 (.not t102)]) (.cond t103 (.seq (.reg [mX p4 kN,mX p5 kF]) .ret) .skip)) (.reg [mX p104 t6,mI p105 (.lda 2 t16),mI p106 (.bld zC [(0,2,t105)]),mI p107 (.bsl 1 3 zC [(0,3,t106)]),mI p108 (.app 3 40 t104 t107),mX p6 t108]))))))))) (.reg [mX p58 t10,mI p59 (.bin .add t58 kZ1),mX p10 t59]))))))))) (.reg [mX p43 t8,mI p44 (.bin .add t43 kZ1),mX p8 t44])))))) (.seq (.reg [mX p109 t6,mX p4 t109,mX p5 kT]) .ret))))) [.t p4,.t p5]
def ls83:List Nat:=[12,14,16]
def f85:Fd:=.mk [p0,p1,p2] (.seq (.reg [mX p6 kZ0,mX p7 kZ0]) (.seq (.reg [mI p8 (.mv (.c (.int .i64 (.negSucc 2147483647)))),mI p9 (.mv (.c (.int .i64 (.ofNat 2147483647))))]) (.seq (.seq (.reg [mX p10 kZ0]) (.block 0 (.loop [p0,p1,p2,p8,p9,p10] (.seq (.seq (.reg [mX p13 t10,mX p14 t0,mI p15 (.len t14),mI p16 (.bin .lt t13 t15)]) (.cond t16 .skip (.exit 0))) (.seq (.block 1 (.seq (.reg [mX p19 t0,mX p20 t10,mI p21 (.ia 3 t19 t20),mI p22 (.fa 0 t21),mI p23 (.lda 2 t22),mX p24 t1,mI p25 (.call p82 [t23,t24]),mX p11 t25]) (.seq (.seq (.reg [mX p26 t11,mI p27 (.bin .eq t26 kZ0)]) (.cond t27 (.exit 1) .skip)) (.seq (.reg [mX p28 t0,mX p29 t10,mI p30 (.ia 3 t28 t29),mI p31 (.fa 0 t30),mI p32 (.lda 2 t31),mX p33 t1,mI p34 (.call p109 [t32,t33]),mX p35 t2,mI p36 (.call p80 [t34,t35]),mX p12 t36]) (.seq (.reg [mX p37 t11,mI p38 (.bin .gt t37 kZ0)]) (.cond t38 (.reg [mX p39 t9,mX p40 t12,mI p41 (.bin .sub kZ0 t40),mX p42 t11,mI p43 (.call p87 [t41,t42]),mI p44 (.mn t39 [t43]),mI p45 (.mx t44 [(.c (.int .i64 (.negSucc 2147483647)))]),mX p9 t45]) (.reg [mX p46 t8,mX p47 t12,mX p48 t11,mI p49 (.bin .sub kZ0 t48),mI p50 (.call p108 [t47,t49]),mI p51 (.mx t46 [t50]),mI p52 (.mn t51 [(.c (.int .i64 (.ofNat 2147483647)))]),mX p8 t52]))))))) (.reg [mX p17 t10,mI p18 (.bin .add t17 kZ1),mX p10 t18])))))) (.seq (.reg [mX p53 t8,mX p54 t9,mX p6 t53,mX p7 t54]) .ret)))) [.t p6,.t p7]
def ls85:List Nat:=[]
def f84:Fd:=.mk [p0,p1] (.seq (.reg [mX p4 kZ0,mX p5 kF]) (.seq (.block 0 (.seq (.reg [mX p7 t0,mX p8 t1,mI p9 (.bin .gt t7 t8),mX p6 t9]) (.cond t6 (.seq (.reg [mX p4 kZ0,mX p5 kF]) .ret) (.seq (.reg [mX p11 t0,mI p12 (.bin .gt t11 kZ0),mX p10 t12]) (.cond t10 (.seq (.reg [mX p13 t0,mX p4 t13,mX p5 kT]) .ret) (.seq (.reg [mX p15 t1,mI p16 (.bin .lt t15 kZ0),mX p14 t16]) (.cond t14 (.seq (.reg [mX p17 t1,mX p4 t17,mX p5 kT]) .ret) .skip))))))) (.seq (.reg [mX p4 kZ0,mX p5 kT]) .ret))) [.t p4,.t p5]
def ls84:List Nat:=[]
def f86:Fd:=.mk [p0] (.seq (.reg [.loc p2 zT]) (.seq (.reg [mX p3 t0,mI p4 (.bld zT [(0,1,t3)]),.mk none none (.st 2 t2 t4)]) .ret)) [.cell p2 (some 2)]
def ls86:List Nat:=[2]
def f87:Fd:=.mk [p0,p1] (.seq (.reg [mX p4 kZ0]) (.seq (.reg [mX p5 t0,mI p6 (.bin .sub kZ0 t5),mX p7 t1,mI p8 (.call p108 [t6,t7]),mI p9 (.bin .sub kZ0 t8),mX p4 t9]) .ret)) [.t p4]
def ls87:List Nat:=[]
def f88:Fd:=.mk [p0] (.seq (.reg [.locb p1 t0,mX p2 kZ0]) (.seq (.seq (.reg [mI p3 (.fa 0 t1),mI p4 (.fa 0 t3),mI p5 (.ld t4),mI p6 (.bin .eq t5 kZ0),mX p7 t6,mG p8 p7 false (.fa 0 t1),mG p9 p7 false (.fa 0 t8),mG p10 p7 false (.ld t9),mG p11 p7 false (.bin .lt t10 kZ0),mG p12 p7 false (.mv t11),mG p13 p12 true (.fa 2 t1),mG p14 p12 true (.ld t13),mG p15 p12 true (.not t14),mG p16 p7 false (.pick t12 t15 kF),mI p17 (.pick t7 kT t16)]) (.cond t17 (.seq (.reg [mX p2 kZ2]) .ret) .skip)) (.seq (.reg [mX p2 kZ1]) .ret))) [.t p2]
def ls88:List Nat:=[1]
def f89:Fd:=.mk [p0,p1] (.seq (.reg [mX p4 kZ0]) (.seq (.block 0 (.loop [p0,p1] (.seq (.seq (.reg [mX p5 t1,mI p6 (.bin .ne t5 kZ0)]) (.cond t6 .skip (.exit 0))) (.block 1 (.drw [dI [p1] p7 (.mv t1),dI [p0] p8 (.mv t0),dI [p1] p9 (.mv t1),dI [p8,p9] p10 (.bin .rem t8 t9),dI [p7] p0 (.mv t7),dI [p10] p1 (.mv t10)]))))) (.seq (.reg [mX p11 t0,mX p12 t0,mI p13 (.neg t12),mI p14 (.mx t11 [t13]),mX p4 t14]) .ret))) [.t p4]
def ls89:List Nat:=[]
def f90:Fd:=.mk [p0,p1] (.seq (.reg [mX p4 kZ0]) (.seq (.reg [mX p6 t0,mX p7 t1,mI p8 (.bin .quo t6 t7),mX p5 t8]) (.seq (.seq (.reg [mX p9 t0,mX p10 t1,mI p11 (.bin .rem t9 t10),mI p12 (.bin .gt t11 kZ0)]) (.cond t12 (.reg [mX p13 t5,mI p14 (.bin .add t13 kZ1),mX p5 t14]) .skip)) (.seq (.reg [mX p15 t5,mX p4 t15]) .ret)))) [.t p4]
def ls90:List Nat:=[]
def f50:Fd:=.mk [p0,p1] (.seq (.reg [.locb p2 t0,.locb p3 t1,mX p4 kF]) (.seq (.reg [mI p5 (.fa 0 t2),mI p6 (.ld t5),mI p7 (.fa 0 t3),mI p8 (.ld t7),mI p9 (.bin .eq t6 t8),mX p10 t9,mG p11 p10 true (.fa 1 t2),mG p12 p10 true (.ld t11),mG p13 p10 true (.fa 1 t3),mG p14 p10 true (.ld t13),mG p15 p10 true (.call p92 [t12,t14]),mI p16 (.pick t10 t15 kF),mX p4 t16]) .ret)) [.t p4]
def ls50:List Nat:=[2,3]
def f91:Fd:=.mk [p0,p1] (.seq (.reg [mX p4 kZ0]) (.seq (.seq (.reg [mX p6 t0,mI p7 (.len t6),mX p8 kZ0]) (.block 0 (.loop [p0,p1,p7,p8] (.seq (.reg [mI p9 (.bin .lt t8 t7)]) (.seq (.cond t9 .skip (.exit 0)) (.seq (.block 1 (.seq (.reg [mX p10 t8,mX p5 t10]) (.seq (.reg [mX p11 t1,mX p12 t0,mX p13 t5,mI p14 (.ia 3 t12 t13),mI p15 (.lda 3 t14),mI p16 (.callv t11 [t15])]) (.cond t16 (.seq (.reg [mX p17 t5,mX p4 t17]) .ret) .skip)))) (.reg [mI p18 (.bin .add t8 kZ1),mX p8 t18]))))))) (.seq (.reg [mI p4 (.mv (.c (.int .i64 (.negSucc 0))))]) .ret))) [.t p4]
def ls91:List Nat:=[]
def f93:Fd:=.mk [p0] (.seq (.reg [.locb p1 t0,mX p2 kF]) (.seq (.reg [mI p3 (.fa 0 t1),mI p4 (.lda 2 t3),mI p5 (.call p16 [t4]),mI p6 (.bin .ne t5 kZ0),mX p2 t6]) .ret)) [.t p2]
def ls93:List Nat:=[1]
def f94:Fd:=.mk [p0] (.seq (.reg [.locb p1 t0,.loc p2 zT]) (.seq (.drw [dI [p1] p3 (.fa 0 t1),dI [p1,p3] p4 (.ld t3),dI [p1] p5 (.fa 1 t1),dI [p1,p5] p6 (.ld t5),dI [p6] p7 (.call p112 [t6]),dI [p4,p7] p8 (.bld zT [(0,1,t4),(1,1,t7)]),.mk true [p2,p8] [p2] true (.mk none none (.st 2 t2 t8))]) .ret)) [.cell p2 (some 2)]
def ls94:List Nat:=[1,2]
def f96:Fd:=.mk [p0,p1] (.seq (.reg [.locb p2 t0,mX p3 kF]) (.seq (.reg [mI p4 (.fa 0 t2),mI p5 (.ld t4),mI p6 (.ld t1),mI p7 (.bin .eq t5 t6),mX p3 t7]) .ret)) [.t p3]
def ls96:List Nat:=[2]
def f95:Fd:=.mk [p0,p1] (.seq (.reg [mX p4 kN]) (.seq (.reg [mX p8 t0,mX p9 t1,mI p10 (.call p106 [t8,t9]),mX p5 t10]) (.seq (.seq (.reg [mX p11 t5,mI p12 (.bin .eq t11 (.c (.int .i64 (.negSucc 0))))]) (.cond t12 (.seq (.reg [mX p13 t0,mX p4 t13]) .ret) .skip)) (.seq (.seq (.reg [mX p14 t5,mI p15 (.bin .add t14 kZ1),mX p6 t15]) (.block 0 (.loop [p0,p1,p5,p6] (.seq (.seq (.reg [mX p16 t6,mX p17 t0,mI p18 (.len t17),mI p19 (.bin .lt t16 t18)]) (.cond t19 .skip (.exit 0))) (.seq (.block 1 (.seq (.reg [mX p22 t0,mX p23 t6,mI p24 (.ia 2 t22 t23),mI p25 (.lda 2 t24),.loc p7 zM,.mk none none (.st 2 t7 t25)]) (.seq (.reg [mX p26 t1,mI p27 (.lda 2 t7),mI p28 (.callv t26 [t27]),mI p29 (.not t28)]) (.cond t29 (.seq (.reg [mX p30 t0,mX p31 t5,mI p32 (.lda 2 t7),mI p33 (.ia 2 t30 t31),.mk none none (.st 2 t33 t32)]) (.reg [mX p34 t5,mI p35 (.bin .add t34 kZ1),mX p5 t35])) .skip)))) (.reg [mX p20 t6,mI p21 (.bin .add t20 kZ1),mX p6 t21])))))) (.seq (.reg [mX p36 t0,mX p37 t5,mI p38 (.sla 2 t36 (some t37) none none),.mk none none (.clr 2 zM t38)]) (.seq (.reg [mX p39 t0,mX p40 t5,mI p41 (.sla 2 t39 none (some t40) none),mX p4 t41]) .ret)))))) [.t p4]
def ls95:List Nat:=[7]
def f97:Fd:=.mk [p0,p1] (.seq (.reg [.locb p2 t0,.locb p3 t1,.loc p4 zT,mX p5 kZ0]) (.seq (.seq (.reg [mI p6 (.lda 2 t2),mI p7 (.call p16 [t6]),mI p8 (.bin .ne t7 kZ0),mX p9 t8,mG p10 p9 false (.lda 2 t3),mG p11 p9 false (.call p16 [t10]),mG p12 p9 false (.bin .ne t11 kZ0),mI p13 (.pick t9 kT t12)]) (.cond t13 (.seq (.reg [mI p14 (.bld zT []),.mk none none (.st 2 t4 t14),mX p5 kZ1]) .ret) .skip)) (.seq (.reg [mI p15 (.lda 2 t2),mI p16 (.lda 2 t3),mI p17 (.call p114 [t15,t16]),mI p18 (.call p113 [t17]),mI p19 (.ex t18 0),mI p20 (.ex t18 1),.mk none none (.st 2 t4 t19),mX p5 t20]) .ret))) [.cell p4 (some 2),.t p5]
def ls97:List Nat:=[2,3,4]
def f98:Fd:=.mk [p0,p1,p2] (.seq (.reg [mX p6 kZ0,mX p7 kF]) (.seq (.seq (.reg [mX p10 t0,mI p11 (.bin .eq t10 kZ0),mX p12 t11,mG p13 p12 false (.mv t1),mG p14 p12 false (.bin .eq t13 kZ0),mI p15 (.pick t12 kT t14)]) (.cond t15 (.seq (.reg [mX p6 kZ0,mX p7 kT]) .ret) .skip)) (.seq (.seq (.reg [mX p16 t0,mX p17 t2,mI p18 (.call p24 [t16,t17]),mI p19 (.not t18),mX p20 t19,mG p21 p20 false (.mv t1),mG p22 p20 false (.mv t2),mG p23 p20 false (.call p24 [t21,t22]),mG p24 p20 false (.not t23),mI p25 (.pick t20 kT t24)]) (.cond t25 (.seq (.reg [mX p6 kZ0,mX p7 kF]) .ret) .skip)) (.seq (.reg [mX p26 t0,mX p27 t0,mI p28 (.neg t27),mI p29 (.mx t26 [t28]),mX p30 t1,mX p31 t1,mI p32 (.neg t31),mI p33 (.mx t30 [t32]),mX p8 t29,mX p9 t33]) (.seq (.drw [dI [p0] p34 (.mv t0),dI [p1] p35 (.mv t1),dI [p34,p35] p36 (.bin .mul t34 t35),dI [p8] p37 (.mv t8),dI [p2] p38 (.mv t2),dI [p9] p39 (.mv t9),dI [p38,p39] p40 (.bin .quo t38 t39),dI [p37,p40] p41 (.bin .le t37 t40),dI [p36] p6 (.mv t36),dI [p41] p7 (.mv t41)]) .ret))))) [.t p6,.t p7]
def ls98:List Nat:=[]
def f99:Fd:=.mk [p0,p1] (.seq (.reg [.locb p2 t0,mX p3 kF]) (.seq (.reg [mI p4 (.fa 0 t2),mI p5 (.ld t4),mI p6 (.ld t1),mI p7 (.len t6),mI p8 (.bin .ge t5 t7),mX p3 t8]) .ret)) [.t p3]
def ls99:List Nat:=[2]
def f100:Fd:=.mk [p0] (.seq (.reg [mX p2 kF]) (.seq (.reg [mX p3 t0,mI p4 (.bin .lt t3 (.c (.int .i64 (.negSucc 2147483647)))),mX p5 t4,mG p6 p5 false (.mv t0),mG p7 p5 false (.bin .gt t6 (.c (.int .i64 (.ofNat 2147483647)))),mI p8 (.pick t5 kT t7),mX p2 t8]) .ret)) [.t p2]
def ls100:List Nat:=[]
def f62:Fd:=.mk [p0,p1] (.seq (.reg [mX p4 kF,mX p5 kZ0]) (.seq (.reg [mX p10 t0,mX p11 t1,mI p12 (.call p64 [t10,t11]),mX p6 t12]) (.seq (.seq (.reg [mX p13 t6,mI p14 (.bin .ne t13 kZ0)]) (.cond t14 (.seq (.reg [mX p15 t6,mX p4 kF,mX p5 t15]) .ret) .skip)) (.seq (.reg [mX p17 t0,mX p18 t1,mI p19 (.call p63 [t17,t18]),mX p16 t19,mI p20 (.ex t16 0),mI p21 (.ex t16 1),mI p22 (.ex t16 2),mX p7 t20,mX p8 t21,mX p9 t22]) (.seq (.reg [mX p23 t7,mX p24 t1,mI p25 (.call p103 [t23,t24,(.c (.int .i64 (.negSucc 0)))]),mX p26 t25,mG p27 p26 false (.mv t8),mG p28 p26 false (.mv t1),mG p29 p26 false (.call p103 [t27,t28,kZ1]),mI p30 (.pick t26 kT t29),mX p4 t30,mX p5 kZ0]) .ret))))) [.t p4,.t p5]
def ls62:List Nat:=[]
def f104:Fd:=.mk [p0,p1] (.seq (.reg [mI p3 (.bx t1),mX p4 kF]) (.seq (.reg [mX p5 t0,mI p6 (.mfn p127 [t3]),mI p7 (.call p48 [t5,t6]),mX p4 t7]) .ret)) [.t p4]
def ls104:List Nat:=[]
def f105:Fd:=.mk [p0,p1] (.seq (.reg [mX p4 kN]) (.seq (.seq (.reg [mX p5 t1,mI p6 (.bin .lt t5 kZ0)]) (.cond t6 (.reg [mI p7 (.bad),.mk none none (.bad)]) .skip)) (.seq (.seq (.reg [mX p8 t1,mX p9 t0,mI p10 (.cap t9),mX p11 t0,mI p12 (.len t11),mI p13 (.bin .sub t10 t12),mI p14 (.bin .sub t8 t13),mX p1 t14]) (.seq (.reg [mX p15 t1,mI p16 (.bin .gt t15 kZ0)]) (.cond t16 (.reg [mX p17 t0,mX p18 t0,mI p19 (.cap t18),mI p20 (.sla 3 t17 none (some t19) none),mX p21 t1,mI p22 (.apz 3 40 zC t20 t21),mX p23 t0,mI p24 (.len t23),mI p25 (.sla 3 t22 none (some t24) none),mX p0 t25]) .skip))) (.seq (.reg [mX p26 t0,mX p4 t26]) .ret)))) [.t p4]
def ls105:List Nat:=[]
def f106:Fd:=.mk [p0,p1] (.seq (.reg [mX p4 kZ0]) (.seq (.seq (.reg [mX p6 t0,mI p7 (.len t6),mX p8 kZ0]) (.block 0 (.loop [p0,p1,p7,p8] (.seq (.reg [mI p9 (.bin .lt t8 t7)]) (.seq (.cond t9 .skip (.exit 0)) (.seq (.block 1 (.seq (.reg [mX p10 t8,mX p5 t10]) (.seq (.reg [mX p11 t1,mX p12 t0,mX p13 t5,mI p14 (.ia 2 t12 t13),mI p15 (.lda 2 t14),mI p16 (.callv t11 [t15])]) (.cond t16 (.seq (.reg [mX p17 t5,mX p4 t17]) .ret) .skip)))) (.reg [mI p18 (.bin .add t8 kZ1),mX p8 t18]))))))) (.seq (.reg [mI p4 (.mv (.c (.int .i64 (.negSucc 0))))]) .ret))) [.t p4]
def ls106:List Nat:=[]
def f107:Fd:=.mk [p0,p1] (.seq (.reg [mX p4 kZ0]) (.seq (.reg [mX p5 t0,mI p6 (.call p76 [t5]),mX p7 t1,mI p8 (.call p76 [t7]),mX p0 t6,mX p1 t8]) (.seq (.block 0 (.loop [p0,p1] (.seq (.seq (.reg [mX p9 t1,mI p10 (.bin .ne t9 kZ0)]) (.cond t10 .skip (.exit 0))) (.block 1 (.drw [dI [p1] p11 (.mv t1),dI [p0] p12 (.mv t0),dI [p1] p13 (.mv t1),dI [p12,p13] p14 (.bin .rem t12 t13),dI [p11] p0 (.mv t11),dI [p14] p1 (.mv t14)]))))) (.seq (.reg [mX p15 t0,mX p4 t15]) .ret)))) [.t p4]
def ls107:List Nat:=[]
def f108:Fd:=.mk [p0,p1] (.seq (.reg [mX p4 kZ0]) (.seq (.reg [mX p6 t0,mX p7 t1,mI p8 (.bin .quo t6 t7),mX p5 t8]) (.seq (.seq (.reg [mX p9 t0,mX p10 t1,mI p11 (.bin .rem t9 t10),mI p12 (.bin .gt t11 kZ0)]) (.cond t12 (.reg [mX p13 t5,mI p14 (.bin .add t13 kZ1),mX p5 t14]) .skip)) (.seq (.reg [mX p15 t5,mX p4 t15]) .ret)))) [.t p4]
def ls108:List Nat:=[]
def f109:Fd:=.mk [p0,p1] (.seq (.reg [.locb p2 t0,.loc p4 zT]) (.seq (.reg [mI p7 (.fa 0 t2),mI p8 (.ld t7),mI p9 (.bld zT [(0,1,t8)]),.loc p5 zT,.mk none none (.st 2 t5 t9)]) (.seq (.seq (.reg [mX p6 kZ0]) (.block 0 (.loop [p1,p2,p4,p5,p6] (.seq (.seq (.reg [mX p10 t6,mI p11 (.fa 1 t2),mI p12 (.ld t11),mI p13 (.len t12),mI p14 (.bin .lt t10 t13)]) (.cond t14 .skip (.exit 0))) (.seq (.block 1 (.seq (.reg [mI p17 (.fa 1 t2),mI p18 (.ld t17),mX p19 t6,mI p20 (.ia 2 t18 t19),mI p21 (.fa 0 t20),mI p22 (.ld t21),mX p23 t1,mI p24 (.bin .ne t22 t23)]) (.cond t24 (.drw [dI [p5] p25 (.fa 1 t5),dI [p5,p25] p26 (.ld t25),dI [p2] p27 (.fa 1 t2),dI [p2,p27] p28 (.ld t27),dI [p6] p29 (.mv t6),dI [p28,p29] p30 (.ia 2 t28 t29),dI [p30] p31 (.lda 2 t30),dI [p31] p32 (.bsl 1 2 zM [(0,2,t31)]),.mk true [p26,p32] [p33] false (mI p33 (.app 2 16 t26 t32)),dI [p5] p34 (.fa 1 t5),.mk true [p5,p34,p33] [p5] true (.mk none none (.st 1 t34 t33))]) .skip))) (.reg [mX p15 t6,mI p16 (.bin .add t15 kZ1),mX p6 t16])))))) (.seq (.reg [mI p35 (.lda 2 t5),.mk none none (.st 2 t4 t35)]) .ret)))) [.cell p4 (some 2)]
def ls109:List Nat:=[2,4,5]
def f110:Fd:=.mk [p0,p1,p2] (.seq (.reg [.locb p3 t0,.locb p5 t2,.loc p6 zT,mX p7 kF]) (.seq (.reg [mI p11 (.lda 2 t3),mX p12 t1,mI p13 (.call p82 [t11,t12]),mX p8 t13]) (.seq (.reg [mI p15 (.lda 2 t5),mX p16 t8,mI p17 (.call p42 [t15,t16]),mX p14 t17,mI p18 (.ex t14 0),mI p19 (.ex t14 1),.loc p9 zT,.mk none none (.st 2 t9 t18),mX p10 t19]) (.seq (.seq (.reg [mX p20 t10,mI p21 (.not t20)]) (.cond t21 (.seq (.reg [mI p22 (.bld zT []),.mk none none (.st 2 t6 t22),mX p7 kF]) .ret) .skip)) (.seq (.drw [dI [p3] p23 (.vla 2 t3),dI [p1] p24 (.mv t1),.mk true [p23,p24] [p25] false (mI p25 (.call p109 [t23,t24])),dI [p9] p26 (.vla 2 t9),.mk true [p25,p26] [p27] false (mI p27 (.call p111 [t25,t26])),dI [p27] p28 (.ex t27 0),dI [p27] p29 (.ex t27 1),.mk true [p6,p28] [p6] true (.mk none none (.st 2 t6 t28)),dI [p29] p7 (.mv t29)]) .ret))))) [.cell p6 (some 2),.t p7]
def ls110:List Nat:=[3,5,6,9]
def f111:Fd:=.mk [p0,p1] (.seq (.reg [.locb p2 t0,.locb p3 t1,.loc p4 zT,mX p5 kF]) (.seq (.reg [mI p10 (.fa 0 t2),mI p11 (.ld t10),mI p12 (.fa 0 t3),mI p13 (.ld t12),mI p14 (.bin .add t11 t13),mI p15 (.bld zT [(0,1,t14)]),.loc p6 zT,.mk none none (.st 2 t6 t15)]) (.seq (.reg [mX p7 kZ0,mX p8 kZ0]) (.seq (.block 0 (.loop [p2,p3,p4,p6,p7,p8] (.seq (.seq (.reg [mX p16 t7,mI p17 (.fa 1 t2),mI p18 (.ld t17),mI p19 (.len t18),mI p20 (.bin .lt t16 t19),mX p21 t20,mG p22 p21 false (.mv t8),mG p23 p21 false (.fa 1 t3),mG p24 p21 false (.ld t23),mG p25 p21 false (.len t24),mG p26 p21 false (.bin .lt t22 t25),mI p27 (.pick t21 kT t26)]) (.cond t27 .skip (.exit 0))) (.block 1 (.block 2 (.seq (.drw [dI [p8] p61 (.mv t8),dI [p3] p62 (.fa 1 t3),dI [p3,p62] p63 (.ld t62),dI [p63] p64 (.len t63),dI [p61,p64] p65 (.bin .ge t61 t64),dI [p65] p66 (.mv t65),dG [p7,p66] p67 p66 false (.mv t7),dG [p2,p66] p68 p66 false (.fa 1 t2),dG [p2,p68,p66] p69 p66 false (.ld t68),dG [p69,p66] p70 p66 false (.len t69),dG [p67,p70,p66] p71 p66 false (.bin .lt t67 t70),dG [p71,p66] p72 p66 false (.mv t71),dG [p2,p72] p73 p72 true (.fa 1 t2),dG [p2,p73,p72] p74 p72 true (.ld t73),dG [p7,p72] p75 p72 true (.mv t7),dG [p74,p75,p72] p76 p72 true (.ia 2 t74 t75),dG [p76,p72] p77 p72 true (.fa 0 t76),dG [p77,p72] p78 p72 true (.ld t77),dG [p3,p72] p79 p72 true (.fa 1 t3),dG [p3,p79,p72] p80 p72 true (.ld t79),dG [p8,p72] p81 p72 true (.mv t8),dG [p80,p81,p72] p82 p72 true (.ia 2 t80 t81),dG [p82,p72] p83 p72 true (.fa 0 t82),dG [p83,p72] p84 p72 true (.ld t83),dG [p78,p84,p72] p85 p72 true (.bin .lt t78 t84),dG [p72,p85,p66] p86 p66 false (.pick t72 t85 kF),dI [p66,p86] p87 (.pick t66 kT t86),dI [p87] p60 (.mv t87)]) (.cond t60 (.seq (.drw [dI [p6] p88 (.fa 1 t6),dI [p6,p88] p89 (.ld t88),dI [p2] p90 (.fa 1 t2),dI [p2,p90] p91 (.ld t90),dI [p7] p92 (.mv t7),dI [p91,p92] p93 (.ia 2 t91 t92),dI [p93] p94 (.lda 2 t93),dI [p94] p95 (.bsl 1 2 zM [(0,2,t94)]),.mk true [p89,p95] [p96] false (mI p96 (.app 2 16 t89 t95)),dI [p6] p97 (.fa 1 t6),.mk true [p6,p97,p96] [p6] true (.mk none none (.st 1 t97 t96))]) (.reg [mX p98 t7,mI p99 (.bin .add t98 kZ1),mX p7 t99])) (.seq (.drw [dI [p7] p101 (.mv t7),dI [p2] p102 (.fa 1 t2),dI [p2,p102] p103 (.ld t102),dI [p103] p104 (.len t103),dI [p101,p104] p105 (.bin .ge t101 t104),dI [p105] p106 (.mv t105),dG [p3,p106] p107 p106 false (.fa 1 t3),dG [p3,p107,p106] p108 p106 false (.ld t107),dG [p8,p106] p109 p106 false (.mv t8),dG [p108,p109,p106] p110 p106 false (.ia 2 t108 t109),dG [p110,p106] p111 p106 false (.fa 0 t110),dG [p111,p106] p112 p106 false (.ld t111),dG [p2,p106] p113 p106 false (.fa 1 t2),dG [p2,p113,p106] p114 p106 false (.ld t113),dG [p7,p106] p115 p106 false (.mv t7),dG [p114,p115,p106] p116 p106 false (.ia 2 t114 t115),dG [p116,p106] p117 p106 false (.fa 0 t116),dG [p117,p106] p118 p106 false (.ld t117),dG [p112,p118,p106] p119 p106 false (.bin .lt t112 t118),dI [p106,p119] p120 (.pick t106 kT t119),dI [p120] p100 (.mv t120)]) (.cond t100 (.seq (.drw [dI [p6] p121 (.fa 1 t6),dI [p6,p121] p122 (.ld t121),dI [p3] p123 (.fa 1 t3),dI [p3,p123] p124 (.ld t123),dI [p8] p125 (.mv t8),dI [p124,p125] p126 (.ia 2 t124 t125),dI [p126] p127 (.lda 2 t126),dI [p127] p128 (.bsl 1 2 zM [(0,2,t127)]),.mk true [p122,p128] [p129] false (mI p129 (.app 2 16 t122 t128)),dI [p6] p130 (.fa 1 t6),.mk true [p6,p130,p129] [p6] true (.mk none none (.st 1 t130 t129))]) (.reg [mX p131 t8,mI p132 (.bin .add t131 kZ1),mX p8 t132])) (.seq (.seq (.drw [dI [p2] p28 (.fa 1 t2),dI [p2,p28] p29 (.ld t28),dI [p7] p30 (.mv t7),dI [p29,p30] p31 (.ia 2 t29 t30),dI [p31] p32 (.fa 1 t31),dI [p32] p33 (.ld t32),dI [p3] p34 (.fa 1 t3),dI [p3,p34] p35 (.ld t34),dI [p8] p36 (.mv t8),dI [p35,p36] p37 (.ia 2 t35 t36),dI [p37] p38 (.fa 1 t37),dI [p38] p39 (.ld t38),dI [p33,p39] p40 (.bin .add t33 t39),dI [p40] p9 (.mv t40)]) (.seq (.reg [mX p41 t9,mI p42 (.bin .ne t41 kZ0)]) (.cond t42 (.drw [dI [p6] p43 (.fa 1 t6),dI [p6,p43] p44 (.ld t43),dI [p2] p45 (.fa 1 t2),dI [p2,p45] p46 (.ld t45),dI [p7] p47 (.mv t7),dI [p46,p47] p48 (.ia 2 t46 t47),dI [p48] p49 (.fa 0 t48),dI [p49] p50 (.ld t49),dI [p9] p51 (.mv t9),dI [p50,p51] p52 (.bld zM [(0,1,t50),(1,1,t51)]),dI [p52] p53 (.bsl 1 2 zM [(0,2,t52)]),.mk true [p44,p53] [p54] false (mI p54 (.app 2 16 t44 t53)),dI [p6] p55 (.fa 1 t6),.mk true [p6,p55,p54] [p6] true (.mk none none (.st 1 t55 t54))]) .skip))) (.reg [mX p56 t7,mI p57 (.bin .add t56 kZ1),mX p58 t8,mI p59 (.bin .add t58 kZ1),mX p7 t57,mX p8 t59]))))))))))) (.seq (.seq (.reg [mI p133 (.lda 2 t6),mI p134 (.call p38 [t133]),mI p135 (.not t134)]) (.cond t135 (.seq (.reg [mI p136 (.bld zT []),.mk none none (.st 2 t4 t136),mX p5 kF]) .ret) .skip)) (.seq (.reg [mI p137 (.lda 2 t6),.mk none none (.st 2 t4 t137),mX p5 kT]) .ret)))))) [.cell p4 (some 2),.t p5]
def ls111:List Nat:=[2,3,4,6]
def f92:Fd:=.mk [p0,p1] (.seq (.reg [mX p4 kF]) (.seq (.seq (.reg [mX p6 t0,mI p7 (.len t6),mX p8 t1,mI p9 (.len t8),mI p10 (.bin .ne t7 t9)]) (.cond t10 (.seq (.reg [mX p4 kF]) .ret) .skip)) (.seq (.seq (.reg [mX p11 t0,mI p12 (.len t11),mX p13 kZ0]) (.block 0 (.loop [p0,p1,p12,p13] (.seq (.reg [mI p14 (.bin .lt t13 t12)]) (.seq (.cond t14 .skip (.exit 0)) (.seq (.block 1 (.seq (.reg [mX p15 t13,mX p5 t15]) (.seq (.drw [dI [p0] p16 (.mv t0),dI [p5] p17 (.mv t5),dI [p16,p17] p18 (.ia 2 t16 t17),dI [p18] p19 (.lda 2 t18),dI [p1] p20 (.mv t1),dI [p5] p21 (.mv t5),dI [p20,p21] p22 (.ia 2 t20 t21),dI [p22] p23 (.lda 2 t22),dI [p19,p23] p24 (.aeq [false,false] true t19 t23)]) (.cond t24 (.seq (.reg [mX p4 kF]) .ret) .skip)))) (.reg [mI p25 (.bin .add t13 kZ1),mX p13 t25]))))))) (.seq (.reg [mX p4 kT]) .ret)))) [.t p4]
def ls92:List Nat:=[]
def f112:Fd:=.mk [p0] (.seq (.reg [mX p2 kN]) (.seq (.seq (.reg [mX p3 t0,mI p4 (.isnil false t3)]) (.cond t4 (.seq (.reg [mX p2 kN]) .ret) .skip)) (.seq (.reg [mI p5 (.bsl 0 2 [] []),mX p6 t0,mI p7 (.app 2 16 t5 t6),mX p2 t7]) .ret))) [.t p2]
def ls112:List Nat:=[]
def f114:Fd:=.mk [p0,p1] (.seq (.reg [.locb p2 t0,.locb p3 t1,.loc p4 zT]) (.seq (.reg [mI p9 (.fa 0 t2),mI p10 (.ld t9),mI p11 (.fa 0 t3),mI p12 (.ld t11),mI p13 (.bin .add t10 t12),mI p14 (.bld zT [(0,1,t13)]),.loc p5 zT,.mk none none (.st 2 t5 t14)]) (.seq (.drw [dI [p2] p15 (.fa 1 t2),dI [p2,p15] p16 (.ld t15),dI [p3] p17 (.fa 1 t3),dI [p3,p17] p18 (.ld t17),dI [p16] p6 (.mv t16),dI [p18] p7 (.mv t18)]) (.seq (.block 0 (.loop [p4,p5,p6,p7] (.seq (.seq (.reg [mX p19 t6,mI p20 (.len t19),mI p21 (.bin .gt t20 kZ0),mX p22 t21,mG p23 p22 false (.mv t7),mG p24 p22 false (.len t23),mG p25 p22 false (.bin .gt t24 kZ0),mI p26 (.pick t22 kT t25)]) (.cond t26 .skip (.exit 0))) (.block 1 (.seq (.reg [.loc p8 zM]) (.seq (.block 2 (.seq (.drw [dI [p7] p46 (.mv t7),dI [p46] p47 (.len t46),dI [p47] p48 (.bin .eq t47 kZ0),dI [p48] p49 (.mv t48),dG [p6,p49] p50 p49 false (.mv t6),dG [p50,p49] p51 p49 false (.len t50),dG [p51,p49] p52 p49 false (.bin .gt t51 kZ0),dG [p52,p49] p53 p49 false (.mv t52),dG [p6,p53] p54 p53 true (.mv t6),dG [p54,p53] p55 p53 true (.ia 2 t54 kZ0),dG [p55,p53] p56 p53 true (.fa 0 t55),dG [p56,p53] p57 p53 true (.ld t56),dG [p7,p53] p58 p53 true (.mv t7),dG [p58,p53] p59 p53 true (.ia 2 t58 kZ0),dG [p59,p53] p60 p53 true (.fa 0 t59),dG [p60,p53] p61 p53 true (.ld t60),dG [p57,p61,p53] p62 p53 true (.bin .lt t57 t61),dG [p53,p62,p49] p63 p49 false (.pick t53 t62 kF),dI [p49,p63] p64 (.pick t49 kT t63),dI [p64] p45 (.mv t64)]) (.cond t45 (.drw [dI [p6] p65 (.mv t6),dI [p65] p66 (.ia 2 t65 kZ0),dI [p66] p67 (.lda 2 t66),dI [p6] p68 (.mv t6),dI [p68] p69 (.sla 2 t68 (some kZ1) none none),.mk true [p8,p67] [p8] true (.mk none none (.st 2 t8 t67)),dI [p69] p6 (.mv t69)]) (.seq (.drw [dI [p6] p71 (.mv t6),dI [p71] p72 (.len t71),dI [p72] p73 (.bin .eq t72 kZ0),dI [p73] p74 (.mv t73),dG [p7,p74] p75 p74 false (.mv t7),dG [p75,p74] p76 p74 false (.ia 2 t75 kZ0),dG [p76,p74] p77 p74 false (.fa 0 t76),dG [p77,p74] p78 p74 false (.ld t77),dG [p6,p74] p79 p74 false (.mv t6),dG [p79,p74] p80 p74 false (.ia 2 t79 kZ0),dG [p80,p74] p81 p74 false (.fa 0 t80),dG [p81,p74] p82 p74 false (.ld t81),dG [p78,p82,p74] p83 p74 false (.bin .lt t78 t82),dI [p74,p83] p84 (.pick t74 kT t83),dI [p84] p70 (.mv t84)]) (.cond t70 (.drw [dI [p7] p85 (.mv t7),dI [p85] p86 (.ia 2 t85 kZ0),dI [p86] p87 (.lda 2 t86),dI [p7] p88 (.mv t7),dI [p88] p89 (.sla 2 t88 (some kZ1) none none),.mk true [p8,p87] [p8] true (.mk none none (.st 2 t8 t87)),dI [p89] p7 (.mv t89)]) (.seq (.drw [dI [p6] p27 (.mv t6),dI [p27] p28 (.ia 2 t27 kZ0),dI [p28] p29 (.fa 0 t28),dI [p29] p30 (.ld t29),dI [p6] p31 (.mv t6),dI [p31] p32 (.ia 2 t31 kZ0),dI [p32] p33 (.fa 1 t32),dI [p33] p34 (.ld t33),dI [p7] p35 (.mv t7),dI [p35] p36 (.ia 2 t35 kZ0),dI [p36] p37 (.fa 1 t36),dI [p37] p38 (.ld t37),dI [p34,p38] p39 (.bin .add t34 t38),dI [p30,p39] p40 (.bld zM [(0,1,t30),(1,1,t39)]),.mk true [p8,p40] [p8] true (.mk none none (.st 2 t8 t40))]) (.drw [dI [p6] p41 (.mv t6),dI [p41] p42 (.sla 2 t41 (some kZ1) none none),dI [p7] p43 (.mv t7),dI [p43] p44 (.sla 2 t43 (some kZ1) none none),dI [p42] p6 (.mv t42),dI [p44] p7 (.mv t44)]))))))) (.seq (.reg [mI p90 (.fa 1 t8),mI p91 (.ld t90),mI p92 (.bin .ne t91 kZ0)]) (.cond t92 (.reg [mI p93 (.fa 1 t5),mI p94 (.ld t93),mI p95 (.lda 2 t8),mI p96 (.bsl 1 2 zM [(0,2,t95)]),mI p97 (.app 2 16 t94 t96),mI p98 (.fa 1 t5),.mk none none (.st 1 t98 t97)]) .skip)))))))) (.seq (.reg [mI p99 (.lda 2 t5),.mk none none (.st 2 t4 t99)]) .ret))))) [.cell p4 (some 2)]
def ls114:List Nat:=[2,3,4,5,8]
def f113:Fd:=.mk [p0] (.seq (.reg [.locb p1 t0,.loc p2 zT,mX p3 kZ0]) (.seq (.seq (.reg [mI p4 (.lda 2 t1),mI p5 (.call p16 [t4]),mI p6 (.bin .ne t5 kZ0)]) (.cond t6 (.seq (.reg [mI p7 (.bld zT []),.mk none none (.st 2 t2 t7),mI p3 (.mv (.c (.int .i64 (.ofNat 12))))]) .ret) .skip)) (.seq (.reg [mI p8 (.lda 2 t1),.mk none none (.st 2 t2 t8),mX p3 kZ0]) .ret))) [.cell p2 (some 2),.t p3]
def ls113:List Nat:=[1,2]
def f103:Fd:=.mk [p0,p1,p2] (.seq (.reg [mI p4 (.bx t1),mI p5 (.bx t2),mX p6 kF]) (.seq (.reg [mX p7 t0,mI p8 (.mfn p126 [t4,t5]),mI p9 (.call p48 [t7,t8]),mI p10 (.not t9),mX p6 t10]) .ret)) [.t p6]
def ls103:List Nat:=[]
def f127:Fd:=.mk [p0,p1] (.seq (.reg [.locb p2 t0,mX p3 kF]) (.seq (.reg [mI p4 (.fa 2 t2),mI p5 (.ld t4),mX p6 t5,mG p7 p6 true (.fa 0 t2),mG p8 p6 true (.lda 2 t7),mG p9 p6 true (.ld t1),mG p10 p6 true (.call p53 [t8,t9]),mG p11 p6 true (.bin .ne t10 kZ0),mI p12 (.pick t6 t11 kF),mX p3 t12]) .ret)) [.t p3]
def ls127:List Nat:=[2]
def f126:Fd:=.mk [p0,p1,p2] (.seq (.reg [.locb p3 t0,mX p4 kF]) (.seq (.drw [dI [p3] p5 (.fa 0 t3),dI [p3,p5] p6 (.lda 2 t5),dI [p1] p7 (.ld t1),dI [p6,p7] p8 (.call p53 [t6,t7]),dI [p2] p9 (.ld t2),dI [p8,p9] p10 (.bin .ne t8 t9),dI [p10] p4 (.mv t10)]) .ret)) [.t p4]
def ls126:List Nat:=[3]
def FT:Tr Fd:=(.nd none (.nd none (.nd (some f3) (.nd (some f7) (.nd (some f15) (.nd (some f31) (.nd (some f63) (.nd (some f127) .nl .nl) .nl) (.nd (some f95) .nl .nl)) (.nd (some f47) (.nd (some f79) .nl .nl) (.nd (some f111) .nl .nl))) (.nd (some f23) (.nd (some f39) (.nd (some f71) .nl .nl) (.nd (some f103) .nl .nl)) (.nd (some f55) (.nd (some f87) .nl .nl) .nl))) (.nd (some f11) (.nd (some f19) (.nd (some f35) (.nd (some f67) .nl .nl) (.nd (some f99) .nl .nl)) (.nd (some f51) (.nd (some f83) .nl .nl) .nl)) (.nd (some f27) (.nd (some f43) (.nd (some f75) .nl .nl) (.nd (some f107) .nl .nl)) (.nd (some f59) (.nd (some f91) .nl .nl) .nl)))) (.nd (some f5) (.nd (some f9) (.nd (some f17) (.nd (some f33) (.nd (some f65) .nl .nl) (.nd (some f97) .nl .nl)) (.nd (some f49) (.nd (some f81) .nl .nl) (.nd (some f113) .nl .nl))) (.nd (some f25) (.nd (some f41) (.nd (some f73) .nl .nl) (.nd (some f105) .nl .nl)) (.nd (some f57) (.nd (some f89) .nl .nl) .nl))) (.nd (some f13) (.nd (some f21) (.nd (some f37) (.nd (some f69) .nl .nl) .nl) (.nd (some f53) (.nd (some f85) .nl .nl) .nl)) (.nd (some f29) (.nd (some f45) (.nd (some f77) .nl .nl) (.nd (some f109) .nl .nl)) (.nd (some f61) (.nd (some f93) .nl .nl) .nl))))) (.nd none (.nd (some f4) (.nd (some f8) (.nd (some f16) (.nd (some f32) (.nd (some f64) .nl .nl) (.nd (some f96) .nl .nl)) (.nd (some f48) (.nd (some f80) .nl .nl) (.nd (some f112) .nl .nl))) (.nd (some f24) (.nd (some f40) (.nd (some f72) .nl .nl) (.nd (some f104) .nl .nl)) (.nd (some f56) (.nd (some f88) .nl .nl) .nl))) (.nd (some f12) (.nd (some f20) (.nd (some f36) (.nd (some f68) .nl .nl) (.nd (some f100) .nl .nl)) (.nd (some f52) (.nd (some f84) .nl .nl) .nl)) (.nd (some f28) (.nd (some f44) (.nd (some f76) .nl .nl) (.nd (some f108) .nl .nl)) (.nd (some f60) (.nd (some f92) .nl .nl) .nl)))) (.nd (some f6) (.nd (some f10) (.nd (some f18) (.nd (some f34) (.nd (some f66) .nl .nl) (.nd (some f98) .nl .nl)) (.nd (some f50) (.nd (some f82) .nl .nl) (.nd (some f114) .nl .nl))) (.nd (some f26) (.nd (some f42) (.nd (some f74) .nl .nl) (.nd (some f106) .nl .nl)) (.nd (some f58) (.nd (some f90) .nl .nl) .nl))) (.nd (some f14) (.nd (some f22) (.nd (some f38) (.nd (some f70) .nl .nl) .nl) (.nd (some f54) (.nd (some f86) .nl .nl) .nl)) (.nd (some f30) (.nd (some f46) (.nd (some f78) .nl .nl) (.nd (some f110) .nl .nl)) (.nd (some f62) (.nd (some f94) .nl .nl) (.nd (some f126) .nl .nl)))))))
def kOf:List Mono→Int→Int
 | [],_=>0
 | m::l,v=>if m.v=v then m.k else kOf l v
def roomB (n most:Int):Bool:=decide (-most≤n)&&decide (n≤most)
def okM (m:Mono):Bool:=decide (0≤m.v)&&decide (m.v<40)&&decide (m.k≠0)&&roomB m.k 1048576
def okFrom:Option Int→List Mono→Bool
 | _,[]=>true
 | p,m::l=>okM m&&(match p with|none=>true|some q=>decide (q<m.v))&&okFrom (some m.v) l
def okT (c:Int) (l:List Mono):Bool:=roomB c 1099511627776&&decide (l.length≤40)&&okFrom none l
def okC (x:Cons):Bool:=okT x.t.c x.t.l
def rightB (l:List Cons) (v:Int):Bool:=decide (0≤v)&&decide (v<40)&&l.all okC
def hasB (l:List Cons) (v:Int):Bool:=l.any fun x=>x.eq&&decide (kOf x.t.l v≠0)
def mayE (l:List Cons) (v:Int):Int:=if rightB l v=false then 1 else if hasB l v=true then 11 else 0
def idxOf {α:Type} (p:α→Bool):List α→Int→Int
 | [],_=>-1
 | x::l,i=>if p x then i else idxOf p l (i+1)
theorem idxOf_nonneg {α:Type} (p:α→Bool):∀ (l:List α) (i:Int),0≤i→(decide (0≤idxOf p l i)=l.any p)
 | [],i,_=>by simp [idxOf]
 | x::l,i,h=>by
  have ih:=idxOf_nonneg p l (i+1) (by omega)
  by_cases hp:p x=true
  ·simp [idxOf,hp,h]
  ·simp only [idxOf,List.any_cons,hp,Bool.false_eq_true,if_false]
   rw [ih];simp
def prevOf (l:List Mono) (i:Nat):Option Int:=if i=0 then none else (l[i-1]?).map (·.v)
def oneB (k:Int):Bool:=decide (k=1)||decide (k=-1)
end Go.Proofs.YthdlkpmhjbaplaaGreat.Dx
namespace Go.Proofs.YthdlkpmhjbaplaaGreat.Dx
open Go
open Nat renaming reduceAdd → rdA, reduceMul → rdM, reduceLeDiff → rdL, reduceLT → rdT, reduceEqDiff → rdE
open Int renaming reduceNegSucc → rdN
attribute [local irreducible] wCall wLoop
attribute [local go_sem] decide_true decide_false Bool.and_true Bool.true_and Bool.and_self Bool.false_and Bool.and_false vMs vCs vIs Slots At Tr.get_z Tr.get_l Tr.get_r Tr.get_e Tr.set_z_e Tr.set_z_n Tr.set_l_e Tr.set_l_n Tr.set_r_e Tr.set_r_n eOs_n eOs_c eDs_n eDs_c ekOs ekDs ekPut ekBack ekSeq_n ekSeq_x ekSeq_r ekBlk_n ekBlk_x ekBlk_r eO_mk eO_gd eO_loc eO_locb eD_mk eD_loc eD_locb eD_gd eDr eC_skip eC_reg eC_drw eC_seq eC_cond eC_block eC_loop eC_exit eC_ret eRetW_n eRetW_r wk wkL eRet_n eRet_r ekLd_n ekLd_x ekLd_r ekLp_n ekLp_x ekLp_r wI wBin wBd vev vov vovs vplace vouter ofDV ofDVs vcells spl vfills vput vuse vuseP vback vbackP wOf vbare isVarV vkeep hget hset hdels hdel hkeys live vw vwL keysV keysL pureV pureL vsrc veqs vmx vmn vT cT vC cC VOb.cells vres vrsL vrs1 vone List.length_cons List.length_nil List.getElem?_cons_zero List.getElem?_cons_succ List.take_succ_cons List.take_zero List.drop_succ_cons List.drop_zero List.drop_nil List.take_nil List.nil_append List.cons_append List.append_nil Option.some.injEq Nat.zero_add Nat.add_zero if_true if_false ite_true ite_false true_and and_true false_and and_false true_implies implies_true false_implies Bool.true_eq_false Bool.false_eq_true Bool.not_true Bool.not_false eq_self_iff_true Int.toNat_natCast Int.ofNat_eq_natCast Int.ofNat_zero Int.ofNat_one Int.cast_ofNat_Int VV.int.injEq VV.bool.injEq cond_true cond_false
theorem K_ok (c:Int) (l:List Mono) (v:Int) (hl:l.length≤4611686018427387904):VPure FT p53 [.agg [.int .i64 c,.fz l.length none 2 (encM l)],.int .i64 v] (.int .i64 (kOf l v)):=by
 refine vpure_of_body (f:=p53) rfl rfl ?_
 simp -implicitDefEqProofs only [go_sem,reduceCtorEq,rdA,rdM,rdL,rdT,rdE,rdN,↓gTT,↓gFF,↓gTF,↓gFT]
 refine wLoop_by (fun n s=>∃ i:Nat,i+n=l.length∧At s [(p1,.int .i64 v),(p8,vMs l),(p9,.int .i64 l.length),(p10,.int .i64 i)] 0 0 []∧kOf l v=kOf (l.drop i) v) l.length ?_ ?_
 ·exact ⟨0,by simp,by simp -implicitDefEqProofs only [go_sem,reduceCtorEq,rdA,rdM,rdL,rdT,rdE,rdN,↓gTT,↓gFF,↓gTF,↓gFT],by simp⟩
 ·rintro n ⟨e,nx,w,h⟩ ⟨i,hi,⟨⟨h1,h2,h3,h4,-⟩,rfl,rfl,rfl⟩,hk⟩
  rcases Nat.lt_or_ge i l.length with hlt|hge
  ·obtain ⟨m,hm⟩:=has hlt
   rw [drop_cons hm] at hk
   simp -implicitDefEqProofs only [h1,h2,h3,h4,ltT hlt,encM_cut hm,encM_len,inc64 hlt hl,go_sem,reduceCtorEq,rdA,rdM,rdL,rdT,rdE,rdN,↓gTT,↓gFF,↓gTF,↓gFT]
   refine ⟨by omega,by omega,fun h=>?_,fun h=>⟨n-1,by omega,i+1,by omega,rfl,?_⟩⟩
   ·rw [hk];simp at h;simp [kOf,h]
   ·rw [hk];simp at h;simp [kOf,h]
  ·simp -implicitDefEqProofs only [h1,h2,h3,h4,ltF hge,go_sem,reduceCtorEq,rdA,rdM,rdL,rdT,rdE,rdN,↓gTT,↓gFF,↓gTF,↓gFT]
   rw [hk,List.drop_eq_nil_of_le hge];rfl
theorem room_ok (n m:Int) (hm:0≤m∧m≤4611686018427387904):VPure FT p24 [.int .i64 n,.int .i64 m] (.bool (roomB n m)):=by
 refine vpure_of_body (f:=p24) rfl rfl ?_
 have h:=i64 (z:=-m) (by omega)
 simp -implicitDefEqProofs only [h,go_sem,reduceCtorEq,rdA,rdM,rdL,rdT,rdE,rdN,↓gTT,↓gFF,↓gTF,↓gFT]
 unfold roomB
 refine ⟨fun h=>?_,fun h=>?_⟩<;>simp only [h]<;>simp
set_option maxHeartbeats 1000000 in
theorem Check_ok (c:Int) (l:List Mono) (hl:l.length≤4611686018427387904):VPure FT p16 [.agg [.int .i64 c,.fz l.length none 2 (encM l)]] (.int .i64 (if okT c l then 0 else 1)):=by
 refine vpure_of_body (f:=p16) rfl rfl ?_
 simp -implicitDefEqProofs only [go_sem,reduceCtorEq,rdA,rdM,rdL,rdT,rdE,rdN,↓gTT,↓gFF,↓gTF,↓gFT]
 repeat' (first|(with_reducible refine And.intro ?_ ?_)|(with_reducible refine gs_t ?_ ?_)|(with_reducible refine gs_f ?_ ?_)|(intro _)|((with_reducible apply wCall_any);(· (simp -implicitDefEqProofs only [go_sem,reduceCtorEq,rdA,rdM,rdL,rdT,rdE,rdN,↓gTT,↓gFF,↓gTF,↓gFT]<;>rfl));(· (exact room_ok _ _ (by omega)));(· rfl);(· rfl);(· (first|exact Eq.refl true|exact Eq.refl false));(simp -implicitDefEqProofs only [go_sem,reduceCtorEq,rdA,rdM,rdL,rdT,rdE,rdN,↓gTT,↓gFF,↓gTF,↓gFT]))|fail)
 ·rename_i h1 h2;simp at h1 h2;unfold okT;rw [if_neg];simp;omega
 ·rename_i h1 h2
  have h1':roomB c 1099511627776=true:=by simpa using h1
  have h2':l.length≤40:=by simp at h2;omega
  refine wLoop_by (fun n s=>∃ i:Nat,i+n=l.length∧At s [(p1,.var [.int .i64 c,.fz l.length none 2 (encM l)]),(p16,.fz l.length none 2 (encM l)),(p17,.int .i64 l.length),(p18,.int .i64 i)] 0 0 []∧okFrom none l=okFrom (prevOf l i) (l.drop i)) l.length ?_ ?_
  ·exact ⟨0,by simp,by simp -implicitDefEqProofs only [go_sem,reduceCtorEq,rdA,rdM,rdL,rdT,rdE,rdN,↓gTT,↓gFF,↓gTF,↓gFT],by simp [prevOf]⟩
  ·rintro n ⟨e,nx,w,h⟩ ⟨i,hi,⟨⟨s1,s2,s3,s4,-⟩,rfl,rfl,rfl⟩,hk⟩
   rcases Nat.lt_or_ge i l.length with hlt|hge
   ·obtain ⟨m,hm⟩:=has hlt
    rw [drop_cons hm] at hk
    have key:∀ q,prevOf l i=q→okFrom q (m::l.drop (i+1))=(okM m&&(match q with|none=>true|some q=>decide (q<m.v))&&okFrom (some m.v) (l.drop (i+1))):=fun q _=>rfl
    rw [key _ rfl] at hk
    have hp1:prevOf l (i+1)=some m.v:=by simp [prevOf,hm]
    have fin:okM m=true→(match prevOf l i with|none=>true|some q=>decide (q<m.v))=true→∃ m0,m0<n∧∃ i_1,i_1+m0=l.length∧((i+1:Nat):Int)=(i_1:Int)∧okFrom none l=okFrom (prevOf l i_1) (List.drop i_1 l):=by
     intro a b
     refine ⟨n-1,by omega,i+1,by omega,rfl,?_⟩
     rw [hk,a,b,hp1];rfl
    have bad:(okM m=false∨(match prevOf l i with|none=>true|some q=>decide (q<m.v))=false)→(1:Int)=if okT c l=true then 0 else 1:=by
     intro h
     rw [if_neg]
     unfold okT;rw [hk]
     rcases h with h|h<;>rw [h]<;>simp
    by_cases hi0:i=0
    ·have hz:decide ((0:Int)<(i:Int))=false:=by simp [hi0]
     have hpz:prevOf l i=none:=by simp [prevOf,hi0]
     rw [hpz] at fin bad
     simp -implicitDefEqProofs only [s1,s2,s3,s4,ltT hlt,encM_cut hm,encM_len,inc64 hlt hl,hz,go_sem,reduceCtorEq,rdA,rdM,rdL,rdT,rdE,rdN,↓gTT,↓gFF,↓gTF,↓gFT]
     clear hk key s1 s2 s3 s4
     repeat' (first|(with_reducible refine And.intro ?_ ?_)|(with_reducible refine gs_t ?_ ?_)|(with_reducible refine gs_f ?_ ?_)|(intro _)|((with_reducible apply wCall_any);(· (simp -implicitDefEqProofs only [go_sem,reduceCtorEq,rdA,rdM,rdL,rdT,rdE,rdN,↓gTT,↓gFF,↓gTF,↓gFT]<;>rfl));(· (exact room_ok _ _ (by omega)));(· rfl);(· rfl);(· (first|exact Eq.refl true|exact Eq.refl false));(simp -implicitDefEqProofs only [inc64 hlt hl,go_sem,reduceCtorEq,rdA,rdM,rdL,rdT,rdE,rdN,↓gTT,↓gFF,↓gTF,↓gFT]))|fail)
     all_goals first
      | omega
      | (refine bad (.inl ?_);clear fin bad;first|(simp_all [okM];done)|(simp_all [okM];intros;omega))
      | (refine bad (.inr ?_);clear fin bad;first|(simp_all;done)|(simp_all;omega))
      | (refine fin ?_ ?_<;>clear fin bad<;>first|rfl|(simp_all [okM];done)|(simp_all [okM];omega)|(simp_all;omega))
    ·obtain ⟨j,hj⟩:∃ j,j+1=i:=⟨i-1,by omega⟩
     obtain ⟨m',hm'⟩:∃ m',l[j]?=some m':=has (by omega)
     have hz:decide ((0:Int)<(i:Int))=true:=by simp;omega
     have hw:IntKind.i64.wrap ((i:Int)-1)=(j:Int):=by rw [i64 (by omega)];omega
     have hpz:prevOf l i=some m'.v:=by
      have:i-1=j:=by omega
      simp [prevOf,hi0,this,hm']
     rw [hpz] at fin bad
     simp -implicitDefEqProofs only [s1,s2,s3,s4,ltT hlt,encM_cut hm,encM_g0 hm',encM_len,inc64 hlt hl,hw,hz,go_sem,reduceCtorEq,rdA,rdM,rdL,rdT,rdE,rdN,↓gTT,↓gFF,↓gTF,↓gFT]
     clear hk key s1 s2 s3 s4
     repeat' (first|(with_reducible refine And.intro ?_ ?_)|(with_reducible refine gs_t ?_ ?_)|(with_reducible refine gs_f ?_ ?_)|(intro _)|((with_reducible apply wCall_any);(· (simp -implicitDefEqProofs only [go_sem,reduceCtorEq,rdA,rdM,rdL,rdT,rdE,rdN,↓gTT,↓gFF,↓gTF,↓gFT]<;>rfl));(· (exact room_ok _ _ (by omega)));(· rfl);(· rfl);(· (first|exact Eq.refl true|exact Eq.refl false));(simp -implicitDefEqProofs only [inc64 hlt hl,go_sem,reduceCtorEq,rdA,rdM,rdL,rdT,rdE,rdN,↓gTT,↓gFF,↓gTF,↓gFT]))|fail)
     all_goals first
      | omega
      | (refine bad (.inl ?_);clear fin bad;first|(simp_all [okM];done)|(simp_all [okM];intros;omega))
      | (refine bad (.inr ?_);clear fin bad;first|(simp_all;done)|(simp_all;omega))
      | (refine fin ?_ ?_<;>clear fin bad<;>first|rfl|(simp_all [okM];done)|(simp_all [okM];omega)|(simp_all;omega))
   ·simp -implicitDefEqProofs only [s1,s2,s3,s4,ltF hge,go_sem,reduceCtorEq,rdA,rdM,rdL,rdT,rdE,rdN,↓gTT,↓gFF,↓gTF,↓gFT]
    unfold okT
    rw [hk,List.drop_eq_nil_of_le hge,h1',show decide (l.length≤40)=true by simpa using h2'];simp [okFrom]
 ·rename_i h1;simp at h1;unfold okT;rw [if_neg];simp [h1]
theorem wCall_pp {F:Tr Fd} {f:P} {args:List VV} {s:VSt} {K:VSt→VV→Prop} {r:VV} (ha:pureL args=true) (hp:VPure F f args r) (hr:pureV r=true) (hK:K s r):wCall F f args s K:=
 wCall_pure (vwL_pure _ _ ha) hp hr (.inr ha) hK
theorem one_ok (k:Int):VPure FT p52 [.int .i64 k] (.bool (oneB k)):=by
 refine vpure_of_body (f:=p52) rfl rfl ?_
 simp -implicitDefEqProofs only [go_sem,reduceCtorEq,rdA,rdM,rdL,rdT,rdE,rdN,↓gTT,↓gFF,↓gTF,↓gFT]
 unfold oneB
 refine gs_f (fun h=>?_) (fun h=>?_)<;>simp only [h]<;>simp
theorem right1_ok (x:Cons) (hx:x.t.l.length≤4611686018427387904):VPure FT p93 [.agg (cC x)] (.bool (!okC x)):=by
 refine vpure_of_body (f:=p93) rfl rfl ?_
 simp -implicitDefEqProofs only [go_sem,reduceCtorEq,rdA,rdM,rdL,rdT,rdE,rdN,↓gTT,↓gFF,↓gTF,↓gFT]
 repeat' (first|(with_reducible refine And.intro ?_ ?_)|(with_reducible refine gs_t ?_ ?_)|(with_reducible refine gs_f ?_ ?_)|(intro _)|((with_reducible apply wCall_any);(· (simp -implicitDefEqProofs only [go_sem,reduceCtorEq,rdA,rdM,rdL,rdT,rdE,rdN,↓gTT,↓gFF,↓gTF,↓gFT]<;>rfl));(· (exact Check_ok _ _ hx));(· rfl);(· rfl);(· (first|exact Eq.refl true|exact Eq.refl false));(simp -implicitDefEqProofs only [go_sem,reduceCtorEq,rdA,rdM,rdL,rdT,rdE,rdN,↓gTT,↓gFF,↓gTF,↓gFT]))|fail)
 unfold okC
 cases okT x.t.c x.t.l<;>rfl
theorem IndexC_ok (f:P) (cs:List VV) (p:Cons→Bool) (l:List Cons) (hl:l.length≤4611686018427387904) (hcs:pureL cs=true) (hp:∀ x∈l,VPure FT f (.agg (cC x)::cs) (.bool (p x))):
 VPure FT p91 [.fz l.length none 3 (encC l),.fn f cs] (.int .i64 (idxOf p l 0)):=by
 refine vpure_of_body (f:=p91) rfl rfl ?_
 simp -implicitDefEqProofs only [go_sem,reduceCtorEq,rdA,rdM,rdL,rdT,rdE,rdN,↓gTT,↓gFF,↓gTF,↓gFT]
 refine wLoop_by (fun n s=>∃ i:Nat,i+n=l.length∧At s [(p0,.fz l.length none 3 (encC l)),(p1,.fn f cs),(p7,.int .i64 l.length),(p8,.int .i64 i)] 0 0 []∧idxOf p l 0=idxOf p (l.drop i) i) l.length ?_ ?_
 ·exact ⟨0,by simp,by simp -implicitDefEqProofs only [go_sem,reduceCtorEq,rdA,rdM,rdL,rdT,rdE,rdN,↓gTT,↓gFF,↓gTF,↓gFT],by simp⟩
 ·rintro n ⟨e,nx,w,h⟩ ⟨i,hi,⟨⟨s1,s2,s3,s4,-⟩,rfl,rfl,rfl⟩,hk⟩
  rcases Nat.lt_or_ge i l.length with hlt|hge
  ·obtain ⟨x,hx⟩:=has hlt
   rw [drop_cons hx] at hk
   simp -implicitDefEqProofs only [s1,s2,s3,s4,ltT hlt,encC_cut hx,encC_len,inc64 hlt hl,go_sem,reduceCtorEq,rdA,rdM,rdL,rdT,rdE,rdN,↓gTT,↓gFF,↓gTF,↓gFT]
   refine ⟨⟨by omega,by omega⟩,by omega,?_⟩
   refine wCall_pp (r:=.bool (p x)) (by simp [pureL,pureV,hcs]) (hp x (List.mem_of_getElem? hx)) rfl ?_
   simp -implicitDefEqProofs only [inc64 hlt hl,go_sem,reduceCtorEq,rdA,rdM,rdL,rdT,rdE,rdN,↓gTT,↓gFF,↓gTF,↓gFT]
   refine gs_t (fun h=>?_) (fun h=>?_)
   ·rw [hk];simp [idxOf,h]
   ·refine ⟨n-1,by omega,i+1,by omega,rfl,?_⟩
    rw [hk];simp [idxOf,h]
  ·simp -implicitDefEqProofs only [s1,s2,s3,s4,ltF hge,go_sem,reduceCtorEq,rdA,rdM,rdL,rdT,rdE,rdN,↓gTT,↓gFF,↓gTF,↓gFT]
   rw [hk,List.drop_eq_nil_of_le hge];rfl
theorem ContainsC_ok (f:P) (cs:List VV) (p:Cons→Bool) (l:List Cons) (hl:l.length≤4611686018427387904) (hcs:pureL cs=true) (hp:∀ x∈l,VPure FT f (.agg (cC x)::cs) (.bool (p x))):
 VPure FT p48 [.fz l.length none 3 (encC l),.fn f cs] (.bool (l.any p)):=by
 refine vpure_of_body (f:=p48) rfl rfl ?_
 simp -implicitDefEqProofs only [go_sem,reduceCtorEq,rdA,rdM,rdL,rdT,rdE,rdN,↓gTT,↓gFF,↓gTF,↓gFT]
 refine wCall_pp (r:=.int .i64 (idxOf p l 0)) (by simp [pureL,pureV,hcs]) (IndexC_ok f cs p l hl hcs hp) rfl ?_
 simp -implicitDefEqProofs only [go_sem,reduceCtorEq,rdA,rdM,rdL,rdT,rdE,rdN,↓gTT,↓gFF,↓gTF,↓gFT]
 exact idxOf_nonneg p l 0 (by omega)
structure smallC (l:List Cons):Prop where
 len:l.length≤100000
 all:∀ x∈l,x.t.l.length≤1000000
theorem right_ok (l:List Cons) (v:Int) (hl:smallC l):VPure FT p51 [.fz l.length none 3 (encC l),.int .i64 v] (.bool (rightB l v)):=by
 refine vpure_of_body (f:=p51) rfl rfl ?_
 simp -implicitDefEqProofs only [go_sem,reduceCtorEq,rdA,rdM,rdL,rdT,rdE,rdN,↓gTT,↓gFF,↓gTF,↓gFT]
 repeat' (first|(with_reducible refine And.intro ?_ ?_)|(with_reducible refine gs_t ?_ ?_)|(with_reducible refine gs_f ?_ ?_)|(intro _)|((with_reducible apply wCall_any);(· (simp -implicitDefEqProofs only [go_sem,reduceCtorEq,rdA,rdM,rdL,rdT,rdE,rdN,↓gTT,↓gFF,↓gTF,↓gFT]<;>rfl));(· (exact ContainsC_ok p93 [] (fun x=>!okC x) l (by have:=hl.len;omega) rfl (fun x hx=>right1_ok x (by have:=hl.all x hx;omega))));(· rfl);(· rfl);(· (first|exact Eq.refl true|exact Eq.refl false));(simp -implicitDefEqProofs only [go_sem,reduceCtorEq,rdA,rdM,rdL,rdT,rdE,rdN,↓gTT,↓gFF,↓gTF,↓gFT]))|fail)
 all_goals unfold rightB
 all_goals first|(simp_all [List.any_eq_not_all_not];done)|(simp_all [List.any_eq_not_all_not];intros;omega)
theorem has1_ok (x:Cons) (v:Int) (hx:x.t.l.length≤4611686018427387904):VPure FT p127 [.agg (cC x),.fp [.int .i64 v] 0] (.bool (x.eq&&decide (kOf x.t.l v≠0))):=by
 refine vpure_of_body (f:=p127) rfl rfl ?_
 simp -implicitDefEqProofs only [go_sem,reduceCtorEq,rdA,rdM,rdL,rdT,rdE,rdN,↓gTT,↓gFF,↓gTF,↓gFT]
 repeat' (first|(with_reducible refine And.intro ?_ ?_)|(with_reducible refine gs_t ?_ ?_)|(with_reducible refine gs_f ?_ ?_)|(intro _)|((with_reducible apply wCall_any);(· (simp -implicitDefEqProofs only [go_sem,reduceCtorEq,rdA,rdM,rdL,rdT,rdE,rdN,↓gTT,↓gFF,↓gTF,↓gFT]<;>rfl));(· (exact K_ok _ _ _ hx));(· rfl);(· rfl);(· (first|exact Eq.refl true|exact Eq.refl false));(simp -implicitDefEqProofs only [go_sem,reduceCtorEq,rdA,rdM,rdL,rdT,rdE,rdN,↓gTT,↓gFF,↓gTF,↓gFT]))|fail)
 all_goals simp_all
theorem has_ok (l:List Cons) (v:Int) (hl:smallC l):VPure FT p104 [.fz l.length none 3 (encC l),.int .i64 v] (.bool (hasB l v)):=by
 refine vpure_of_body (f:=p104) rfl rfl ?_
 simp -implicitDefEqProofs only [go_sem,reduceCtorEq,rdA,rdM,rdL,rdT,rdE,rdN,↓gTT,↓gFF,↓gTF,↓gFT]
 repeat' (first|(with_reducible refine And.intro ?_ ?_)|(with_reducible refine gs_t ?_ ?_)|(with_reducible refine gs_f ?_ ?_)|(intro _)|((with_reducible apply wCall_any);(· (simp -implicitDefEqProofs only [go_sem,reduceCtorEq,rdA,rdM,rdL,rdT,rdE,rdN,↓gTT,↓gFF,↓gTF,↓gFT]<;>rfl));(· (exact ContainsC_ok p127 [.fp [.int .i64 v] 0] (fun x=>x.eq&&decide (kOf x.t.l v≠0)) l (by have:=hl.len;omega) rfl (fun x hx=>has1_ok x v (by have:=hl.all x hx;omega))));(· rfl);(· rfl);(· (first|exact Eq.refl true|exact Eq.refl false));(simp -implicitDefEqProofs only [go_sem,reduceCtorEq,rdA,rdM,rdL,rdT,rdE,rdN,↓gTT,↓gFF,↓gTF,↓gFT]))|fail)
 rfl
theorem may_ok (l:List Cons) (v:Int) (hl:smallC l):VPure FT p64 [.fz l.length none 3 (encC l),.int .i64 v] (.int .i64 (mayE l v)):=by
 refine vpure_of_body (f:=p64) rfl rfl ?_
 simp -implicitDefEqProofs only [go_sem,reduceCtorEq,rdA,rdM,rdL,rdT,rdE,rdN,↓gTT,↓gFF,↓gTF,↓gFT]
 repeat' (first|(with_reducible refine And.intro ?_ ?_)|(with_reducible refine gs_t ?_ ?_)|(with_reducible refine gs_f ?_ ?_)|(intro _)|((with_reducible apply wCall_any);(· (simp -implicitDefEqProofs only [go_sem,reduceCtorEq,rdA,rdM,rdL,rdT,rdE,rdN,↓gTT,↓gFF,↓gTF,↓gFT]<;>rfl));(· (first|exact right_ok l v hl|exact has_ok l v hl));(· rfl);(· rfl);(· (first|exact Eq.refl true|exact Eq.refl false));(simp -implicitDefEqProofs only [go_sem,reduceCtorEq,rdA,rdM,rdL,rdT,rdE,rdN,↓gTT,↓gFF,↓gTF,↓gFT]))|fail)
 all_goals unfold mayE
 all_goals first|rfl|(simp_all;done)
def lowsOf (l:List Cons) (v:Int):List Cons:=l.filter fun x=>decide (kOf x.t.l v<0)
def highsOf (l:List Cons) (v:Int):List Cons:=l.filter fun x=>decide (0<kOf x.t.l v)
def othersOf (l:List Cons) (v:Int):List Cons:=l.filter fun x=>decide (kOf x.t.l v=0)
theorem parts_ok (l:List Cons) (v:Int) (hl:smallC l):VPure FT p63 [.fz l.length none 3 (encC l),.int .i64 v] (.tup [vCs (lowsOf l v),vCs (highsOf l v),vCs (othersOf l v)]):=by
 refine vpure_of_body (f:=p63) rfl rfl ?_
 simp -implicitDefEqProofs only [go_sem,reduceCtorEq,rdA,rdM,rdL,rdT,rdE,rdN,↓gTT,↓gFF,↓gTF,↓gFT]
 refine wLoop_own p4 3 (by simp -implicitDefEqProofs only [go_sem,reduceCtorEq,rdA,rdM,rdL,rdT,rdE,rdN,↓gTT,↓gFF,↓gTF,↓gFT]) ?_
 refine wLoop_own p5 3 (by simp -implicitDefEqProofs only [go_sem,reduceCtorEq,rdA,rdM,rdL,rdT,rdE,rdN,↓gTT,↓gFF,↓gTF,↓gFT]) ?_
 refine wLoop_own p6 3 (by simp -implicitDefEqProofs only [go_sem,reduceCtorEq,rdA,rdM,rdL,rdT,rdE,rdN,↓gTT,↓gFF,↓gTF,↓gFT]) ?_
 refine wLoop_dr (fun n s=>∃ i m:Nat,i+n=l.length∧At s [(p1,.int .i64 v),(p4,.ow 0 (lowsOf (l.take i) v).length 3),(p5,.ow 1 (highsOf (l.take i) v).length 3),(p6,.ow 2 (othersOf (l.take i) v).length 3),(p10,.fz l.length none 3 (encC l)),(p11,.int .i64 l.length),(p12,.int .i64 i)] (m+3) 0
  [(2,.row (encC (othersOf (l.take i) v))),(1,.row (encC (highsOf (l.take i) v))),(0,.row (encC (lowsOf (l.take i) v)))]) l.length ?_ ?_
 ·exact ⟨0,0,by simp,by simp -implicitDefEqProofs only [go_sem,reduceCtorEq,rdA,rdM,rdL,rdT,rdE,rdN,↓gTT,↓gFF,↓gTF,↓gFT];simp [lowsOf,highsOf,othersOf,encC]⟩
 ·rintro n ⟨e,nx,w,h⟩ ⟨i,m,hi,⟨s1,s2,s3,s4,s5,s6,s7,-⟩,rfl,rfl,rfl⟩
  rcases Nat.lt_or_ge i l.length with hlt|hge
  ·obtain ⟨x,hx⟩:=has hlt
   have hll:=hl.len
   have hxl:=hl.all x (List.mem_of_getElem? hx)
   have b1:(lowsOf (l.take i) v).length≤i:=Nat.le_trans (List.length_filter_le _ _) (List.length_take_le _ _)
   have b2:(highsOf (l.take i) v).length≤i:=Nat.le_trans (List.length_filter_le _ _) (List.length_take_le _ _)
   have b3:(othersOf (l.take i) v).length≤i:=Nat.le_trans (List.length_filter_le _ _) (List.length_take_le _ _)
   simp -implicitDefEqProofs only [s1,s2,s3,s4,s5,s6,s7,ltT hlt,encC_cut hx,encC_len,inc64 hlt (by omega:l.length≤4611686018427387904),go_sem,reduceCtorEq,rdA,rdM,rdL,rdT,rdE,rdN,↓gTT,↓gFF,↓gTF,↓gFT]
   repeat' (first|(with_reducible refine And.intro ?_ ?_)|(with_reducible refine gs_t ?_ ?_)|(with_reducible refine gs_f ?_ ?_)|(intro _)|((with_reducible apply wCall_any);(· (simp -implicitDefEqProofs only [go_sem,reduceCtorEq,rdA,rdM,rdL,rdT,rdE,rdN,↓gTT,↓gFF,↓gTF,↓gFT]<;>rfl));(· (exact K_ok _ _ _ (by omega:x.t.l.length≤4611686018427387904)));(· rfl);(· rfl);(· (first|exact Eq.refl true|exact Eq.refl false));(simp -implicitDefEqProofs only [encC_len,inc64 hlt (by omega:l.length≤4611686018427387904),go_sem,reduceCtorEq,rdA,rdM,rdL,rdT,rdE,rdN,↓gTT,↓gFF,↓gTF,↓gFT]))|fail)
   all_goals (clear s1 s2 s3 s4 s5 s6 s7;try omega)
   all_goals
    have ht:=take_snoc hx
    have hk:(decide (kOf x.t.l v<0)=true∧decide (0<kOf x.t.l v)=false∧decide (kOf x.t.l v=0)=false)∨(decide (kOf x.t.l v<0)=false∧decide (0<kOf x.t.l v)=true∧decide (kOf x.t.l v=0)=false) ∨
     (decide (kOf x.t.l v<0)=false∧decide (0<kOf x.t.l v)=false∧decide (kOf x.t.l v=0)=true):=by
     simp only [decide_eq_true_eq,decide_eq_false_iff_not];omega
    refine ⟨n-1,by omega,_,subH_tail (by simp [hget]),i+1,m+1,by omega,?_,rfl,?_⟩
    ·rcases hk with ⟨e1,e2,e3⟩|⟨e1,e2,e3⟩|⟨e1,e2,e3⟩<;>simp_all [lowsOf,highsOf,othersOf,List.filter_append]
    ·rcases hk with ⟨e1,e2,e3⟩|⟨e1,e2,e3⟩|⟨e1,e2,e3⟩<;>simp_all [lowsOf,highsOf,othersOf,List.filter_append,encC_app,encC,vMs]
  ·simp -implicitDefEqProofs only [s1,s2,s3,s4,s5,s6,s7,ltF hge,encC_len,go_sem,reduceCtorEq,rdA,rdM,rdL,rdT,rdE,rdN,↓gTT,↓gFF,↓gTF,↓gFT]
   rw [List.take_of_length_le hge]
theorem all1_ok (x:Cons) (v k:Int) (hx:x.t.l.length≤1000000):VPure FT p126 [.agg (cC x),.fp [.int .i64 v] 0,.fp [.int .i64 k] 0] (.bool (decide (kOf x.t.l v≠k))):=by
 refine vpure_of_body (f:=p126) rfl rfl ?_
 simp -implicitDefEqProofs only [go_sem,reduceCtorEq,rdA,rdM,rdL,rdT,rdE,rdN,↓gTT,↓gFF,↓gTF,↓gFT]
 repeat' (first|(with_reducible refine And.intro ?_ ?_)|(with_reducible refine gs_t ?_ ?_)|(with_reducible refine gs_f ?_ ?_)|(intro _)|((with_reducible apply wCall_any);(· (simp -implicitDefEqProofs only [go_sem,reduceCtorEq,rdA,rdM,rdL,rdT,rdE,rdN,↓gTT,↓gFF,↓gTF,↓gFT]<;>rfl));(· (exact K_ok _ _ _ (by omega)));(· rfl);(· rfl);(· (first|exact Eq.refl true|exact Eq.refl false));(simp -implicitDefEqProofs only [go_sem,reduceCtorEq,rdA,rdM,rdL,rdT,rdE,rdN,↓gTT,↓gFF,↓gTF,↓gFT]))|fail)
 all_goals simp_all
theorem all_ok (l:List Cons) (v k:Int) (hl:smallC l):VPure FT p103 [.fz l.length none 3 (encC l),.int .i64 v,.int .i64 k] (.bool (l.all fun x=>decide (kOf x.t.l v=k))):=by
 refine vpure_of_body (f:=p103) rfl rfl ?_
 simp -implicitDefEqProofs only [go_sem,reduceCtorEq,rdA,rdM,rdL,rdT,rdE,rdN,↓gTT,↓gFF,↓gTF,↓gFT]
 repeat' (first|(with_reducible refine And.intro ?_ ?_)|(with_reducible refine gs_t ?_ ?_)|(with_reducible refine gs_f ?_ ?_)|(intro _)|((with_reducible apply wCall_any);(· (simp -implicitDefEqProofs only [go_sem,reduceCtorEq,rdA,rdM,rdL,rdT,rdE,rdN,↓gTT,↓gFF,↓gTF,↓gFT]<;>rfl));(· (exact ContainsC_ok p126 [.fp [.int .i64 v] 0,.fp [.int .i64 k] 0] (fun x=>decide (kOf x.t.l v≠k)) l (by have:=hl.len;omega) rfl (fun x hx=>all1_ok x v k (hl.all x hx))));(· rfl);(· rfl);(· (first|exact Eq.refl true|exact Eq.refl false));(simp -implicitDefEqProofs only [go_sem,reduceCtorEq,rdA,rdM,rdL,rdT,rdE,rdN,↓gTT,↓gFF,↓gTF,↓gFT]))|fail)
 simp [List.any_eq_not_all_not]
def exactB (l:List Cons) (v:Int):Bool:=(lowsOf l v).all (fun x=>decide (kOf x.t.l v=-1))||(highsOf l v).all (fun x=>decide (kOf x.t.l v=1))
theorem smallC.filter {l:List Cons} (h:smallC l) (p:Cons→Bool):smallC (l.filter p):=
 ⟨Nat.le_trans (List.length_filter_le _ _) h.len,fun x hx=>h.all x (List.mem_filter.1 hx).1⟩
theorem smallC.lows {l:List Cons} (h:smallC l) (v:Int):smallC (lowsOf l v):=h.filter _
theorem smallC.highs {l:List Cons} (h:smallC l) (v:Int):smallC (highsOf l v):=h.filter _
theorem smallC.others {l:List Cons} (h:smallC l) (v:Int):smallC (othersOf l v):=h.filter _
theorem Exact_ok (l:List Cons) (v:Int) (hl:smallC l):VPure FT p62 [.fz l.length none 3 (encC l),.int .i64 v] (.tup [.bool (if mayE l v=0 then exactB l v else false),.int .i64 (mayE l v)]):=by
  refine vpure_of_body (f:=p62) rfl rfl ?_
  simp -implicitDefEqProofs only [go_sem,reduceCtorEq,rdA,rdM,rdL,rdT,rdE,rdN,↓gTT,↓gFF,↓gTF,↓gFT]
  repeat' (first|(with_reducible refine And.intro ?_ ?_)|(with_reducible refine gs_t ?_ ?_)|(with_reducible refine gs_f ?_ ?_)|(intro _)|((with_reducible apply wCall_any);(· (simp -implicitDefEqProofs only [go_sem,reduceCtorEq,rdA,rdM,rdL,rdT,rdE,rdN,↓gTT,↓gFF,↓gTF,↓gFT]<;>rfl));(· (first|exact may_ok l v hl|exact parts_ok l v hl|exact all_ok (lowsOf l v) v (-1) (hl.lows v)|exact all_ok (highsOf l v) v 1 (hl.highs v)));(· rfl);(· rfl);(· (first|exact Eq.refl true|exact Eq.refl false));(simp -implicitDefEqProofs only [go_sem,reduceCtorEq,rdA,rdM,rdL,rdT,rdE,rdN,↓gTT,↓gFF,↓gTF,↓gFT]))|fail)
  all_goals
    rename_i h1
    first
      | (simp_all [exactB];done)
      | (rename_i h0;have h0':mayE l v=0:=by simpa using h0
         unfold exactB;rw [if_pos h0',h1,h0'];rfl)
theorem Pick_ok (lo hi:Int):VPure FT p37 [.int .i64 lo,.int .i64 hi] (.tup [.int .i64 (if hi<lo then 0 else min (max 0 lo) hi),.bool (decide (lo≤hi))]):=by
 refine vpure_of_body (f:=p37) rfl rfl ?_
 simp -implicitDefEqProofs only [go_sem,reduceCtorEq,rdA,rdM,rdL,rdT,rdE,rdN,↓gTT,↓gFF,↓gTF,↓gFT]
 repeat' (first|(with_reducible refine And.intro ?_ ?_)|(with_reducible refine gs_t ?_ ?_)|(with_reducible refine gs_f ?_ ?_)|(intro _)|((with_reducible apply wCall_any);(· (simp -implicitDefEqProofs only [go_sem,reduceCtorEq,rdA,rdM,rdL,rdT,rdE,rdN,↓gTT,↓gFF,↓gTF,↓gFT]<;>rfl));(· (exact may_ok [] 0 ⟨by simp,by simp⟩));(· rfl);(· rfl);(· (first|exact Eq.refl true|exact Eq.refl false));(simp -implicitDefEqProofs only [go_sem,reduceCtorEq,rdA,rdM,rdL,rdT,rdE,rdN,↓gTT,↓gFF,↓gTF,↓gFT]))|fail)
 all_goals simp_all
 all_goals omega
def unitM:List Mono→Option Int
 | []=>none
 | m::l=>if oneB m.k=true then some m.v else unitM l
def unitX (x:Cons):Option Int:=if x.eq=true then unitM x.t.l else none
def unitOf:List Cons→Int→Option (Int × Int)
 | [],_=>none
 | x::l,i=>match unitX x with|some v=>some (i,v)|none=>unitOf l (i+1)
def unitV (l:List Cons):VV:=if rightB l 0=true then (match unitOf l 0 with|some (i,v)=>.tup [.int .i64 i,.int .i64 v,.int .i64 0]|none=>.tup [.int .i64 0,.int .i64 0,.int .i64 5]) else .tup [.int .i64 0,.int .i64 0,.int .i64 1]
theorem Unit_ok (l:List Cons) (hl:smallC l):VPure FT p26 [.fz l.length none 3 (encC l)] (unitV l):=by
 refine vpure_of_body (f:=p26) rfl rfl ?_
 simp -implicitDefEqProofs only [go_sem,reduceCtorEq,rdA,rdM,rdL,rdT,rdE,rdN,↓gTT,↓gFF,↓gTF,↓gFT]
 repeat' (first|(with_reducible refine And.intro ?_ ?_)|(with_reducible refine gs_t ?_ ?_)|(with_reducible refine gs_f ?_ ?_)|(intro _)|((with_reducible apply wCall_any);(· (simp -implicitDefEqProofs only [go_sem,reduceCtorEq,rdA,rdM,rdL,rdT,rdE,rdN,↓gTT,↓gFF,↓gTF,↓gFT]<;>rfl));(· (exact right_ok l 0 hl));(· rfl);(· rfl);(· (first|exact Eq.refl true|exact Eq.refl false));(simp -implicitDefEqProofs only [go_sem,reduceCtorEq,rdA,rdM,rdL,rdT,rdE,rdN,↓gTT,↓gFF,↓gTF,↓gFT]))|fail)
 ·rename_i hr
  have hr':rightB l 0=false:=by simpa using hr
  unfold unitV;rw [hr'];rfl
 ·rename_i hr
  have hr':rightB l 0=true:=by simpa using hr
  have hll:=hl.len
  refine wLoop_by (fun n s=>∃ i:Nat,i+n=l.length∧At s [(p12,.fz l.length none 3 (encC l)),(p13,.int .i64 l.length),(p14,.int .i64 i)] 0 0 []∧unitOf l 0=unitOf (l.drop i) i) l.length ?_ ?_
  ·exact ⟨0,by simp,by simp -implicitDefEqProofs only [go_sem,reduceCtorEq,rdA,rdM,rdL,rdT,rdE,rdN,↓gTT,↓gFF,↓gTF,↓gFT],by simp⟩
  ·rintro n ⟨e,nx,w,h⟩ ⟨i,hi,⟨⟨s1,s2,s3,-⟩,rfl,rfl,rfl⟩,hk⟩
   rcases Nat.lt_or_ge i l.length with hlt|hge
   ·obtain ⟨x,hx⟩:=has hlt
    have hxl:=hl.all x (List.mem_of_getElem? hx)
    rw [drop_cons hx] at hk
    simp -implicitDefEqProofs only [s1,s2,s3,ltT hlt,encC_cut hx,encC_len,inc64 hlt (by omega:l.length≤4611686018427387904),go_sem,reduceCtorEq,rdA,rdM,rdL,rdT,rdE,rdN,↓gTT,↓gFF,↓gTF,↓gFT]
    refine ⟨⟨by omega,by omega⟩,by omega,?_⟩
    refine wLoop_by (fun n s=>∃ j:Nat,j+n=x.t.l.length∧At s [(p5,.int .i64 i),(p6,.var (cC x)),(p12,.fz l.length none 3 (encC l)),(p13,.int .i64 l.length),(p14,.int .i64 i),(p21,.fz x.t.l.length none 2 (encM x.t.l)),(p22,.int .i64 x.t.l.length),(p23,.int .i64 j)] 0 0 []∧
     unitX x=if x.eq=true then unitM (x.t.l.drop j) else none) x.t.l.length ?_ ?_
    ·exact ⟨0,by simp,by simp -implicitDefEqProofs only [go_sem,reduceCtorEq,rdA,rdM,rdL,rdT,rdE,rdN,↓gTT,↓gFF,↓gTF,↓gFT],by simp [unitX]⟩
    ·rintro n' ⟨e',nx,w,h⟩ ⟨j,hj,⟨⟨a1,a2,a3,a4,a5,a6,a7,a8,-⟩,rfl,rfl,rfl⟩,hkj⟩
     rcases Nat.lt_or_ge j x.t.l.length with hjlt|hjge
     ·obtain ⟨m,hm⟩:=has hjlt
      rw [drop_cons hm] at hkj
      simp -implicitDefEqProofs only [a1,a2,a3,a4,a5,a6,a7,a8,ltT hjlt,encM_cut hm,encM_len,inc64 hjlt (by omega:x.t.l.length≤4611686018427387904),go_sem,reduceCtorEq,rdA,rdM,rdL,rdT,rdE,rdN,↓gTT,↓gFF,↓gTF,↓gFT]
      repeat' (first|(with_reducible refine And.intro ?_ ?_)|(with_reducible refine gs_t ?_ ?_)|(with_reducible refine gs_f ?_ ?_)|(intro _)|((with_reducible apply wCall_any);(· (simp -implicitDefEqProofs only [go_sem,reduceCtorEq,rdA,rdM,rdL,rdT,rdE,rdN,↓gTT,↓gFF,↓gTF,↓gFT]<;>rfl));(· (exact one_ok _));(· rfl);(· rfl);(· (first|exact Eq.refl true|exact Eq.refl false));(simp -implicitDefEqProofs only [inc64 hjlt (by omega:x.t.l.length≤4611686018427387904),go_sem,reduceCtorEq,rdA,rdM,rdL,rdT,rdE,rdN,↓gTT,↓gFF,↓gTF,↓gFT]))|fail)
      all_goals (clear s1 s2 s3 a1 a2 a3 a4 a5 a6 a7 a8;try omega)
      ·rename_i h1 h2
       have hu:unitOf l 0=some ((i:Int),m.v):=by rw [hk];simp [unitOf,hkj,h1,unitM,h2]
       unfold unitV;rw [if_pos hr',hu]
      ·rename_i h1 h2
       refine ⟨n'-1,by omega,j+1,by omega,rfl,?_⟩
       rw [hkj,h1];simp [unitM,h2]
      ·rename_i h1
       refine ⟨n'-1,by omega,j+1,by omega,rfl,?_⟩
       rw [hkj,h1];simp
     ·simp -implicitDefEqProofs only [a1,a2,a3,a4,a5,a6,a7,a8,ltF hjge,inc64 hlt (by omega:l.length≤4611686018427387904),go_sem,reduceCtorEq,rdA,rdM,rdL,rdT,rdE,rdN,↓gTT,↓gFF,↓gTF,↓gFT]
      refine ⟨n-1,by omega,i+1,by omega,rfl,?_⟩
      rw [hk]
      have:unitX x=none:=by rw [hkj,List.drop_eq_nil_of_le hjge];simp [unitM]
      simp [unitOf,this]
   ·simp -implicitDefEqProofs only [s1,s2,s3,ltF hge,go_sem,reduceCtorEq,rdA,rdM,rdL,rdT,rdE,rdN,↓gTT,↓gFF,↓gTF,↓gFT]
    unfold unitV
    rw [if_pos hr',hk,List.drop_eq_nil_of_le hge];rfl
theorem eRetK_n (rs:List Rs) (R:VV→Nat→VHp→Prop) (s:VSt):retK rs R .norm s=match vres rs s with|some r=>R r s.nx s.h|none=>False:=rfl
theorem eRetK_r (rs:List Rs) (R:VV→Nat→VHp→Prop) (s:VSt):retK rs R .ret s=match vres rs s with|some r=>R r s.nx s.h|none=>False:=rfl
def growR (b:Nat) (r:VV) (nx:Nat) (h:VHp):Prop:=(r=.nils∧h=[])∨(r=.ow (b+1) 0 3∧h=[(b+1,.row [])]∧nx=b+2)
theorem Grow_ok (b:Nat) (n:Int) (hn:0≤n∧n≤2000000):FSem FT p105 [.nils,.int .i64 n] b [] (growR b):=by
 refine fsem_of_body (f:=p105) rfl rfl ?_
 have h1:IntKind.i64.wrap (n-0)=n:=by rw [Int.sub_zero,i64 (by omega)]
 have h2:IntKind.i64.wrap ((0:Int)-0)=0:=rfl
 have h3:decide (n<0)=false:=by simp;omega
 have h4:(reps' [.int .i64 0,.nils,.bool false] n.toNat).length=n.toNat*3:=by unfold reps';rw [reps_len];rfl
 have h5:b≠b+1:=by omega
 have h6:vsub (reps' [.int .i64 0,.nils,.bool false] n.toNat) 3 0 0=[]:=by simp [vsub]
 simp -implicitDefEqProofs only [h1,h2,h3,h4,h6,eRetK_n,eRetK_r,Int.toNat_zero,Nat.sub_self,go_sem,reduceCtorEq,rdA,rdM,rdL,rdT,rdE,rdN,↓gTT,↓gFF,↓gTF,↓gFT]
 refine gs_t (fun h=>?_) (fun h=>?_)
 ·refine ⟨by omega,by omega,by omega,.inr ⟨rfl,?_,rfl⟩⟩
  simp
 ·exact .inl ⟨rfl,rfl⟩
def sizeAt (a b:List Cons) (i:Nat):Nat:=match i with|0=>0|1=>a.length|_=>a.length+b.length
def catAt (a b:List Cons) (i:Nat):List Cons:=match i with|0=>[]|1=>a|_=>a++b
theorem Concat_ok (a b:List Cons) (ha:a.length≤1000000) (hb:b.length≤1000000):VPure FT p67 [.fz 2 none 1 [.fz a.length none 3 (encC a),.fz b.length none 3 (encC b)]] (.fz (a++b).length none 3 (encC (a++b))):=by
 refine vpure_of_body (f:=p67) rfl rfl ?_
 simp -implicitDefEqProofs only [go_sem,reduceCtorEq,rdA,rdM,rdL,rdT,rdE,rdN,↓gTT,↓gFF,↓gTF,↓gFT]
 refine wLoop_by (fun n s=>∃ i:Nat,i+n=2∧At s [(p0,.fz 2 none 1 [.fz a.length none 3 (encC a),.fz b.length none 3 (encC b)]),(p3,.int .i64 (sizeAt a b i)),(p9,.fz 2 none 1 [.fz a.length none 3 (encC a),.fz b.length none 3 (encC b)]),(p10,.int .i64 2),(p11,.int .i64 i)] 0 0 []) 2 ?_ ?_
 ·exact ⟨0,by simp,by simp -implicitDefEqProofs only [go_sem,reduceCtorEq,rdA,rdM,rdL,rdT,rdE,rdN,↓gTT,↓gFF,↓gTF,↓gFT];simp [sizeAt]⟩
 ·rintro n ⟨e,nx,w,h⟩ ⟨i,hi,⟨s1,s2,s3,s4,s5,-⟩,rfl,rfl,rfl⟩
  have hi3:i=0∨i=1∨i=2:=by omega
  rcases hi3 with rfl|rfl|rfl
  ·have h1:decide (((0:Nat):Int)<2)=true:=rfl
   have h1':decide ((0:Int)<2)=true:=rfl
   have h2:IntKind.i64.wrap ((sizeAt a b 0:Int)+(a.length:Int))=(sizeAt a b 1:Nat):=by simp only [sizeAt];rw [i64 (by omega)];omega
   have h3:decide (((sizeAt a b 1:Nat):Int)<0)=false:=by simp
   have h4:IntKind.i64.wrap ((0:Int)+1)=1:=rfl
   have h5:(0:Int).toNat=0:=rfl
   simp -implicitDefEqProofs only [s1,s2,s3,s4,s5,h1,h1',h2,h3,h4,h5,go_sem,reduceCtorEq,rdA,rdM,rdL,rdT,rdE,rdN,↓gTT,↓gFF,↓gTF,↓gFT]
   exact ⟨⟨by omega,by omega⟩,1,by omega,1,by omega,rfl,rfl⟩
  ·have h1:decide ((1:Int)<2)=true:=rfl
   have h2:IntKind.i64.wrap ((sizeAt a b 1:Int)+(b.length:Int))=(sizeAt a b 2:Nat):=by simp only [sizeAt];rw [i64 (by omega)];omega
   have h3:decide (((sizeAt a b 2:Nat):Int)<0)=false:=by simp
   have h4:IntKind.i64.wrap ((1:Int)+1)=2:=rfl
   have h5:(1:Int).toNat=1:=rfl
   simp -implicitDefEqProofs only [s1,s2,s3,s4,s5,h1,h2,h3,h4,h5,go_sem,reduceCtorEq,rdA,rdM,rdL,rdT,rdE,rdN,↓gTT,↓gFF,↓gTF,↓gFT]
   exact ⟨⟨by omega,by omega⟩,0,by omega,2,by omega,rfl,rfl⟩
  ·have h1:decide ((2:Int)<2)=false:=rfl
   have hs2:(sizeAt a b 2:Int)=a.length+b.length:=by simp [sizeAt]
   simp -implicitDefEqProofs only [s1,s2,s3,s4,s5,h1,go_sem,reduceCtorEq,rdA,rdM,rdL,rdT,rdE,rdN,↓gTT,↓gFF,↓gTF,↓gFT]
   refine wCall_heap (Grow_ok 0 _ ⟨by omega,by omega⟩) (fun k o h=>(by cases h)) (fun r nx' h' hr=>?_) (fun r nx' h' hr hnx=>?_)
   ·rcases hr with ⟨rfl,rfl⟩|⟨rfl,rfl,rfl⟩
    ·exact ⟨fun k hk=>(by cases hk),fun k o h=>(by cases h)⟩
    ·refine ⟨fun k hk=>by simpa [keysV,hkeys] using hk,fun k o h=>?_⟩
     simp only [hget] at h
     split at h
     ·cases h;intro k hk;cases hk
     ·cases h
   ·rcases hr with ⟨rfl,rfl⟩|⟨rfl,rfl,rfl⟩
    ·simp -implicitDefEqProofs only [go_sem,reduceCtorEq,rdA,rdM,rdL,rdT,rdE,rdN,↓gTT,↓gFF,↓gTF,↓gFT]
     refine wLoop_own p6 3 (by simp -implicitDefEqProofs only [go_sem,reduceCtorEq,rdA,rdM,rdL,rdT,rdE,rdN,↓gTT,↓gFF,↓gTF,↓gFT]) ?_
     simp -implicitDefEqProofs only [go_sem,reduceCtorEq,rdA,rdM,rdL,rdT,rdE,rdN,↓gTT,↓gFF,↓gTF,↓gFT]
     refine wLoop_by (fun n s=>∃ i:Nat,i+n=2∧At s [(p6,.ow nx' (catAt a b i).length 3),(p25,.fz 2 none 1 [.fz a.length none 3 (encC a),.fz b.length none 3 (encC b)]),(p26,.int .i64 2),(p27,.int .i64 i)] (nx'+1) 0 [(nx',.row (encC (catAt a b i)))]) 2 ?_ ?_
     ·exact ⟨0,by simp,by simp -implicitDefEqProofs only [go_sem,reduceCtorEq,rdA,rdM,rdL,rdT,rdE,rdN,↓gTT,↓gFF,↓gTF,↓gFT];simp [catAt,encC]⟩
     ·rintro n ⟨e,nx,w,h⟩ ⟨i,hi,⟨s1,s2,s3,s4,-⟩,rfl,rfl,rfl⟩
      have hi3:i=0∨i=1∨i=2:=by omega
      rcases hi3 with rfl|rfl|rfl
      ·have h1:decide ((0:Int)<2)=true:=rfl
       have h4:IntKind.i64.wrap ((0:Int)+1)=1:=rfl
       have h5:(0:Int).toNat=0:=rfl
       simp -implicitDefEqProofs only [s1,s2,s3,s4,h1,h4,h5,encC_len,catAt,encC,go_sem,reduceCtorEq,rdA,rdM,rdL,rdT,rdE,rdN,↓gTT,↓gFF,↓gTF,↓gFT]
       repeat' (first|(with_reducible refine And.intro ?_ ?_)|(with_reducible refine gs_t ?_ ?_)|(with_reducible refine gs_f ?_ ?_)|(intro _)|fail)
       all_goals first|omega|(refine ⟨1,by omega,1,by omega,?_⟩;simp [catAt])|(simp;done)
      ·have h1:decide ((1:Int)<2)=true:=rfl
       have h4:IntKind.i64.wrap ((1:Int)+1)=2:=rfl
       have h5:(1:Int).toNat=1:=rfl
       simp -implicitDefEqProofs only [s1,s2,s3,s4,h1,h4,h5,encC_len,catAt,go_sem,reduceCtorEq,rdA,rdM,rdL,rdT,rdE,rdN,↓gTT,↓gFF,↓gTF,↓gFT]
       repeat' (first|(with_reducible refine And.intro ?_ ?_)|(with_reducible refine gs_t ?_ ?_)|(with_reducible refine gs_f ?_ ?_)|(intro _)|fail)
       all_goals first|omega|(refine ⟨0,by omega,2,by omega,?_⟩;simp [catAt,encC_app])|(simp;done)
      ·have h1:decide ((2:Int)<2)=false:=rfl
       simp -implicitDefEqProofs only [s1,s2,s3,s4,h1,encC_len,catAt,go_sem,reduceCtorEq,rdA,rdM,rdL,rdT,rdE,rdN,↓gTT,↓gFF,↓gTF,↓gFT]
    ·simp -implicitDefEqProofs only [go_sem,reduceCtorEq,rdA,rdM,rdL,rdT,rdE,rdN,↓gTT,↓gFF,↓gTF,↓gFT]
     refine wLoop_by (fun n s=>∃ i:Nat,i+n=2∧At s [(p6,.ow 1 (catAt a b i).length 3),(p25,.fz 2 none 1 [.fz a.length none 3 (encC a),.fz b.length none 3 (encC b)]),(p26,.int .i64 2),(p27,.int .i64 i)] 2 0 [(1,.row (encC (catAt a b i)))]) 2 ?_ ?_
     ·exact ⟨0,by simp,by simp -implicitDefEqProofs only [go_sem,reduceCtorEq,rdA,rdM,rdL,rdT,rdE,rdN,↓gTT,↓gFF,↓gTF,↓gFT];simp [catAt,encC]⟩
     ·rintro n ⟨e,nx,w,h⟩ ⟨i,hi,⟨s1,s2,s3,s4,-⟩,rfl,rfl,rfl⟩
      have hi3:i=0∨i=1∨i=2:=by omega
      rcases hi3 with rfl|rfl|rfl
      ·have h1:decide ((0:Int)<2)=true:=rfl
       have h4:IntKind.i64.wrap ((0:Int)+1)=1:=rfl
       have h5:(0:Int).toNat=0:=rfl
       simp -implicitDefEqProofs only [s1,s2,s3,s4,h1,h4,h5,encC_len,catAt,encC,go_sem,reduceCtorEq,rdA,rdM,rdL,rdT,rdE,rdN,↓gTT,↓gFF,↓gTF,↓gFT]
       repeat' (first|(with_reducible refine And.intro ?_ ?_)|(with_reducible refine gs_t ?_ ?_)|(with_reducible refine gs_f ?_ ?_)|(intro _)|fail)
       all_goals first|omega|(refine ⟨1,by omega,1,by omega,?_⟩;simp [catAt])|(simp;done)
      ·have h1:decide ((1:Int)<2)=true:=rfl
       have h4:IntKind.i64.wrap ((1:Int)+1)=2:=rfl
       have h5:(1:Int).toNat=1:=rfl
       simp -implicitDefEqProofs only [s1,s2,s3,s4,h1,h4,h5,encC_len,catAt,go_sem,reduceCtorEq,rdA,rdM,rdL,rdT,rdE,rdN,↓gTT,↓gFF,↓gTF,↓gFT]
       repeat' (first|(with_reducible refine And.intro ?_ ?_)|(with_reducible refine gs_t ?_ ?_)|(with_reducible refine gs_f ?_ ?_)|(intro _)|fail)
       all_goals first|omega|(refine ⟨0,by omega,2,by omega,?_⟩;simp [catAt,encC_app])|(simp;done)
      ·have h1:decide ((2:Int)<2)=false:=rfl
       simp -implicitDefEqProofs only [s1,s2,s3,s4,h1,encC_len,catAt,go_sem,reduceCtorEq,rdA,rdM,rdL,rdT,rdE,rdN,↓gTT,↓gFF,↓gTF,↓gFT]
def vM (m:Mono):VV:=.agg [.int .i64 m.v,.int .i64 m.k]
theorem IndexM_ok (f:P) (cs:List VV) (p:Mono→Bool) (l:List Mono) (hl:l.length≤4611686018427387904) (hcs:pureL cs=true) (hp:∀ x∈l,VPure FT f (vM x::cs) (.bool (p x))):
 VPure FT p106 [.fz l.length none 2 (encM l),.fn f cs] (.int .i64 (idxOf p l 0)):=by
 refine vpure_of_body (f:=p106) rfl rfl ?_
 simp -implicitDefEqProofs only [go_sem,reduceCtorEq,rdA,rdM,rdL,rdT,rdE,rdN,↓gTT,↓gFF,↓gTF,↓gFT]
 refine wLoop_by (fun n s=>∃ i:Nat,i+n=l.length∧At s [(p0,.fz l.length none 2 (encM l)),(p1,.fn f cs),(p7,.int .i64 l.length),(p8,.int .i64 i)] 0 0 []∧idxOf p l 0=idxOf p (l.drop i) i) l.length ?_ ?_
 ·exact ⟨0,by simp,by simp -implicitDefEqProofs only [go_sem,reduceCtorEq,rdA,rdM,rdL,rdT,rdE,rdN,↓gTT,↓gFF,↓gTF,↓gFT],by simp⟩
 ·rintro n ⟨e,nx,w,h⟩ ⟨i,hi,⟨⟨s1,s2,s3,s4,-⟩,rfl,rfl,rfl⟩,hk⟩
  rcases Nat.lt_or_ge i l.length with hlt|hge
  ·obtain ⟨x,hx⟩:=has hlt
   rw [drop_cons hx] at hk
   simp -implicitDefEqProofs only [s1,s2,s3,s4,ltT hlt,encM_cut hx,encM_len,inc64 hlt hl,go_sem,reduceCtorEq,rdA,rdM,rdL,rdT,rdE,rdN,↓gTT,↓gFF,↓gTF,↓gFT]
   refine ⟨⟨by omega,by omega⟩,by omega,?_⟩
   refine wCall_pp (r:=.bool (p x)) (by simp [pureL,pureV,hcs]) (hp x (List.mem_of_getElem? hx)) rfl ?_
   simp -implicitDefEqProofs only [inc64 hlt hl,go_sem,reduceCtorEq,rdA,rdM,rdL,rdT,rdE,rdN,↓gTT,↓gFF,↓gTF,↓gFT]
   refine gs_t (fun h=>?_) (fun h=>?_)
   ·rw [hk];simp [idxOf,h]
   ·refine ⟨n-1,by omega,i+1,by omega,rfl,?_⟩
    rw [hk];simp [idxOf,h]
  ·simp -implicitDefEqProofs only [s1,s2,s3,s4,ltF hge,go_sem,reduceCtorEq,rdA,rdM,rdL,rdT,rdE,rdN,↓gTT,↓gFF,↓gTF,↓gFT]
   rw [hk,List.drop_eq_nil_of_le hge];rfl
theorem ContainsM_ok (f:P) (cs:List VV) (p:Mono→Bool) (l:List Mono) (hl:l.length≤4611686018427387904) (hcs:pureL cs=true) (hp:∀ x∈l,VPure FT f (vM x::cs) (.bool (p x))):
 VPure FT p68 [.fz l.length none 2 (encM l),.fn f cs] (.bool (l.any p)):=by
 refine vpure_of_body (f:=p68) rfl rfl ?_
 simp -implicitDefEqProofs only [go_sem,reduceCtorEq,rdA,rdM,rdL,rdT,rdE,rdN,↓gTT,↓gFF,↓gTF,↓gFT]
 refine wCall_pp (r:=.int .i64 (idxOf p l 0)) (by simp [pureL,pureV,hcs]) (IndexM_ok f cs p l hl hcs hp) rfl ?_
 simp -implicitDefEqProofs only [go_sem,reduceCtorEq,rdA,rdM,rdL,rdT,rdE,rdN,↓gTT,↓gFF,↓gTF,↓gFT]
 exact idxOf_nonneg p l 0 (by omega)
theorem IndexI_ok (f:P) (cs:List VV) (p:Int→Bool) (l:List Int) (hl:l.length≤4611686018427387904) (hcs:pureL cs=true) (hp:∀ x∈l,VPure FT f (.int .i64 x::cs) (.bool (p x))):
 VPure FT p60 [.fz l.length none 1 (encI l),.fn f cs] (.int .i64 (idxOf p l 0)):=by
 refine vpure_of_body (f:=p60) rfl rfl ?_
 simp -implicitDefEqProofs only [go_sem,reduceCtorEq,rdA,rdM,rdL,rdT,rdE,rdN,↓gTT,↓gFF,↓gTF,↓gFT]
 refine wLoop_by (fun n s=>∃ i:Nat,i+n=l.length∧At s [(p0,.fz l.length none 1 (encI l)),(p1,.fn f cs),(p7,.int .i64 l.length),(p8,.int .i64 i)] 0 0 []∧idxOf p l 0=idxOf p (l.drop i) i) l.length ?_ ?_
 ·exact ⟨0,by simp,by simp -implicitDefEqProofs only [go_sem,reduceCtorEq,rdA,rdM,rdL,rdT,rdE,rdN,↓gTT,↓gFF,↓gTF,↓gFT],by simp⟩
 ·rintro n ⟨e,nx,w,h⟩ ⟨i,hi,⟨⟨s1,s2,s3,s4,-⟩,rfl,rfl,rfl⟩,hk⟩
  rcases Nat.lt_or_ge i l.length with hlt|hge
  ·obtain ⟨x,hx⟩:=has hlt
   rw [drop_cons hx] at hk
   simp -implicitDefEqProofs only [s1,s2,s3,s4,ltT hlt,Nat.mul_one,encI_g hx,encI_len,inc64 hlt hl,go_sem,reduceCtorEq,rdA,rdM,rdL,rdT,rdE,rdN,↓gTT,↓gFF,↓gTF,↓gFT]
   refine ⟨⟨by omega,by omega⟩,?_⟩
   refine wCall_pp (r:=.bool (p x)) (by simp [pureL,pureV,hcs]) (hp x (List.mem_of_getElem? hx)) rfl ?_
   simp -implicitDefEqProofs only [inc64 hlt hl,go_sem,reduceCtorEq,rdA,rdM,rdL,rdT,rdE,rdN,↓gTT,↓gFF,↓gTF,↓gFT]
   refine gs_t (fun h=>?_) (fun h=>?_)
   ·rw [hk];simp [idxOf,h]
   ·refine ⟨n-1,by omega,i+1,by omega,rfl,?_⟩
    rw [hk];simp [idxOf,h]
  ·simp -implicitDefEqProofs only [s1,s2,s3,s4,ltF hge,go_sem,reduceCtorEq,rdA,rdM,rdL,rdT,rdE,rdN,↓gTT,↓gFF,↓gTF,↓gFT]
   rw [hk,List.drop_eq_nil_of_le hge];rfl
theorem ContainsI_ok (f:P) (cs:List VV) (p:Int→Bool) (l:List Int) (hl:l.length≤4611686018427387904) (hcs:pureL cs=true) (hp:∀ x∈l,VPure FT f (.int .i64 x::cs) (.bool (p x))):
 VPure FT p70 [.fz l.length none 1 (encI l),.fn f cs] (.bool (l.any p)):=by
 refine vpure_of_body (f:=p70) rfl rfl ?_
 simp -implicitDefEqProofs only [go_sem,reduceCtorEq,rdA,rdM,rdL,rdT,rdE,rdN,↓gTT,↓gFF,↓gTF,↓gFT]
 refine wCall_pp (r:=.int .i64 (idxOf p l 0)) (by simp [pureL,pureV,hcs]) (IndexI_ok f cs p l hl hcs hp) rfl ?_
 simp -implicitDefEqProofs only [go_sem,reduceCtorEq,rdA,rdM,rdL,rdT,rdE,rdN,↓gTT,↓gFF,↓gTF,↓gFT]
 exact idxOf_nonneg p l 0 (by omega)
def farB (v n:Int) (m:Mono):Bool:=decide (m.v≠v)&&decide (n≤m.v)
theorem Span1_ok (m:Mono) (v:Int) (vals:List Int):VPure FT p69 [vM m,.fp [.int .i64 v] 0,.fp [.fz vals.length none 1 (encI vals)] 0] (.bool (farB v vals.length m)):=by
 refine vpure_of_body (f:=p69) rfl rfl ?_
 simp -implicitDefEqProofs only [vM,go_sem,reduceCtorEq,rdA,rdM,rdL,rdT,rdE,rdN,↓gTT,↓gFF,↓gTF,↓gFT]
 unfold farB
 refine gs_t (fun h=>?_) (fun h=>?_)<;>simp_all
def outB (n:Int):Bool:=decide (n < -2147483648)||decide (2147483647<n)
theorem Span2_ok (n:Int):VPure FT p71 [.int .i64 n] (.bool (outB n)):=by
 refine vpure_of_body (f:=p71) rfl rfl ?_
 simp -implicitDefEqProofs only [go_sem,reduceCtorEq,rdA,rdM,rdL,rdT,rdE,rdN,↓gTT,↓gFF,↓gTF,↓gFT]
 unfold outB
 refine gs_f (fun h=>?_) (fun h=>?_)<;>first|(simp_all;done)|(simp_all;omega)
theorem tdiv_fix (a b:Int) (hb:0<b):(if a.tmod b<0 then a.tdiv b-1 else a.tdiv b)=a / b:=by
 have h1:=Int.mul_ediv_add_emod a b
 have h2:=Int.emod_nonneg a (show b≠0 by omega)
 have h3:=Int.emod_lt_of_pos a hb
 have h4:=Int.mul_tdiv_add_tmod a b
 have hq:∀ q r:Int,b*q+r=a→-b<r→r<b→(0≤r→q=a / b)∧(r<0→q-1=a / b):=by
  intro q r hqr hr1 hr2
  have key:b*(q-a / b)=a % b-r:=by rw [Int.mul_sub];omega
  constructor
  ·intro hr
   rcases Int.lt_trichotomy (q-a / b) 0 with h|h|h
   ·have:b*(q-a / b)≤b*(-1):=Int.mul_le_mul_of_nonneg_left (by omega) (by omega);omega
   ·omega
   ·have:b*1≤b*(q-a / b):=Int.mul_le_mul_of_nonneg_left (by omega) (by omega);omega
  ·intro hr
   rcases Int.lt_trichotomy (q-a / b) 1 with h|h|h
   ·have:b*(q-a / b)≤b*0:=Int.mul_le_mul_of_nonneg_left (by omega) (by omega);omega
   ·omega
   ·have:b*2≤b*(q-a / b):=Int.mul_le_mul_of_nonneg_left (by omega) (by omega);omega
 have hr2:a.tmod b<b:=Int.tmod_lt_of_pos a hb
 have hr1:-b<a.tmod b:=Int.lt_tmod_of_pos a hb
 obtain ⟨e1,e2⟩:=hq (a.tdiv b) (a.tmod b) h4 hr1 hr2
 by_cases h:a.tmod b<0
 ·rw [if_pos h];exact e2 h
 ·rw [if_neg h];exact e1 (by omega)
theorem tdiv_bound (a b:Int) (hb:0<b) (ha:-1152921504606846976≤a∧a≤1152921504606846976):-1152921504606846976≤a.tdiv b∧a.tdiv b≤1152921504606846976:=by
 have h:(a.tdiv b).natAbs≤a.natAbs:=by
  rw [Int.natAbs_tdiv];exact Nat.div_le_self _ _
 omega
theorem ediv_bound {a b B:Int} (hb:0<b) (ha:-B≤a∧a≤B) (hB:0≤B):-B≤a / b∧a / b≤B:=by
 have h1:=Int.mul_ediv_add_emod a b
 have h2:=Int.emod_nonneg a (show b≠0 by omega)
 have h3:=Int.emod_lt_of_pos a hb
 constructor
 ·rcases Int.lt_or_le (a / b) (-B) with h|h
  ·have h5:b*(a / b)≤b*(-B-1):=Int.mul_le_mul_of_nonneg_left (by omega) (by omega)
   have h6:b*(-B-1)=-(b*B)-b:=by rw [Int.mul_sub,Int.mul_neg,Int.mul_one]
   have h7:B*1≤B*b:=Int.mul_le_mul_of_nonneg_left (by omega) hB
   rw [Int.mul_comm B b] at h7
   omega
  ·exact h
 ·rcases Int.lt_or_le B (a / b) with h|h
  ·have h5:1*(a / b)≤b*(a / b):=Int.mul_le_mul_of_nonneg_right (by omega) (by omega)
   omega
  ·exact h
theorem down_ok (a b:Int) (hb:0<b) (ha:-1152921504606846976≤a∧a≤1152921504606846976):VPure FT p72 [.int .i64 a,.int .i64 b] (.int .i64 (a / b)):=by
 refine vpure_of_body (f:=p72) rfl rfl ?_
 have h1:=tdiv_bound a b hb ha
 have h2:IntKind.i64.wrap (a.tdiv b)=a.tdiv b:=i64 (by omega)
 have h3:IntKind.i64.wrap (a.tdiv b-1)=a.tdiv b-1:=i64 (by omega)
 have h4:=tdiv_fix a b hb
 simp -implicitDefEqProofs only [h2,h3,go_sem,reduceCtorEq,rdA,rdM,rdL,rdT,rdE,rdN,↓gTT,↓gFF,↓gTF,↓gFT]
 refine ⟨by omega,by omega,gs_t (fun h=>?_) (fun h=>?_)⟩
 ·rw [←h4,if_pos (by simpa using h)]
 ·rw [←h4,if_neg (by simpa using h)]
def valOf (vals:List Int) (v:Int):Int:=(vals[v.toNat]?).getD 0
def restOf (v:Int) (vals:List Int):List Mono→Int
 | []=>0
 | m::l=>(if m.v=v then 0 else m.k*valOf vals m.v)+restOf v vals l
def spanStep (v:Int) (vals:List Int) (p:Int × Int) (x:Cons):Int × Int:=
 if kOf x.t.l v<0 then (max p.1 (-(-(x.t.c+restOf v vals x.t.l) / -(kOf x.t.l v))),p.2) else (p.1,min p.2 (-(x.t.c+restOf v vals x.t.l) / kOf x.t.l v))
def spanC (l:List Cons) (v:Int):List Cons:=lowsOf l v++highsOf l v
def spanFold (l:List Cons) (v:Int) (vals:List Int):Int × Int:=(spanC l v).foldl (spanStep v vals) (-2147483648,2147483647)
def spanE (l:List Cons) (v:Int) (vals:List Int):Int:=
 if mayE l v≠0 then mayE l v else if (spanC l v).any (fun x=>x.t.l.any (farB v vals.length))=true then 5 else if vals.any outB=true then 1 else 0
def spanV (l:List Cons) (v:Int) (vals:List Int):VV:=
 if spanE l v vals=0 then .tup [.int .i64 (min (spanFold l v vals).1 2147483647),.int .i64 (max (spanFold l v vals).2 (-2147483648)),.int .i64 0] else .tup [.int .i64 0,.int .i64 0,.int .i64 (spanE l v vals)]
theorem okFrom_mem:∀ {l:List Mono} {p:Option Int},okFrom p l=true→∀ m∈l,okM m=true
 | [],_,_,m,hm=>by cases hm
 | x::l,p,h,m,hm=>by
  simp only [okFrom,Bool.and_eq_true] at h
  rcases List.mem_cons.1 hm with rfl|hm
  ·exact h.1.1
  ·exact okFrom_mem h.2 m hm
theorem restOf_app (v:Int) (vals:List Int):∀ (a b:List Mono),restOf v vals (a++b)=restOf v vals a+restOf v vals b
 | [],b=>by simp [restOf]
 | m::a,b=>by simp only [List.cons_append,restOf,restOf_app v vals a b];omega
theorem mul_bound {a b A B:Int} (ha:-A≤a∧a≤A) (hb:-B≤b∧b≤B) (hA:0≤A) (hB:0≤B):-(A*B)≤a*b∧a*b≤A*B:=by
 have h1:(a*b).natAbs≤(A*B).natAbs:=by
  rw [Int.natAbs_mul,Int.natAbs_mul];exact Nat.mul_le_mul (by omega) (by omega)
 have h2:0≤A*B:=Int.mul_nonneg hA hB
 omega
theorem valOf_bound {vals:List Int} (h:vals.any outB=false) (v:Int):-2147483648≤valOf vals v∧valOf vals v≤2147483648:=by
 unfold valOf
 cases hv:vals[v.toNat]? with
 | none=>simp
 | some x=>
  have:=List.mem_of_getElem? hv
  rw [List.any_eq_false] at h
  have h2:=h x this
  simp [outB] at h2
  simp only [Option.getD_some];omega
theorem term_bound {vals:List Int} (h:vals.any outB=false) {m:Mono} (hm:okM m=true):-2251799813685248≤m.k*valOf vals m.v∧m.k*valOf vals m.v≤2251799813685248:=by
 have h1:=valOf_bound h m.v
 simp only [okM,roomB,Bool.and_eq_true,decide_eq_true_eq] at hm
 have:=mul_bound (a:=m.k) (b:=valOf vals m.v) (A:=1048576) (B:=2147483648) (by omega) (by omega) (by omega) (by omega)
 omega
theorem restOf_bound (v:Int) {vals:List Int} (h:vals.any outB=false):∀ {l:List Mono},(∀ m∈l,okM m=true)→-(l.length*2251799813685248:Int)≤restOf v vals l∧restOf v vals l≤l.length*2251799813685248
 | [],_=>by simp [restOf]
 | m::l,hl=>by
  have ih:=restOf_bound v h (l:=l) fun m hm=>hl m (List.mem_cons_of_mem _ hm)
  have h1:=term_bound h (hl m List.mem_cons_self)
  simp only [restOf,List.length_cons]
  split<;>omega
theorem kOf_bound:∀ {l:List Mono} (v:Int),(∀ m∈l,okM m=true)→-1048576≤kOf l v∧kOf l v≤1048576
 | [],v,_=>by simp [kOf]
 | m::l,v,h=>by
  have h1:=h m List.mem_cons_self
  simp only [okM,roomB,Bool.and_eq_true,decide_eq_true_eq] at h1
  simp only [kOf]
  split
  ·omega
  ·exact kOf_bound v fun m hm=>h m (List.mem_cons_of_mem _ hm)
theorem okC_parts {x:Cons} (h:okC x=true):(-1099511627776≤x.t.c∧x.t.c≤1099511627776)∧x.t.l.length≤40∧∀ m∈x.t.l,okM m=true:=by
 simp only [okC,okT,roomB,Bool.and_eq_true,decide_eq_true_eq] at h
 exact ⟨h.1.1,h.1.2,okFrom_mem h.2⟩
set_option maxHeartbeats 1000000 in
theorem Span_ok (l:List Cons) (v:Int) (vals:List Int) (hl:smallC l) (hv:vals.length≤1000000):VPure FT p36 [.fz l.length none 3 (encC l),.int .i64 v,.fz vals.length none 1 (encI vals)] (spanV l v vals):=by
 refine vpure_of_body (f:=p36) rfl rfl ?_
 simp -implicitDefEqProofs only [go_sem,reduceCtorEq,rdA,rdM,rdL,rdT,rdE,rdN,↓gTT,↓gFF,↓gTF,↓gFT]
 have hC:smallC (lowsOf l v)∧smallC (highsOf l v):=⟨hl.lows v,hl.highs v⟩
 have e1:(spanC l v).length≤2000000:=by unfold spanC;rw [List.length_append];have:=hC.1.len;have:=hC.2.len;omega
 repeat' (first|(with_reducible refine And.intro ?_ ?_)|(with_reducible refine gs_t ?_ ?_)|(with_reducible refine gs_f ?_ ?_)|(intro _)|((with_reducible apply wCall_any);(· (simp -implicitDefEqProofs only [go_sem,reduceCtorEq,rdA,rdM,rdL,rdT,rdE,rdN,↓gTT,↓gFF,↓gTF,↓gFT]<;>rfl));(· (first|exact may_ok l v hl|exact parts_ok l v hl|exact Concat_ok (lowsOf l v) (highsOf l v) (by have:=hC.1.len;omega) (by have:=hC.2.len;omega)));(· rfl);(· rfl);(· (first|exact Eq.refl true|exact Eq.refl false));(simp -implicitDefEqProofs only [go_sem,reduceCtorEq,rdA,rdM,rdL,rdT,rdE,rdN,↓gTT,↓gFF,↓gTF,↓gFT]))|fail)
 ·rename_i h0
  have h0':mayE l v≠0:=by simpa using h0
  have:spanE l v vals=mayE l v:=by unfold spanE;rw [if_pos h0']
  unfold spanV;rw [this,if_neg h0']
 ·rename_i h0
  have h0':mayE l v=0:=by simpa using h0
  have hall:l.all okC=true:=by
   have:=h0'
   unfold mayE at this
   by_cases hr:rightB l v=false
   ·rw [if_pos hr] at this;omega
   ·have:rightB l v=true:=by simpa using hr
    simp only [rightB,Bool.and_eq_true] at this;exact this.2
  have hmem:∀ x∈spanC l v,x∈l∧kOf x.t.l v≠0:=by
   intro x hx
   unfold spanC lowsOf highsOf at hx
   rcases List.mem_append.1 hx with hx|hx<;>(rw [List.mem_filter] at hx;have:=hx.2;simp at this;exact ⟨hx.1,by omega⟩)
  obtain ⟨C,hCd⟩:∃ C,C=spanC l v:=⟨_,rfl⟩
  have hCC:lowsOf l v++highsOf l v=C:=by rw [hCd];rfl
  have hCs:∀ x∈C,x.t.l.length≤1000000:=fun x hx=>hl.all x (hmem x (hCd▸hx)).1
  rw [←hCd] at e1 hmem
  simp only [hCC]
  refine wLoop_by (fun n s=>∃ i:Nat,i+n=C.length∧At s [(p4,.pt 0 1 0),(p5,.pt 1 1 0),(p6,.int .i64 (-2147483648)),(p7,.int .i64 2147483647),(p9,.fz (lowsOf l v).length none 3 (encC (lowsOf l v))),(p10,.fz (highsOf l v).length none 3 (encC (highsOf l v))),
   (p36,.fz C.length none 3 (encC C)),(p37,.int .i64 C.length),(p38,.int .i64 i)] 3 0 [(1,.obj [.fz vals.length none 1 (encI vals)]),(0,.obj [.int .i64 v])]∧(C.take i).any (fun x=>x.t.l.any (farB v vals.length))=false) C.length ?_ ?_
  ·exact ⟨0,by simp,by simp -implicitDefEqProofs only [go_sem,reduceCtorEq,rdA,rdM,rdL,rdT,rdE,rdN,↓gTT,↓gFF,↓gTF,↓gFT],by simp⟩
  ·rintro n ⟨e,nx,w,h⟩ ⟨i,hi,⟨⟨s1,s2,s3,s4,s5,s6,s7,s8,s9,-⟩,rfl,rfl,rfl⟩,hk⟩
   rcases Nat.lt_or_ge i C.length with hlt|hge
   ·obtain ⟨x,hx⟩:=has hlt
    have hxl:=hCs x (List.mem_of_getElem? hx)
    simp -implicitDefEqProofs only [s1,s2,s3,s4,s5,s6,s7,s8,s9,ltT hlt,encC_cut hx,encC_len,inc64 hlt (by omega:C.length≤4611686018427387904),go_sem,reduceCtorEq,rdA,rdM,rdL,rdT,rdE,rdN,↓gTT,↓gFF,↓gTF,↓gFT]
    repeat' (first|(with_reducible refine And.intro ?_ ?_)|(with_reducible refine gs_t ?_ ?_)|(with_reducible refine gs_f ?_ ?_)|(intro _)|((with_reducible apply wCall_any);(· (simp -implicitDefEqProofs only [go_sem,reduceCtorEq,rdA,rdM,rdL,rdT,rdE,rdN,↓gTT,↓gFF,↓gTF,↓gFT]<;>rfl));(· (exact ContainsM_ok p69 [.fp [.int .i64 v] 0,.fp [.fz vals.length none 1 (encI vals)] 0] (farB v vals.length) x.t.l (by omega) rfl (fun m _=>Span1_ok m v vals)));(· rfl);(· rfl);(· (first|exact Eq.refl true|exact Eq.refl false));(simp -implicitDefEqProofs only [inc64 hlt (by omega:C.length≤4611686018427387904),go_sem,reduceCtorEq,rdA,rdM,rdL,rdT,rdE,rdN,↓gTT,↓gFF,↓gTF,↓gFT]))|fail)
    all_goals clear s1 s2 s3 s4 s5 s6 s7 s8 s9
    all_goals first|omega|skip
    ·rename_i ha
     have hsp:spanE l v vals=5:=by
      have:(spanC l v).any (fun x=>x.t.l.any (farB v vals.length))=true:=List.any_eq_true.2 ⟨x,hCd▸List.mem_of_getElem? hx,ha⟩
      unfold spanE;rw [if_neg (by omega),if_pos this]
     unfold spanV;rw [hsp];rfl
    ·rename_i ha
     refine ⟨n-1,by omega,i+1,by omega,rfl,?_⟩
     rw [take_snoc hx,List.any_append,hk];simp [ha]
   ·have hfar:C.any (fun x=>x.t.l.any (farB v vals.length))=false:=by rw [List.take_of_length_le hge] at hk;exact hk
    simp -implicitDefEqProofs only [s1,s2,s3,s4,s5,s6,s7,s8,s9,ltF hge,go_sem,reduceCtorEq,rdA,rdM,rdL,rdT,rdE,rdN,↓gTT,↓gFF,↓gTF,↓gFT]
    repeat' (first|(with_reducible refine And.intro ?_ ?_)|(with_reducible refine gs_t ?_ ?_)|(with_reducible refine gs_f ?_ ?_)|(intro _)|((with_reducible apply wCall_any);(· (simp -implicitDefEqProofs only [go_sem,reduceCtorEq,rdA,rdM,rdL,rdT,rdE,rdN,↓gTT,↓gFF,↓gTF,↓gFT]<;>rfl));(· (first|exact ContainsI_ok p71 [] outB vals (by omega) rfl (fun x _=>Span2_ok x)|exact Concat_ok (lowsOf l v) (highsOf l v) (by have:=hC.1.len;omega) (by have:=hC.2.len;omega)));(· rfl);(· rfl);(· (first|exact Eq.refl true|exact Eq.refl false));(simp -implicitDefEqProofs only [go_sem,reduceCtorEq,rdA,rdM,rdL,rdT,rdE,rdN,↓gTT,↓gFF,↓gTF,↓gFT]))|fail)
    ·rename_i ha
     have hsp:spanE l v vals=1:=by
      unfold spanE;rw [if_neg (by omega),←hCd,hfar,if_neg (by simp),if_pos ha]
     unfold spanV;rw [hsp];rfl
    ·rename_i hout
     have hsp:spanE l v vals=0:=by
      unfold spanE;rw [if_neg (by omega),←hCd,hfar,if_neg (by simp),hout,if_neg (by simp)]
     clear s1 s2 s3 s4 s5 s6 s7 s8 s9 hk hi hge
     simp only [hCC]
     have hF:∀ i,∃ P:Int × Int,P=(C.take i).foldl (spanStep v vals) (-2147483648,2147483647):=fun i=>⟨_,rfl⟩
     refine wLoop_by (fun n s=>∃ i:Nat,i+n=C.length∧At s [(p4,.pt 0 1 0),(p5,.pt 1 1 0),(p6,.int .i64 ((C.take i).foldl (spanStep v vals) (-2147483648,2147483647)).1),(p7,.int .i64 ((C.take i).foldl (spanStep v vals) (-2147483648,2147483647)).2),
      (p53,.fz C.length none 3 (encC C)),(p54,.int .i64 C.length),(p55,.int .i64 i)] 4 0 [(1,.obj [.fz vals.length none 1 (encI vals)]),(0,.obj [.int .i64 v])]) C.length ?_ ?_
     ·exact ⟨0,by simp,by simp -implicitDefEqProofs only [go_sem,reduceCtorEq,rdA,rdM,rdL,rdT,rdE,rdN,↓gTT,↓gFF,↓gTF,↓gFT];simp⟩
     ·rintro n ⟨e,nx,w,h⟩ ⟨i,hi,⟨s1,s2,s3,s4,s5,s6,s7,-⟩,rfl,rfl,rfl⟩
      rcases Nat.lt_or_ge i C.length with hlt|hge
      ·obtain ⟨x,hx⟩:=has hlt
       have hxm:=List.mem_of_getElem? hx
       have hxl:=hCs x hxm
       obtain ⟨hxc,hx40,hxok⟩:=okC_parts (List.all_eq_true.1 hall x (hmem x hxm).1)
       have hxfar:∀ m∈x.t.l,m.v≠v→m.v<vals.length:=by
        intro m hm hne
        have h1:=List.any_eq_false.1 hfar x hxm
        have h2:x.t.l.any (farB v vals.length)=false:=by simpa using h1
        have h3:=List.any_eq_false.1 h2 m hm
        simp [farB,hne] at h3;exact h3
       obtain ⟨P,hP⟩:=hF i
       rw [←hP] at s3 s4
       simp -implicitDefEqProofs only [s1,s2,s3,s4,s5,s6,s7,ltT hlt,encC_cut hx,encC_len,go_sem,reduceCtorEq,rdA,rdM,rdL,rdT,rdE,rdN,↓gTT,↓gFF,↓gTF,↓gFT]
       refine ⟨⟨by omega,by omega⟩,by omega,?_⟩
       refine wLoop_by (fun n s=>∃ j:Nat,j+n=x.t.l.length∧At s [(p4,.pt 0 1 0),(p5,.pt 1 1 0),(p6,.int .i64 P.1),(p7,.int .i64 P.2),(p15,.var (cC x)),(p16,.int .i64 (x.t.c+restOf v vals (x.t.l.take j))),
        (p53,.fz C.length none 3 (encC C)),(p54,.int .i64 C.length),(p55,.int .i64 i),(p64,.fz x.t.l.length none 2 (encM x.t.l)),(p65,.int .i64 x.t.l.length),(p66,.int .i64 j)] 4 0 [(1,.obj [.fz vals.length none 1 (encI vals)]),(0,.obj [.int .i64 v])]) x.t.l.length ?_ ?_
       ·exact ⟨0,by simp,by simp -implicitDefEqProofs only [go_sem,reduceCtorEq,rdA,rdM,rdL,rdT,rdE,rdN,↓gTT,↓gFF,↓gTF,↓gFT];simp [restOf]⟩
       ·rintro n' ⟨e',nx,w,h⟩ ⟨j,hj,⟨a1,a2,a3,a4,a5,a6,a7,a8,a9,a10,a11,a12,-⟩,rfl,rfl,rfl⟩
        rcases Nat.lt_or_ge j x.t.l.length with hjlt|hjge
        ·obtain ⟨m,hm⟩:=has hjlt
         have hmm:=List.mem_of_getElem? hm
         have hmok:=hxok m hmm
         have hb1:=restOf_bound v hout (l:=x.t.l.take j) fun m hm=>hxok m (List.mem_of_mem_take hm)
         have hlen:(x.t.l.take j).length≤40:=by rw [List.length_take];omega
         have hb2:=term_bound hout hmok
         have hmv:0≤m.v:=by simp only [okM,Bool.and_eq_true,decide_eq_true_eq] at hmok;omega
         have hsum:restOf v vals (x.t.l.take (j+1))=restOf v vals (x.t.l.take j)+(if m.v=v then 0 else m.k*valOf vals m.v):=by
          rw [take_snoc hm,restOf_app];simp [restOf]
         by_cases hmvv:m.v=v
         ·have hd:decide (m.v=v)=true:=by simpa using hmvv
          simp -implicitDefEqProofs only [a1,a2,a3,a4,a5,a6,a7,a8,a9,a10,a11,a12,hd,ltT hjlt,encM_cut hm,encM_len,inc64 hjlt (by omega:x.t.l.length≤4611686018427387904),go_sem,reduceCtorEq,rdA,rdM,rdL,rdT,rdE,rdN,↓gTT,↓gFF,↓gTF,↓gFT]
          refine ⟨⟨by omega,by omega⟩,by omega,n'-1,by omega,j+1,by omega,?_⟩
          rw [hsum,if_pos hmvv];simp
         ·have hd:decide (m.v=v)=false:=by simpa using hmvv
          have hlv:=hxfar m hmm hmvv
          obtain ⟨y,hy⟩:∃ y,vals[m.v.toNat]?=some y:=has (by omega)
          have hval:valOf vals m.v=y:=by unfold valOf;rw [hy];rfl
          rw [hval] at hb2
          have hw1:IntKind.i64.wrap (m.k*y)=m.k*y:=i64 (by omega)
          have hw2:IntKind.i64.wrap (x.t.c+restOf v vals (x.t.l.take j)+m.k*y)=x.t.c+restOf v vals (x.t.l.take j)+m.k*y:=i64 (by omega)
          simp -implicitDefEqProofs only [a1,a2,a3,a4,a5,a6,a7,a8,a9,a10,a11,a12,hd,ltT hjlt,encM_cut hm,encM_len,inc64 hjlt (by omega:x.t.l.length≤4611686018427387904),Nat.mul_one,encI_g hy,hw1,hw2,go_sem,reduceCtorEq,rdA,rdM,rdL,rdT,rdE,rdN,↓gTT,↓gFF,↓gTF,↓gFT]
          repeat' (first|(with_reducible refine And.intro ?_ ?_)|(with_reducible refine gs_t ?_ ?_)|(with_reducible refine gs_f ?_ ?_)|(intro _)|fail)
          all_goals first|omega|skip
          refine ⟨n'-1,by omega,j+1,by omega,?_⟩
          rw [hsum,if_neg hmvv,hval];simp [Int.add_assoc]
        ·rw [List.take_of_length_le hjge] at a6
         have hb1:=restOf_bound v hout hxok
         have hkb:=kOf_bound v hxok
         have hk0:=(hmem x hxm).2
         obtain ⟨S,hS⟩:∃ S,S=x.t.c+restOf v vals x.t.l:=⟨_,rfl⟩
         rw [←hS] at a6
         have hSb:-1152921504606846976≤-S∧-S≤1152921504606846976:=by omega
         have hw1:IntKind.i64.wrap (-S)=-S:=i64 (by omega)
         have hw2:IntKind.i64.wrap (-(kOf x.t.l v))=-(kOf x.t.l v):=i64 (by omega)
         have hstep:(C.take (i+1)).foldl (spanStep v vals) (-2147483648,2147483647)=spanStep v vals P x:=by
          rw [take_snoc hx,List.foldl_append,←hP];rfl
         simp -implicitDefEqProofs only [a1,a2,a3,a4,a5,a6,a7,a8,a9,a10,a11,a12,ltF hjge,hw1,hw2,go_sem,reduceCtorEq,rdA,rdM,rdL,rdT,rdE,rdN,↓gTT,↓gFF,↓gTF,↓gFT]
         clear a1 a2 a3 a4 a5 a6 a7 a8 a9 a10 a11 a12 s1 s2 s3 s4 s5 s6 s7
         by_cases hneg:kOf x.t.l v<0
         ·have hdiv:-1152921504606846976≤-S / -(kOf x.t.l v)∧-S / -(kOf x.t.l v)≤1152921504606846976:=ediv_bound (by omega) (by omega) (by omega)
          have hw3:IntKind.i64.wrap (-(-S / -(kOf x.t.l v)))=-(-S / -(kOf x.t.l v)):=i64 (by omega)
          have hd:decide (kOf x.t.l v<0)=true:=by simpa using hneg
          repeat' (first|(with_reducible refine And.intro ?_ ?_)|(with_reducible refine gs_t ?_ ?_)|(with_reducible refine gs_f ?_ ?_)|(intro _)|((with_reducible apply wCall_any);(· (simp -implicitDefEqProofs only [go_sem,reduceCtorEq,rdA,rdM,rdL,rdT,rdE,rdN,↓gTT,↓gFF,↓gTF,↓gFT]<;>rfl));(· (first|exact K_ok _ _ _ (by omega)|exact down_ok (-S) (-(kOf x.t.l v)) (by omega) hSb));(· rfl);(· rfl);(· (first|exact Eq.refl true|exact Eq.refl false));(simp -implicitDefEqProofs only [hd,hw1,hw2,hw3,inc64 hlt (by omega:C.length≤4611686018427387904),go_sem,reduceCtorEq,rdA,rdM,rdL,rdT,rdE,rdN,↓gTT,↓gFF,↓gTF,↓gFT]))|fail)
          refine ⟨n-1,by omega,i+1,by omega,?_⟩
          rw [hstep];unfold spanStep;rw [if_pos hneg,←hS];simp
         ·have hd:decide (kOf x.t.l v<0)=false:=by simpa using hneg
          repeat' (first|(with_reducible refine And.intro ?_ ?_)|(with_reducible refine gs_t ?_ ?_)|(with_reducible refine gs_f ?_ ?_)|(intro _)|((with_reducible apply wCall_any);(· (simp -implicitDefEqProofs only [go_sem,reduceCtorEq,rdA,rdM,rdL,rdT,rdE,rdN,↓gTT,↓gFF,↓gTF,↓gFT]<;>rfl));(· (first|exact K_ok _ _ _ (by omega)|exact down_ok (-S) (kOf x.t.l v) (by omega) hSb));(· rfl);(· rfl);(· (first|exact Eq.refl true|exact Eq.refl false));(simp -implicitDefEqProofs only [hd,hw1,hw2,inc64 hlt (by omega:C.length≤4611686018427387904),go_sem,reduceCtorEq,rdA,rdM,rdL,rdT,rdE,rdN,↓gTT,↓gFF,↓gTF,↓gFT]))|fail)
          refine ⟨n-1,by omega,i+1,by omega,?_⟩
          rw [hstep];unfold spanStep;rw [if_neg hneg,←hS];simp
      ·rw [List.take_of_length_le hge] at s3 s4
       simp -implicitDefEqProofs only [s1,s2,s3,s4,s5,s6,s7,ltF hge,go_sem,reduceCtorEq,rdA,rdM,rdL,rdT,rdE,rdN,↓gTT,↓gFF,↓gTF,↓gFT]
       unfold spanV;rw [if_pos hsp];unfold spanFold;rw [←hCd]
theorem CloneM_ok (l:List Mono) (hl:l.length≤1000000):VPure FT p112 [.fz l.length none 2 (encM l)] (.fz l.length none 2 (encM l)):=by
 refine vpure_of_body' (f:=p112) rfl rfl ?_
 simp -implicitDefEqProofs only [go_sem,reduceCtorEq,rdA,rdM,rdL,rdT,rdE,rdN,↓gTT,↓gFF,↓gTF,↓gFT]
 intro b hb
 have e:(false != b)=b:=by cases b<;>rfl
 rw [e]
 refine gs_t (fun h=>?_) (fun h=>?_)
 ·have h0:=hb h
  have:l=[]:=List.length_eq_zero_iff.1 h0
  subst this
  simp -implicitDefEqProofs only [encM,go_sem,reduceCtorEq,rdA,rdM,rdL,rdT,rdE,rdN,↓gTT,↓gFF,↓gTF,↓gFT]
 ·simp -implicitDefEqProofs only [encM_len,go_sem,reduceCtorEq,rdA,rdM,rdL,rdT,rdE,rdN,↓gTT,↓gFF,↓gTF,↓gFT]
  first|omega|(refine ⟨by omega,?_⟩;omega)|trivial
theorem TwinT_ok (c:Int) (l:List Mono) (hl:l.length≤1000000):VPure FT p94 [.agg [.int .i64 c,.fz l.length none 2 (encM l)]] (.agg [.int .i64 c,.fz l.length none 2 (encM l)]):=by
 refine vpure_of_body (f:=p94) rfl rfl ?_
 simp -implicitDefEqProofs only [go_sem,reduceCtorEq,rdA,rdM,rdL,rdT,rdE,rdN,↓gTT,↓gFF,↓gTF,↓gFT]
 repeat' (first|(with_reducible refine And.intro ?_ ?_)|(with_reducible refine gs_t ?_ ?_)|(with_reducible refine gs_f ?_ ?_)|(intro _)|((with_reducible apply wCall_any);(· (simp -implicitDefEqProofs only [go_sem,reduceCtorEq,rdA,rdM,rdL,rdT,rdE,rdN,↓gTT,↓gFF,↓gTF,↓gFT]<;>rfl));(· (exact CloneM_ok l hl));(· rfl);(· rfl);(· (first|exact Eq.refl true|exact Eq.refl false));(simp -implicitDefEqProofs only [go_sem,reduceCtorEq,rdA,rdM,rdL,rdT,rdE,rdN,↓gTT,↓gFF,↓gTF,↓gFT]))|fail)
theorem twin_ok (x:Cons) (hl:x.t.l.length≤1000000):VPure FT p65 [.agg (cC x)] (.agg (cC x)):=by
 refine vpure_of_body (f:=p65) rfl rfl ?_
 simp -implicitDefEqProofs only [go_sem,reduceCtorEq,rdA,rdM,rdL,rdT,rdE,rdN,↓gTT,↓gFF,↓gTF,↓gFT]
 repeat' (first|(with_reducible refine And.intro ?_ ?_)|(with_reducible refine gs_t ?_ ?_)|(with_reducible refine gs_f ?_ ?_)|(intro _)|((with_reducible apply wCall_any);(· (simp -implicitDefEqProofs only [go_sem,reduceCtorEq,rdA,rdM,rdL,rdT,rdE,rdN,↓gTT,↓gFF,↓gTF,↓gFT]<;>rfl));(· (exact TwinT_ok _ _ hl));(· rfl);(· rfl);(· (first|exact Eq.refl true|exact Eq.refl false));(simp -implicitDefEqProofs only [go_sem,reduceCtorEq,rdA,rdM,rdL,rdT,rdE,rdN,↓gTT,↓gFF,↓gTF,↓gFT]))|fail)
theorem tdiv_bound' (a b:Int) (hb:0<b) (ha:0≤a∧a≤4611686018427387904):0≤a.tdiv b∧a.tdiv b≤4611686018427387904:=by
 have h:(a.tdiv b).natAbs≤a.natAbs:=by rw [Int.natAbs_tdiv];exact Nat.div_le_self _ _
 have h2:0≤a.tdiv b:=Int.tdiv_nonneg ha.1 (by omega)
 omega
def timesP (a b most:Int):Int × Bool:=
 if a=0∨b=0 then (0,true) else if roomB a most=false∨roomB b most=false then (0,false) else (IntKind.i64.wrap (a*b),decide (max a (-a)≤most.tdiv (max b (-b))))
theorem times_ok (a b most:Int) (hm:0≤most∧most≤4611686018427387904):VPure FT p98 [.int .i64 a,.int .i64 b,.int .i64 most] (.tup [.int .i64 (timesP a b most).1,.bool (timesP a b most).2]):=by
 refine vpure_of_body (f:=p98) rfl rfl ?_
 by_cases ha:a=0
 ·have hd:decide (a=0)=true:=by simpa using ha
  have e:timesP a b most=(0,true):=by unfold timesP;rw [if_pos (.inl ha)]
  simp -implicitDefEqProofs only [hd,e,go_sem,reduceCtorEq,rdA,rdM,rdL,rdT,rdE,rdN,↓gTT,↓gFF,↓gTF,↓gFT]
 by_cases hb:b=0
 ·have hd:decide (a=0)=false:=by simpa using ha
  have hd2:decide (b=0)=true:=by simpa using hb
  have e:timesP a b most=(0,true):=by unfold timesP;rw [if_pos (.inr hb)]
  simp -implicitDefEqProofs only [hd,hd2,e,go_sem,reduceCtorEq,rdA,rdM,rdL,rdT,rdE,rdN,↓gTT,↓gFF,↓gTF,↓gFT]
 have hd:decide (a=0)=false:=by simpa using ha
 have hd2:decide (b=0)=false:=by simpa using hb
 have hab:¬ (a=0∨b=0):=by omega
 cases hra:roomB a most with
 | false=>
  have e:timesP a b most=(0,false):=by unfold timesP;rw [if_neg hab,if_pos (.inl hra)]
  simp -implicitDefEqProofs only [hd,hd2,e,go_sem,reduceCtorEq,rdA,rdM,rdL,rdT,rdE,rdN,↓gTT,↓gFF,↓gTF,↓gFT]
  repeat' (first|(with_reducible refine And.intro ?_ ?_)|(with_reducible refine gs_t ?_ ?_)|(with_reducible refine gs_f ?_ ?_)|(intro _)|((with_reducible apply wCall_any);(· (simp -implicitDefEqProofs only [go_sem,reduceCtorEq,rdA,rdM,rdL,rdT,rdE,rdN,↓gTT,↓gFF,↓gTF,↓gFT]<;>rfl));(· (exact room_ok _ _ hm));(· rfl);(· rfl);(· (first|exact Eq.refl true|exact Eq.refl false));(simp -implicitDefEqProofs only [hra,go_sem,reduceCtorEq,rdA,rdM,rdL,rdT,rdE,rdN,↓gTT,↓gFF,↓gTF,↓gFT]))|fail)
 | true=>
  cases hrb:roomB b most with
  | false=>
   have e:timesP a b most=(0,false):=by unfold timesP;rw [if_neg hab,if_pos (.inr hrb)]
   simp -implicitDefEqProofs only [hd,hd2,e,go_sem,reduceCtorEq,rdA,rdM,rdL,rdT,rdE,rdN,↓gTT,↓gFF,↓gTF,↓gFT]
   repeat' (first|(with_reducible refine And.intro ?_ ?_)|(with_reducible refine gs_t ?_ ?_)|(with_reducible refine gs_f ?_ ?_)|(intro _)|((with_reducible apply wCall_any);(· (simp -implicitDefEqProofs only [go_sem,reduceCtorEq,rdA,rdM,rdL,rdT,rdE,rdN,↓gTT,↓gFF,↓gTF,↓gFT]<;>rfl));(· (exact room_ok _ _ hm));(· rfl);(· rfl);(· (first|exact Eq.refl true|exact Eq.refl false));(simp -implicitDefEqProofs only [hra,hrb,go_sem,reduceCtorEq,rdA,rdM,rdL,rdT,rdE,rdN,↓gTT,↓gFF,↓gTF,↓gFT]))|fail)
  | true=>
   have ra:=hra;have rb:=hrb
   simp only [roomB,Bool.and_eq_true,decide_eq_true_eq] at ra rb
   have w1:IntKind.i64.wrap (-a)=-a:=i64 (by omega)
   have w2:IntKind.i64.wrap (-b)=-b:=i64 (by omega)
   have hdv:=tdiv_bound' most (max b (-b)) (by omega) hm
   have w3:IntKind.i64.wrap (most.tdiv (max b (-b)))=most.tdiv (max b (-b)):=i64 (by omega)
   have e:timesP a b most=(IntKind.i64.wrap (a*b),decide (max a (-a)≤most.tdiv (max b (-b)))):=by unfold timesP;rw [if_neg hab,if_neg (by rw [hra,hrb];simp)]
   simp -implicitDefEqProofs only [hd,hd2,e,go_sem,reduceCtorEq,rdA,rdM,rdL,rdT,rdE,rdN,↓gTT,↓gFF,↓gTF,↓gFT]
   repeat' (first|(with_reducible refine And.intro ?_ ?_)|(with_reducible refine gs_t ?_ ?_)|(with_reducible refine gs_f ?_ ?_)|(intro _)|((with_reducible apply wCall_any);(· (simp -implicitDefEqProofs only [go_sem,reduceCtorEq,rdA,rdM,rdL,rdT,rdE,rdN,↓gTT,↓gFF,↓gTF,↓gFT]<;>rfl));(· (exact room_ok _ _ hm));(· rfl);(· rfl);(· (first|exact Eq.refl true|exact Eq.refl false));(simp -implicitDefEqProofs only [hra,hrb,w1,w2,w3,go_sem,reduceCtorEq,rdA,rdM,rdL,rdT,rdE,rdN,↓gTT,↓gFF,↓gTF,↓gFT]))|fail)
   omega
def scaleL (k:Int):List Mono→List Mono
 | []=>[]
 | m::l=>if (timesP m.k k 1048576).1=0 then scaleL k l else ⟨m.v,(timesP m.k k 1048576).1⟩::scaleL k l
def scaleB (k:Int) (l:List Mono):Bool:=l.all fun m=>(timesP m.k k 1048576).2
theorem scaleL_app (k:Int):∀ a b:List Mono,scaleL k (a++b)=scaleL k a++scaleL k b
 | [],b=>rfl
 | m::a,b=>by
  simp only [List.cons_append,scaleL,scaleL_app k a b];split<;>rfl
theorem scaleL_len (k:Int):∀ a:List Mono,(scaleL k a).length≤a.length
 | []=>Nat.le_refl _
 | m::a=>by
  have:=scaleL_len k a
  simp only [scaleL];split<;>simp<;>omega
def scaleR (c:Int) (l:List Mono) (k:Int):Int × List Mono × Int:=
 if okT c l=false then (0,[],1) else if ((timesP c k 1099511627776).2&&scaleB k l)=true then ((timesP c k 1099511627776).1,scaleL k l,0) else (0,[],12)
def vTE (r:Int × List Mono × Int):VV:=.tup [.agg [.int .i64 r.1,.fz r.2.1.length none 2 (encM r.2.1)],.int .i64 r.2.2]
set_option maxHeartbeats 1000000 in
theorem Scale_ok (c:Int) (l:List Mono) (k:Int) (hl:l.length≤1000000):VPure FT p55 [.agg [.int .i64 c,.fz l.length none 2 (encM l)],.int .i64 k] (vTE (scaleR c l k)):=by
 refine vpure_of_body' (f:=p55) rfl rfl ?_
 cases hok:okT c l with
 | false=>
  have e:scaleR c l k=(0,[],1):=by unfold scaleR;rw [if_pos hok]
  have h1:(1:Int)≠0:=by decide
  simp -implicitDefEqProofs only [e,vTE,encM,go_sem,reduceCtorEq,rdA,rdM,rdL,rdT,rdE,rdN,↓gTT,↓gFF,↓gTF,↓gFT]
  repeat' (first|(with_reducible refine And.intro ?_ ?_)|(with_reducible refine gs_t ?_ ?_)|(with_reducible refine gs_f ?_ ?_)|(intro _)|((with_reducible apply wCall_any);(· (simp -implicitDefEqProofs only [go_sem,reduceCtorEq,rdA,rdM,rdL,rdT,rdE,rdN,↓gTT,↓gFF,↓gTF,↓gFT]<;>rfl));(· (exact Check_ok _ _ (by omega)));(· rfl);(· rfl);(· (first|exact Eq.refl true|exact Eq.refl false));(simp -implicitDefEqProofs only [hok,Bool.false_eq_true,if_false,encM,go_sem,reduceCtorEq,rdA,rdM,rdL,rdT,rdE,rdN,↓gTT,↓gFF,↓gTF,↓gFT]))|fail)
  all_goals first|trivial|(rename_i h;simp at h;done)|(rename_i h;simp at h;trivial)
 | true=>
  simp -implicitDefEqProofs only [vTE,go_sem,reduceCtorEq,rdA,rdM,rdL,rdT,rdE,rdN,↓gTT,↓gFF,↓gTF,↓gFT]
  repeat' (first|(with_reducible refine And.intro ?_ ?_)|(with_reducible refine gs_t ?_ ?_)|(with_reducible refine gs_f ?_ ?_)|(intro _)|((with_reducible apply wCall_any);(· (simp -implicitDefEqProofs only [go_sem,reduceCtorEq,rdA,rdM,rdL,rdT,rdE,rdN,↓gTT,↓gFF,↓gTF,↓gFT]<;>rfl));(· (first|exact Check_ok _ _ (by omega)|exact times_ok _ _ _ (by omega)));(· rfl);(· rfl);(· (first|exact Eq.refl true|exact Eq.refl false));(simp -implicitDefEqProofs only [hok,if_true,go_sem,reduceCtorEq,rdA,rdM,rdL,rdT,rdE,rdN,↓gTT,↓gFF,↓gTF,↓gFT]))|fail)
  all_goals (try (rename_i h;simp at h;done))
  refine wLoop_ownV p8 1 2 (by simp -implicitDefEqProofs only [go_sem,reduceCtorEq,rdA,rdM,rdL,rdT,rdE,rdN,↓gTT,↓gFF,↓gTF,↓gFT];rfl) (by rfl) ?_
  simp -implicitDefEqProofs only [go_sem,reduceCtorEq,rdA,rdM,rdL,rdT,rdE,rdN,↓gTT,↓gFF,↓gTF,↓gFT]
  refine wLoop_dr (fun n s=>∃ i m:Nat,i+n=l.length∧At s [(p1,.int .i64 k),(p4,.var [.int .i64 0,.nils]),(p7,.bool ((timesP c k 1099511627776).2&&scaleB k (l.take i))),(p8,.var [.int .i64 (timesP c k 1099511627776).1,.ow 0 (scaleL k (l.take i)).length 2]),
   (p27,.fz l.length none 2 (encM l)),(p28,.int .i64 l.length),(p29,.int .i64 i)] (m+1) 0 [(0,.row (encM (scaleL k (l.take i))))]) l.length ?_ ?_
  ·exact ⟨0,0,by simp,by simp -implicitDefEqProofs only [go_sem,reduceCtorEq,rdA,rdM,rdL,rdT,rdE,rdN,↓gTT,↓gFF,↓gTF,↓gFT];simp [scaleB,scaleL,encM]⟩
  ·rintro n ⟨e,nx,w,h⟩ ⟨i,mm,hi,⟨s1,s2,s3,s4,s5,s6,s7,-⟩,rfl,rfl,rfl⟩
   rcases Nat.lt_or_ge i l.length with hlt|hge
   ·obtain ⟨m,hm⟩:=has hlt
    have hb:=scaleL_len k (l.take i)
    have hb2:(l.take i).length≤i:=List.length_take_le _ _
    have ht:=take_snoc hm
    have hsl:scaleL k (l.take (i+1))=scaleL k (l.take i)++(if (timesP m.k k 1048576).1=0 then [] else [⟨m.v,(timesP m.k k 1048576).1⟩]):=by
     rw [ht,scaleL_app];simp only [scaleL]
    have hsb:scaleB k (l.take (i+1))=(scaleB k (l.take i)&&(timesP m.k k 1048576).2):=by
     rw [ht];simp [scaleB,List.all_append]
    obtain ⟨B,hB⟩:∃ B,B=((timesP c k 1099511627776).2&&scaleB k (l.take i)):=⟨_,rfl⟩
    rw [←hB] at s3
    simp -implicitDefEqProofs only [s1,s2,s3,s4,s5,s6,s7,ltT hlt,encM_cut hm,encM_len,inc64 hlt (by omega:l.length≤4611686018427387904),go_sem,reduceCtorEq,rdA,rdM,rdL,rdT,rdE,rdN,↓gTT,↓gFF,↓gTF,↓gFT]
    repeat' (first|(with_reducible refine And.intro ?_ ?_)|(with_reducible refine gs_t ?_ ?_)|(with_reducible refine gs_f ?_ ?_)|(intro _)|((with_reducible apply wCall_any);(· (simp -implicitDefEqProofs only [go_sem,reduceCtorEq,rdA,rdM,rdL,rdT,rdE,rdN,↓gTT,↓gFF,↓gTF,↓gFT]<;>rfl));(· (exact times_ok _ _ _ (by omega)));(· rfl);(· rfl);(· (first|exact Eq.refl true|exact Eq.refl false));(simp -implicitDefEqProofs only [encM_len,inc64 hlt (by omega:l.length≤4611686018427387904),go_sem,reduceCtorEq,rdA,rdM,rdL,rdT,rdE,rdN,↓gTT,↓gFF,↓gTF,↓gFT]))|fail)
    all_goals (clear s1 s2 s3 s4 s5 s6 s7;try omega)
    all_goals
     have hB':((timesP c k 1099511627776).2&&scaleB k (l.take (i+1)))=(B&&(timesP m.k k 1048576).2):=by rw [hsb,hB,Bool.and_assoc]
     rename_i hBv hz
     by_cases hz':(timesP m.k k 1048576).1=0
     ·rw [if_pos hz',List.append_nil] at hsl
      first
       | (exfalso;simp [hz'] at hz;done)
       | (refine ⟨n-1,by omega,_,subH_refl _,i+1,mm,by omega,⟨?_,?_,rfl⟩,rfl,?_⟩<;>first|(rw [hB',hBv];simp;done)|(rw [hsl];done))
     ·rw [if_neg hz'] at hsl
      first
       | (exfalso;simp [hz'] at hz;done)
       | (refine ⟨n-1,by omega,_,subH_tail (by simp [hget]),i+1,mm+1,by omega,⟨?_,?_,rfl⟩,rfl,?_⟩<;>first|(rw [hB',hBv];simp;done)|(rw [hsl];simp [encM_app,encM];done))
   ·rw [List.take_of_length_le hge] at s3 s4
    have hfin:∀ B,B=((timesP c k 1099511627776).2&&scaleB k l)→scaleR c l k=if B=true then ((timesP c k 1099511627776).1,scaleL k l,0) else (0,[],12):=by
     intro B hB;unfold scaleR;rw [if_neg (by rw [hok];simp),hB]
    obtain ⟨B,hB⟩:∃ B,B=((timesP c k 1099511627776).2&&scaleB k l):=⟨_,rfl⟩
    rw [←hB] at s3
    rw [hfin B hB]
    simp -implicitDefEqProofs only [s1,s2,s3,s4,s5,s6,s7,ltF hge,List.take_of_length_le hge,encM_len,go_sem,reduceCtorEq,rdA,rdM,rdL,rdT,rdE,rdN,↓gTT,↓gFF,↓gTF,↓gFT]
    cases B
    ·simp -implicitDefEqProofs only [encM,go_sem,reduceCtorEq,rdA,rdM,rdL,rdT,rdE,rdN,↓gTT,↓gFF,↓gTF,↓gFT]
    ·simp -implicitDefEqProofs only [go_sem,reduceCtorEq,rdA,rdM,rdL,rdT,rdE,rdN,↓gTT,↓gFF,↓gTF,↓gFT]
end Go.Proofs.YthdlkpmhjbaplaaGreat.Dx
