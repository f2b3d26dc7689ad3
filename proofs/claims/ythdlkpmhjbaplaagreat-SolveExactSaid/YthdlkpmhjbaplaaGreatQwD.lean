/- A part of the proof of ExactS: a small machine, what its functions come to, plain laws. No statement of this seat is proved here. -/
import Derived.Test.YthdlkpmhjbaplaaGreatQwC
set_option autoImplicit false
set_option linter.unusedSimpArgs false
set_option linter.unusedVariables false
set_option linter.unnecessarySimpa false
set_option maxRecDepth 100000
noncomputable section
namespace Go.Proofs.YthdlkpmhjbaplaaGreat.Dx
open Go
open Nat renaming reduceAdd → rdA, reduceMul → rdM, reduceLeDiff → rdL, reduceLT → rdT, reduceEqDiff → rdE
open Int renaming reduceNegSucc → rdN
attribute [local irreducible] wCall wLoop
attribute [local go_sem] decide_true decide_false Bool.and_true Bool.true_and Bool.and_self Bool.false_and Bool.and_false vMs vCs vIs Slots At Tr.get_z Tr.get_l Tr.get_r Tr.get_e Tr.set_z_e Tr.set_z_n Tr.set_l_e Tr.set_l_n Tr.set_r_e Tr.set_r_n eOs_n eOs_c eDs_n eDs_c ekOs ekDs ekPut ekBack ekSeq_n ekSeq_x ekSeq_r ekBlk_n ekBlk_x ekBlk_r eO_mk eO_gd eO_loc eO_locb eD_mk eD_loc eD_locb eD_gd eDr eC_skip eC_reg eC_drw eC_seq eC_cond eC_block eC_loop eC_exit eC_ret eRetW_n eRetW_r wk wkL eRet_n eRet_r ekLd_n ekLd_x ekLd_r ekLp_n ekLp_x ekLp_r wI wBin wBd vev vov vovs vplace vouter ofDV ofDVs vcells spl vfills vput vuse vuseP vback vbackP wOf vbare isVarV vkeep hget hset hdels hdel hkeys live vw vwL keysV keysL pureV pureL vsrc veqs vmx vmn vT cT vC cC VOb.cells vres vrsL vrs1 vone List.length_cons List.length_nil List.getElem?_cons_zero List.getElem?_cons_succ List.take_succ_cons List.take_zero List.drop_succ_cons List.drop_zero List.drop_nil List.take_nil List.nil_append List.cons_append List.append_nil Option.some.injEq Nat.zero_add Nat.add_zero if_true if_false ite_true ite_false true_and and_true false_and and_false true_implies implies_true false_implies Bool.true_eq_false Bool.false_eq_true Bool.not_true Bool.not_false eq_self_iff_true Int.toNat_natCast Int.ofNat_eq_natCast Int.ofNat_zero Int.ofNat_one Int.cast_ofNat_Int VV.int.injEq VV.bool.injEq cond_true cond_false
theorem wCall_burn {s:VSt} {K:VSt→VV→Prop} {j kk left c:Nat} {vals:List Int} (hj:(j=kk)=False) (hl:left≤1000000) (hc:c≤1000000000000) (hw:s.w=0) (hh:s.h=lookH j kk left vals)
 (hK:K ⟨s.e,s.nx,0,lookH j kk (if c≤left then left-c else left) vals⟩ (.bool (decide (c≤left)))):wCall FT p27 [.pt j 2 0,.int .i64 c] s K:=by
 refine wCall_heap (hin:=lookH j kk left vals) (burn_ok j kk left c vals s.nx hj hl hc) (fun k o h=>⟨by rw [hh];exact h,by omega⟩) ?_ ?_
 ·rintro r nx' h' ⟨rfl,rfl,rfl⟩
  have:=lookH_closed j kk (if c≤left then left-c else left) vals hj 0
  exact ⟨by simp [closed,keysV],this.2⟩
 ·rintro r nx' h' ⟨rfl,rfl,rfl⟩ hn
  have hk:hdels s.h (hkeys (lookH j kk left vals))=[]:=by
   have h2:(kk=j)=False:=by simp at hj ⊢;omega
   rw [hh];simp [lookH,hkeys,hdels,hdel,h2,hj]
  rw [hk,List.append_nil,hw]
  exact hK
theorem FSem.sub {F:Tr Fd} {f:P} {args:List VV} {nx:Nat} {h:VHp} {R:VV→Nat→VHp→Prop} (H:FSem F f args nx h fun r nx' h'=>∃ h'',subH h'' h'∧R r nx' h''):FSem F f args nx h R:=by
 intro c dnx dh g ds hc hR hx
 obtain ⟨r,nx',h',x,dnx',dh',g',a,b,cc,d,h'',hs,e⟩:=H c dnx dh g ds hc hR hx
 obtain ⟨R1,E1⟩:=b.sub hs
 exact ⟨r,nx',h'',x,dnx',dh',g',a,R1,E1.xr cc,d.trans E1,e⟩
theorem lookH_get {j kk left:Nat} {vals:List Int} {k:Nat} {o:VOb} (h:hget (lookH j kk left vals) k=some o):(k=j∧o=.obj [.int .i64 left,.ow kk vals.length 1])∨(k=kk∧o=.row (encI vals)):=by
 simp only [lookH,hget] at h
 split at h
 ·cases h;exact .inl ⟨by assumption,rfl⟩
 ·split at h
  ·cases h;exact .inr ⟨by assumption,rfl⟩
  ·cases h
theorem subH_two {a b:Nat} {x y:VOb} (t:VHp):subH [(a,x),(b,y)] ((a,x)::(b,y)::t):=by
 intro k o h
 simp only [hget] at h ⊢
 split at h
 ·rename_i h1;rw [if_pos h1];exact h
 ·rename_i h1;rw [if_neg h1]
  split at h
  ·rename_i h2;rw [if_pos h2];exact h
  ·cases h
theorem wCall_look' {f:P} {args:List VV} {s:VSt} {K:VSt→VV→Prop} {j kk left:Nat} {vals:List Int} {a:Ans} (hj:(j=kk)=False) (hsem:LookSem f args j kk s.nx left vals a) (hw:s.w=0) (hh:∀ k o,hget (lookH j kk left vals) k=some o→hget s.h k=some o)
 (hK:∀ nx',s.nx≤nx'→K ⟨s.e,nx',0,lookH j kk a.2.1 a.2.2++hdels s.h [j,kk]⟩ (.int .i64 a.1)):wCall FT f (.pt j 2 0::args) s K:=by
 refine wCall_heap (hin:=lookH j kk left vals) hsem (fun k o h=>⟨hh k o h,by omega⟩) ?_ ?_
 ·rintro r nx' h' ⟨rfl,rfl⟩
  exact lookH_closed j kk _ _ hj _
 ·rintro r nx' h' ⟨rfl,rfl⟩ hn
  have:=hK nx' hn
  rw [hw];exact this
theorem aloneL_snoc {l:List Cons} {i:Nat} {x:Cons} (v:Int) (h:l[i]?=some x):aloneL (l.take (i+1)) v=if aloneB v x=true then aloneL (l.take i) v++[x] else aloneL (l.take i) v:=by
 unfold aloneL;rw [take_snoc h,List.filter_append]
 by_cases hk:aloneB v x=true<;>simp [hk]
theorem spanV_eq (l:List Cons) (v:Int) (vals:List Int):spanV l v vals=.tup [.int .i64 (spanLo l v vals),.int .i64 (spanHi l v vals),.int .i64 (spanE l v vals)]:=by
 unfold spanV spanLo spanHi
 by_cases h:spanE l v vals=0
 ·rw [if_pos h,if_pos h,if_pos h,h]
 ·rw [if_neg h,if_neg h,if_neg h]
theorem span_lo' (v:Int) (vals:List Int):∀ (l:List Cons) (a b:Int),a≤(l.foldl (spanStep v vals) (a,b)).1∧(l.foldl (spanStep v vals) (a,b)).2≤b
 | [],a,b=>⟨Int.le_refl _,Int.le_refl _⟩
 | x::l,a,b=>by
  rw [List.foldl_cons]
  unfold spanStep
  split
  ·have:=span_lo' v vals l (max a (-(-(x.t.c+restOf v vals x.t.l) / -(kOf x.t.l v)))) b
   unfold spanStep at this;simp only at this ⊢;omega
  ·have:=span_lo' v vals l a (min b (-(x.t.c+restOf v vals x.t.l) / kOf x.t.l v))
   unfold spanStep at this;simp only at this ⊢;omega
theorem span_lob (l:List Cons) (v:Int) (vals:List Int):-2147483648≤spanLo l v vals∧spanLo l v vals≤2147483647:=by
 have:=(span_lo' v vals (spanC l v) (-2147483648) 2147483647).1
 unfold spanLo spanFold;split<;>omega
theorem span_hib (l:List Cons) (v:Int) (vals:List Int):-2147483648≤spanHi l v vals∧spanHi l v vals≤2147483647:=by
 have:=(span_lo' v vals (spanC l v) (-2147483648) 2147483647).2
 unfold spanHi spanFold;split<;>omega
theorem split_sem {rec:Nat→List Int→List Cons→Ans} {j kk nx left:Nat} {vals:List Int} {l:List Cons} {v:Int} (hj:(j=kk)=False) (hjn:j<nx) (hkn:kk<nx) (hs:smallC l) (hl:left≤1000000) (hne:l≠[])
 (hsw:∀ nx',nx≤nx'→1≤left→spanLo (aloneL l v) v []=spanHi (aloneL l v) v []→
  LookSem p29 [.fz l.length none 3 (encC l),.int .i64 v,.agg [.int .i64 (spanLo (aloneL l v) v []),.fz 0 none 2 []]] j kk nx' (left-1) vals (swapD rec (left-1) vals l v (spanLo (aloneL l v) v []) []))
 (hbe:∀ nx',nx≤nx'→1≤left→spanLo (aloneL l v) v []<spanHi (aloneL l v) v []→
  LookSem p17 [.fz (l++[belowC v (halfR (spanLo (aloneL l v) v []) (spanHi (aloneL l v) v []))]).length none 3 (encC (l++[belowC v (halfR (spanLo (aloneL l v) v []) (spanHi (aloneL l v) v []))]))] j kk nx' (left-1) vals (rec (left-1) vals (l++[belowC v (halfR (spanLo (aloneL l v) v []) (spanHi (aloneL l v) v []))])))
 (hab:∀ nx',nx≤nx'→1≤left→spanLo (aloneL l v) v []<spanHi (aloneL l v) v []→(rec (left-1) vals (l++[belowC v (halfR (spanLo (aloneL l v) v []) (spanHi (aloneL l v) v []))])).1=1→
  LookSem p17 [.fz (l++[aboveC v (halfR (spanLo (aloneL l v) v []) (spanHi (aloneL l v) v []))]).length none 3 (encC (l++[aboveC v (halfR (spanLo (aloneL l v) v []) (spanHi (aloneL l v) v []))]))] j kk nx'
   (rec (left-1) vals (l++[belowC v (halfR (spanLo (aloneL l v) v []) (spanHi (aloneL l v) v []))])).2.1 (rec (left-1) vals (l++[belowC v (halfR (spanLo (aloneL l v) v []) (spanHi (aloneL l v) v []))])).2.2
   (rec (rec (left-1) vals (l++[belowC v (halfR (spanLo (aloneL l v) v []) (spanHi (aloneL l v) v []))])).2.1 (rec (left-1) vals (l++[belowC v (halfR (spanLo (aloneL l v) v []) (spanHi (aloneL l v) v []))])).2.2 (l++[aboveC v (halfR (spanLo (aloneL l v) v []) (spanHi (aloneL l v) v []))]))):
 LookSem p33 [.fz l.length none 3 (encC l),.int .i64 v] j kk nx left vals (splitD rec left vals l v):=by
 refine FSem.sub (fsem_of_body (f:=p33) rfl rfl ?_)
 have hll:=hs.len
 have n1:(nx=j)=False:=by simp;omega
 have n2:(nx=kk)=False:=by simp;omega
 have n3:(j=nx)=False:=by simp;omega
 have n4:(kk=nx)=False:=by simp;omega
 have hjk:(kk=j)=False:=by simp at hj ⊢;omega
 simp -implicitDefEqProofs only [go_sem,reduceCtorEq,rdA,rdM,rdL,rdT,rdE,rdN,↓gTT,↓gFF,↓gTF,↓gFT]
 refine wLoop_own p7 3 (by simp -implicitDefEqProofs only [go_sem,reduceCtorEq,rdA,rdM,rdL,rdT,rdE,rdN,↓gTT,↓gFF,↓gTF,↓gFT]) ?_
 simp -implicitDefEqProofs only [go_sem,reduceCtorEq,rdA,rdM,rdL,rdT,rdE,rdN,↓gTT,↓gFF,↓gTF,↓gFT]
 refine wLoop_dr (fun n s=>∃ i m:Nat,i+n=l.length∧At s [(p0,.pt j 2 0),(p1,.fz l.length none 3 (encC l)),(p2,.int .i64 v),(p7,.ow nx (aloneL (l.take i) v).length 3),(p17,.fz l.length none 3 (encC l)),(p18,.int .i64 l.length),(p19,.int .i64 i)] (nx+m+1) 0 ((nx,.row (encC (aloneL (l.take i) v)))::lookH j kk left vals)) l.length ?_ ?_
 ·exact ⟨0,0,by simp,by simp -implicitDefEqProofs only [go_sem,reduceCtorEq,rdA,rdM,rdL,rdT,rdE,rdN,↓gTT,↓gFF,↓gTF,↓gFT];simp [aloneL,encC]⟩
 ·rintro n ⟨e,nx1,w,h⟩ ⟨i,m,hi,⟨s1,s2,s3,s4,s5,s6,s7,-⟩,rfl,rfl,rfl⟩
  rcases Nat.lt_or_ge i l.length with hlt|hge
  ·obtain ⟨x,hx⟩:=has hlt
   have hsn:=aloneL_snoc v hx
   have n5:(nx=nx+m+1)=False:=by simp;omega
   have n6:(nx+m+1=nx)=False:=by simp;omega
   have n7:hget (lookH j kk left vals) (nx+m+1)=none:=by
    have q1:(nx+m+1=j)=False:=by simp;omega
    have q2:(nx+m+1=kk)=False:=by simp;omega
    simp [lookH,hget,q1,q2]
   have hal:(aloneL (l.take i) v).length≤i:=Nat.le_trans (List.length_filter_le _ _) (List.length_take_le _ _)
   have hca:aloneB v x=true∧(∃ y,x.t.l[0]?=some y∧decide (y.v=v)=true∧decide ((x.t.l.length:Int)=1)=true)∨aloneB v x=false∧(decide ((x.t.l.length:Int)=1)=false∨∃ y,x.t.l[0]?=some y∧decide (y.v=v)=false∧decide ((x.t.l.length:Int)=1)=true):=by
    unfold aloneB
    match hxl:x.t.l with
    | []=>exact .inr ⟨rfl,.inl (by simp)⟩
    | [y]=>
     by_cases hy:y.v=v
     ·exact .inl ⟨by simpa using hy,y,rfl,by simpa using hy,rfl⟩
     ·exact .inr ⟨by simpa using hy,.inr ⟨y,rfl,by simpa using hy,rfl⟩⟩
    | a::b::t=>exact .inr ⟨rfl,.inl (by simp;omega)⟩
   rcases hca with ⟨hb,y,hy,d1,d2⟩|⟨hb,hc⟩
   ·rw [if_pos hb] at hsn
    have hg:(encM x.t.l)[Int.toNat 0*2]?=some (.int .i64 y.v):=encM_g0 hy
    simp -implicitDefEqProofs only [s1,s2,s3,s4,s5,s6,s7,ltT hlt,encC_cut hx,encC_len,hg,d1,d2,n5,n6,inc64 hlt (by omega:l.length≤4611686018427387904),go_sem,reduceCtorEq,rdA,rdM,rdL,rdT,rdE,rdN,↓gTT,↓gFF,↓gTF,↓gFT]
    have hl1:(x.t.l.length:Int)=1:=of_decide_eq_true d2
    refine ⟨⟨by omega,by omega⟩,by omega,⟨by omega,by omega⟩,by omega,by omega,n-1,by omega,_,subH_tail (by simp [hget,n6,n7]),i+1,m+1,by omega,⟨by rw [hsn];simp,rfl⟩,by omega,?_⟩
    rw [hsn];simp [encC_app,encC,vMs]
   ·rw [if_neg (by rw [hb];simp)] at hsn
    rcases hc with d1|⟨y,hy,d1,d2⟩
    ·simp -implicitDefEqProofs only [s1,s2,s3,s4,s5,s6,s7,ltT hlt,encC_cut hx,encC_len,d1,inc64 hlt (by omega:l.length≤4611686018427387904),go_sem,reduceCtorEq,rdA,rdM,rdL,rdT,rdE,rdN,↓gTT,↓gFF,↓gTF,↓gFT]
     refine ⟨⟨by omega,by omega⟩,by omega,n-1,by omega,_,subH_refl _,i+1,m,by omega,⟨by rw [hsn],rfl⟩,rfl,by rw [hsn]⟩
    ·have hg:(encM x.t.l)[Int.toNat 0*2]?=some (.int .i64 y.v):=encM_g0 hy
     simp -implicitDefEqProofs only [s1,s2,s3,s4,s5,s6,s7,ltT hlt,encC_cut hx,encC_len,hg,d1,d2,inc64 hlt (by omega:l.length≤4611686018427387904),go_sem,reduceCtorEq,rdA,rdM,rdL,rdT,rdE,rdN,↓gTT,↓gFF,↓gTF,↓gFT]
     have hl1:(x.t.l.length:Int)=1:=of_decide_eq_true d2
     refine ⟨⟨by omega,by omega⟩,by omega,⟨by omega,by omega⟩,n-1,by omega,_,subH_refl _,i+1,m,by omega,⟨by rw [hsn],rfl⟩,rfl,by rw [hsn]⟩
  ·rw [List.take_of_length_le hge] at s4
   simp -implicitDefEqProofs only [s1,s2,s3,s4,s5,s6,s7,ltF hge,List.take_of_length_le hge,go_sem,reduceCtorEq,rdA,rdM,rdL,rdT,rdE,rdN,↓gTT,↓gFF,↓gTF,↓gFT]
   clear s1 s2 s3 s4 s5 s6 s7
   have hall:(aloneL l v).length≤100000:=Nat.le_trans (List.length_filter_le _ _) hll
   have has:smallC (aloneL l v):=⟨hall,fun x hx=>hs.all x (List.mem_filter.1 hx).1⟩
   have hSp:=Span_ok (aloneL l v) v [] has (by simp)
   rw [spanV_eq] at hSp
   unfold splitD
   generalize hLO:spanLo (aloneL l v) v []=LO at hSp hsw hbe hab ⊢
   generalize hHI:spanHi (aloneL l v) v []=HI at hSp hsw hbe hab ⊢
   refine wCall_frz p7 (v':=.fz (aloneL l v).length none 3 (encC (aloneL l v))) (args':=[.fz (aloneL l v).length none 3 (encC (aloneL l v)),.int .i64 v,.nils]) (by simp -implicitDefEqProofs only [go_sem,reduceCtorEq,rdA,rdM,rdL,rdT,rdE,rdN,↓gTT,↓gFF,↓gTF,↓gFT];rfl) (by simp -implicitDefEqProofs only [encC_len,go_sem,reduceCtorEq,rdA,rdM,rdL,rdT,rdE,rdN,↓gTT,↓gFF,↓gTF,↓gFT]) (by simp -implicitDefEqProofs only [encC_len,go_sem,reduceCtorEq,rdA,rdM,rdL,rdT,rdE,rdN,↓gTT,↓gFF,↓gTF,↓gFT]) ?_
   simp -implicitDefEqProofs only [lookH,n1,n2,n3,n4,hj,hjk,go_sem,reduceCtorEq,rdA,rdM,rdL,rdT,rdE,rdN,↓gTT,↓gFF,↓gTF,↓gFT]
   refine wCall_wk (args':=[.fz (aloneL l v).length none 3 (encC (aloneL l v)),.int .i64 v,.fz 0 none 1 []]) (by simp [wkL,wk]) ?_
   refine wCall_pp (r:=.tup [.int .i64 LO,.int .i64 HI,.int .i64 (spanE (aloneL l v) v [])]) rfl hSp rfl ?_
   by_cases h1:HI<LO
   ·have d1:decide (HI<LO)=true:=by simpa using h1
    rw [if_pos h1]
    simp -implicitDefEqProofs only [d1,eRetK_r,lookH,go_sem,reduceCtorEq,rdA,rdM,rdL,rdT,rdE,rdN,↓gTT,↓gFF,↓gTF,↓gFT]
    exact ⟨_,subH_refl _,rfl⟩
   have d1:decide (HI<LO)=false:=by simpa using h1
   rw [if_neg h1]
   simp -implicitDefEqProofs only [d1,go_sem,reduceCtorEq,rdA,rdM,rdL,rdT,rdE,rdN,↓gTT,↓gFF,↓gTF,↓gFT]
   refine wCall_burn (left:=left) (vals:=vals) (c:=1) hj hl (by omega) rfl rfl ?_
   by_cases h2:1≤left
   case neg=>
    rw [if_neg h2,decide_eq_false h2,if_pos (by omega)]
    simp -implicitDefEqProofs only [Bool.not_false,eRetK_r,lookH,go_sem,reduceCtorEq,rdA,rdM,rdL,rdT,rdE,rdN,↓gTT,↓gFF,↓gTF,↓gFT]
    exact ⟨_,subH_refl _,rfl⟩
   rw [if_pos h2,decide_eq_true h2,if_neg (by omega)]
   by_cases h3:LO=HI
   ·have d3:decide (LO=HI)=true:=by simpa using h3
    rw [if_pos h3]
    simp -implicitDefEqProofs only [Bool.not_true,d3,lookH,go_sem,reduceCtorEq,rdA,rdM,rdL,rdT,rdE,rdN,↓gTT,↓gFF,↓gTF,↓gFT]
    refine wCall_wk (args':=[.pt j 2 0,.fz l.length none 3 (encC l),.int .i64 v,.agg [.int .i64 LO,.fz 0 none 2 []]]) (by simp [wkL,wk]) ?_
    refine wCall_look hj (hsw _ (by show nx≤nx+m+1;omega) h2 h3) rfl rfl fun nx' hn=>?_
    simp -implicitDefEqProofs only [eRetK_r,lookH,go_sem,reduceCtorEq,rdA,rdM,rdL,rdT,rdE,rdN,↓gTT,↓gFF,↓gTF,↓gFT]
    exact ⟨_,subH_refl _,rfl⟩
   have d3:decide (LO=HI)=false:=by simpa using h3
   rw [if_neg h3]
   have hLOb:=span_lob (aloneL l v) v []
   have hHIb:=span_hib (aloneL l v) v []
   rw [hLO] at hLOb
   rw [hHI] at hHIb
   have hhf:(IntKind.i64.wrap (LO+HI)).fdiv (2 ^ Int.toNat 1)=halfR LO HI:=by
    rw [i64 (by omega),show ((2:Int) ^ Int.toNat 1)=2 from rfl,Int.fdiv_eq_ediv_of_nonneg _ (by omega)];rfl
   have hMb:LO≤halfR LO HI∧halfR LO HI≤HI:=by unfold halfR;omega
   replace hbe:=fun nx' hn=>hbe nx' hn h2 (by omega)
   replace hab:=fun nx' hn=>hab nx' hn h2 (by omega)
   generalize halfR LO HI=M at hhf hMb hbe hab ⊢
   have w1:IntKind.i64.wrap (-M)=-M:=i64 (by omega)
   have w2:IntKind.i64.wrap (M+1)=M+1:=i64 (by omega)
   have t1:(nx+m=nx+m+1)=False:=by simp<;>omega
   have t2:(nx+m=nx+m+2)=False:=by simp<;>omega
   have t3:(nx+m+1=nx+m)=False:=by simp<;>omega
   have t4:(nx+m+2=nx+m)=False:=by simp<;>omega
   have t5:(nx+m+1=j)=False:=by simp<;>omega
   have t6:(j=nx+m+1)=False:=by simp<;>omega
   have t7:(nx+m+1=kk)=False:=by simp<;>omega
   have t8:(kk=nx+m+1)=False:=by simp<;>omega
   have t9:(nx+m+1+1=j)=False:=by simp<;>omega
   have t10:(j=nx+m+1+1)=False:=by simp<;>omega
   have t11:(nx+m+1+1=kk)=False:=by simp<;>omega
   have t12:(kk=nx+m+1+1)=False:=by simp<;>omega
   have t13:(nx+m+1+1+1=j)=False:=by simp<;>omega
   have t14:(j=nx+m+1+1+1)=False:=by simp<;>omega
   have t15:(nx+m+1+1+1=kk)=False:=by simp<;>omega
   have t16:(kk=nx+m+1+1+1)=False:=by simp<;>omega
   have t17:(nx+m+1+1+1+1=j)=False:=by simp<;>omega
   have t18:(j=nx+m+1+1+1+1)=False:=by simp<;>omega
   have t19:(nx+m+1+1+1+1=kk)=False:=by simp<;>omega
   have t20:(kk=nx+m+1+1+1+1)=False:=by simp<;>omega
   simp -implicitDefEqProofs only [Bool.not_true,d3,hhf,w1,w2,lookH,go_sem,reduceCtorEq,rdA,rdM,rdL,rdT,rdE,rdN,↓gTT,↓gFF,↓gTF,↓gFT]
   refine ⟨by decide,?_⟩
   refine wCall_heap (hin:=[]) (CloneC_own l (by omega) hne _) (fun k o h=>by cases h) ?_ ?_
   ·rintro r nx' h' ⟨rfl,rfl,rfl⟩
    refine ⟨by simp [closed,keysV,keysL,hkeys],?_⟩
    intro k o ho
    simp only [hget] at ho
    split at ho
    ·cases ho;simp [closed,okeys]
    ·cases ho
   ·rintro r nx' h' ⟨rfl,rfl,rfl⟩ _
    simp -implicitDefEqProofs only [hkeys,hdels,t1,t2,t3,t4,t5,t6,t7,t8,t9,t10,t11,t12,t13,t14,t15,t16,t17,t18,t19,t20,encC_len,hj,hjk,go_sem,reduceCtorEq,rdA,rdM,rdL,rdT,rdE,rdN,↓gTT,↓gFF,↓gTF,↓gFT]
    refine ⟨by omega,?_⟩
    have eb:encC (l++[belowC v M])=encC l++[.int .i64 (-M),.fz 1 none 2 [.int .i64 v,.int .i64 1],.bool false]:=by rw [encC_app];rfl
    have ea:encC (l++[aboveC v M])=encC l++[.int .i64 (M+1),.fz 1 none 2 [.int .i64 v,.int .i64 (-1)],.bool false]:=by rw [encC_app];rfl
    have eln:∀ z:Cons,(l++[z]).length=l.length+1:=fun z=>by simp
    rw [eb,eln] at hbe
    rw [ea,eln] at hab
    refine wCall_frz2 (v':=.fz (l.length+1) none 3 (encC l++[.int .i64 (-M),.fz 1 none 2 [.int .i64 v,.int .i64 1],.bool false])) (by simp -implicitDefEqProofs only [t1,t2,t3,t4,t5,t6,t7,t8,t9,t10,t11,t12,t13,t14,t15,t16,t17,t18,t19,t20,encC_len1,go_sem,reduceCtorEq,rdA,rdM,rdL,rdT,rdE,rdN,↓gTT,↓gFF,↓gTF,↓gFT]) ?_
    obtain ⟨A,hA⟩:∃ A,A=rec (left-1) vals (l++[belowC v M]):=⟨_,rfl⟩
    rw [←hA] at hbe hab ⊢
    refine wCall_look' hj (hbe _ (by show nx≤nx+m+1+1+1+1+1;omega)) rfl ?_ ?_
    ·intro k o ho
     rcases lookH_get ho with ⟨rfl,rfl⟩|⟨rfl,rfl⟩<;>simp -implicitDefEqProofs only [t1,t2,t3,t4,t5,t6,t7,t8,t9,t10,t11,t12,t13,t14,t15,t16,t17,t18,t19,t20,hdels,hj,hjk,go_sem,reduceCtorEq,rdA,rdM,rdL,rdT,rdE,rdN,↓gTT,↓gFF,↓gTF,↓gFT]
    ·intro nx' hn
     by_cases h4:A.1=1
     ·have d4:decide (A.1=1)=true:=by simpa using h4
      rw [if_pos h4]
      simp -implicitDefEqProofs only [t1,t2,t3,t4,t5,t6,t7,t8,t9,t10,t11,t12,t13,t14,t15,t16,t17,t18,t19,t20,hdels,d4,lookH,hj,hjk,go_sem,reduceCtorEq,rdA,rdM,rdL,rdT,rdE,rdN,↓gTT,↓gFF,↓gTF,↓gFT]
      replace hn:nx+m+1+1+1+1+1≤nx':=hn
      have u1:(nx'=j)=False:=by simp<;>omega
      have u2:(j=nx')=False:=by simp<;>omega
      have u3:(nx'=kk)=False:=by simp<;>omega
      have u4:(kk=nx')=False:=by simp<;>omega
      have u5:(nx'=nx+m+1+1)=False:=by simp<;>omega
      have u6:(nx+m+1+1=nx')=False:=by simp<;>omega
      have u7:(nx'=nx+m+1+1+1+1)=False:=by simp<;>omega
      have u8:(nx+m+1+1+1+1=nx')=False:=by simp<;>omega
      have u9:(nx'=nx+m+2)=False:=by simp<;>omega
      have u10:(nx+m+2=nx')=False:=by simp<;>omega
      have u11:(nx'=nx+m+4)=False:=by simp<;>omega
      have u12:(nx+m+4=nx')=False:=by simp<;>omega
      have u13:(nx'+1=j)=False:=by simp<;>omega
      have u14:(j=nx'+1)=False:=by simp<;>omega
      have u15:(nx'+1=kk)=False:=by simp<;>omega
      have u16:(kk=nx'+1)=False:=by simp<;>omega
      have u17:(nx'+1=nx+m+1+1)=False:=by simp<;>omega
      have u18:(nx+m+1+1=nx'+1)=False:=by simp<;>omega
      have u19:(nx'+1=nx+m+1+1+1+1)=False:=by simp<;>omega
      have u20:(nx+m+1+1+1+1=nx'+1)=False:=by simp<;>omega
      have u21:(nx'+1=nx+m+2)=False:=by simp<;>omega
      have u22:(nx+m+2=nx'+1)=False:=by simp<;>omega
      have u23:(nx'+1=nx+m+4)=False:=by simp<;>omega
      have u24:(nx+m+4=nx'+1)=False:=by simp<;>omega
      have u90:(nx'=nx'+1)=False:=by simp<;>omega
      have u91:(nx'+1=nx')=False:=by simp<;>omega
      have u92:(nx+m+1+1+1+1=nx+m+1+1)=False:=by simp<;>omega
      have u93:(nx+m+1+1=nx+m+1+1+1+1)=False:=by simp<;>omega
      have u94:(nx+m=nx+m+2)=False:=by simp<;>omega
      have u95:(nx+m+2=nx+m)=False:=by simp<;>omega
      refine wCall_heap (hin:=[]) (CloneC_own l (by omega) hne _) (fun k o h=>by cases h) ?_ ?_
      ·rintro r nx'' h' ⟨rfl,rfl,rfl⟩
       refine ⟨by simp [closed,keysV,keysL,hkeys],?_⟩
       intro k o ho
       simp only [hget] at ho
       split at ho
       ·cases ho;simp [closed,okeys]
       ·cases ho
      ·rintro r nx'' h' ⟨rfl,rfl,rfl⟩ _
       simp -implicitDefEqProofs only [hkeys,hdels,t1,t2,t3,t4,t5,t6,t7,t8,t9,t10,t11,t12,t13,t14,t15,t16,t17,t18,t19,t20,u1,u2,u3,u4,u5,u6,u7,u8,u9,u10,u11,u12,u13,u14,u15,u16,u17,u18,u19,u20,u21,u22,u23,u24,u90,u91,u92,u93,u94,u95,encC_len,hj,hjk,go_sem,reduceCtorEq,rdA,rdM,rdL,rdT,rdE,rdN,↓gTT,↓gFF,↓gTF,↓gFT]
       refine ⟨by omega,by omega,?_⟩
       refine wCall_frz2 (v':=.fz (l.length+1) none 3 (encC l++[.int .i64 (M+1),.fz 1 none 2 [.int .i64 v,.int .i64 (-1)],.bool false])) (by simp -implicitDefEqProofs only [t1,t2,t3,t4,t5,t6,t7,t8,t9,t10,t11,t12,t13,t14,t15,t16,t17,t18,t19,t20,u1,u2,u3,u4,u5,u6,u7,u8,u9,u10,u11,u12,u13,u14,u15,u16,u17,u18,u19,u20,u21,u22,u23,u24,u90,u91,u92,u93,u94,u95,encC_len1,go_sem,reduceCtorEq,rdA,rdM,rdL,rdT,rdE,rdN,↓gTT,↓gFF,↓gTF,↓gFT]) ?_
       refine wCall_look' hj (hab _ (by show nx≤nx'+1+1;omega) h4) rfl ?_ ?_
       ·intro k o ho
        rcases lookH_get ho with ⟨rfl,rfl⟩|⟨rfl,rfl⟩<;>first|rfl|simp -implicitDefEqProofs only [t1,t2,t3,t4,t5,t6,t7,t8,t9,t10,t11,t12,t13,t14,t15,t16,t17,t18,t19,t20,u1,u2,u3,u4,u5,u6,u7,u8,u9,u10,u11,u12,u13,u14,u15,u16,u17,u18,u19,u20,u21,u22,u23,u24,u90,u91,u92,u93,u94,u95,hdels,hj,hjk,go_sem,reduceCtorEq,rdA,rdM,rdL,rdT,rdE,rdN,↓gTT,↓gFF,↓gTF,↓gFT]
       ·intro nx2 hn2
        simp -implicitDefEqProofs only [t1,t2,t3,t4,t5,t6,t7,t8,t9,t10,t11,t12,t13,t14,t15,t16,t17,t18,t19,t20,u1,u2,u3,u4,u5,u6,u7,u8,u9,u10,u11,u12,u13,u14,u15,u16,u17,u18,u19,u20,u21,u22,u23,u24,u90,u91,u92,u93,u94,u95,hdels,lookH,eRetK_r,hj,hjk,go_sem,reduceCtorEq,rdA,rdM,rdL,rdT,rdE,rdN,↓gTT,↓gFF,↓gTF,↓gFT]
        exact ⟨_,subH_two _,rfl⟩
     ·have d4:decide (A.1=1)=false:=by simpa using h4
      rw [if_neg h4]
      simp -implicitDefEqProofs only [t1,t2,t3,t4,t5,t6,t7,t8,t9,t10,t11,t12,t13,t14,t15,t16,t17,t18,t19,t20,hdels,d4,lookH,eRetK_r,hj,hjk,go_sem,reduceCtorEq,rdA,rdM,rdL,rdT,rdE,rdN,↓gTT,↓gFF,↓gTF,↓gFT]
      exact ⟨_,subH_two _,rfl⟩
theorem mem_kOf:∀ {l:List Mono} {p:Option Int},okFrom p l=true→∀ m∈l,kOf l m.v=m.k
 | [],_,_,m,hm=>by cases hm
 | x::l,p,h,m,hm=>by
  obtain ⟨h1,h2,h3⟩:=okFrom_cons.1 h
  rcases List.mem_cons.1 hm with rfl|hm
  ·rw [kOf,if_pos rfl]
  ·have:=okFrom_lt h3 m hm
   rw [kOf,if_neg (by omega)];exact mem_kOf h3 m hm
theorem kOf_mem:∀ {l:List Mono} {w:Int},kOf l w≠0→∃ m∈l,m.v=w
 | [],w,h=>absurd rfl h
 | x::l,w,h=>by
  by_cases hx:x.v=w
  ·exact ⟨x,List.mem_cons_self,hx⟩
  ·rw [kOf,if_neg hx] at h
   obtain ⟨m,hm,e⟩:=kOf_mem h
   exact ⟨m,List.mem_cons_of_mem _ hm,e⟩
theorem told_of {c:Int} {l:List Mono} {vals:List Int} (h:okT c l=true) (hr:∀ w,kOf l w≠0→w<vals.length) (ho:vals.any outB=false):toldE c l vals=0:=by
 unfold toldE
 rw [if_neg (by simp [h]),if_neg,if_neg (by simp [ho])]
 rw [List.any_eq_true]
 rintro ⟨m,hm,h1⟩
 have hf:=(okT_spec.1 h).2.2.2
 have:=hr m.v (by rw [mem_kOf hf m hm];exact (okM_spec.1 (okFrom_ok hf m hm)).2.2.1)
 simp at h1;omega
theorem told_range {c:Int} {l:List Mono} {vals:List Int} (h:toldE c l vals=0) {w:Int} (hw:kOf l w≠0):0≤w∧w<vals.length:=by
 obtain ⟨m,hm,rfl⟩:=kOf_mem hw
 exact (told_parts h).2.1 m hm
theorem valOf_set {vals:List Int} {v w T:Int} (hv:0≤v∧v<vals.length) (hw:0≤w):valOf (vals.set v.toNat T) w=if w=v then T else valOf vals w:=by
 unfold valOf
 by_cases h:w=v
 ·subst h;rw [if_pos rfl,List.getElem?_set_self (by omega)];rfl
 ·rw [if_neg h,List.getElem?_set_ne (by omega)]
theorem any_set {vals:List Int} {v T:Int} (h:vals.any outB=false) (hT:outB T=false):(vals.set v.toNat T).any outB=false:=by
 rw [List.any_eq_false] at h ⊢
 intro a ha
 rcases List.mem_or_eq_of_mem_set ha with h1|rfl
 ·exact h a h1
 ·simp [hT]
theorem val_set {c:Int} {f:Int→Int} {vals:List Int} {v T:Int} (hv:0≤v∧v<vals.length) (hf:f v=0):valF c f (vals.set v.toNat T)=valF c f vals:=by
 unfold valF
 congr 1
 refine sumW_congr 40 fun w h0 _=>?_
 rw [valOf_set hv h0]
 by_cases h:w=v
 ·rw [if_pos h,h,hf];omega
 ·rw [if_neg h]
theorem sumW_split (f:Int→Int) (vals:List Int) {v:Int} (hv:0≤v∧v<40):sumW (fun w=>f w*valOf vals w) 40=sumW (fun w=>(if w=v then 0 else f w)*valOf vals w) 40+f v*valOf vals v:=by
 have e:sumW (fun w=>f w*valOf vals w) 40=sumW (fun w=>(if w=v then 0 else f w)*valOf vals w+(if w=v then f v*valOf vals v else 0)) 40:=by
  refine sumW_congr 40 fun w h0 _=>?_
  by_cases h:w=v
  ·subst h;simp
  ·simp [h]
 rw [e,sumW_add,sumW_one _ _ _ hv.1,if_pos (by omega)]
theorem val_put {c d v:Int} {f g h:Int→Int} {vals:List Int} (hv:0≤v∧v<40) (hh:∀ w,h w=(if w=v then 0 else f w)+g w*f v) (hy:valOf vals v=valF d g vals):valF (c+d*f v) h vals=valF c f vals:=by
 unfold valF at hy ⊢
 have e:sumW (fun w=>h w*valOf vals w) 40=sumW (fun w=>(if w=v then 0 else f w)*valOf vals w) 40+sumW (fun w=>g w*valOf vals w) 40*f v:=by
  rw [←sumW_mul,←sumW_add]
  refine sumW_congr 40 fun w _ _=>?_
  rw [hh,Int.add_mul]
  congr 1
  rw [Int.mul_assoc,Int.mul_comm (f v),←Int.mul_assoc]
 rw [e,sumW_split f vals hv,hy,Int.mul_add,Int.mul_comm d,Int.mul_comm (sumW (fun w=>g w*valOf vals w) 40)]
 omega
section
variable {x:Cons} {v:Int} {vals:List Int}
structure SwapAt (x:Cons) (v:Int) (vals:List Int):Prop where
 ok:okC x=true
 v0:0≤v
 vn:v<vals.length
 v40:v<40
 eq:x.eq=true
 one:oneB (kOf x.t.l v)=true
 told:toldE x.t.c x.t.l vals=0
 low:-2147483648≤(equalR x v).1+linV vals (equalR x v).2.1
 high:(equalR x v).1+linV vals (equalR x v).2.1≤2147483647
def swapT (x:Cons) (v:Int) (vals:List Int):Int:=(equalR x v).1+linV vals (equalR x v).2.1
theorem SwapAt.toldT (A:SwapAt x v vals):toldE (equalR x v).1 (equalR x v).2.1 vals=0:=by
 obtain ⟨e1,e2,e3,e4⟩:=equalR_spec A.ok ⟨A.v0,A.v40⟩ A.eq A.one
 refine told_of e2 (fun w hw=>?_) (told_parts A.told).2.2.1
 rw [e4] at hw
 have:kOf x.t.l w≠0:=by
  intro h;rw [h] at hw;simp at hw
 exact (told_range A.told this).2
theorem SwapAt.any (A:SwapAt x v vals):(vals.set v.toNat (swapT x v vals)).any outB=false:=by
 refine any_set (told_parts A.told).2.2.1 ?_
 have h1:=A.low;have h2:=A.high
 unfold swapT outB
 simp;omega
theorem SwapAt.at (A:SwapAt x v vals):valOf (vals.set v.toNat (swapT x v vals)) v=valF (equalR x v).1 (kOf (equalR x v).2.1) (vals.set v.toNat (swapT x v vals)):=by
 obtain ⟨e1,e2,e3,e4⟩:=equalR_spec A.ok ⟨A.v0,A.v40⟩ A.eq A.one
 rw [valOf_set ⟨A.v0,A.vn⟩ A.v0,if_pos rfl,val_set ⟨A.v0,A.vn⟩ (by rw [e4,if_pos rfl,Int.zero_mul])]
 unfold swapT
 exact val_eq e2 vals
theorem SwapAt.toldY (A:SwapAt x v vals) {c:Int} {l:List Mono} (h:toldE c l vals=0):toldE c l (vals.set v.toNat (swapT x v vals))=0:=
 told_of (told_parts h).1 (fun w hw=>by rw [List.length_set];exact (told_range h hw).2) A.any
theorem SwapAt.holds (A:SwapAt x v vals):holdsB x (vals.set v.toNat (swapT x v vals))=true:=by
 obtain ⟨e1,e2,e3,e4⟩:=equalR_spec A.ok ⟨A.v0,A.v40⟩ A.eq A.one
 have hat:=A.at
 generalize hY:vals.set v.toNat (swapT x v vals)=Y at hat ⊢
 have hz:x.t.c+linV Y x.t.l=0:=by
  rw [val_eq A.ok]
  unfold valF at hat ⊢
  rw [sumW_split _ Y ⟨A.v0,A.v40⟩,hat,e3]
  have:sumW (fun w=>kOf (equalR x v).2.1 w*valOf Y w) 40=sumW (fun w=>(if w=v then 0 else kOf x.t.l w)*valOf Y w) 40*(-(kOf x.t.l v)):=by
   rw [←sumW_mul]
   refine sumW_congr 40 fun w _ _=>?_
   rw [e4,Int.mul_assoc,Int.mul_comm (-(kOf x.t.l v)),←Int.mul_assoc]
  rw [this]
  have hk:kOf x.t.l v=1∨kOf x.t.l v=-1:=by simpa [oneB] using A.one
  generalize sumW (fun w=>(if w=v then 0 else kOf x.t.l w)*valOf Y w) 40=S
  rcases hk with hk|hk<;>rw [hk]<;>omega
 unfold holdsB
 rw [hz];rfl
theorem SwapAt.swap (A:SwapAt x v vals) {z:Cons} (hz:toldE z.t.c z.t.l vals=0) (he:(swapX v (equalR x v).1 (equalR x v).2.1 z).2.2≠12):
 (swapX v (equalR x v).1 (equalR x v).2.1 z).2.2=0∧kOf (swapC v (equalR x v).1 (equalR x v).2.1 z).t.l v=0∧
 holdB (vals.set v.toNat (swapT x v vals)) (swapC v (equalR x v).1 (equalR x v).2.1 z)=holdB (vals.set v.toNat (swapT x v vals)) z∧
 holdB vals (swapC v (equalR x v).1 (equalR x v).2.1 z)=holdB (vals.set v.toNat (swapT x v vals)) z:=by
 obtain ⟨e1,e2,e3,e4⟩:=equalR_spec A.ok ⟨A.v0,A.v40⟩ A.eq A.one
 have hzo:=(told_parts hz).1
 unfold swapX at he
 rcases putR_spec (v:=v) hzo e2 with ⟨p1,p2,p3,p4⟩|p1
 ·have hk0:kOf (putR z.t.c z.t.l v (equalR x v).1 (equalR x v).2.1).2.1 v=0:=by
   rw [p4,if_pos rfl,e4,if_pos rfl];simp
  have ht:toldE (putR z.t.c z.t.l v (equalR x v).1 (equalR x v).2.1).1 (putR z.t.c z.t.l v (equalR x v).1 (equalR x v).2.1).2.1 vals=0:=by
   refine told_of p2 (fun w hw=>?_) (told_parts hz).2.2.1
   rw [p4] at hw
   by_cases h1:kOf z.t.l w=0
   ·have:kOf (equalR x v).2.1 w≠0:=by
     intro h;rw [h,h1] at hw;simp at hw
    exact (told_range A.toldT this).2
   ·exact (told_range hz h1).2
  have hval:(putR z.t.c z.t.l v (equalR x v).1 (equalR x v).2.1).1+linV (vals.set v.toNat (swapT x v vals)) (putR z.t.c z.t.l v (equalR x v).1 (equalR x v).2.1).2.1=z.t.c+linV (vals.set v.toNat (swapT x v vals)) z.t.l:=by
   rw [val_eq p2,val_eq hzo,p3]
   exact val_put ⟨A.v0,A.v40⟩ p4 A.at
  have hval2:(putR z.t.c z.t.l v (equalR x v).1 (equalR x v).2.1).1+linV vals (putR z.t.c z.t.l v (equalR x v).1 (equalR x v).2.1).2.1=z.t.c+linV (vals.set v.toNat (swapT x v vals)) z.t.l:=by
   rw [←hval,val_eq p2,val_eq p2,val_set ⟨A.v0,A.vn⟩ hk0]
  have hb1:holdB (vals.set v.toNat (swapT x v vals)) (swapC v (equalR x v).1 (equalR x v).2.1 z)=holdB (vals.set v.toNat (swapT x v vals)) z:=by
   unfold holdB holdsB swapC swapX
   simp only [A.toldY hz,A.toldY ht,hval]
  refine ⟨p1,hk0,hb1,?_⟩
  unfold holdB holdsB swapC swapX
  simp only [A.toldY hz,ht,hval2]
 ·exact absurd p1 he
end
theorem scale_err {c:Int} {l:List Mono} {k:Int} (h:okT c l=true) (he:(scaleR c l k).2.2≠0):scaleR c l k=(0,[],12):=by
 unfold scaleR at he ⊢
 rw [if_neg (by simp [h])] at he ⊢
 split at he
 ·exact absurd rfl he
 ·rename_i h1;rw [if_neg h1]
theorem first_zero:∀ {l:List Int},firstErr l=0↔∀ e∈l,e=0
 | []=>by simp [firstErr]
 | e::l=>by
  rw [firstErr]
  by_cases h:e=0
  ·rw [if_neg (by omega),first_zero];simp [h]
  ·rw [if_pos h];simp [h]
theorem drop_zero {l:List Cons} {v:Int}:dropErr l v=0↔∀ a∈lowsOf l v,∀ b∈highsOf l v,(pairR a b v).2.2=0:=by
 unfold dropErr
 rw [first_zero]
 constructor
 ·intro h a ha b hb
  exact h _ (List.mem_flatMap.2 ⟨a,ha,List.mem_map.2 ⟨b,hb,rfl⟩⟩)
 ·intro h e he
  obtain ⟨a,ha,he⟩:=List.mem_flatMap.1 he
  obtain ⟨b,hb,rfl⟩:=List.mem_map.1 he
  exact h a ha b hb
def goodX (n:Nat) (x:Cons):Prop:=okC x=true∧∀ w,kOf x.t.l w≠0→w<n
def good (n:Nat) (l:List Cons):Prop:=l.length≤100000∧∀ x∈l,goodX n x
theorem good.small {n:Nat} {l:List Cons} (h:good n l):smallC l:=⟨h.1,fun x hx=>by have:=(okC_parts (h.2 x hx).1).2.1;omega⟩
theorem good.ok {n:Nat} {l:List Cons} (h:good n l):l.all okC=true:=List.all_eq_true.2 fun x hx=>(h.2 x hx).1
theorem gcd_dvd:∀ {l:List Mono} {m:Mono},m∈l→(gcdL l:Int) ∣ m.k:=by
 have key:∀ (l:List Mono) (g:Nat),(∀ m∈l,((l.foldl (fun g m=>Int.gcd g m.k) g:Nat):Int) ∣ m.k)∧((l.foldl (fun g m=>Int.gcd g m.k) g:Nat):Int) ∣ g:=by
  intro l
  induction l with
  | nil=>intro g;exact ⟨by simp,Int.dvd_refl _⟩
  | cons a l ih=>
   intro g
   rw [List.foldl_cons]
   obtain ⟨h1,h2⟩:=ih (Int.gcd g a.k)
   refine ⟨fun m hm=>?_,Int.dvd_trans h2 (Int.gcd_dvd_left ..)⟩
   rcases List.mem_cons.1 hm with rfl|hm
   ·exact Int.dvd_trans h2 (Int.gcd_dvd_right ..)
   ·exact h1 m hm
 intro l m hm
 exact (key l 0).1 m hm
theorem sgC_cases (x:Cons):sgC x=1∨sgC x=-1:=by unfold sgC;split<;>simp
theorem tdiv_exact {a g s:Int} (hg:0<g) (hd:g ∣ a) (hs:s=1∨s=-1):(s*a).tdiv g*g=s*a∧(a≠0→(s*a).tdiv g≠0):=by
 have hd2:g ∣ s*a:=Int.dvd_trans hd (Int.dvd_mul_left ..)
 have h1:=Int.tdiv_mul_cancel hd2
 refine ⟨h1,fun h0 h=>?_⟩
 rw [h,Int.zero_mul] at h1
 rcases hs with rfl|rfl<;>omega
theorem shM_ok {l:List Mono} {g s:Int} (hg:0<g) (hs:s=1∨s=-1):∀ {l:List Mono} {p:Option Int},okFrom p l=true→(∀ m∈l,g ∣ m.k)→okFrom p (l.map (shM g s))=true
 | [],_,_,_=>rfl
 | m::l,p,h,hd=>by
  obtain ⟨h1,h2,h3⟩:=okFrom_cons.1 h
  have hm:=okM_spec.1 h1
  have hx:=tdiv_exact hg (hd m List.mem_cons_self) hs
  have hb:((s*m.k).tdiv g).natAbs≤(s*m.k).natAbs:=by
   rw [Int.natAbs_tdiv];exact Nat.div_le_self _ _
  have hsa:(s*m.k).natAbs=m.k.natAbs:=by rcases hs with rfl|rfl<;>simp
  refine okFrom_cons.2 ⟨okM_spec.2 ⟨hm.1,hm.2.1,hx.2 hm.2.2.1,?_,?_⟩,h2,shM_ok (l:=[]) hg hs h3 fun y hy=>hd y (List.mem_cons_of_mem _ hy)⟩
  ·simp only [shM];omega
  ·simp only [shM];omega
theorem kOf_sh {g s:Int} (w:Int):∀ l:List Mono,kOf (l.map (shM g s)) w=(s*kOf l w).tdiv g
 | []=>by simp [kOf]
 | m::l=>by
  rw [List.map_cons,kOf,kOf]
  by_cases h:m.v=w
  ·rw [if_pos h,if_pos (by simpa [shM] using h)];rfl
  ·rw [if_neg h,if_neg (by simpa [shM] using h),kOf_sh w l]
theorem one_good {n:Nat} {x:Cons} (h:goodX n x) (hne:x.t.l≠[]):goodX n (oneCx x):=by
 obtain ⟨ho,hv⟩:=h
 obtain ⟨hc,x40,xok⟩:=okC_parts ho
 have hok:okT x.t.c x.t.l=true:=ho
 have gp:(0:Int)<gcdL x.t.l:=by have:=gcdL_pos hne xok;omega
 have hub:=ediv_bound (a:=-x.t.c) (b:=(gcdL x.t.l:Int)) (B:=1099511627776) gp (by omega) (by omega)
 refine ⟨okT_spec.2 ⟨?_,?_,by rw [oneC_len];exact x40,shM_ok (l:=[]) gp (sgC_cases x) (okT_spec.1 hok).2.2.2 fun m hm=>gcd_dvd hm⟩,fun w hw=>hv w fun h0=>hw ?_⟩
 ·simp only [oneCx];rcases sgC_cases x with e|e<;>rw [e]<;>omega
 ·simp only [oneCx];rcases sgC_cases x with e|e<;>rw [e]<;>omega
 ·simp only [oneCx];rw [kOf_sh,h0];simp
theorem oneW_ne {x:Cons} (h:oneW x=0):x.t.l≠[]:=by
 intro e
 unfold oneW at h
 rw [e] at h
 simp only [List.isEmpty_nil,if_true] at h
 split at h<;>omega
theorem allS_mem:∀ {l:List Cons} {y:Cons},y∈allS l→∃ x∈l,oneW x=0∧y=oneCx x:=by
 have key:∀ (l S:List Cons) (y:Cons),y∈l.foldl addSx S→y∈S∨∃ x∈l,oneW x=0∧y=oneCx x:=by
  intro l
  induction l with
  | nil=>intro S y h;exact .inl h
  | cons x l ih=>
   intro S y h
   rw [List.foldl_cons] at h
   rcases ih _ _ h with h|⟨z,hz,h1,h2⟩
   ·unfold addSx at h
    split at h
    ·rename_i hw
     split at h
     ·exact .inl h
     ·rcases List.mem_append.1 h with h|h
      ·exact .inl h
      ·exact .inr ⟨x,List.mem_cons_self,hw,List.mem_singleton.1 h⟩
    ·exact .inl h
   ·exact .inr ⟨z,List.mem_cons_of_mem _ hz,h1,h2⟩
 intro l y h
 rcases key l [] y h with h|h
 ·cases h
 ·exact h
theorem all_good {n:Nat} {l:List Cons} (h:good n l):good n (allS l):=by
 refine ⟨Nat.le_trans (allS_len l) h.1,fun y hy=>?_⟩
 obtain ⟨x,hx,hw,rfl⟩:=allS_mem hy
 exact one_good (h.2 x hx) (oneW_ne hw)
theorem allS_ne {l:List Cons} {y:Cons} (hy:y∈allS l):y.t.l≠[]:=by
 obtain ⟨x,hx,hw,rfl⟩:=allS_mem hy
 intro e
 have:=oneC_len x
 rw [e] at this
 exact oneW_ne hw (List.eq_nil_of_length_eq_zero this.symm)
theorem uneq_good {n:Nat} {l:List Cons} (h:good n l) (hl:l.length≤50000):good n (uneq l):=by
 refine ⟨by have:=uneq_len l;omega,fun y hy=>?_⟩
 obtain ⟨x,hx,hy⟩:=List.mem_flatMap.1 hy
 obtain ⟨ho,hv⟩:=h.2 x hx
 have hok:okT x.t.c x.t.l=true:=ho
 unfold uneqX at hy
 split at hy
 ·rcases List.mem_cons.1 hy with rfl|hy
  ·exact ⟨ho,hv⟩
  ·rw [List.mem_singleton.1 hy]
   rcases scaleR_spec (k:=-1) hok with ⟨s1,s2,s3,s4⟩|s1
   ·exact ⟨s2,fun w hw=>hv w fun h0=>hw (by rw [s4,h0];rfl)⟩
   ·have:scaleR x.t.c x.t.l (-1)=(0,[],12):=scale_err hok (by omega)
    rw [this];exact ⟨rfl,fun w hw=>absurd rfl hw⟩
 ·rw [List.mem_singleton.1 hy];exact ⟨ho,hv⟩
theorem swap_good {n:Nat} {l:List Cons} {v c:Int} {b:List Mono} (h:good n l) (hb:okT c b=true) (hbv:∀ w,kOf b w≠0→w<n) (hE:swapE l v c b=0):good n (swapL l v c b):=by
 refine ⟨by rw [swapL,List.length_map];exact h.1,fun y hy=>?_⟩
 obtain ⟨x,hx,rfl⟩:=List.mem_map.1 hy
 obtain ⟨ho,hv⟩:=h.2 x hx
 have hz:(swapX v c b x).2.2=0:=by
  unfold swapE at hE
  split at hE
  ·omega
  ·split at hE
   ·omega
   ·rename_i h1 h2
    have h3:l.any (fun x=>decide ((swapX v c b x).2.2≠0))=false:=by
     cases hq:l.any (fun x=>decide ((swapX v c b x).2.2≠0)) with
     | false=>rfl
     | true=>exact absurd hq h2
    have:=List.any_eq_false.1 h3 x hx
    simpa using this
 rcases putR_spec (v:=v) (a:=x.t.l) (c:=x.t.c) ho hb with ⟨r1,r2,r3,r4⟩|r1
 ·refine ⟨r2,fun w hw=>?_⟩
  by_cases h1:kOf x.t.l w=0
  ·apply hbv w
   intro h2
   apply hw
   have:=r4 w
   simp only [swapC,swapX]
   rw [this,h2]
   split
   ·simp
   ·rw [h1];simp
  ·exact hv w h1
 ·have:(swapX v c b x).2.2=12:=r1
  omega
theorem drop_good {n:Nat} {l:List Cons} {v:Int} (h:good n l) (hl:l.length≤240) (hE:dropErr l v=0):good n (dropList l v):=by
 refine ⟨?_,fun y hy=>?_⟩
 ·rw [dropList_len]
  have h1:(othersOf l v).length≤240:=Nat.le_trans (List.length_filter_le _ _) hl
  have h2:(lowsOf l v).length*(highsOf l v).length≤240*240:=Nat.mul_le_mul (Nat.le_trans (List.length_filter_le _ _) hl) (Nat.le_trans (List.length_filter_le _ _) hl)
  omega
 ·rcases List.mem_append.1 hy with hy|hy
  ·exact h.2 y (List.mem_filter.1 hy).1
  ·obtain ⟨a,ha,hy⟩:=List.mem_flatMap.1 hy
   obtain ⟨b,hb,rfl⟩:=List.mem_map.1 hy
   have h0:=drop_zero.1 hE a ha b hb
   obtain ⟨ao,av⟩:=h.2 a (mem_lows ha)
   obtain ⟨bo,bv⟩:=h.2 b (mem_highs hb)
   rcases scaleR_spec (k:=-(kOf a.t.l v)) (c:=b.t.c) (l:=b.t.l) bo with ⟨s1,s2,s3,s4⟩|s1
   ·rcases scaleR_spec (k:=kOf b.t.l v) (c:=a.t.c) (l:=a.t.l) ao with ⟨q1,q2,q3,q4⟩|q1
    ·have hp:pairR a b v=addR (scaleR b.t.c b.t.l (-(kOf a.t.l v))).1 (scaleR b.t.c b.t.l (-(kOf a.t.l v))).2.1 (scaleR a.t.c a.t.l (kOf b.t.l v)).1 (scaleR a.t.c a.t.l (kOf b.t.l v)).2.1:=by
      unfold pairR;rw [if_neg (by omega)]
     rcases addR_spec s2 q2 with ⟨r1,r2,r3,r4⟩|r1
     ·refine ⟨by show okT _ _=true;simp only [mkC];rw [hp];exact r2,fun w hw=>?_⟩
      simp only [mkC] at hw
      rw [hp,r4,s4,q4] at hw
      by_cases h1:kOf b.t.l w=0
      ·apply av w;intro h2;apply hw;rw [h1,h2];simp
      ·exact bv w h1
     ·rw [hp] at h0;omega
    ·have:pairR a b v=(0,[],12):=by unfold pairR;rw [if_pos (.inr (by omega))]
     rw [this] at h0;cases h0
   ·have:pairR a b v=(0,[],12):=by unfold pairR;rw [if_pos (.inl (by omega))]
    rw [this] at h0;cases h0
theorem unitX_spec {x:Cons} {v:Int} (h:unitX x=some v):x.eq=true∧∃ m∈x.t.l,m.v=v∧oneB m.k=true:=by
 unfold unitX at h
 split at h
 ·rename_i he
  refine ⟨he,?_⟩
  have key:∀ l:List Mono,unitM l=some v→∃ m∈l,m.v=v∧oneB m.k=true:=by
   intro l
   induction l with
   | nil=>intro h;cases h
   | cons m l ih=>
    intro h
    unfold unitM at h
    split at h
    ·cases h;exact ⟨m,List.mem_cons_self,rfl,by assumption⟩
    ·obtain ⟨z,h1,h2⟩:=ih h
     exact ⟨z,List.mem_cons_of_mem _ h1,h2⟩
  exact key _ h
 ·cases h
theorem eraseC (l:List Cons) (q:Nat):(encC l).take (q*3)++(encC l).drop ((q+1)*3)=encC (l.eraseIdx q):=by
 rw [encC_take,encC_drop,←encC_app,List.eraseIdx_eq_take_drop_succ]
def SemAt (j kk n:Nat) (rec:Nat→List Int→List Cons→Ans) (left:Nat):Prop:=
 ∀ (vals:List Int) (l:List Cons) (nx:Nat),vals.length=n→good n l→j<nx→kk<nx→
  LookSem p17 [.fz l.length none 3 (encC l)] j kk nx left vals (rec left vals l)∧(rec left vals l).2.2.length=n∧(rec left vals l).2.1≤left
theorem swapD_ok {j kk n left nx:Nat} {rec:Nat→List Int→List Cons→Ans} {vals:List Int} {l:List Cons} {v c:Int} {b:List Mono} (hrec:SemAt j kk n rec left) (hj:(j=kk)=False) (hjn:j<nx) (hkn:kk<nx) (hn:vals.length=n) (hn1:n≤1000000)
 (hg:good n l) (hb:okT c b=true) (hbv:∀ w,kOf b w≠0→w<n) (hv:0≤v∧v<n):
 LookSem p29 [.fz l.length none 3 (encC l),.int .i64 v,.agg [.int .i64 c,.fz b.length none 2 (encM b)]] j kk nx left vals (swapD rec left vals l v c b)∧(swapD rec left vals l v c b).2.2.length=n∧(swapD rec left vals l v c b).2.1≤left:=by
 refine ⟨swap_sem hj hjn hkn hg.small (by have:=(okT_spec.1 hb).2.2.1;omega) (by omega) (by omega) fun hE=>?_,?_⟩
 ·obtain ⟨h1,h2,h3⟩:=hrec vals (swapL l v c b) nx hn (swap_good hg hb hbv hE) hjn hkn
  exact ⟨h1,by omega⟩
 ·unfold swapD
  split
  ·exact ⟨hn,Nat.le_refl _⟩
  ·rename_i hE
   obtain ⟨-,h2,h3⟩:=hrec vals (swapL l v c b) nx hn (swap_good hg hb hbv (by omega)) hjn hkn
   split
   ·exact ⟨by rw [List.length_set];exact h2,h3⟩
   ·exact ⟨h2,h3⟩
theorem one_v (v k:Int) (w:Int):kOf [⟨v,k⟩] w≠0→w=v:=by
 intro h;rw [kOf] at h;split at h
 ·rename_i h1;exact h1.symm
 ·exact absurd rfl h
theorem below_good {n:Nat} {l:List Cons} {v m:Int} (hg:good n l) (hl:l.length≤240) (hv:0≤v∧v<n) (hv40:v<40) (hm:-2147483648≤m∧m≤2147483647):good n (l++[belowC v m])∧good n (l++[aboveC v m]):=by
 refine ⟨⟨by simp;omega,fun x hx=>?_⟩,⟨by simp;omega,fun x hx=>?_⟩⟩
 ·rcases List.mem_append.1 hx with hx|hx
  ·exact hg.2 x hx
  ·rw [List.mem_singleton.1 hx]
   refine ⟨okT_spec.2 ⟨by simp [belowC];omega,by simp [belowC];omega,by simp [belowC],okFrom_cons.2 ⟨okM_spec.2 ⟨hv.1,hv40,by simp,by simp,by simp⟩,fun q hq=>(by cases hq),rfl⟩⟩,fun w hw=>by have:=one_v v 1 w hw;omega⟩
 ·rcases List.mem_append.1 hx with hx|hx
  ·exact hg.2 x hx
  ·rw [List.mem_singleton.1 hx]
   refine ⟨okT_spec.2 ⟨by simp [aboveC];omega,by simp [aboveC];omega,by simp [aboveC],okFrom_cons.2 ⟨okM_spec.2 ⟨hv.1,hv40,by simp,by simp,by simp⟩,fun q hq=>(by cases hq),rfl⟩⟩,fun w hw=>by have:=one_v v (-1) w hw;omega⟩
theorem half_b {lo hi:Int} (h:lo≤hi):lo≤halfR lo hi∧halfR lo hi≤hi:=by unfold halfR;omega
theorem splitD_ok {j kk n left nx:Nat} {rec:Nat→List Int→List Cons→Ans} {vals:List Int} {l:List Cons} {v:Int} (hrec:∀ left',left'<left→SemAt j kk n rec left') (hj:(j=kk)=False) (hjn:j<nx) (hkn:kk<nx) (hn:vals.length=n) (hn1:n≤1000000)
 (hg:good n l) (hl240:l.length≤240) (hne:l≠[]) (hv:0≤v∧v<n) (hv40:v<40) (hl:left≤1000000):
 LookSem p33 [.fz l.length none 3 (encC l),.int .i64 v] j kk nx left vals (splitD rec left vals l v)∧(splitD rec left vals l v).2.2.length=n∧(splitD rec left vals l v).2.1≤left:=by
 have b1:=span_lob (aloneL l v) v []
 have b2:=span_hib (aloneL l v) v []
 have hgo:∀ m:Int,spanLo (aloneL l v) v []≤m∧m≤spanHi (aloneL l v) v []→good n (l++[belowC v m])∧good n (l++[aboveC v m]):=fun m hm=>below_good hg hl240 hv hv40 (by omega)
 have hb0:okT (spanLo (aloneL l v) v []) []=true:=okT_spec.2 ⟨by omega,by omega,by simp,rfl⟩
 refine ⟨split_sem hj hjn hkn hg.small hl hne (fun nx' hx h1 he=>?_) (fun nx' hx h1 he=>?_) (fun nx' hx h1 he ha=>?_),?_⟩
 ·exact (swapD_ok (hrec (left-1) (by omega)) hj (by omega) (by omega) hn hn1 hg hb0 (fun w hw=>absurd rfl hw) hv).1
 ·exact (hrec (left-1) (by omega) vals _ nx' hn (hgo _ (half_b (by omega))).1 (by omega) (by omega)).1
 ·obtain ⟨-,q1,q2⟩:=hrec (left-1) (by omega) vals _ nx' hn (hgo _ (half_b (by omega))).1 (by omega) (by omega)
  exact (hrec _ (by omega) _ _ nx' q1 (hgo _ (half_b (by omega))).2 (by omega) (by omega)).1
 ·unfold splitD
  split
  ·exact ⟨hn,Nat.le_refl _⟩
  ·rename_i h0
   split
   ·exact ⟨hn,Nat.le_refl _⟩
   ·rename_i h1
    split
    ·rename_i he
     have:=(swapD_ok (hrec (left-1) (by omega)) hj hjn hkn hn hn1 hg hb0 (fun w hw=>absurd rfl hw) hv).2
     exact ⟨this.1,by omega⟩
    ·obtain ⟨-,q1,q2⟩:=hrec (left-1) (by omega) vals _ nx hn (hgo _ (half_b (by omega))).1 (by omega) (by omega)
     split
     ·obtain ⟨-,q3,q4⟩:=hrec (rec (left-1) vals (l++[belowC v (halfR (spanLo (aloneL l v) v []) (spanHi (aloneL l v) v []))])).2.1 (by omega) _ _ nx q1 (hgo _ (half_b (by omega))).2 hjn hkn
      exact ⟨q3,by omega⟩
     ·exact ⟨q1,by omega⟩
theorem compI_mem:∀ {l:List Int} {v:Int},v∈compI l→v∈l:=by
 have key:∀ (l acc:List Int) (v:Int),v∈l.foldl compF acc→v∈acc∨v∈l:=by
  intro l
  induction l with
  | nil=>intro acc v h;exact .inl h
  | cons x l ih=>
   intro acc v h
   rw [List.foldl_cons] at h
   rcases ih _ v h with h|h
   ·unfold compF at h
    split at h
    ·exact .inl h
    ·rcases List.mem_append.1 h with h|h
     ·exact .inl h
     ·rw [List.mem_singleton.1 h];exact .inr List.mem_cons_self
   ·exact .inr (List.mem_cons_of_mem _ h)
 intro l v h
 rcases key l [] v h with h|h
 ·cases h
 ·exact h
theorem insI_mem {x v:Int}:∀ {l:List Int},v∈insI x l→v=x∨v∈l
 | [],h=>by simp [insI] at h;exact .inl h
 | y::t,h=>by
  unfold insI at h
  cases hb:ilt y x with
  | true=>
   rw [hb] at h
   rcases List.mem_cons.1 h with rfl|h
   ·exact .inr List.mem_cons_self
   ·rcases insI_mem h with h|h
    ·exact .inl h
    ·exact .inr (List.mem_cons_of_mem _ h)
  | false=>
   rw [hb] at h
   rcases List.mem_cons.1 h with rfl|h
   ·exact .inl rfl
   ·exact .inr h
theorem sortI_mem {v:Int}:∀ {l:List Int},v∈sortI l→v∈l
 | [],h=>by cases h
 | x::l,h=>by
  rcases insI_mem h with rfl|h
  ·exact List.mem_cons_self
  ·exact List.mem_cons_of_mem _ (sortI_mem h)
theorem firstL_mem {l:List Cons} {v:Int} (h:v∈firstL l):∃ x∈l,∃ m∈x.t.l,m.v=v:=by
 have h1:=sortI_mem (compI_mem h)
 obtain ⟨x,hx,h2⟩:=List.mem_flatMap.1 h1
 obtain ⟨m,hm,rfl⟩:=List.mem_map.1 h2
 exact ⟨x,hx,m,hm,rfl⟩
theorem var_good {n:Nat} {l:List Cons} {v:Int} (hg:good n l) (h:v∈firstL l):0≤v∧v<n∧v<40:=by
 obtain ⟨x,hx,m,hm,rfl⟩:=firstL_mem h
 obtain ⟨ho,hv⟩:=hg.2 x hx
 have hok:okT x.t.c x.t.l=true:=ho
 have hmm:=okM_spec.1 (okFrom_ok (okT_spec.1 hok).2.2.2 m hm)
 exact ⟨hmm.1,hv m.v (by rw [mem_kOf (okT_spec.1 hok).2.2.2 m hm];exact hmm.2.2.1),hmm.2.1⟩
theorem leastV_mem {l:List Cons} (hne:varsOf l≠[]):leastV l∈firstL l:=by
 have hpos:0<(firstL l).length:=List.length_pos_iff.2 (compI_ne (sortI_ne hne))
 obtain ⟨a,ha⟩:=has hpos
 unfold leastV;rw [ha];exact List.mem_of_getElem? ha
theorem exactV_mem {l:List Cons} (h:¬ exactV l<0):exactV l∈firstL l∧exP l (exactV l)=true:=by
 unfold exactV at h ⊢
 by_cases hi:firstI l<0
 ·rw [if_pos hi] at h;omega
 ·rw [if_neg hi]
  obtain ⟨q,hq1,hq2,-,x,hx,hp⟩:=idxOf_some (exP l) (firstL l) 0 (by omega) (by show firstI l≠-1;omega)
  have:firstI l=q:=by unfold firstI;rw [hq1];omega
  rw [this,Int.toNat_natCast,hx]
  exact ⟨List.mem_of_getElem? hx,hp⟩
theorem exP_spec {l:List Cons} {v:Int} (h:exP l v=true):mayE l v=0∧exactB l v=true:=by
 unfold exP at h
 split at h
 ·exact ⟨by assumption,h⟩
 ·cases h
theorem dE50:decide ((5:Int)=0)=false:=rfl
set_option maxHeartbeats 1000000 in
theorem answer_sem {j kk n left nx:Nat} {rec:Nat→List Int→List Cons→Ans} {vals:List Int} {l:List Cons} (hrec:∀ left',left'<left→SemAt j kk n rec left') (hj:(j=kk)=False) (hjn:j<nx) (hkn:kk<nx) (hn:vals.length=n) (hn1:n≤1000000)
 (hg:good n l) (hl:left≤1000000):LookSem p17 [.fz l.length none 3 (encC l)] j kk nx left vals (stepD rec left vals l):=by
 refine FSem.sub (fsem_of_body (f:=p17) rfl rfl ?_)
 have hjk:(kk=j)=False:=by simp at hj ⊢;omega
 have hA:=All_ok l hg.small hg.ok
 unfold stepD
 by_cases hw:allW l=0
 case neg=>
  have dw:decide (allW l=0)=false:=by simpa using hw
  have e:allV l=.tup [.fz 0 none 3 [],.int .i64 (allW l),.int .i64 0]:=by unfold allV allL;rw [if_neg hw];rfl
  rw [e] at hA
  rw [if_pos hw]
  simp -implicitDefEqProofs only [go_sem,reduceCtorEq,rdA,rdM,rdL,rdT,rdE,rdN,↓gTT,↓gFF,↓gTF,↓gFT]
  refine wCall_pp rfl hA rfl ?_
  simp -implicitDefEqProofs only [s0eq,dw,Bool.not_true,Bool.not_false,lookH,eRetK_r,go_sem,reduceCtorEq,rdA,rdM,rdL,rdT,rdE,rdN,↓gTT,↓gFF,↓gTF,↓gFT]
  exact ⟨_,subH_refl _,rfl⟩
 have dw:decide (allW l=0)=true:=by simpa using hw
 have e:allV l=.tup [.fz (allS l).length none 3 (encC (allS l)),.int .i64 0,.int .i64 0]:=by unfold allV allL;rw [hw,if_pos rfl];rfl
 rw [e] at hA
 rw [if_neg (by omega)]
 have hg1:=all_good hg
 have hSne:allS l≠[]:=by
  intro e
  unfold allW at hw
  rw [e] at hw
  split at hw
  ·cases hw
  ·simp at hw
 have hmne:∀ y∈allS l,y.t.l≠[]:=fun y hy=>allS_ne hy
 generalize allS l=L at hA hg1 hSne hmne ⊢
 by_cases h240:240<L.length
 ·have d:decide ((240:Int)<(L.length:Int))=true:=by simp;omega
  rw [if_pos h240]
  simp -implicitDefEqProofs only [go_sem,reduceCtorEq,rdA,rdM,rdL,rdT,rdE,rdN,↓gTT,↓gFF,↓gTF,↓gFT]
  refine wCall_pp rfl hA rfl ?_
  simp -implicitDefEqProofs only [s0eq,d,Bool.not_true,lookH,eRetK_r,go_sem,reduceCtorEq,rdA,rdM,rdL,rdT,rdE,rdN,↓gTT,↓gFF,↓gTF,↓gFT]
  exact ⟨_,subH_refl _,rfl⟩
 have d:decide ((240:Int)<(L.length:Int))=false:=by simp;omega
 rw [if_neg h240]
 have hU:=Unit_ok L hg1.small
 have hr0:=rightB_zero hg1.ok
 rcases unitOf_cases L 0 with ⟨hu,_⟩|⟨q,x,u,hu,hx,hux,_⟩
 ·have hU':unitV L=.tup [.int .i64 0,.int .i64 0,.int .i64 5]:=by unfold unitV;rw [if_pos hr0];simp only [Int.natCast_zero] at hu;rw [hu]
  simp only [Int.natCast_zero] at hu
  rw [hU'] at hU
  rw [hu]
  simp -implicitDefEqProofs only [go_sem,reduceCtorEq,rdA,rdM,rdL,rdT,rdE,rdN,↓gTT,↓gFF,↓gTF,↓gFT]
  refine wCall_pp rfl hA rfl ?_
  simp -implicitDefEqProofs only [s0eq,d,Bool.not_true,go_sem,reduceCtorEq,rdA,rdM,rdL,rdT,rdE,rdN,↓gTT,↓gFF,↓gTF,↓gFT]
  refine wCall_pp rfl hU rfl ?_
  simp -implicitDefEqProofs only [dE50,go_sem,reduceCtorEq,rdA,rdM,rdL,rdT,rdE,rdN,↓gTT,↓gFF,↓gTF,↓gFT]
  have hg2:=uneq_good hg1 (by omega)
  have hUn:=unequal_ok L hg1.small
  have hv2:varsOf (uneq L)≠[]:=by
   obtain ⟨y,hy⟩:=List.exists_mem_of_ne_nil L hSne
   obtain ⟨m,hm⟩:=List.exists_mem_of_ne_nil y.t.l (hmne y hy)
   intro e
   have:m.v∈varsOf (uneq L):=by
    refine List.mem_flatMap.2 ⟨⟨y.t,false⟩,List.mem_flatMap.2 ⟨y,hy,?_⟩,List.mem_map.2 ⟨m,hm,rfl⟩⟩
    unfold uneqX;split<;>simp
   rw [e] at this;cases this
  have hne2:uneq L≠[]:=by intro e;rw [e] at hv2;exact hv2 rfl
  have heq2:∀ x∈uneq L,x.eq=false:=by
   intro x hx
   obtain ⟨y,hy,hx⟩:=List.mem_flatMap.1 hx
   unfold uneqX at hx
   split at hx
   ·rcases List.mem_cons.1 hx with rfl|hx
    ·rfl
    ·rw [List.mem_singleton.1 hx]
   ·rw [List.mem_singleton.1 hx]
  refine wCall_pp rfl hUn rfl ?_
  unfold noUnitD
  generalize uneq L=L2 at hg2 hv2 hne2 heq2 ⊢
  by_cases g240:240<L2.length
  ·have dg:decide ((240:Int)<(L2.length:Int))=true:=by simp;omega
   rw [if_pos g240]
   simp -implicitDefEqProofs only [dg,vCs,lookH,eRetK_r,go_sem,reduceCtorEq,rdA,rdM,rdL,rdT,rdE,rdN,↓gTT,↓gFF,↓gTF,↓gFT]
   exact ⟨_,subH_refl _,rfl⟩
  have dg:decide ((240:Int)<(L2.length:Int))=false:=by simp;omega
  rw [if_neg g240]
  have hvl:(varsOf L2).length≤1000000:=by
   have:(varsOf L2).length≤L2.length*40:=by
    have hk:∀ l:List Cons,(∀ x∈l,x.t.l.length≤40)→(varsOf l).length≤l.length*40:=by
     intro l
     induction l with
     | nil=>intro _;simp [varsOf]
     | cons x l ih=>
      intro h
      have h1:=ih fun y hy=>h y (List.mem_cons_of_mem _ hy)
      have h2:=h x List.mem_cons_self
      unfold varsOf at h1 ⊢
      rw [List.flatMap_cons,List.length_append,List.length_cons]
      have:(mvars x).length=x.t.l.length:=by simp [mvars]
      omega
    exact hk L2 fun x hx=>(okC_parts (hg2.2 x hx).1).2.1
   omega
  have hF:=first_ok L2 hg2.small hvl hv2
  simp -implicitDefEqProofs only [dg,vCs,go_sem,reduceCtorEq,rdA,rdM,rdL,rdT,rdE,rdN,↓gTT,↓gFF,↓gTF,↓gFT]
  refine wCall_pp rfl hF rfl ?_
  by_cases hx0:exactV L2<0
  ·have dx:decide (exactV L2<0)=true:=by simpa using hx0
   have hlv:=var_good hg2 (leastV_mem hv2)
   rw [if_pos hx0]
   simp -implicitDefEqProofs only [dx,go_sem,reduceCtorEq,rdA,rdM,rdL,rdT,rdE,rdN,↓gTT,↓gFF,↓gTF,↓gFT]
   refine wCall_look hj (splitD_ok hrec hj (by show j<nx;exact hjn) hkn hn hn1 hg2 (by omega) hne2 ⟨hlv.1,hlv.2.1⟩ hlv.2.2 hl).1 rfl rfl fun nx' hn'=>?_
   simp -implicitDefEqProofs only [lookH,eRetK_r,go_sem,reduceCtorEq,rdA,rdM,rdL,rdT,rdE,rdN,↓gTT,↓gFF,↓gTF,↓gFT]
   exact ⟨_,subH_refl _,rfl⟩
  have dx:decide (exactV L2<0)=false:=by simpa using hx0
  obtain ⟨hxm,hxp⟩:=exactV_mem hx0
  have hxv:=var_good hg2 hxm
  rw [if_neg hx0]
  generalize exactV L2=X at dx hxm hxp hxv ⊢
  have hPr:=Pairs_ok L2 X hg2.small
  have hDr:=Drop_ok L2 X hg2.small
  have hm0:=(exP_spec hxp).1
  simp -implicitDefEqProofs only [dx,go_sem,reduceCtorEq,rdA,rdM,rdL,rdT,rdE,rdN,↓gTT,↓gFF,↓gTF,↓gFT]
  refine wCall_pp rfl hPr rfl ?_
  simp -implicitDefEqProofs only [go_sem,reduceCtorEq,rdA,rdM,rdL,rdT,rdE,rdN,↓gTT,↓gFF,↓gTF,↓gFT]
  have hab:(lowsOf L2 X).length*(highsOf L2 X).length≤240*240:=Nat.mul_le_mul (Nat.le_trans (List.length_filter_le _ _) (by omega)) (Nat.le_trans (List.length_filter_le _ _) (by omega))
  have hC:max (((lowsOf L2 X).length:Int)*((highsOf L2 X).length:Int)) 1=((max ((lowsOf L2 X).length*(highsOf L2 X).length) 1:Nat):Int):=by
   rw [←Int.natCast_mul];omega
  rw [hC]
  unfold dropD
  have hC1:1≤max ((lowsOf L2 X).length*(highsOf L2 X).length) 1:=by omega
  have hC2:max ((lowsOf L2 X).length*(highsOf L2 X).length) 1≤1000000:=by omega
  generalize max ((lowsOf L2 X).length*(highsOf L2 X).length) 1=C at hC1 hC2 ⊢
  refine wCall_burn (left:=left) (vals:=vals) (c:=C) hj hl (by omega) rfl rfl ?_
  by_cases h1:C≤left
  case neg=>
   rw [if_neg h1,decide_eq_false h1,if_pos (by omega)]
   simp -implicitDefEqProofs only [Bool.not_false,eRetK_r,lookH,go_sem,reduceCtorEq,rdA,rdM,rdL,rdT,rdE,rdN,↓gTT,↓gFF,↓gTF,↓gFT]
   exact ⟨_,subH_refl _,rfl⟩
  rw [if_pos h1,decide_eq_true h1,if_neg (by omega)]
  simp -implicitDefEqProofs only [Bool.not_true,go_sem,reduceCtorEq,rdA,rdM,rdL,rdT,rdE,rdN,↓gTT,↓gFF,↓gTF,↓gFT]
  by_cases hde:dropErr L2 X=0
  case neg=>
   have e:dropV L2 X=.tup [.fz 0 none 3 [],.int .i64 (dropErr L2 X)]:=by unfold dropV;rw [if_neg (by omega),if_pos hde];rfl
   have dd:decide (dropErr L2 X=0)=false:=by simpa using hde
   rw [e] at hDr
   rw [if_pos hde]
   refine wCall_pp rfl hDr rfl ?_
   simp -implicitDefEqProofs only [dd,Bool.not_false,eRetK_r,lookH,go_sem,reduceCtorEq,rdA,rdM,rdL,rdT,rdE,rdN,↓gTT,↓gFF,↓gTF,↓gFT]
   exact ⟨_,subH_refl _,rfl⟩
  have e:dropV L2 X=.tup [.fz (dropList L2 X).length none 3 (encC (dropList L2 X)),.int .i64 0]:=by unfold dropV;rw [if_neg (by omega),if_neg (by omega)];rfl
  rw [e] at hDr
  rw [if_neg (by omega)]
  refine wCall_pp rfl hDr rfl ?_
  simp -implicitDefEqProofs only [s0eq,Bool.not_true,go_sem,reduceCtorEq,rdA,rdM,rdL,rdT,rdE,rdN,↓gTT,↓gFF,↓gTF,↓gFT]
  obtain ⟨hS1,hS2,hS3⟩:=hrec (left-C) (by omega) vals (dropList L2 X) nx hn (drop_good hg2 (by omega) hde) hjn hkn
  obtain ⟨A,hA'⟩:∃ A,A=rec (left-C) vals (dropList L2 X):=⟨_,rfl⟩
  rw [←hA'] at hS1 hS2 hS3 ⊢
  refine wCall_look hj hS1 rfl rfl fun nx' hn'=>?_
  by_cases h2:A.1=2
  case neg=>
   have d2:decide (A.1=2)=false:=by simpa using h2
   rw [if_neg h2]
   simp -implicitDefEqProofs only [d2,eRetK_r,lookH,go_sem,reduceCtorEq,rdA,rdM,rdL,rdT,rdE,rdN,↓gTT,↓gFF,↓gTF,↓gFT]
   exact ⟨_,subH_refl _,rfl⟩
  have d2:decide (A.1=2)=true:=by simpa using h2
  rw [if_pos h2]
  have hSp:=Span_ok L2 X A.2.2 hg2.small (by omega)
  rw [spanV_eq] at hSp
  have hPk:=Pick_ok (spanLo L2 X A.2.2) (spanHi L2 X A.2.2)
  obtain ⟨q,rfl⟩:∃ q:Nat,X=q:=⟨X.toNat,by omega⟩
  have hql:q<A.2.2.length:=by omega
  simp -implicitDefEqProofs only [lookH,hj,hjk,d2,go_sem,reduceCtorEq,rdA,rdM,rdL,rdT,rdE,rdN,↓gTT,↓gFF,↓gTF,↓gFT]
  refine wCall_pure (args':=[.fz L2.length none 3 (encC L2),.int .i64 q,.fz A.2.2.length none 1 (encI A.2.2)]) (by simp -implicitDefEqProofs only [encI_len,hj,hjk,Nat.mul_one,go_sem,reduceCtorEq,rdA,rdM,rdL,rdT,rdE,rdN,↓gTT,↓gFF,↓gTF,↓gFT]) hSp rfl (.inl rfl) ?_
  simp -implicitDefEqProofs only [hj,hjk,go_sem,reduceCtorEq,rdA,rdM,rdL,rdT,rdE,rdN,↓gTT,↓gFF,↓gTF,↓gFT]
  refine wCall_pp rfl hPk rfl ?_
  simp -implicitDefEqProofs only [encI_len,hj,hjk,Nat.mul_one,eRetK_r,go_sem,reduceCtorEq,rdA,rdM,rdL,rdT,rdE,rdN,↓gTT,↓gFF,↓gTF,↓gFT]
  refine ⟨⟨by omega,by omega⟩,by omega,by omega,_,subH_refl _,h2,?_⟩
  rw [encI_set2 _ _ _ hql];simp [pickR]
 ·have hU':unitV L=.tup [.int .i64 q,.int .i64 u,.int .i64 0]:=by unfold unitV;rw [if_pos hr0];simp only [Int.natCast_zero,Nat.zero_add] at hu;rw [hu]
  simp only [Int.natCast_zero,Nat.zero_add] at hu
  rw [hU'] at hU
  rw [hu]
  simp only []
  unfold unitD
  have hql:q<L.length:=(List.getElem?_eq_some_iff.1 hx).1
  have hxg:=hg1.2 x (List.mem_of_getElem? hx)
  have hxo:okC x=true:=hxg.1
  obtain ⟨hxe,mu,hmu,hmv,hmk⟩:=unitX_spec hux
  have hko:kOf x.t.l u=mu.k:=by rw [←hmv];exact mem_kOf (okT_spec.1 hxo).2.2.2 mu hmu
  have hmm:=okM_spec.1 ((okC_parts hxo).2.2 mu hmu)
  have hub:0≤u∧u<n:=⟨by omega,hxg.2 u (by omega)⟩
  obtain ⟨e1,e2,e3,e4⟩:=equalR_spec (v:=u) hxo ⟨hub.1,by omega⟩ hxe (by rw [hko];exact hmk)
  have hgx:(L[q]?).getD nilC=x:=by rw [hx];rfl
  rw [Int.toNat_natCast,hgx]
  have hEq:=Equal_ok x u (by have:=(okC_parts hxo).2.1;omega)
  obtain ⟨E,hE⟩:∃ E,E=equalR x u:=⟨_,rfl⟩
  rw [←hE] at hEq e1 e2 e3 e4 ⊢
  simp -implicitDefEqProofs only [go_sem,reduceCtorEq,rdA,rdM,rdL,rdT,rdE,rdN,↓gTT,↓gFF,↓gTF,↓gFT]
  refine wCall_pp rfl hA rfl ?_
  simp -implicitDefEqProofs only [s0eq,d,Bool.not_true,go_sem,reduceCtorEq,rdA,rdM,rdL,rdT,rdE,rdN,↓gTT,↓gFF,↓gTF,↓gFT]
  refine wCall_pp rfl hU rfl ?_
  simp -implicitDefEqProofs only [s0eq,go_sem,reduceCtorEq,rdA,rdM,rdL,rdT,rdE,rdN,↓gTT,↓gFF,↓gTF,↓gFT]
  refine wCall_burn (left:=left) (vals:=vals) (c:=1) hj hl (by omega) rfl rfl ?_
  by_cases h1:1≤left
  case neg=>
   rw [if_neg h1,decide_eq_false h1,if_pos (by omega)]
   simp -implicitDefEqProofs only [Bool.not_false,eRetK_r,lookH,go_sem,reduceCtorEq,rdA,rdM,rdL,rdT,rdE,rdN,↓gTT,↓gFF,↓gTF,↓gFT]
   exact ⟨_,subH_refl _,rfl⟩
  rw [if_pos h1,decide_eq_true h1,if_neg (by omega)]
  simp -implicitDefEqProofs only [Bool.not_true,encC_cut hx,encC_len,go_sem,reduceCtorEq,rdA,rdM,rdL,rdT,rdE,rdN,↓gTT,↓gFF,↓gTF,↓gFT]
  refine ⟨⟨by omega,by omega⟩,by omega,?_⟩
  refine wCall_pp (r:=vTE E) rfl hEq rfl ?_
  simp -implicitDefEqProofs only [vTE,go_sem,reduceCtorEq,rdA,rdM,rdL,rdT,rdE,rdN,↓gTT,↓gFF,↓gTF,↓gFT]
  refine wCall_heap (hin:=[]) (CloneC_own L (by omega) hSne _) (fun k o h=>by cases h) ?_ ?_
  ·rintro r nx' h' ⟨rfl,rfl,rfl⟩
   refine ⟨by simp [closed,keysV,keysL,hkeys],?_⟩
   intro k o ho
   simp only [hget] at ho
   split at ho
   ·cases ho;simp [closed,okeys]
   ·cases ho
  ·rintro r nx' h' ⟨rfl,rfl,rfl⟩ _
   simp -implicitDefEqProofs only [hkeys,hdels,inc64 hql (by omega:L.length≤4611686018427387904),lookH,go_sem,reduceCtorEq,rdA,rdM,rdL,rdT,rdE,rdN,↓gTT,↓gFF,↓gTF,↓gFT]
   have n1:(nx=j)=False:=by simp;omega
   have n2:(nx=kk)=False:=by simp;omega
   have n3:(j=nx)=False:=by simp;omega
   have n4:(kk=nx)=False:=by simp;omega
   have n5:(nx+1=j)=False:=by simp;omega
   have n6:(nx+1=kk)=False:=by simp;omega
   have n7:(j=nx+1)=False:=by simp;omega
   have n8:(kk=nx+1)=False:=by simp;omega
   refine wCall_heap (hin:=[(nx,.row (encC L))]) (prim_del (F:=FT) (f:=p30) rfl (encC_len L) hql (by omega)) (fun k o h=>by
    simp only [hget] at h ⊢
    split at h
    ·rename_i h1;subst h1;cases h;exact ⟨by simp,by first|exact Nat.zero_le _|(simp;done)|skip⟩
    ·cases h) ?_ ?_
   ·rintro r nx' h' ⟨rfl,rfl,rfl⟩
    refine ⟨by simp [closed,keysV,keysL,hkeys],?_⟩
    intro k o ho
    simp only [hget] at ho
    split at ho
    ·cases ho;simp [closed,okeys]
    ·cases ho
   ·rintro r nx' h' ⟨rfl,rfl,rfl⟩ _
    have hel:(L.eraseIdx q).length=L.length-1:=by rw [List.length_eraseIdx,if_pos hql]
    have hgE:good n (L.eraseIdx q):=⟨by have:=hg1.1;omega,fun y hy=>hg1.2 y (List.mem_of_mem_eraseIdx hy)⟩
    have hEv:∀ w,kOf E.2.1 w≠0→w<n:=fun w hw=>hxg.2 w fun h0=>hw (by rw [e4,h0];split<;>simp)
    have hsw:=fun nx2 (h:nx≤nx2)=>(swapD_ok (j:=j) (kk:=kk) (n:=n) (left:=left-1) (nx:=nx2) (rec:=rec) (vals:=vals) (l:=L.eraseIdx q) (v:=u) (c:=E.1) (b:=E.2.1) (hrec (left-1) (by omega)) hj (by omega) (by omega) hn hn1 hgE e2 hEv hub).1
    rw [hel] at hsw
    rw [eraseC]
    simp -implicitDefEqProofs only [hkeys,hdels,n1,n2,n3,n4,n5,n6,n7,n8,hj,hjk,go_sem,reduceCtorEq,rdA,rdM,rdL,rdT,rdE,rdN,↓gTT,↓gFF,↓gTF,↓gFT]
    refine wCall_frzR (v':=.fz (L.length-1) none 3 (encC (L.eraseIdx q))) (by simp -implicitDefEqProofs only [encC_len,hel,go_sem,reduceCtorEq,rdA,rdM,rdL,rdT,rdE,rdN,↓gTT,↓gFF,↓gTF,↓gFT]) ?_
    refine wCall_look' hj (hsw _ (by show nx≤nx+1+1;omega)) rfl ?_ ?_
    ·intro k o ho
     rcases lookH_get ho with ⟨rfl,rfl⟩|⟨rfl,rfl⟩<;>simp -implicitDefEqProofs only [hdels,n1,n2,n3,n4,n5,n6,n7,n8,hj,hjk,go_sem,reduceCtorEq,rdA,rdM,rdL,rdT,rdE,rdN,↓gTT,↓gFF,↓gTF,↓gFT]
    ·intro nx2 hn2
     simp -implicitDefEqProofs only [hdels,n1,n2,n3,n4,n5,n6,n7,n8,lookH,eRetK_r,hj,hjk,go_sem,reduceCtorEq,rdA,rdM,rdL,rdT,rdE,rdN,↓gTT,↓gFF,↓gTF,↓gFT]
     exact ⟨_,subH_refl _,rfl⟩
def LenAt (n:Nat) (rec:Nat→List Int→List Cons→Ans) (left:Nat):Prop:=
 ∀ (vals:List Int) (l:List Cons),vals.length=n→good n l→(rec left vals l).2.2.length=n∧(rec left vals l).2.1≤left
theorem swapD_len {n left:Nat} {rec:Nat→List Int→List Cons→Ans} {vals:List Int} {l:List Cons} {v c:Int} {b:List Mono} (hrec:LenAt n rec left) (hn:vals.length=n)
 (hg:good n l) (hb:okT c b=true) (hbv:∀ w,kOf b w≠0→w<n):(swapD rec left vals l v c b).2.2.length=n∧(swapD rec left vals l v c b).2.1≤left:=by
 unfold swapD
 split
 ·exact ⟨hn,Nat.le_refl _⟩
 ·rename_i hE
  obtain ⟨h2,h3⟩:=hrec vals (swapL l v c b) hn (swap_good hg hb hbv (by omega))
  split
  ·exact ⟨by rw [List.length_set];exact h2,h3⟩
  ·exact ⟨h2,h3⟩
theorem unit_facts {n:Nat} {L:List Cons} {i v:Int} (hg:good n L) (h:unitOf L 0=some (i,v)):∃ (q:Nat) (x:Cons),i=q∧L[q]?=some x∧(L[i.toNat]?).getD nilC=x∧x∈L∧goodX n x∧x.eq=true∧oneB (kOf x.t.l v)=true∧(0≤v∧v<n)∧v<40∧
 good n (L.eraseIdx i.toNat)∧okT (equalR x v).1 (equalR x v).2.1=true∧∀ w,kOf (equalR x v).2.1 w≠0→w<n:=by
 rcases unitOf_cases L 0 with ⟨hu,_⟩|⟨q,x,u,hu,hx,hux,_⟩
 ·simp only [Int.natCast_zero] at hu;rw [hu] at h;cases h
 ·simp only [Int.natCast_zero,Nat.zero_add] at hu
  rw [hu] at h;cases h
  have hxm:=List.mem_of_getElem? hx
  have hxg:=hg.2 x hxm
  have hxo:okC x=true:=hxg.1
  obtain ⟨hxe,mu,hmu,hmv,hmk⟩:=unitX_spec hux
  have hko:kOf x.t.l v=mu.k:=by rw [←hmv];exact mem_kOf (okT_spec.1 hxo).2.2.2 mu hmu
  have hmm:=okM_spec.1 ((okC_parts hxo).2.2 mu hmu)
  have hub:0≤v∧v<n:=⟨by omega,hxg.2 v (by omega)⟩
  have hone:oneB (kOf x.t.l v)=true:=by rw [hko];exact hmk
  obtain ⟨e1,e2,e3,e4⟩:=equalR_spec (v:=v) hxo ⟨hub.1,by omega⟩ hxe hone
  refine ⟨q,x,rfl,hx,by rw [Int.toNat_natCast,hx];rfl,hxm,hxg,hxe,hone,hub,by omega,⟨?_,fun y hy=>hg.2 y (List.mem_of_mem_eraseIdx hy)⟩,e2,fun w hw=>hxg.2 w fun h0=>hw (by rw [e4,h0];split<;>simp)⟩
  have:=List.length_eraseIdx_le L ((q:Int).toNat)
  have:=hg.1;omega
theorem splitD_len {n left:Nat} {rec:Nat→List Int→List Cons→Ans} {vals:List Int} {l:List Cons} {v:Int} (hrec:∀ left',left'<left→LenAt n rec left') (hn:vals.length=n)
 (hg:good n l) (hl240:l.length≤240) (hv:0≤v∧v<n) (hv40:v<40):(splitD rec left vals l v).2.2.length=n∧(splitD rec left vals l v).2.1≤left:=by
 have b1:=span_lob (aloneL l v) v []
 have b2:=span_hib (aloneL l v) v []
 have hgo:∀ m:Int,spanLo (aloneL l v) v []≤m∧m≤spanHi (aloneL l v) v []→good n (l++[belowC v m])∧good n (l++[aboveC v m]):=fun m hm=>below_good hg hl240 hv hv40 (by omega)
 have hb0:okT (spanLo (aloneL l v) v []) []=true:=okT_spec.2 ⟨by omega,by omega,by simp,rfl⟩
 unfold splitD
 split
 ·exact ⟨hn,Nat.le_refl _⟩
 ·rename_i h0
  split
  ·exact ⟨hn,Nat.le_refl _⟩
  ·rename_i h1
   split
   ·rename_i he
    have:=swapD_len (v:=v) (hrec (left-1) (by omega)) hn hg hb0 (fun w hw=>absurd rfl hw)
    exact ⟨this.1,by omega⟩
   ·obtain ⟨q1,q2⟩:=hrec (left-1) (by omega) vals _ hn (hgo _ (half_b (by omega))).1
    split
    ·obtain ⟨q3,q4⟩:=hrec (rec (left-1) vals (l++[belowC v (halfR (spanLo (aloneL l v) v []) (spanHi (aloneL l v) v []))])).2.1 (by omega) _ _ q1 (hgo _ (half_b (by omega))).2
     exact ⟨q3,by omega⟩
    ·exact ⟨q1,by omega⟩
theorem uneq_vars {L:List Cons} (hne:L≠[]) (hm:∀ y∈L,y.t.l≠[]):varsOf (uneq L)≠[]:=by
 obtain ⟨y,hy⟩:=List.exists_mem_of_ne_nil L hne
 obtain ⟨m,hmm⟩:=List.exists_mem_of_ne_nil y.t.l (hm y hy)
 intro e
 have:m.v∈varsOf (uneq L):=by
  refine List.mem_flatMap.2 ⟨⟨y.t,false⟩,List.mem_flatMap.2 ⟨y,hy,?_⟩,List.mem_map.2 ⟨m,hmm,rfl⟩⟩
  unfold uneqX;split<;>simp
 rw [e] at this;cases this
theorem allW_ne {l:List Cons} (h:allW l=0):allS l≠[]:=by
 intro e
 unfold allW at h
 rw [e] at h
 split at h
 ·cases h
 ·simp at h
theorem stepD_len {n left:Nat} {rec:Nat→List Int→List Cons→Ans} {vals:List Int} {l:List Cons} (hrec:∀ left',left'<left→LenAt n rec left') (hn:vals.length=n) (hg:good n l):(stepD rec left vals l).2.2.length=n∧(stepD rec left vals l).2.1≤left:=by
 unfold stepD
 split
 ·exact ⟨hn,Nat.le_refl _⟩
 ·rename_i hw
  split
  ·exact ⟨hn,Nat.le_refl _⟩
  ·have hg1:=all_good hg
   split
   ·rename_i i v hu
    obtain ⟨q,x,rfl,hx,hgx,hxm,hxg,hxe,hone,hub,h40,hge,he2,hev⟩:=unit_facts hg1 hu
    unfold unitD
    rw [hgx]
    split
    ·exact ⟨hn,Nat.le_refl _⟩
    ·have:=swapD_len (v:=v) (hrec (left-1) (by omega)) hn hge he2 hev
     exact ⟨this.1,by omega⟩
   ·have hg2:=uneq_good hg1 (by omega)
    unfold noUnitD
    split
    ·exact ⟨hn,Nat.le_refl _⟩
    ·have hlv:=var_good hg2 (leastV_mem (uneq_vars (allW_ne (by omega)) fun y hy=>allS_ne hy))
     split
     ·exact splitD_len hrec hn hg2 (by omega) ⟨hlv.1,hlv.2.1⟩ hlv.2.2
     ·rename_i hx0
      unfold dropD
      split
      ·exact ⟨hn,Nat.le_refl _⟩
      ·rename_i hc
       split
       ·exact ⟨hn,by simp only;omega⟩
       ·rename_i hd
        obtain ⟨q1,q2⟩:=hrec (left-max ((lowsOf (uneq (allS l)) (exactV (uneq (allS l)))).length*(highsOf (uneq (allS l)) (exactV (uneq (allS l)))).length) 1) (by omega) vals _ hn (drop_good hg2 (by omega) (by omega:dropErr (uneq (allS l)) (exactV (uneq (allS l)))=0))
        split
        ·exact ⟨by rw [List.length_set];exact q1,by simp only;omega⟩
        ·exact ⟨q1,by omega⟩
theorem ansD_len {n:Nat}:∀ (d left:Nat),LenAt n (ansD d) left
 | 0,left=>fun vals l hn hg=>⟨hn,Nat.le_refl _⟩
 | d+1,left=>fun vals l hn hg=>stepD_len (fun left' h=>ansD_len d left') hn hg
theorem answer_ok {j kk n:Nat} (hj:(j=kk)=False) (hn1:n≤1000000):∀ (d left:Nat),left<d→left≤1000000→SemAt j kk n (ansD d) left
 | 0,left,h,_=>absurd h (Nat.not_lt_zero _)
 | d+1,left,h,hl=>by
  intro vals l nx hn hg hjn hkn
  refine ⟨answer_sem (rec:=ansD d) (fun left' h'=>answer_ok hj hn1 d left' (by omega) (by omega)) hj hjn hkn hn hn1 hg hl,?_⟩
  exact ansD_len (d+1) left vals l hn hg
def solveA (n:Nat) (l:List Cons) (fuel:Nat):Ans:=ansD (fuel+1) fuel (List.replicate n 0) (l++boxL n)
def modelL (a:Ans):List Int:=if a.1=2 then a.2.2 else []
def solveV (n:Nat) (l:List Cons) (fuel:Nat):VV:=.tup [.int .i64 (solveA n l fuel).1,vIs (modelL (solveA n l fuel)),.int .i64 (solveA n l fuel).2.1,.int .i64 0]
theorem reps_zero:∀ n:Nat,reps' [.int .i64 0] n=encI (List.replicate n 0)
 | 0=>rfl
 | n+1=>by
  have:=reps_zero n
  unfold reps' at this ⊢
  rw [List.replicate_succ,List.flatten_cons,this,List.replicate_succ];rfl
theorem box_good (n:Nat) (hn:n≤40):∀ k:Nat,k≤n→good n (boxL k)
 | 0,_=>⟨by simp [boxL],by simp [boxL]⟩
 | k+1,h=>by
  obtain ⟨h1,h2⟩:=box_good n hn k (by omega)
  refine ⟨by rw [boxL_len];omega,fun x hx=>?_⟩
  rw [boxL] at hx
  rcases List.mem_append.1 hx with hx|hx
  ·exact h2 x hx
  ·simp only [boxX,List.mem_cons,List.not_mem_nil,or_false] at hx
   rcases hx with rfl|rfl
   ·refine ⟨okT_spec.2 ⟨by simp,by simp,by simp,okFrom_cons.2 ⟨okM_spec.2 ⟨by simp,by simp;omega,by simp,by simp,by simp⟩,fun q hq=>(by cases hq),rfl⟩⟩,fun w hw=>by have:=one_v k 1 w hw;omega⟩
   ·refine ⟨okT_spec.2 ⟨by simp,by simp,by simp,okFrom_cons.2 ⟨okM_spec.2 ⟨by simp,by simp;omega,by simp,by simp,by simp⟩,fun q hq=>(by cases hq),rfl⟩⟩,fun w hw=>by have:=one_v k (-1) w hw;omega⟩
theorem good_app {n:Nat} {a b:List Cons} (ha:good n a) (hb:good n b) (h:a.length+b.length≤100000):good n (a++b):=
 ⟨by simp;omega,fun x hx=>(List.mem_append.1 hx).elim (ha.2 x) (hb.2 x)⟩
theorem Solve_ok (n:Nat) (l:List Cons) (fuel:Nat) (hn:n≤40) (hf:fuel≤4000) (hl:l.length≤240) (hg:good n l):
 VPure FT p6 [.int .i64 n,.fz l.length none 3 (encC l),.int .i64 fuel] (solveV n l fuel):=by
 refine vpure_of_body' (f:=p6) rfl rfl ?_
 have e1:decide ((n:Int)<0)=false:=by simp
 have e2:decide ((40:Int)<(n:Int))=false:=by simp;omega
 have e3:decide ((fuel:Int)<0)=false:=by simp
 have e4:decide ((4000:Int)<(fuel:Int))=false:=by simp;omega
 have e5:decide ((240:Int)<(l.length:Int))=false:=by simp;omega
 simp -implicitDefEqProofs only [e1,e2,e3,e4,e5,go_sem,reduceCtorEq,rdA,rdM,rdL,rdT,rdE,rdN,↓gTT,↓gFF,↓gTF,↓gFT]
 refine wLoop_by (fun m s=>∃ i:Nat,i+m=l.length∧At s [(p0,.int .i64 n),(p1,.fz l.length none 3 (encC l)),(p2,.int .i64 fuel),(p7,.nils),(p32,.fz l.length none 3 (encC l)),(p33,.int .i64 l.length),(p34,.int .i64 i)] 0 0 []) l.length ?_ ?_
 ·exact ⟨0,by simp,by simp -implicitDefEqProofs only [go_sem,reduceCtorEq,rdA,rdM,rdL,rdT,rdE,rdN,↓gTT,↓gFF,↓gTF,↓gFT]⟩
 ·rintro m ⟨e,nx,w,h⟩ ⟨i,hi,⟨s1,s2,s3,s4,s5,s6,s7,-⟩,rfl,rfl,rfl⟩
  rcases Nat.lt_or_ge i l.length with hlt|hge
  ·obtain ⟨x,hx⟩:=has hlt
   have hxg:=hg.2 x (List.mem_of_getElem? hx)
   have hok:okT x.t.c x.t.l=true:=hxg.1
   have hCk:=Check_ok x.t.c x.t.l (by have:=(okT_spec.1 hok).2.2.1;omega)
   rw [hok,if_pos rfl] at hCk
   have hxl:=(okT_spec.1 hok).2.2.1
   simp -implicitDefEqProofs only [s1,s2,s3,s4,s5,s6,s7,ltT hlt,encC_cut hx,encC_len,go_sem,reduceCtorEq,rdA,rdM,rdL,rdT,rdE,rdN,↓gTT,↓gFF,↓gTF,↓gFT]
   refine ⟨⟨by omega,by omega⟩,by omega,?_⟩
   refine wCall_pp rfl hCk rfl ?_
   rcases Nat.eq_zero_or_pos x.t.l.length with h0|hpos
   ·have d0:decide ((0:Int)<(x.t.l.length:Int))=false:=decide_eq_false (by omega)
    simp -implicitDefEqProofs only [s0eq,d0,Bool.not_true,inc64 hlt (by omega:l.length≤4611686018427387904),go_sem,reduceCtorEq,rdA,rdM,rdL,rdT,rdE,rdN,↓gTT,↓gFF,↓gTF,↓gFT]
    exact ⟨m-1,by omega,i+1,by omega,rfl⟩
   ·have d0:decide ((0:Int)<(x.t.l.length:Int))=true:=by simp;omega
    obtain ⟨y,hy⟩:=has (show x.t.l.length-1<x.t.l.length by omega)
    have hw:IntKind.i64.wrap ((x.t.l.length:Int)-1)=((x.t.l.length-1:Nat):Int):=by rw [i64 (by omega)];omega
    have hyv:y.v<n:=hxg.2 y.v (by rw [mem_kOf (okT_spec.1 hok).2.2.2 y (List.mem_of_getElem? hy)];exact (okM_spec.1 (okFrom_ok (okT_spec.1 hok).2.2.2 y (List.mem_of_getElem? hy))).2.2.1)
    have d1:decide ((n:Int)≤y.v)=false:=by simp;omega
    simp -implicitDefEqProofs only [s0eq,d0,Bool.not_true,hw,encM_g0 hy,d1,inc64 hlt (by omega:l.length≤4611686018427387904),go_sem,reduceCtorEq,rdA,rdM,rdL,rdT,rdE,rdN,↓gTT,↓gFF,↓gTF,↓gFT]
    refine ⟨⟨by omega,by omega⟩,m-1,by omega,i+1,by omega,rfl⟩
  ·simp -implicitDefEqProofs only [s1,s2,s3,s4,s5,s6,s7,ltF hge,go_sem,reduceCtorEq,rdA,rdM,rdL,rdT,rdE,rdN,↓gTT,↓gFF,↓gTF,↓gFT]
   clear s1 s2 s3 s4 s5 s6 s7
   have hB:=box_ok n (by omega)
   have hg2:good n (l++boxL n):=good_app hg (box_good n hn n (Nat.le_refl n)) (by rw [boxL_len];omega)
   have hSem:=fun nx' (h:2≤nx')=>(answer_ok (j:=1) (kk:=0) (n:=n) (by simp) (by omega) (fuel+1) fuel (by omega) (by omega) (List.replicate n 0) (l++boxL n) nx' (by simp) hg2 (by omega) (by omega))
   have hz:(List.replicate n (0:Int)).length=n:=by simp
   have hbl:=boxL_len n
   obtain ⟨A,hA⟩:∃ A,A=solveA n l fuel:=⟨_,rfl⟩
   have hSem2:∀ nx',2≤nx'→LookSem p17 [.fz (l++boxL n).length none 3 (encC (l++boxL n))] 1 0 nx' fuel (List.replicate n 0) A:=fun nx' h=>by rw [hA];exact (hSem nx' h).1
   have hLen:A.2.2.length=n:=by rw [hA];exact (hSem 2 (by omega)).2.1
   unfold solveV
   rw [←hA]
   clear hSem
   refine ⟨⟨by omega,by omega,by omega⟩,?_⟩
   by_cases hl0:l=[]
   ·subst hl0
    simp only [encC,List.length_nil]
    refine wCall_heap (hin:=[]) (CloneC_nil _) (fun k o h=>by cases h) ?_ ?_
    ·rintro r nx' h' (⟨rfl,rfl,rfl⟩|⟨rfl,rfl,rfl⟩)
     ·exact ⟨by simp [closed,keysV],by intro k o ho;cases ho⟩
     ·refine ⟨by simp [closed,keysV,keysL,hkeys],?_⟩
      intro k o ho
      simp only [hget] at ho
      split at ho
      ·cases ho;simp [closed,okeys]
      ·cases ho
    ·rintro r nx' h' (⟨rfl,rfl,rfl⟩|⟨rfl,rfl,rfl⟩) _
     ·simp -implicitDefEqProofs only [hkeys,hdels,reps_zero,vCs,go_sem,reduceCtorEq,rdA,rdM,rdL,rdT,rdE,rdN,↓gTT,↓gFF,↓gTF,↓gFT]
      refine wCall_pp rfl hB rfl ?_
      simp -implicitDefEqProofs only [vCs,go_sem,reduceCtorEq,rdA,rdM,rdL,rdT,rdE,rdN,↓gTT,↓gFF,↓gTF,↓gFT]
      refine ⟨⟨by omega,encC_len _⟩,?_⟩
      simp only [List.nil_append] at hSem2
      have hlc:(encC (boxL n)).length=(boxL n).length*3:=encC_len _
      refine wCall_frz2 (v':=.fz ((boxL n).length) none 3 (encC (boxL n))) (by simp -implicitDefEqProofs only [encC_len,hlc,hbl,go_sem,reduceCtorEq,rdA,rdM,rdL,rdT,rdE,rdN,↓gTT,↓gFF,↓gTF,↓gFT]) ?_
      refine wCall_look' (by simp) (hSem2 _ (by first|omega|(show (2:Nat)≤3;omega)|(show (2:Nat)≤4;omega))) rfl ?_ ?_
      ·intro k o ho
       rcases lookH_get ho with ⟨rfl,rfl⟩|⟨rfl,rfl⟩<;>simp -implicitDefEqProofs only [hdels,hz,go_sem,reduceCtorEq,rdA,rdM,rdL,rdT,rdE,rdN,↓gTT,↓gFF,↓gTF,↓gFT]
      ·intro nx' hn'
       by_cases h2:A.1=2
       ·have d2:decide (A.1=2)=true:=by simpa using h2
        have hm:modelL A=A.2.2:=by unfold modelL;rw [if_pos h2]
        simp -implicitDefEqProofs only [hdels,lookH,d2,hm,vIs,encI_len,Nat.mul_one,go_sem,reduceCtorEq,rdA,rdM,rdL,rdT,rdE,rdN,↓gTT,↓gFF,↓gTF,↓gFT]
       ·have d2:decide (A.1=2)=false:=by simpa using h2
        have hm:modelL A=[]:=by unfold modelL;rw [if_neg h2]
        simp -implicitDefEqProofs only [hdels,lookH,d2,hm,vIs,encI_len,Nat.mul_one,go_sem,reduceCtorEq,rdA,rdM,rdL,rdT,rdE,rdN,↓gTT,↓gFF,↓gTF,↓gFT]
        rfl
     ·simp -implicitDefEqProofs only [hkeys,hdels,reps_zero,vCs,go_sem,reduceCtorEq,rdA,rdM,rdL,rdT,rdE,rdN,↓gTT,↓gFF,↓gTF,↓gFT]
      refine wCall_pp rfl hB rfl ?_
      simp -implicitDefEqProofs only [vCs,encC_len,go_sem,reduceCtorEq,rdA,rdM,rdL,rdT,rdE,rdN,↓gTT,↓gFF,↓gTF,↓gFT]
      refine ⟨by omega,?_⟩
      simp only [List.nil_append] at hSem2
      have hlc:(encC (boxL n)).length=(boxL n).length*3:=encC_len _
      refine wCall_frz2 (v':=.fz ((boxL n).length) none 3 (encC (boxL n))) (by simp -implicitDefEqProofs only [encC_len,hlc,hbl,go_sem,reduceCtorEq,rdA,rdM,rdL,rdT,rdE,rdN,↓gTT,↓gFF,↓gTF,↓gFT]) ?_
      refine wCall_look' (by simp) (hSem2 _ (by first|omega|(show (2:Nat)≤3;omega)|(show (2:Nat)≤4;omega))) rfl ?_ ?_
      ·intro k o ho
       rcases lookH_get ho with ⟨rfl,rfl⟩|⟨rfl,rfl⟩<;>simp -implicitDefEqProofs only [hdels,hz,go_sem,reduceCtorEq,rdA,rdM,rdL,rdT,rdE,rdN,↓gTT,↓gFF,↓gTF,↓gFT]
      ·intro nx' hn'
       by_cases h2:A.1=2
       ·have d2:decide (A.1=2)=true:=by simpa using h2
        have hm:modelL A=A.2.2:=by unfold modelL;rw [if_pos h2]
        simp -implicitDefEqProofs only [hdels,lookH,d2,hm,vIs,encI_len,Nat.mul_one,go_sem,reduceCtorEq,rdA,rdM,rdL,rdT,rdE,rdN,↓gTT,↓gFF,↓gTF,↓gFT]
       ·have d2:decide (A.1=2)=false:=by simpa using h2
        have hm:modelL A=[]:=by unfold modelL;rw [if_neg h2]
        simp -implicitDefEqProofs only [hdels,lookH,d2,hm,vIs,encI_len,Nat.mul_one,go_sem,reduceCtorEq,rdA,rdM,rdL,rdT,rdE,rdN,↓gTT,↓gFF,↓gTF,↓gFT]
        rfl
   ·refine wCall_heap (hin:=[]) (CloneC_own l (by omega) hl0 _) (fun k o h=>by cases h) ?_ ?_
    ·rintro r nx' h' ⟨rfl,rfl,rfl⟩
     refine ⟨by simp [closed,keysV,keysL,hkeys],?_⟩
     intro k o ho
     simp only [hget] at ho
     split at ho
     ·cases ho;simp [closed,okeys]
     ·cases ho
    ·rintro r nx' h' ⟨rfl,rfl,rfl⟩ _
     simp -implicitDefEqProofs only [hkeys,hdels,reps_zero,go_sem,reduceCtorEq,rdA,rdM,rdL,rdT,rdE,rdN,↓gTT,↓gFF,↓gTF,↓gFT]
     refine wCall_pp rfl hB rfl ?_
     simp -implicitDefEqProofs only [vCs,encC_len,go_sem,reduceCtorEq,rdA,rdM,rdL,rdT,rdE,rdN,↓gTT,↓gFF,↓gTF,↓gFT]
     refine ⟨by omega,?_⟩
     rw [encC_app,List.length_append] at hSem2
     have hlc:(encC l++encC (boxL n)).length=(l.length+(boxL n).length)*3:=by rw [List.length_append,encC_len,encC_len];omega
     refine wCall_frz2 (v':=.fz (l.length+(boxL n).length) none 3 (encC l++encC (boxL n))) (by simp -implicitDefEqProofs only [encC_len,hlc,hbl,go_sem,reduceCtorEq,rdA,rdM,rdL,rdT,rdE,rdN,↓gTT,↓gFF,↓gTF,↓gFT]) ?_
     refine wCall_look' (by simp) (hSem2 _ (by first|omega|(show (2:Nat)≤3;omega)|(show (2:Nat)≤4;omega))) rfl ?_ ?_
     ·intro k o ho
      rcases lookH_get ho with ⟨rfl,rfl⟩|⟨rfl,rfl⟩<;>simp -implicitDefEqProofs only [hdels,hz,go_sem,reduceCtorEq,rdA,rdM,rdL,rdT,rdE,rdN,↓gTT,↓gFF,↓gTF,↓gFT]
     ·intro nx' hn'
      by_cases h2:A.1=2
      ·have d2:decide (A.1=2)=true:=by simpa using h2
       have hm:modelL A=A.2.2:=by unfold modelL;rw [if_pos h2]
       simp -implicitDefEqProofs only [hdels,lookH,d2,hm,vIs,encI_len,Nat.mul_one,go_sem,reduceCtorEq,rdA,rdM,rdL,rdT,rdE,rdN,↓gTT,↓gFF,↓gTF,↓gFT]
      ·have d2:decide (A.1=2)=false:=by simpa using h2
       have hm:modelL A=[]:=by unfold modelL;rw [if_neg h2]
       simp -implicitDefEqProofs only [hdels,lookH,d2,hm,vIs,encI_len,Nat.mul_one,go_sem,reduceCtorEq,rdA,rdM,rdL,rdT,rdE,rdN,↓gTT,↓gFF,↓gTF,↓gFT]
       rfl
theorem Right_all (c:Int) (l:List Mono):VPure FT p38 [.agg [.int .i64 c,.fz l.length none 2 (encM l)]] (.bool (okT c l)):=by
 by_cases h:l.length≤40
 ·exact Right_ok c l (by omega)
 ·have d:decide ((40:Int)<(l.length:Int))=true:=by simp;omega
  have e:okT c l=false:=by
   cases hq:okT c l with
   | false=>rfl
   | true=>exact absurd (okT_spec.1 hq).2.2.1 h
  refine vpure_of_body (f:=p38) rfl rfl ?_
  rw [e]
  cases hin:inB c (-1099511627776) 1099511627776
  ·simp -implicitDefEqProofs only [go_sem,reduceCtorEq,rdA,rdM,rdL,rdT,rdE,rdN,↓gTT,↓gFF,↓gTF,↓gFT]
   repeat' (first|(with_reducible refine And.intro ?_ ?_)|(with_reducible refine gs_t ?_ ?_)|(with_reducible refine gs_f ?_ ?_)|(intro _)|((with_reducible apply wCall_any);(· (simp -implicitDefEqProofs only [go_sem,reduceCtorEq,rdA,rdM,rdL,rdT,rdE,rdN,↓gTT,↓gFF,↓gTF,↓gFT]<;>rfl));(· (exact in_ok _ _ _));(· rfl);(· rfl);(· (first|exact Eq.refl true|exact Eq.refl false));(simp -implicitDefEqProofs only [hin,Bool.not_false,go_sem,reduceCtorEq,rdA,rdM,rdL,rdT,rdE,rdN,↓gTT,↓gFF,↓gTF,↓gFT]))|fail)
  ·simp -implicitDefEqProofs only [go_sem,reduceCtorEq,rdA,rdM,rdL,rdT,rdE,rdN,↓gTT,↓gFF,↓gTF,↓gFT]
   repeat' (first|(with_reducible refine And.intro ?_ ?_)|(with_reducible refine gs_t ?_ ?_)|(with_reducible refine gs_f ?_ ?_)|(intro _)|((with_reducible apply wCall_any);(· (simp -implicitDefEqProofs only [go_sem,reduceCtorEq,rdA,rdM,rdL,rdT,rdE,rdN,↓gTT,↓gFF,↓gTF,↓gFT]<;>rfl));(· (exact in_ok _ _ _));(· rfl);(· rfl);(· (first|exact Eq.refl true|exact Eq.refl false));(simp -implicitDefEqProofs only [hin,d,Bool.not_true,go_sem,reduceCtorEq,rdA,rdM,rdL,rdT,rdE,rdN,↓gTT,↓gFF,↓gTF,↓gFT]))|fail)
theorem Terms_all (l:List Cons) (hl:l.length≤4611686018427387904):VPure FT p21 [.fz l.length none 3 (encC l)] (.bool (l.all okC)):=by
 refine vpure_of_body (f:=p21) rfl rfl ?_
 simp -implicitDefEqProofs only [go_sem,reduceCtorEq,rdA,rdM,rdL,rdT,rdE,rdN,↓gTT,↓gFF,↓gTF,↓gFT]
 refine wLoop_by (fun n s=>∃ i:Nat,i+n=l.length∧At s [(p0,.fz l.length none 3 (encC l)),(p3,.int .i64 i)] 0 0 []∧l.all okC=(l.drop i).all okC) l.length ?_ ?_
 ·exact ⟨0,by simp,by simp -implicitDefEqProofs only [go_sem,reduceCtorEq,rdA,rdM,rdL,rdT,rdE,rdN,↓gTT,↓gFF,↓gTF,↓gFT],by simp⟩
 ·rintro n ⟨e,nx,w,h⟩ ⟨i,hi,⟨⟨s1,s2,-⟩,rfl,rfl,rfl⟩,hk⟩
  rcases Nat.lt_or_ge i l.length with hlt|hge
  ·obtain ⟨x,hx⟩:=has hlt
   rw [drop_cons hx] at hk
   simp -implicitDefEqProofs only [s1,s2,ltT hlt,encC_t hx,encC_len,inc64 hlt hl,go_sem,reduceCtorEq,rdA,rdM,rdL,rdT,rdE,rdN,↓gTT,↓gFF,↓gTF,↓gFT]
   refine ⟨⟨by omega,by omega⟩,by omega,?_⟩
   refine wCall_pp (r:=.bool (okT x.t.c x.t.l)) (by simp [pureL,pureV]) (Right_all _ _) rfl ?_
   simp -implicitDefEqProofs only [inc64 hlt hl,go_sem,reduceCtorEq,rdA,rdM,rdL,rdT,rdE,rdN,↓gTT,↓gFF,↓gTF,↓gFT]
   refine gs_t (fun h=>?_) (fun h=>?_)
   ·rw [hk];simp at h;simp [okC,h]
   ·refine ⟨n-1,by omega,i+1,by omega,rfl,?_⟩
    rw [hk];simp at h;simp [okC,h]
  ·simp -implicitDefEqProofs only [s1,s2,ltF hge,go_sem,reduceCtorEq,rdA,rdM,rdL,rdT,rdE,rdN,↓gTT,↓gFF,↓gTF,↓gFT]
   rw [hk,List.drop_eq_nil_of_le hge];rfl
def ltB (n:Int) (x:Cons):Bool:=x.t.l.all fun m=>decide (m.v<n)
def mayS (n:Int) (l:List Cons) (fuel:Int):Bool:=decide (0≤n)&&decide (n≤40)&&decide (0≤fuel)&&decide (fuel≤4000)&&decide (l.length≤240)&&l.all okC&&l.all (ltB n)
theorem mayS_spec {n:Int} {l:List Cons} {fuel:Int} (h:mayS n l fuel=true):∃ (m f:Nat),n=m∧fuel=f∧m≤40∧f≤4000∧l.length≤240∧good m l:=by
 simp only [mayS,Bool.and_eq_true,decide_eq_true_eq,List.all_eq_true] at h
 obtain ⟨⟨⟨⟨⟨⟨h1,h2⟩,h3⟩,h4⟩,h5⟩,h6⟩,h7⟩:=h
 refine ⟨n.toNat,fuel.toNat,by omega,by omega,by omega,by omega,h5,by omega,fun x hx=>⟨h6 x hx,fun w hw=>?_⟩⟩
 obtain ⟨m,hm,hmv⟩:=kOf_mem hw
 have:=h7 x hx
 simp only [ltB,List.all_eq_true,decide_eq_true_eq] at this
 have:=this m hm
 omega
theorem mayS_ok (n:Int) (l:List Cons) (fuel:Int):VPure FT p10 [.int .i64 n,.fz l.length none 3 (encC l),.int .i64 fuel] (.bool (mayS n l fuel)):=by
 refine vpure_of_body (f:=p10) rfl rfl ?_
 have hfalse:∀ {b:Bool},b=false→b=false:=id
 by_cases h1:n<0
 ·have d:decide (n<0)=true:=by simpa using h1
  have e:mayS n l fuel=false:=by unfold mayS;rw [decide_eq_false (p:=0≤n) (by omega)];rfl
  simp -implicitDefEqProofs only [d,e,go_sem,reduceCtorEq,rdA,rdM,rdL,rdT,rdE,rdN,↓gTT,↓gFF,↓gTF,↓gFT]
 have d1:decide (n<0)=false:=by simpa using h1
 by_cases h2:40<n
 ·have d:decide (40<n)=true:=by simpa using h2
  have e:mayS n l fuel=false:=by unfold mayS;rw [decide_eq_false (p:=n≤40) (by omega)];simp
  simp -implicitDefEqProofs only [d1,d,e,go_sem,reduceCtorEq,rdA,rdM,rdL,rdT,rdE,rdN,↓gTT,↓gFF,↓gTF,↓gFT]
 have d2:decide (40<n)=false:=by simpa using h2
 by_cases h3:fuel<0
 ·have d:decide (fuel<0)=true:=by simpa using h3
  have e:mayS n l fuel=false:=by unfold mayS;rw [decide_eq_false (p:=0≤fuel) (by omega)];simp
  simp -implicitDefEqProofs only [d1,d2,d,e,go_sem,reduceCtorEq,rdA,rdM,rdL,rdT,rdE,rdN,↓gTT,↓gFF,↓gTF,↓gFT]
 have d3:decide (fuel<0)=false:=by simpa using h3
 by_cases h4:4000<fuel
 ·have d:decide (4000<fuel)=true:=by simpa using h4
  have e:mayS n l fuel=false:=by unfold mayS;rw [decide_eq_false (p:=fuel≤4000) (by omega)];simp
  simp -implicitDefEqProofs only [d1,d2,d3,d,e,go_sem,reduceCtorEq,rdA,rdM,rdL,rdT,rdE,rdN,↓gTT,↓gFF,↓gTF,↓gFT]
 have d4:decide (4000<fuel)=false:=by simpa using h4
 by_cases h5:240<l.length
 ·have d:decide ((240:Int)<(l.length:Int))=true:=by simp;omega
  have e:mayS n l fuel=false:=by unfold mayS;rw [decide_eq_false (p:=l.length≤240) (by omega)];simp
  simp -implicitDefEqProofs only [d1,d2,d3,d4,d,e,go_sem,reduceCtorEq,rdA,rdM,rdL,rdT,rdE,rdN,↓gTT,↓gFF,↓gTF,↓gFT]
 have d5:decide ((240:Int)<(l.length:Int))=false:=by simp;omega
 have hT:=Terms_all l (by omega)
 simp -implicitDefEqProofs only [d1,d2,d3,d4,d5,go_sem,reduceCtorEq,rdA,rdM,rdL,rdT,rdE,rdN,↓gTT,↓gFF,↓gTF,↓gFT]
 cases ht:l.all okC with
 | false=>
  have e:mayS n l fuel=false:=by unfold mayS;rw [ht];simp
  rw [ht] at hT
  rw [e]
  refine wCall_pp rfl hT rfl ?_
  simp -implicitDefEqProofs only [Bool.not_false,go_sem,reduceCtorEq,rdA,rdM,rdL,rdT,rdE,rdN,↓gTT,↓gFF,↓gTF,↓gFT]
 | true=>
  have e:mayS n l fuel=l.all (ltB n):=by
   unfold mayS;rw [ht,decide_eq_true (p:=0≤n) (by omega),decide_eq_true (p:=n≤40) (by omega),decide_eq_true (p:=0≤fuel) (by omega),decide_eq_true (p:=fuel≤4000) (by omega),decide_eq_true (p:=l.length≤240) (by omega)];simp
  rw [ht] at hT
  rw [e]
  refine wCall_pp rfl hT rfl ?_
  simp -implicitDefEqProofs only [Bool.not_true,go_sem,reduceCtorEq,rdA,rdM,rdL,rdT,rdE,rdN,↓gTT,↓gFF,↓gTF,↓gFT]
  refine wLoop_by (fun m s=>∃ i:Nat,i+m=l.length∧At s [(p0,.int .i64 n),(p1,.fz l.length none 3 (encC l)),(p7,.int .i64 i)] 0 0 []∧l.all (ltB n)=(l.drop i).all (ltB n)) l.length ?_ ?_
  ·exact ⟨0,by simp,by simp -implicitDefEqProofs only [go_sem,reduceCtorEq,rdA,rdM,rdL,rdT,rdE,rdN,↓gTT,↓gFF,↓gTF,↓gFT],by simp⟩
  ·rintro m ⟨e,nx,w,h⟩ ⟨i,hi,⟨⟨s1,s2,s3,-⟩,rfl,rfl,rfl⟩,hk⟩
   rcases Nat.lt_or_ge i l.length with hlt|hge
   ·obtain ⟨x,hx⟩:=has hlt
    have hxl:=(okC_parts (List.all_eq_true.1 ht x (List.mem_of_getElem? hx))).2.1
    rw [drop_cons hx,List.all_cons] at hk
    simp -implicitDefEqProofs only [s1,s2,s3,ltT hlt,go_sem,reduceCtorEq,rdA,rdM,rdL,rdT,rdE,rdN,↓gTT,↓gFF,↓gTF,↓gFT]
    refine wLoop_by (fun m' s=>∃ j:Nat,j+m'=x.t.l.length∧At s [(p0,.int .i64 n),(p1,.fz l.length none 3 (encC l)),(p7,.int .i64 i),(p8,.int .i64 j)] 0 0 []∧ltB n x=(x.t.l.drop j).all (fun m=>decide (m.v<n))) x.t.l.length ?_ ?_
    ·exact ⟨0,by simp,by simp -implicitDefEqProofs only [go_sem,reduceCtorEq,rdA,rdM,rdL,rdT,rdE,rdN,↓gTT,↓gFF,↓gTF,↓gFT],by simp [ltB]⟩
    ·rintro m' ⟨e',nx,w,h⟩ ⟨j,hj,⟨⟨a1,a2,a3,a4,-⟩,rfl,rfl,rfl⟩,hkj⟩
     rcases Nat.lt_or_ge j x.t.l.length with hjlt|hjge
     ·obtain ⟨y,hy⟩:=has hjlt
      rw [drop_cons hy,List.all_cons] at hkj
      by_cases hyn:y.v<n
      ·have dy:decide (n≤y.v)=false:=by simp;omega
       rw [decide_eq_true hyn,Bool.true_and] at hkj
       simp -implicitDefEqProofs only [a1,a2,a3,a4,ltT hlt,ltT hjlt,encC_g1 hx,encM_g0 hy,encC_len,encM_len,dy,inc64 hjlt (by omega:x.t.l.length≤4611686018427387904),go_sem,reduceCtorEq,rdA,rdM,rdL,rdT,rdE,rdN,↓gTT,↓gFF,↓gTF,↓gFT]
       refine ⟨⟨by omega,by omega⟩,⟨by omega,by omega⟩,⟨by omega,by omega⟩,m'-1,by omega,j+1,by omega,rfl,hkj⟩
      ·have dy:decide (n≤y.v)=true:=by simp;omega
       rw [decide_eq_false hyn,Bool.false_and] at hkj
       simp -implicitDefEqProofs only [a1,a2,a3,a4,ltT hlt,ltT hjlt,encC_g1 hx,encM_g0 hy,encC_len,encM_len,dy,go_sem,reduceCtorEq,rdA,rdM,rdL,rdT,rdE,rdN,↓gTT,↓gFF,↓gTF,↓gFT]
       refine ⟨⟨by omega,by omega⟩,⟨by omega,by omega⟩,⟨by omega,by omega⟩,?_⟩
       rw [hk,hkj];rfl
     ·simp -implicitDefEqProofs only [a1,a2,a3,a4,ltT hlt,ltF hjge,encC_g1 hx,encC_len,inc64 hlt (by omega:l.length≤4611686018427387904),go_sem,reduceCtorEq,rdA,rdM,rdL,rdT,rdE,rdN,↓gTT,↓gFF,↓gTF,↓gFT]
      refine ⟨⟨by omega,by omega⟩,m-1,by omega,i+1,by omega,rfl,?_⟩
      rw [hk,hkj,List.drop_eq_nil_of_le hjge];rfl
   ·simp -implicitDefEqProofs only [s1,s2,s3,ltF hge,go_sem,reduceCtorEq,rdA,rdM,rdL,rdT,rdE,rdN,↓gTT,↓gFF,↓gTF,↓gFT]
    rw [hk,List.drop_eq_nil_of_le hge];rfl
def heavyS (n:Int) (l:List Cons) (fuel:Int):Bool:=heavyB l||(mayS n l fuel&&(decide (8<n)||decide (16<l.length)||decide (1500<fuel)))
theorem heavyS_ok (n:Int) (l:List Cons) (fuel:Int):VPure FT p4 [.int .i64 n,.fz l.length none 3 (encC l),.int .i64 fuel] (.bool (heavyS n l fuel)):=by
 refine vpure_of_body (f:=p4) rfl rfl ?_
 have hH:=Heavy14_ok l
 have hM:=mayS_ok n l fuel
 unfold heavyS
 cases hh:heavyB l with
 | true=>
  rw [hh] at hH
  simp -implicitDefEqProofs only [go_sem,reduceCtorEq,rdA,rdM,rdL,rdT,rdE,rdN,↓gTT,↓gFF,↓gTF,↓gFT]
  repeat' (first|(with_reducible refine And.intro ?_ ?_)|(with_reducible refine gs_t ?_ ?_)|(with_reducible refine gs_f ?_ ?_)|(intro _)|((with_reducible apply wCall_any);(· (simp -implicitDefEqProofs only [go_sem,reduceCtorEq,rdA,rdM,rdL,rdT,rdE,rdN,↓gTT,↓gFF,↓gTF,↓gFT]<;>rfl));(· (exact hH));(· rfl);(· rfl);(· (first|exact Eq.refl true|exact Eq.refl false));(simp -implicitDefEqProofs only [Bool.true_or,go_sem,reduceCtorEq,rdA,rdM,rdL,rdT,rdE,rdN,↓gTT,↓gFF,↓gTF,↓gFT]))|fail)
  all_goals first|trivial|simp
 | false=>
  rw [hh] at hH
  rw [Bool.false_or]
  simp -implicitDefEqProofs only [go_sem,reduceCtorEq,rdA,rdM,rdL,rdT,rdE,rdN,↓gTT,↓gFF,↓gTF,↓gFT]
  cases hm:mayS n l fuel with
  | false=>
   rw [hm] at hM
   repeat' (first|(with_reducible refine And.intro ?_ ?_)|(with_reducible refine gs_t ?_ ?_)|(with_reducible refine gs_f ?_ ?_)|(intro _)|((with_reducible apply wCall_any);(· (simp -implicitDefEqProofs only [go_sem,reduceCtorEq,rdA,rdM,rdL,rdT,rdE,rdN,↓gTT,↓gFF,↓gTF,↓gFT]<;>rfl));(· (first|exact hH|exact hM));(· rfl);(· rfl);(· (first|exact Eq.refl true|exact Eq.refl false));(simp -implicitDefEqProofs only [go_sem,reduceCtorEq,rdA,rdM,rdL,rdT,rdE,rdN,↓gTT,↓gFF,↓gTF,↓gFT]))|fail)
  | true=>
   rw [hm] at hM
   rw [Bool.true_and]
   have dl:decide ((16:Int)<(l.length:Int))=decide (16<l.length):=by
    by_cases h:16<l.length
    ·rw [decide_eq_true h];simp;omega
    ·rw [decide_eq_false h];simp;omega
   cases h8:decide (8<n)<;>cases h16:decide (16<l.length)<;>rw [h16] at dl<;>repeat' (first|(with_reducible refine And.intro ?_ ?_)|(with_reducible refine gs_t ?_ ?_)|(with_reducible refine gs_f ?_ ?_)|(intro _)|((with_reducible apply wCall_any);(· (simp -implicitDefEqProofs only [go_sem,reduceCtorEq,rdA,rdM,rdL,rdT,rdE,rdN,↓gTT,↓gFF,↓gTF,↓gFT]<;>rfl));(· (first|exact hH|exact hM));(· rfl);(· rfl);(· (first|exact Eq.refl true|exact Eq.refl false));(simp -implicitDefEqProofs only [h8,dl,Bool.true_or,Bool.false_or,Bool.or_true,Bool.or_false,go_sem,reduceCtorEq,rdA,rdM,rdL,rdT,rdE,rdN,↓gTT,↓gFF,↓gTF,↓gFT]))|fail)
   all_goals first|trivial|simp
theorem Ints_ok (a b:List Int) (ha:a.length≤4611686018427387904) (hb:b.length≤4611686018427387904):VPure FT p13 [.fz a.length none 1 (encI a),.fz b.length none 1 (encI b)] (.bool (decide (a=b))):=by
 refine vpure_of_body (f:=p13) rfl rfl ?_
 by_cases hl:a.length=b.length
 case neg=>
  have d:decide ((a.length:Int)=(b.length:Int))=false:=by simp;omega
  have e:decide (a=b)=false:=decide_eq_false fun h=>hl (by rw [h])
  rw [e]
  simp -implicitDefEqProofs only [d,Bool.not_false,go_sem,reduceCtorEq,rdA,rdM,rdL,rdT,rdE,rdN,↓gTT,↓gFF,↓gTF,↓gFT]
 have d:decide ((a.length:Int)=(b.length:Int))=true:=by simp;omega
 simp -implicitDefEqProofs only [d,Bool.not_true,go_sem,reduceCtorEq,rdA,rdM,rdL,rdT,rdE,rdN,↓gTT,↓gFF,↓gTF,↓gFT]
 refine wLoop_by (fun n s=>∃ i:Nat,i+n=a.length∧At s [(p0,.fz a.length none 1 (encI a)),(p1,.fz b.length none 1 (encI b)),(p5,.int .i64 i)] 0 0 []∧a.take i=b.take i) a.length ?_ ?_
 ·exact ⟨0,by simp,by simp -implicitDefEqProofs only [go_sem,reduceCtorEq,rdA,rdM,rdL,rdT,rdE,rdN,↓gTT,↓gFF,↓gTF,↓gFT],by simp⟩
 ·rintro n ⟨e,nx,w,h⟩ ⟨i,hi,⟨⟨s1,s2,s3,-⟩,rfl,rfl,rfl⟩,hk⟩
  rcases Nat.lt_or_ge i a.length with hlt|hge
  ·obtain ⟨x,hx⟩:=has hlt
   obtain ⟨y,hy⟩:=has (show i<b.length by omega)
   by_cases hxy:x=y
   ·have dd:decide (x=y)=true:=by simpa using hxy
    simp -implicitDefEqProofs only [s1,s2,s3,ltT hlt,encI_g hx,encI_g hy,Nat.mul_one,dd,Bool.not_true,inc64 hlt ha,go_sem,reduceCtorEq,rdA,rdM,rdL,rdT,rdE,rdN,↓gTT,↓gFF,↓gTF,↓gFT]
    refine ⟨⟨by omega,by omega⟩,⟨by omega,by omega⟩,n-1,by omega,i+1,by omega,rfl,?_⟩
    rw [take_snoc hx,take_snoc hy,hk,hxy]
   ·have dd:decide (x=y)=false:=by simpa using hxy
    have e:decide (a=b)=false:=decide_eq_false fun h=>hxy (by rw [h] at hx;rw [hx] at hy;cases hy;rfl)
    rw [e]
    simp -implicitDefEqProofs only [s1,s2,s3,ltT hlt,encI_g hx,encI_g hy,Nat.mul_one,dd,Bool.not_false,go_sem,reduceCtorEq,rdA,rdM,rdL,rdT,rdE,rdN,↓gTT,↓gFF,↓gTF,↓gFT]
    exact ⟨⟨by omega,by omega⟩,by omega,by omega⟩
  ·rw [List.take_of_length_le hge,List.take_of_length_le (by omega)] at hk
   have e:decide (a=b)=true:=by simpa using hk
   simp -implicitDefEqProofs only [s1,s2,s3,ltF hge,e,go_sem,reduceCtorEq,rdA,rdM,rdL,rdT,rdE,rdN,↓gTT,↓gFF,↓gTF,↓gFT]
theorem rgcd_ok (a b:Int) (ha:-1152921504606846976≤a∧a≤1152921504606846976) (hb:-1152921504606846976≤b∧b≤1152921504606846976):VPure FT p107 [.int .i64 a,.int .i64 b] (.int .i64 (Int.gcd a b)):=by
 refine vpure_of_body (f:=p107) rfl rfl ?_
 have ma:=mag_ok a
 have mb:=mag_ok b
 rw [magI_eq (by omega)] at ma mb
 simp -implicitDefEqProofs only [go_sem,reduceCtorEq,rdA,rdM,rdL,rdT,rdE,rdN,↓gTT,↓gFF,↓gTF,↓gFT]
 repeat' (first|(with_reducible refine And.intro ?_ ?_)|(with_reducible refine gs_t ?_ ?_)|(with_reducible refine gs_f ?_ ?_)|(intro _)|((with_reducible apply wCall_any);(· (simp -implicitDefEqProofs only [go_sem,reduceCtorEq,rdA,rdM,rdL,rdT,rdE,rdN,↓gTT,↓gFF,↓gTF,↓gFT]<;>rfl));(· (first|exact ma|exact mb));(· rfl);(· rfl);(· (first|exact Eq.refl true|exact Eq.refl false));(simp -implicitDefEqProofs only [go_sem,reduceCtorEq,rdA,rdM,rdL,rdT,rdE,rdN,↓gTT,↓gFF,↓gTF,↓gFT]))|fail)
 refine wLoop_by (fun n s=>∃ x y:Int,y.natAbs=n∧At s [(p0,.int .i64 x),(p1,.int .i64 y)] 0 0 []∧Int.gcd x y=Int.gcd a b∧(0≤x∧x≤1152921504606846976)∧0≤y∧y≤1152921504606846976) (max b (-b)).natAbs ?_ ?_
 ·refine ⟨max a (-a),max b (-b),rfl,by simp -implicitDefEqProofs only [go_sem,reduceCtorEq,rdA,rdM,rdL,rdT,rdE,rdN,↓gTT,↓gFF,↓gTF,↓gFT],?_,by omega,by omega⟩
  have h:∀ z:Int,(max z (-z)).natAbs=z.natAbs:=fun z=>by omega
  rw [Int.gcd,Int.gcd,h,h]
 ·rintro n ⟨e,nx,w,h⟩ ⟨x,y,hn,⟨⟨s1,s2,-⟩,rfl,rfl,rfl⟩,hg,h1,h2⟩
  by_cases hy:y=0
  ·have d0:decide (y=0)=true:=by simpa using hy
   simp -implicitDefEqProofs only [s1,s2,d0,Bool.not_true,go_sem,reduceCtorEq,rdA,rdM,rdL,rdT,rdE,rdN,↓gTT,↓gFF,↓gTF,↓gFT]
   subst hy
   rw [←hg,Int.gcd_zero_right]
   omega
  ·have d0:decide (y=0)=false:=by simpa using hy
   have hm:=tmod_abs (x:=x) hy
   have hnn:=Int.tmod_nonneg y h1.1
   simp -implicitDefEqProofs only [s1,s2,d0,Bool.not_false,go_sem,reduceCtorEq,rdA,rdM,rdL,rdT,rdE,rdN,↓gTT,↓gFF,↓gTF,↓gFT]
   refine ⟨hy,(x.tmod y).natAbs,by omega,y,_,rfl,⟨rfl,rfl⟩,?_,h2,by omega,by omega⟩
   rw [gcd_tmod];exact hg
def shortV (x:Cons):VV:=.tup [.agg (cC (if oneW x=0 then oneCx x else nilC)),.int .i64 (oneW x)]
set_option maxHeartbeats 4000000 in
theorem Short_ok (x:Cons) (ho:okC x=true):VPure FT p74 [.agg (cC x)] (shortV x):=by
 refine vpure_of_body' (f:=p74) rfl rfl ?_
 obtain ⟨hc,x40,xok⟩:=okC_parts ho
 by_cases hxl:x.t.l=[]
 ·have d0:decide ((x.t.l.length:Int)=0)=true:=by rw [hxl];rfl
  have hW:oneW x=if alwaysB x=true then 2 else 1:=by unfold oneW;rw [hxl];rfl
  have hne:oneW x≠0:=by rw [hW];split<;>decide
  have e:shortV x=.tup [.agg [.int .i64 0,.fz 0 none 2 [],.bool false],.int .i64 (oneW x)]:=by unfold shortV;rw [if_neg hne];rfl
  rw [e,hW]
  by_cases h0:x.t.c=0
  ·have d1:decide (x.t.c=0)=true:=decide_eq_true h0
   have hA:alwaysB x=true:=by unfold alwaysB;rw [d1];rfl
   rw [if_pos hA]
   simp -implicitDefEqProofs only [d0,d1,go_sem,reduceCtorEq,rdA,rdM,rdL,rdT,rdE,rdN,↓gTT,↓gFF,↓gTF,↓gFT]
  ·have d1:decide (x.t.c=0)=false:=decide_eq_false h0
   cases hq:x.eq with
   | true=>
    have hA:alwaysB x=false:=by unfold alwaysB;rw [d1,hq];simp
    rw [hA,if_neg (by simp)]
    simp -implicitDefEqProofs only [d0,d1,hq,Bool.not_true,go_sem,reduceCtorEq,rdA,rdM,rdL,rdT,rdE,rdN,↓gTT,↓gFF,↓gTF,↓gFT]
   | false=>
    by_cases hl:x.t.c<0
    ·have d2:decide (x.t.c<0)=true:=decide_eq_true hl
     have hA:alwaysB x=true:=by unfold alwaysB;rw [d1,hq,d2];rfl
     rw [if_pos hA]
     simp -implicitDefEqProofs only [d0,d1,d2,hq,Bool.not_false,go_sem,reduceCtorEq,rdA,rdM,rdL,rdT,rdE,rdN,↓gTT,↓gFF,↓gTF,↓gFT]
    ·have d2:decide (x.t.c<0)=false:=decide_eq_false hl
     have hA:alwaysB x=false:=by unfold alwaysB;rw [d1,hq,d2];rfl
     rw [hA,if_neg (by simp)]
     simp -implicitDefEqProofs only [d0,d1,d2,hq,Bool.not_false,go_sem,reduceCtorEq,rdA,rdM,rdL,rdT,rdE,rdN,↓gTT,↓gFF,↓gTF,↓gFT]
 have hlen:0<x.t.l.length:=List.length_pos_iff.2 hxl
 have d0:decide ((x.t.l.length:Int)=0)=false:=by simp;omega
 have gp:=gcdL_pos hxl xok
 have gb:=gcdL_bound xok
 simp -implicitDefEqProofs only [d0,go_sem,reduceCtorEq,rdA,rdM,rdL,rdT,rdE,rdN,↓gTT,↓gFF,↓gTF,↓gFT]
 refine wLoop_by (fun n s=>∃ i:Nat,i+n=x.t.l.length∧At s [(p1,.var (cC x)),(p2,.var [.int .i64 0,.nils,.bool false]),(p4,.int .i64 (gcdL (x.t.l.take i))),(p5,.int .i64 i)] 0 0 []) x.t.l.length ?_ ?_
 ·exact ⟨0,by simp,by simp -implicitDefEqProofs only [go_sem,reduceCtorEq,rdA,rdM,rdL,rdT,rdE,rdN,↓gTT,↓gFF,↓gTF,↓gFT];simp [gcdL]⟩
 rintro n ⟨e,nx,w,h⟩ ⟨i,hi,⟨s1,s2,s3,s4,-⟩,rfl,rfl,rfl⟩
 rcases Nat.lt_or_ge i x.t.l.length with hlt|hge
 ·obtain ⟨m,hm⟩:=has hlt
  have hmm:=okM_spec.1 (xok m (List.mem_of_getElem? hm))
  have gbt:=gcdL_bound (l:=x.t.l.take i) fun y hy=>xok y (List.mem_of_mem_take hy)
  have hdv:=rgcd_ok (gcdL (x.t.l.take i)) m.k (by omega) (by omega)
  simp -implicitDefEqProofs only [s1,s2,s3,s4,ltT hlt,encM_g1 hm,encM_len,inc64 hlt (by omega:x.t.l.length≤4611686018427387904),go_sem,reduceCtorEq,rdA,rdM,rdL,rdT,rdE,rdN,↓gTT,↓gFF,↓gTF,↓gFT]
  refine ⟨⟨by omega,by omega⟩,?_⟩
  refine wCall_pp rfl hdv rfl ?_
  simp -implicitDefEqProofs only [inc64 hlt (by omega:x.t.l.length≤4611686018427387904),go_sem,reduceCtorEq,rdA,rdM,rdL,rdT,rdE,rdN,↓gTT,↓gFF,↓gTF,↓gFT]
  refine ⟨n-1,by omega,i+1,by omega,?_,rfl⟩
  rw [take_snoc hm,gcdL_snoc]
 rw [List.take_of_length_le hge] at s3
 obtain ⟨m0,hm0⟩:=has hlen
 have hk0:headK x.t.l=m0.k:=by
  cases hx:x.t.l with
  | nil=>exact absurd hx hxl
  | cons a t=>rw [hx] at hm0;simp at hm0;rw [←hm0];rfl
 have hg0:(encM x.t.l)[Int.toNat 0*2+1]?=some (.int .i64 m0.k):=encM_g1 hm0
 have hup:=up_ok x.t.c (gcdL x.t.l) (by omega) (by omega)
 have hub:=ediv_bound (a:=-x.t.c) (b:=(gcdL x.t.l:Int)) (B:=1099511627776) (by omega) (by omega) (by omega)
 by_cases hbad:x.eq=true∧x.t.c.tmod (gcdL x.t.l)≠0
 ·have hW:oneW x=1:=by unfold oneW;rw [hbad.1,if_neg (by simp [hxl]),if_pos (by simp [hbad.2])]
  have e:shortV x=.tup [.agg [.int .i64 0,.fz 0 none 2 [],.bool false],.int .i64 1]:=by unfold shortV;rw [hW];rfl
  rw [e]
  have d2:decide (x.t.c.tmod (gcdL x.t.l)=0)=false:=decide_eq_false hbad.2
  simp -implicitDefEqProofs only [s1,s2,s3,s4,ltF hge,hbad.1,d2,Bool.not_false,go_sem,reduceCtorEq,rdA,rdM,rdL,rdT,rdE,rdN,↓gTT,↓gFF,↓gTF,↓gFT]
  omega
 have hW:oneW x=0:=by
  unfold oneW
  rw [if_neg (by simp [hxl]),if_neg]
  intro h
  simp only [Bool.and_eq_true,decide_eq_true_eq] at h
  exact hbad h
 have e:shortV x=.tup [.agg (cC (oneCx x)),.int .i64 0]:=by unfold shortV;rw [hW];rfl
 rw [e]
 have three:(x.eq=false∧sgC x=1)∨(x.eq=true∧decide (x.t.c.tmod (gcdL x.t.l)=0)=true∧decide (m0.k<0)=true∧sgC x=-1)∨(x.eq=true∧decide (x.t.c.tmod (gcdL x.t.l)=0)=true∧decide (m0.k<0)=false∧sgC x=1):=by
  cases hq:x.eq with
  | false=>exact .inl ⟨rfl,by unfold sgC;rw [hq];rfl⟩
  | true=>
   have hz:x.t.c.tmod (gcdL x.t.l)=0:=Classical.byContradiction fun h=>hbad ⟨hq,h⟩
   by_cases hn:m0.k<0
   ·exact .inr (.inl ⟨rfl,decide_eq_true hz,decide_eq_true hn,by unfold sgC;rw [hq,hk0,decide_eq_true hn];rfl⟩)
   ·exact .inr (.inr ⟨rfl,decide_eq_true hz,decide_eq_false hn,by unfold sgC;rw [hq,hk0,decide_eq_false hn];rfl⟩)
 have hs1:sgC x=1∨sgC x=-1:=by rcases three with h|h|h<;>omega
 have wC1:IntKind.i64.wrap (sgC x*(-(-x.t.c / (gcdL x.t.l:Int))))=sgC x*(-(-x.t.c / (gcdL x.t.l:Int))):=i64 (by rcases hs1 with h|h<;>rw [h]<;>omega)
 rcases three with ⟨hq,hsg⟩|⟨hq,d2,d3,hsg⟩|⟨hq,d2,d3,hsg⟩
 ·simp -implicitDefEqProofs only [s1,s2,s3,s4,ltF hge,hq,s0eq,hg0,Bool.not_true,go_sem,reduceCtorEq,rdA,rdM,rdL,rdT,rdE,rdN,↓gTT,↓gFF,↓gTF,↓gFT]
  have hw1:IntKind.i64.wrap (1*(-(-x.t.c / (gcdL x.t.l:Int))))=sgC x*(-(-x.t.c / (gcdL x.t.l:Int))):=by rw [←wC1,hsg]
  refine wCall_pp (r:=.int .i64 (-(-x.t.c / (gcdL x.t.l:Int)))) rfl hup rfl ?_
  simp -implicitDefEqProofs only [hw1,go_sem,reduceCtorEq,rdA,rdM,rdL,rdT,rdE,rdN,↓gTT,↓gFF,↓gTF,↓gFT]
  refine wLoop_ownV p7 1 2 (by simp -implicitDefEqProofs only [go_sem,reduceCtorEq,rdA,rdM,rdL,rdT,rdE,rdN,↓gTT,↓gFF,↓gTF,↓gFT];rfl) (by rfl) ?_
  simp -implicitDefEqProofs only [go_sem,reduceCtorEq,rdA,rdM,rdL,rdT,rdE,rdN,↓gTT,↓gFF,↓gTF,↓gFT]
  refine wLoop_dr (fun n s=>∃ i mm:Nat,i+n=x.t.l.length∧At s [(p1,.var (cC x)),(p2,.var [.int .i64 0,.nils,.bool false]),(p4,.int .i64 (gcdL x.t.l)),(p6,.int .i64 (1)),(p7,.var [.int .i64 (sgC x*(-(-x.t.c / (gcdL x.t.l:Int)))),.ow 0 ((x.t.l.take i).map (shM (gcdL x.t.l) (sgC x))).length 2,.bool x.eq]),(p8,.int .i64 i)] (mm+1) 0 [(0,.row (encM ((x.t.l.take i).map (shM (gcdL x.t.l) (sgC x)))))]) x.t.l.length ?_ ?_
  ·exact ⟨0,0,by simp,by simp -implicitDefEqProofs only [go_sem,reduceCtorEq,rdA,rdM,rdL,rdT,rdE,rdN,↓gTT,↓gFF,↓gTF,↓gFT];simp [encM,hq]⟩
  ·clear s1 s2 s3 s4
   rintro n ⟨e,nx,w,h⟩ ⟨i,mm,hi,⟨s1,s2,s3,s4,s5,s6,-⟩,rfl,rfl,rfl⟩
   rcases Nat.lt_or_ge i x.t.l.length with hlt|hge
   ·obtain ⟨m,hm⟩:=has hlt
    have hmm:=okM_spec.1 (xok m (List.mem_of_getElem? hm))
    have ht:=take_snoc hm
    have hml:((x.t.l.take i).map (shM (gcdL x.t.l) (sgC x))).length=i:=by rw [List.length_map,List.length_take];omega
    have hb:=tdiv_bound m.k (gcdL x.t.l) (by omega) (by omega)
    have w2:IntKind.i64.wrap (m.k.tdiv (gcdL x.t.l))=m.k.tdiv (gcdL x.t.l):=i64 (by omega)
    have w1:IntKind.i64.wrap (1*m.k.tdiv (gcdL x.t.l))=(sgC x*m.k).tdiv (gcdL x.t.l):=by
     rw [hsg,i64 (by omega)]<;>simp
    rw [hml] at s5
    simp -implicitDefEqProofs only [s1,s2,s3,s4,s5,s6,ltT hlt,encM_g0 hm,encM_g1 hm,encM_len,hml,w1,w2,inc64 hlt (by omega:x.t.l.length≤4611686018427387904),go_sem,reduceCtorEq,rdA,rdM,rdL,rdT,rdE,rdN,↓gTT,↓gFF,↓gTF,↓gFT]
    refine ⟨⟨by omega,by omega⟩,⟨by omega,by omega⟩,by omega,by omega,n-1,by omega,_,subH_tail (by simp [hget]),i+1,mm+1,by omega,⟨?_,rfl⟩,rfl,?_⟩
    ·rw [ht];simp;omega
    ·rw [ht];simp [encM_app,encM,shM]
   ·rw [List.take_of_length_le hge] at s5
    simp -implicitDefEqProofs only [s1,s2,s3,s4,s5,s6,ltF hge,List.take_of_length_le hge,encM_len,go_sem,reduceCtorEq,rdA,rdM,rdL,rdT,rdE,rdN,↓gTT,↓gFF,↓gTF,↓gFT]
    exact ⟨rfl,rfl,rfl⟩
 ·simp -implicitDefEqProofs only [s1,s2,s3,s4,ltF hge,hq,d2,d3,hg0,Bool.not_true,go_sem,reduceCtorEq,rdA,rdM,rdL,rdT,rdE,rdN,↓gTT,↓gFF,↓gTF,↓gFT]
  refine ⟨by omega,⟨by omega,by omega⟩,?_⟩
  have hw1:IntKind.i64.wrap (-1*(-(-x.t.c / (gcdL x.t.l:Int))))=sgC x*(-(-x.t.c / (gcdL x.t.l:Int))):=by rw [←wC1,hsg]
  refine wCall_pp (r:=.int .i64 (-(-x.t.c / (gcdL x.t.l:Int)))) rfl hup rfl ?_
  simp -implicitDefEqProofs only [hw1,go_sem,reduceCtorEq,rdA,rdM,rdL,rdT,rdE,rdN,↓gTT,↓gFF,↓gTF,↓gFT]
  refine wLoop_ownV p7 1 2 (by simp -implicitDefEqProofs only [go_sem,reduceCtorEq,rdA,rdM,rdL,rdT,rdE,rdN,↓gTT,↓gFF,↓gTF,↓gFT];rfl) (by rfl) ?_
  simp -implicitDefEqProofs only [go_sem,reduceCtorEq,rdA,rdM,rdL,rdT,rdE,rdN,↓gTT,↓gFF,↓gTF,↓gFT]
  refine wLoop_dr (fun n s=>∃ i mm:Nat,i+n=x.t.l.length∧At s [(p1,.var (cC x)),(p2,.var [.int .i64 0,.nils,.bool false]),(p4,.int .i64 (gcdL x.t.l)),(p6,.int .i64 (-1)),(p7,.var [.int .i64 (sgC x*(-(-x.t.c / (gcdL x.t.l:Int)))),.ow 0 ((x.t.l.take i).map (shM (gcdL x.t.l) (sgC x))).length 2,.bool x.eq]),(p8,.int .i64 i)] (mm+1) 0 [(0,.row (encM ((x.t.l.take i).map (shM (gcdL x.t.l) (sgC x)))))]) x.t.l.length ?_ ?_
  ·exact ⟨0,0,by simp,by simp -implicitDefEqProofs only [go_sem,reduceCtorEq,rdA,rdM,rdL,rdT,rdE,rdN,↓gTT,↓gFF,↓gTF,↓gFT];simp [encM,hq]⟩
  ·clear s1 s2 s3 s4
   rintro n ⟨e,nx,w,h⟩ ⟨i,mm,hi,⟨s1,s2,s3,s4,s5,s6,-⟩,rfl,rfl,rfl⟩
   rcases Nat.lt_or_ge i x.t.l.length with hlt|hge
   ·obtain ⟨m,hm⟩:=has hlt
    have hmm:=okM_spec.1 (xok m (List.mem_of_getElem? hm))
    have ht:=take_snoc hm
    have hml:((x.t.l.take i).map (shM (gcdL x.t.l) (sgC x))).length=i:=by rw [List.length_map,List.length_take];omega
    have hb:=tdiv_bound m.k (gcdL x.t.l) (by omega) (by omega)
    have w2:IntKind.i64.wrap (m.k.tdiv (gcdL x.t.l))=m.k.tdiv (gcdL x.t.l):=i64 (by omega)
    have w1:IntKind.i64.wrap (-1*m.k.tdiv (gcdL x.t.l))=(sgC x*m.k).tdiv (gcdL x.t.l):=by
     rw [hsg,i64 (by omega)]<;>rw [Int.neg_mul,Int.neg_mul,Int.one_mul,Int.one_mul,Int.neg_tdiv]
    rw [hml] at s5
    simp -implicitDefEqProofs only [s1,s2,s3,s4,s5,s6,ltT hlt,encM_g0 hm,encM_g1 hm,encM_len,hml,w1,w2,inc64 hlt (by omega:x.t.l.length≤4611686018427387904),go_sem,reduceCtorEq,rdA,rdM,rdL,rdT,rdE,rdN,↓gTT,↓gFF,↓gTF,↓gFT]
    refine ⟨⟨by omega,by omega⟩,⟨by omega,by omega⟩,by omega,by omega,n-1,by omega,_,subH_tail (by simp [hget]),i+1,mm+1,by omega,⟨?_,rfl⟩,rfl,?_⟩
    ·rw [ht];simp;omega
    ·rw [ht];simp [encM_app,encM,shM]
   ·rw [List.take_of_length_le hge] at s5
    simp -implicitDefEqProofs only [s1,s2,s3,s4,s5,s6,ltF hge,List.take_of_length_le hge,encM_len,go_sem,reduceCtorEq,rdA,rdM,rdL,rdT,rdE,rdN,↓gTT,↓gFF,↓gTF,↓gFT]
    exact ⟨rfl,rfl,rfl⟩
 ·simp -implicitDefEqProofs only [s1,s2,s3,s4,ltF hge,hq,d2,d3,hg0,Bool.not_true,go_sem,reduceCtorEq,rdA,rdM,rdL,rdT,rdE,rdN,↓gTT,↓gFF,↓gTF,↓gFT]
  refine ⟨by omega,⟨by omega,by omega⟩,?_⟩
  have hw1:IntKind.i64.wrap (1*(-(-x.t.c / (gcdL x.t.l:Int))))=sgC x*(-(-x.t.c / (gcdL x.t.l:Int))):=by rw [←wC1,hsg]
  refine wCall_pp (r:=.int .i64 (-(-x.t.c / (gcdL x.t.l:Int)))) rfl hup rfl ?_
  simp -implicitDefEqProofs only [hw1,go_sem,reduceCtorEq,rdA,rdM,rdL,rdT,rdE,rdN,↓gTT,↓gFF,↓gTF,↓gFT]
  refine wLoop_ownV p7 1 2 (by simp -implicitDefEqProofs only [go_sem,reduceCtorEq,rdA,rdM,rdL,rdT,rdE,rdN,↓gTT,↓gFF,↓gTF,↓gFT];rfl) (by rfl) ?_
  simp -implicitDefEqProofs only [go_sem,reduceCtorEq,rdA,rdM,rdL,rdT,rdE,rdN,↓gTT,↓gFF,↓gTF,↓gFT]
  refine wLoop_dr (fun n s=>∃ i mm:Nat,i+n=x.t.l.length∧At s [(p1,.var (cC x)),(p2,.var [.int .i64 0,.nils,.bool false]),(p4,.int .i64 (gcdL x.t.l)),(p6,.int .i64 (1)),(p7,.var [.int .i64 (sgC x*(-(-x.t.c / (gcdL x.t.l:Int)))),.ow 0 ((x.t.l.take i).map (shM (gcdL x.t.l) (sgC x))).length 2,.bool x.eq]),(p8,.int .i64 i)] (mm+1) 0 [(0,.row (encM ((x.t.l.take i).map (shM (gcdL x.t.l) (sgC x)))))]) x.t.l.length ?_ ?_
  ·exact ⟨0,0,by simp,by simp -implicitDefEqProofs only [go_sem,reduceCtorEq,rdA,rdM,rdL,rdT,rdE,rdN,↓gTT,↓gFF,↓gTF,↓gFT];simp [encM,hq]⟩
  ·clear s1 s2 s3 s4
   rintro n ⟨e,nx,w,h⟩ ⟨i,mm,hi,⟨s1,s2,s3,s4,s5,s6,-⟩,rfl,rfl,rfl⟩
   rcases Nat.lt_or_ge i x.t.l.length with hlt|hge
   ·obtain ⟨m,hm⟩:=has hlt
    have hmm:=okM_spec.1 (xok m (List.mem_of_getElem? hm))
    have ht:=take_snoc hm
    have hml:((x.t.l.take i).map (shM (gcdL x.t.l) (sgC x))).length=i:=by rw [List.length_map,List.length_take];omega
    have hb:=tdiv_bound m.k (gcdL x.t.l) (by omega) (by omega)
    have w2:IntKind.i64.wrap (m.k.tdiv (gcdL x.t.l))=m.k.tdiv (gcdL x.t.l):=i64 (by omega)
    have w1:IntKind.i64.wrap (1*m.k.tdiv (gcdL x.t.l))=(sgC x*m.k).tdiv (gcdL x.t.l):=by
     rw [hsg,i64 (by omega)]<;>simp
    rw [hml] at s5
    simp -implicitDefEqProofs only [s1,s2,s3,s4,s5,s6,ltT hlt,encM_g0 hm,encM_g1 hm,encM_len,hml,w1,w2,inc64 hlt (by omega:x.t.l.length≤4611686018427387904),go_sem,reduceCtorEq,rdA,rdM,rdL,rdT,rdE,rdN,↓gTT,↓gFF,↓gTF,↓gFT]
    refine ⟨⟨by omega,by omega⟩,⟨by omega,by omega⟩,by omega,by omega,n-1,by omega,_,subH_tail (by simp [hget]),i+1,mm+1,by omega,⟨?_,rfl⟩,rfl,?_⟩
    ·rw [ht];simp;omega
    ·rw [ht];simp [encM_app,encM,shM]
   ·rw [List.take_of_length_le hge] at s5
    simp -implicitDefEqProofs only [s1,s2,s3,s4,s5,s6,ltF hge,List.take_of_length_le hge,encM_len,go_sem,reduceCtorEq,rdA,rdM,rdL,rdT,rdE,rdN,↓gTT,↓gFF,↓gTF,↓gFT]
    exact ⟨rfl,rfl,rfl⟩
theorem keepTg_ok (c:Int) (l:List Mono) (d:Int) (m:List Mono) (hl:l.length≤1000000) (hm:m.length≤1000000):
 VPure FT p20 [.agg [.int .i64 c,.fz l.length none 2 (encM l)],.agg [.int .i64 d,.fz m.length none 2 (encM m)]] (.bool (decide (c=d)&&monoB l m)):=by
 refine vpure_of_body (f:=p20) rfl rfl ?_
 by_cases hcd:c=d
 case neg=>
  have d1:decide (c=d)=false:=decide_eq_false hcd
  simp -implicitDefEqProofs only [d1,Bool.false_and,Bool.not_false,go_sem,reduceCtorEq,rdA,rdM,rdL,rdT,rdE,rdN,↓gTT,↓gFF,↓gTF,↓gFT]
 have d1:decide (c=d)=true:=decide_eq_true hcd
 by_cases hlm:l.length=m.length
 case neg=>
  have d2:decide ((l.length:Int)=(m.length:Int))=false:=decide_eq_false (by omega)
  simp -implicitDefEqProofs only [d1,d2,monoB_len hlm,Bool.and_false,Bool.not_true,Bool.not_false,go_sem,reduceCtorEq,rdA,rdM,rdL,rdT,rdE,rdN,↓gTT,↓gFF,↓gTF,↓gFT]
 have d2:decide ((l.length:Int)=(m.length:Int))=true:=decide_eq_true (by omega)
 simp -implicitDefEqProofs only [d1,d2,Bool.true_and,Bool.not_true,go_sem,reduceCtorEq,rdA,rdM,rdL,rdT,rdE,rdN,↓gTT,↓gFF,↓gTF,↓gFT]
 refine wLoop_by (fun n s=>∃ i:Nat,i+n=l.length∧At s [(p2,.var [.int .i64 c,.fz l.length none 2 (encM l)]),(p3,.var [.int .i64 d,.fz m.length none 2 (encM m)]),(p5,.int .i64 i)] 0 0 []∧monoB l m=monoB (l.drop i) (m.drop i)) l.length ?_ ?_
 ·exact ⟨0,by simp,by simp -implicitDefEqProofs only [go_sem,reduceCtorEq,rdA,rdM,rdL,rdT,rdE,rdN,↓gTT,↓gFF,↓gTF,↓gFT],by simp⟩
 ·rintro n ⟨e,nx,w,h⟩ ⟨i,hi,⟨⟨s1,s2,s3,-⟩,rfl,rfl,rfl⟩,hk⟩
  rcases Nat.lt_or_ge i l.length with hlt|hge
  ·obtain ⟨x,hx⟩:=has hlt
   obtain ⟨y,hy⟩:=has (l:=m) (i:=i) (by omega)
   rw [drop_cons hx,drop_cons hy,monoB] at hk
   have f1:(true != true)=false:=rfl
   have f2:(true != false)=true:=rfl
   by_cases h1:x.v=y.v
   ·have e1:decide (x.v=y.v)=true:=decide_eq_true h1
    by_cases h2:x.k=y.k
    ·have e2:decide (x.k=y.k)=true:=decide_eq_true h2
     rw [e1,e2] at hk
     simp -implicitDefEqProofs only [s1,s2,s3,ltT hlt,encM_cut hx,encM_cut hy,encM_len,e1,e2,f1,f2,inc64 hlt (by omega:l.length≤4611686018427387904),go_sem,reduceCtorEq,rdA,rdM,rdL,rdT,rdE,rdN,↓gTT,↓gFF,↓gTF,↓gFT]
     refine ⟨⟨by omega,by omega⟩,by omega,⟨by omega,by omega⟩,by omega,n-1,by omega,i+1,by omega,rfl,?_⟩
     rw [hk];rfl
    ·have e2:decide (x.k=y.k)=false:=decide_eq_false h2
     rw [e1,e2] at hk
     simp only [Bool.true_and,Bool.false_and] at hk
     simp -implicitDefEqProofs only [s1,s2,s3,ltT hlt,encM_cut hx,encM_cut hy,encM_len,e1,e2,f1,f2,hk,inc64 hlt (by omega:l.length≤4611686018427387904),go_sem,reduceCtorEq,rdA,rdM,rdL,rdT,rdE,rdN,↓gTT,↓gFF,↓gTF,↓gFT]
     exact ⟨⟨by omega,by omega⟩,by omega,⟨by omega,by omega⟩,by omega⟩
   ·have e1:decide (x.v=y.v)=false:=decide_eq_false h1
    rw [e1] at hk
    simp only [Bool.false_and] at hk
    simp -implicitDefEqProofs only [s1,s2,s3,ltT hlt,encM_cut hx,encM_cut hy,encM_len,e1,f1,f2,hk,inc64 hlt (by omega:l.length≤4611686018427387904),go_sem,reduceCtorEq,rdA,rdM,rdL,rdT,rdE,rdN,↓gTT,↓gFF,↓gTF,↓gFT]
    exact ⟨⟨by omega,by omega⟩,by omega,⟨by omega,by omega⟩,by omega⟩
  ·rw [List.drop_eq_nil_of_le hge,List.drop_eq_nil_of_le (by omega)] at hk
   simp -implicitDefEqProofs only [s1,s2,s3,ltF hge,hk,monoB,go_sem,reduceCtorEq,rdA,rdM,rdL,rdT,rdE,rdN,↓gTT,↓gFF,↓gTF,↓gFT]
theorem there_ok (l:List Cons) (x:Cons) (hs:smallC l) (hx:x.t.l.length≤1000000):VPure FT p75 [.fz l.length none 3 (encC l),.agg (cC x)] (.bool (l.any fun y=>consB y x)):=by
 have hll:=hs.len
 refine vpure_of_body (f:=p75) rfl rfl ?_
 simp -implicitDefEqProofs only [go_sem,reduceCtorEq,rdA,rdM,rdL,rdT,rdE,rdN,↓gTT,↓gFF,↓gTF,↓gFT]
 refine wLoop_by (fun n s=>∃ i:Nat,i+n=l.length∧At s [(p0,.fz l.length none 3 (encC l)),(p3,.var (cC x)),(p5,.int .i64 i)] 0 0 []∧(l.any fun y=>consB y x)=((l.drop i).any fun y=>consB y x)) l.length ?_ ?_
 ·exact ⟨0,by simp,by simp -implicitDefEqProofs only [go_sem,reduceCtorEq,rdA,rdM,rdL,rdT,rdE,rdN,↓gTT,↓gFF,↓gTF,↓gFT],by simp⟩
 ·rintro n ⟨e,nx,w,h⟩ ⟨i,hi,⟨⟨s1,s2,s3,-⟩,rfl,rfl,rfl⟩,hk⟩
  rcases Nat.lt_or_ge i l.length with hlt|hge
  ·obtain ⟨y,hy⟩:=has hlt
   have hyl:=hs.all y (List.mem_of_getElem? hy)
   have hT:=keepTg_ok y.t.c y.t.l x.t.c x.t.l hyl hx
   rw [drop_cons hy,List.any_cons] at hk
   simp -implicitDefEqProofs only [s1,s2,s3,ltT hlt,encC_g2 hy,encC_t hy,encC_len,inc64 hlt (by omega:l.length≤4611686018427387904),go_sem,reduceCtorEq,rdA,rdM,rdL,rdT,rdE,rdN,↓gTT,↓gFF,↓gTF,↓gFT]
   refine ⟨⟨by omega,by omega⟩,?_⟩
   have f3:(false != false)=false:=rfl
   have f4:(false != true)=true:=rfl
   cases hq:(y.eq == x.eq) with
   | false=>
    have hc:consB y x=false:=by unfold consB;rw [hq];rfl
    rw [hc,Bool.false_or] at hk
    simp -implicitDefEqProofs only [f3,inc64 hlt (by omega:l.length≤4611686018427387904),go_sem,reduceCtorEq,rdA,rdM,rdL,rdT,rdE,rdN,↓gTT,↓gFF,↓gTF,↓gFT]
    exact ⟨n-1,by omega,i+1,by omega,rfl,hk⟩
   | true=>
    have hc:consB y x=(decide (y.t.c=x.t.c)&&monoB y.t.l x.t.l):=by unfold consB;rw [hq,Bool.true_and]
    rw [hc] at hk
    simp -implicitDefEqProofs only [f4,encC_t hy,encC_len,inc64 hlt (by omega:l.length≤4611686018427387904),go_sem,reduceCtorEq,rdA,rdM,rdL,rdT,rdE,rdN,↓gTT,↓gFF,↓gTF,↓gFT]
    refine ⟨⟨by omega,by omega⟩,by omega,?_⟩
    refine wCall_pp (by simp [pureL,pureV]) hT rfl ?_
    cases hb:(decide (y.t.c=x.t.c)&&monoB y.t.l x.t.l) with
    | true=>
     rw [hb,Bool.true_or] at hk
     simp -implicitDefEqProofs only [hk,inc64 hlt (by omega:l.length≤4611686018427387904),go_sem,reduceCtorEq,rdA,rdM,rdL,rdT,rdE,rdN,↓gTT,↓gFF,↓gTF,↓gFT]
    | false=>
     rw [hb,Bool.false_or] at hk
     simp -implicitDefEqProofs only [inc64 hlt (by omega:l.length≤4611686018427387904),go_sem,reduceCtorEq,rdA,rdM,rdL,rdT,rdE,rdN,↓gTT,↓gFF,↓gTF,↓gFT]
     exact ⟨n-1,by omega,i+1,by omega,rfl,hk⟩
  ·rw [List.drop_eq_nil_of_le hge] at hk
   simp -implicitDefEqProofs only [s1,s2,s3,ltF hge,hk,List.any_nil,go_sem,reduceCtorEq,rdA,rdM,rdL,rdT,rdE,rdN,↓gTT,↓gFF,↓gTF,↓gFT]
theorem rhas_ok (l:List Cons) (v:Int) (hs:smallC l):VPure FT p43 [.fz l.length none 3 (encC l),.int .i64 v] (.bool (l.any fun x=>decide (kOf x.t.l v≠0))):=by
 have hll:=hs.len
 refine vpure_of_body (f:=p43) rfl rfl ?_
 simp -implicitDefEqProofs only [go_sem,reduceCtorEq,rdA,rdM,rdL,rdT,rdE,rdN,↓gTT,↓gFF,↓gTF,↓gFT]
 refine wLoop_by (fun n s=>∃ i:Nat,i+n=l.length∧At s [(p0,.fz l.length none 3 (encC l)),(p1,.int .i64 v),(p5,.int .i64 i)] 0 0 []∧(l.any fun x=>decide (kOf x.t.l v≠0))=((l.drop i).any fun x=>decide (kOf x.t.l v≠0))) l.length ?_ ?_
 ·exact ⟨0,by simp,by simp -implicitDefEqProofs only [go_sem,reduceCtorEq,rdA,rdM,rdL,rdT,rdE,rdN,↓gTT,↓gFF,↓gTF,↓gFT],by simp⟩
 ·rintro n ⟨e,nx,w,h⟩ ⟨i,hi,⟨⟨s1,s2,s3,-⟩,rfl,rfl,rfl⟩,hk⟩
  rcases Nat.lt_or_ge i l.length with hlt|hge
  ·obtain ⟨y,hy⟩:=has hlt
   have hyl:=hs.all y (List.mem_of_getElem? hy)
   have hK:=Kr_ok y.t.c y.t.l v (by omega)
   rw [drop_cons hy,List.any_cons] at hk
   simp -implicitDefEqProofs only [s1,s2,s3,ltT hlt,encC_t hy,encC_len,inc64 hlt (by omega:l.length≤4611686018427387904),go_sem,reduceCtorEq,rdA,rdM,rdL,rdT,rdE,rdN,↓gTT,↓gFF,↓gTF,↓gFT]
   refine ⟨⟨by omega,by omega⟩,by omega,?_⟩
   refine wCall_pp (by simp [pureL,pureV]) hK rfl ?_
   by_cases h0:kOf y.t.l v=0
   ·have e1:decide (kOf y.t.l v=0)=true:=decide_eq_true h0
    rw [show decide (kOf y.t.l v≠0)=false from decide_eq_false (by simp [h0]),Bool.false_or] at hk
    simp -implicitDefEqProofs only [e1,Bool.not_true,inc64 hlt (by omega:l.length≤4611686018427387904),go_sem,reduceCtorEq,rdA,rdM,rdL,rdT,rdE,rdN,↓gTT,↓gFF,↓gTF,↓gFT]
    exact ⟨n-1,by omega,i+1,by omega,rfl,hk⟩
   ·have e1:decide (kOf y.t.l v=0)=false:=decide_eq_false h0
    rw [show decide (kOf y.t.l v≠0)=true from decide_eq_true h0,Bool.true_or] at hk
    simp -implicitDefEqProofs only [e1,hk,Bool.not_false,go_sem,reduceCtorEq,rdA,rdM,rdL,rdT,rdE,rdN,↓gTT,↓gFF,↓gTF,↓gFT]
  ·rw [List.drop_eq_nil_of_le hge] at hk
   simp -implicitDefEqProofs only [s1,s2,s3,ltF hge,hk,List.any_nil,go_sem,reduceCtorEq,rdA,rdM,rdL,rdT,rdE,rdN,↓gTT,↓gFF,↓gTF,↓gFT]
theorem rBox_ok (n:Nat) (hn:n≤1000000):VPure FT p9 [.int .i64 n] (vCs (boxL n)):=by
 refine vpure_of_body' (f:=p9) rfl rfl ?_
 simp -implicitDefEqProofs only [go_sem,reduceCtorEq,rdA,rdM,rdL,rdT,rdE,rdN,↓gTT,↓gFF,↓gTF,↓gFT]
 refine wLoop_own p3 3 (by simp -implicitDefEqProofs only [go_sem,reduceCtorEq,rdA,rdM,rdL,rdT,rdE,rdN,↓gTT,↓gFF,↓gTF,↓gFT]) ?_
 simp -implicitDefEqProofs only [go_sem,reduceCtorEq,rdA,rdM,rdL,rdT,rdE,rdN,↓gTT,↓gFF,↓gTF,↓gFT]
 refine wLoop_dr (fun k s=>∃ i m:Nat,i+k=n∧At s [(p0,.int .i64 n),(p3,.ow 0 (boxL i).length 3),(p4,.int .i64 i)] (m+1) 0 [(0,.row (encC (boxL i)))]) n ?_ ?_
 ·exact ⟨0,0,by simp,by simp -implicitDefEqProofs only [go_sem,reduceCtorEq,rdA,rdM,rdL,rdT,rdE,rdN,↓gTT,↓gFF,↓gTF,↓gFT];simp [encC,boxL]⟩
 ·rintro k ⟨e,nx,w,h⟩ ⟨i,m,hi,⟨s1,s2,s3,-⟩,rfl,rfl,rfl⟩
  rcases Nat.lt_or_ge i n with hlt|hge
  ·have hbl:=boxL_len i
   have k1:(m=m+1)=False:=by simp
   have k2:(m+1=m)=False:=by simp
   have k3:(0=m+1)=False:=by simp
   have k4:(m=m+2)=False:=by simp
   have k5:(m+2=m)=False:=by simp
   simp -implicitDefEqProofs only [s1,s2,s3,ltT hlt,encC_len,k1,k2,k3,k4,k5,inc64 hlt (by omega:n≤4611686018427387904),go_sem,reduceCtorEq,rdA,rdM,rdL,rdT,rdE,rdN,↓gTT,↓gFF,↓gTF,↓gFT]
   refine ⟨by omega,k-1,by omega,[(0,.row (encC (boxL i)++encC (boxX i)))],?_,i+1,m+3,by omega,⟨by rw [boxL];simp [boxX],rfl⟩,rfl,by rw [boxL,encC_app]⟩
   exact subH_tail (by simp [hget])
  ·have hin:i=n:=by omega
   subst hin
   simp -implicitDefEqProofs only [s1,s2,s3,ltF hge,vCs,encC_len,go_sem,reduceCtorEq,rdA,rdM,rdL,rdT,rdE,rdN,↓gTT,↓gFF,↓gTF,↓gFT]
def rAllV (l:List Cons):VV:=.tup [vCs (allL l),.int .i64 (allW l)]
theorem rAll_ok (l:List Cons) (hl:l.length≤100000) (hok:l.all okC=true):VPure FT p39 [.fz l.length none 3 (encC l)] (rAllV l):=by
 have h40:∀ x∈l,x.t.l.length≤40:=fun x hx=>(okC_parts (List.all_eq_true.1 hok x hx)).2.1
 refine vpure_of_body' (f:=p39) rfl rfl ?_
 simp -implicitDefEqProofs only [go_sem,reduceCtorEq,rdA,rdM,rdL,rdT,rdE,rdN,↓gTT,↓gFF,↓gTF,↓gFT]
 refine wLoop_own p4 3 (by simp -implicitDefEqProofs only [go_sem,reduceCtorEq,rdA,rdM,rdL,rdT,rdE,rdN,↓gTT,↓gFF,↓gTF,↓gFT]) ?_
 simp -implicitDefEqProofs only [go_sem,reduceCtorEq,rdA,rdM,rdL,rdT,rdE,rdN,↓gTT,↓gFF,↓gTF,↓gFT]
 refine wLoop_dr (fun n s=>∃ i m:Nat,i+n=l.length∧At s [(p0,.fz l.length none 3 (encC l)),(p4,.ow 0 (allS (l.take i)).length 3),(p5,.int .i64 i)] (m+1) 0 [(0,.row (encC (allS (l.take i))))]∧neverB (l.take i)=false) l.length ?_ ?_
 ·exact ⟨0,0,by simp,by simp -implicitDefEqProofs only [go_sem,reduceCtorEq,rdA,rdM,rdL,rdT,rdE,rdN,↓gTT,↓gFF,↓gTF,↓gFT];simp [encC,allS],rfl⟩
 ·rintro n ⟨e,nx,w,h⟩ ⟨i,m,hi,⟨⟨s1,s2,s3,-⟩,rfl,rfl,rfl⟩,hnb⟩
  rcases Nat.lt_or_ge i l.length with hlt|hge
  ·obtain ⟨x,hx⟩:=has hlt
   have hxm:=List.mem_of_getElem? hx
   have hxo:=List.all_eq_true.1 hok x hxm
   have ht:=take_snoc hx
   have hO:=Short_ok x hxo
   have hal:=allS_len (l.take i)
   have hal2:(l.take i).length≤i:=List.length_take_le _ _
   have hsm:smallC (allS (l.take i)):=⟨by omega,fun y hy=>by have:=allS_small (l.take i) (fun z hz=>h40 z (List.mem_of_mem_take hz)) y hy;omega⟩
   have hnv:neverB (l.take (i+1))=(neverB (l.take i)||decide (oneW x=1)):=by rw [ht];simp [neverB,List.any_append]
   have has:allS (l.take (i+1))=addSx (allS (l.take i)) x:=by rw [ht,allS_snoc]
   have hC:=there_ok (allS (l.take i)) (oneCx x) hsm (by rw [oneC_len];have:=h40 x hxm;omega)
   simp -implicitDefEqProofs only [s1,s2,s3,ltT hlt,encC_cut hx,encC_len,inc64 hlt (by omega:l.length≤4611686018427387904),go_sem,reduceCtorEq,rdA,rdM,rdL,rdT,rdE,rdN,↓gTT,↓gFF,↓gTF,↓gFT]
   refine ⟨⟨by omega,by omega⟩,by omega,?_⟩
   have q1:decide ((0:Int)=1)=false:=rfl
   have q2:decide ((0:Int)=2)=false:=rfl
   have q3:decide ((1:Int)=1)=true:=rfl
   have q4:decide ((2:Int)=1)=false:=rfl
   have q5:decide ((2:Int)=2)=true:=rfl
   rcases oneW_cases x with hw|hw|hw
   ·have e:shortV x=.tup [.agg (cC (oneCx x)),.int .i64 0]:=by unfold shortV;rw [hw];rfl
    rw [e] at hO
    have hn2:neverB (l.take (i+1))=false:=by rw [hnv,hw,hnb];rfl
    refine wCall_pp (r:=.tup [.agg (cC (oneCx x)),.int .i64 0]) (by simp [pureL,pureV]) hO rfl ?_
    simp -implicitDefEqProofs only [q1,q2,go_sem,reduceCtorEq,rdA,rdM,rdL,rdT,rdE,rdN,↓gTT,↓gFF,↓gTF,↓gFT]
    refine wCall_any (args':=[.fz (allS (l.take i)).length none 3 (encC (allS (l.take i))),.agg (cC (oneCx x))]) (b:=true) (by simp -implicitDefEqProofs only [encC_len,go_sem,reduceCtorEq,rdA,rdM,rdL,rdT,rdE,rdN,↓gTT,↓gFF,↓gTF,↓gFT]) hC rfl rfl rfl ?_
    cases hin:(allS (l.take i)).any (fun y=>consB y (oneCx x)) with
    | true=>
     have ha2:addSx (allS (l.take i)) x=allS (l.take i):=by unfold addSx;rw [if_pos hw,if_pos hin]
     simp -implicitDefEqProofs only [inc64 hlt (by omega:l.length≤4611686018427387904),go_sem,reduceCtorEq,rdA,rdM,rdL,rdT,rdE,rdN,↓gTT,↓gFF,↓gTF,↓gFT]
     exact ⟨n-1,by omega,_,subH_refl _,i+1,m,by omega,⟨⟨by rw [has,ha2],rfl⟩,rfl,by rw [has,ha2]⟩,hn2⟩
    | false=>
     have ha2:addSx (allS (l.take i)) x=allS (l.take i)++[oneCx x]:=by unfold addSx;rw [if_pos hw,if_neg (by rw [hin];simp)]
     simp -implicitDefEqProofs only [encC_len,inc64 hlt (by omega:l.length≤4611686018427387904),go_sem,reduceCtorEq,rdA,rdM,rdL,rdT,rdE,rdN,↓gTT,↓gFF,↓gTF,↓gFT]
     exact ⟨by omega,n-1,by omega,[(0,.row (encC (allS (l.take i))++cC (oneCx x)))],subH_tail (by simp [hget]),i+1,m+1,by omega,⟨⟨by rw [has,ha2];simp,rfl⟩,rfl,by rw [has,ha2];simp [encC_app,encC];rfl⟩,hn2⟩
   ·have e:shortV x=.tup [.agg [.int .i64 0,.fz 0 none 2 [],.bool false],.int .i64 1]:=by unfold shortV;rw [hw];rfl
    rw [e] at hO
    have hn2:neverB l=true:=by
     unfold neverB;rw [List.any_eq_true];exact ⟨x,hxm,by rw [hw];rfl⟩
    have hW:allW l=1:=by unfold allW;rw [if_pos hn2]
    have e2:rAllV l=.tup [.fz 0 none 3 [],.int .i64 1]:=by unfold rAllV allL;rw [hW,if_neg (by decide)];rfl
    rw [e2]
    refine wCall_pp (r:=.tup [.agg [.int .i64 0,.fz 0 none 2 [],.bool false],.int .i64 1]) (by simp [pureL,pureV]) hO (by simp [pureL,pureV]) ?_
    simp -implicitDefEqProofs only [q3,go_sem,reduceCtorEq,rdA,rdM,rdL,rdT,rdE,rdN,↓gTT,↓gFF,↓gTF,↓gFT]
   ·have e:shortV x=.tup [.agg [.int .i64 0,.fz 0 none 2 [],.bool false],.int .i64 2]:=by unfold shortV;rw [hw];rfl
    rw [e] at hO
    have hn2:neverB (l.take (i+1))=false:=by rw [hnv,hw,hnb];rfl
    have ha2:addSx (allS (l.take i)) x=allS (l.take i):=by unfold addSx;rw [if_neg (by omega)]
    refine wCall_pp (r:=.tup [.agg [.int .i64 0,.fz 0 none 2 [],.bool false],.int .i64 2]) (by simp [pureL,pureV]) hO (by simp [pureL,pureV]) ?_
    simp -implicitDefEqProofs only [q4,q5,inc64 hlt (by omega:l.length≤4611686018427387904),go_sem,reduceCtorEq,rdA,rdM,rdL,rdT,rdE,rdN,↓gTT,↓gFF,↓gTF,↓gFT]
    exact ⟨n-1,by omega,_,fun k o h=>h,i+1,m,by omega,⟨⟨by rw [has,ha2],rfl⟩,rfl,by rw [has,ha2]⟩,hn2⟩
  ·rw [List.take_of_length_le hge] at s2 hnb
   have hbl:=allS_len l
   cases hal:(allS l).isEmpty with
   | true=>
    have e0:allS l=[]:=List.isEmpty_iff.1 hal
    have hW:allW l=2:=by unfold allW;rw [hnb,if_neg (by simp),hal,if_pos rfl]
    have e2:rAllV l=.tup [.fz 0 none 3 [],.int .i64 2]:=by unfold rAllV allL;rw [hW,if_neg (by decide)];rfl
    rw [e2]
    rw [e0] at s2
    simp only [s1,s2,s3,ltF hge,List.take_of_length_le hge,e0,List.length_nil,s0eq,show decide (((0:Nat):Int)=0)=true from rfl,show (encC []).length=0 from rfl,go_sem,reduceCtorEq,rdA,rdM,rdL,rdT,rdE,rdN,↓gTT,↓gFF,↓gTF,↓gFT]
   | false=>
    have hne:allS l≠[]:=fun h=>by rw [h] at hal;cases hal
    have hpos:0<(allS l).length:=List.length_pos_iff.2 hne
    have hW:allW l=0:=by unfold allW;rw [hnb,if_neg (by simp),hal,if_neg (by simp)]
    have e2:rAllV l=.tup [.fz (allS l).length none 3 (encC (allS l)),.int .i64 0]:=by unfold rAllV allL;rw [hW,if_pos rfl];rfl
    rw [e2]
    have d0:decide (((allS l).length:Int)=0)=false:=decide_eq_false (by omega)
    simp -implicitDefEqProofs only [s1,s2,s3,ltF hge,List.take_of_length_le hge,d0,encC_len,go_sem,reduceCtorEq,rdA,rdM,rdL,rdT,rdE,rdN,↓gTT,↓gFF,↓gTF,↓gFT]
def holdX (vals:List Int) (x:Cons):Prop:=if x.eq=true then valF x.t.c (kOf x.t.l) vals=0 else valF x.t.c (kOf x.t.l) vals≤0
def holdL (vals:List Int) (l:List Cons):Prop:=∀ x∈l,holdX vals x
def in32 (vals:List Int):Prop:=vals.any outB=false
theorem in32_set {vals:List Int} (h:in32 vals) {i:Nat} {x:Int} (hx:-2147483648≤x∧x≤2147483647):in32 (vals.set i x):=by
 unfold in32
 rw [List.any_eq_false]
 intro y hy
 rcases List.mem_or_eq_of_mem_set hy with hy|rfl
 ·exact List.any_eq_false.1 h y hy
 ·simp [outB];omega
theorem valF_scale (c k:Int) (f:Int→Int) (vals:List Int):valF (c*k) (fun w=>f w*k) vals=valF c f vals*k:=by
 unfold valF
 have:(fun w=>f w*k*valOf vals w)=(fun w=>(f w*valOf vals w)*k):=by funext w;rw [Int.mul_right_comm]
 rw [this,sumW_mul,Int.add_mul]
theorem valF_add (c d:Int) (f g:Int→Int) (vals:List Int):valF (c+d) (fun w=>f w+g w) vals=valF c f vals+valF d g vals:=by
 unfold valF
 have:(fun w=>(f w+g w)*valOf vals w)=(fun w=>f w*valOf vals w+g w*valOf vals w):=by funext w;rw [Int.add_mul]
 rw [this,sumW_add];omega
theorem valF_congr {c:Int} {f g:Int→Int} (h:∀ w,f w=g w) (vals:List Int):valF c f vals=valF c g vals:=by
 have:f=g:=funext h
 rw [this]
theorem valF_split (c:Int) (f:Int→Int) (vals:List Int) {v:Int} (hv:0≤v∧v<40):valF c f vals=valF c (fun w=>if w=v then 0 else f w) vals+f v*valOf vals v:=by
 unfold valF
 rw [sumW_split f vals hv]
 show _=c+sumW (fun w=>(if w=v then 0 else f w)*valOf vals w) 40+_
 omega
theorem ceil_iff {g c S:Int} (hg:0<g):c+g*S≤0↔-(-c / g)+S≤0:=by
 have h1:=Int.emod_add_mul_ediv (-c) g
 have h2:=Int.emod_nonneg (-c) (show g≠0 by omega)
 have h3:=Int.emod_lt_of_pos (-c) hg
 constructor
 ·intro h
  have:S≤-c / g:=by
   apply Int.le_ediv_of_mul_le hg
   rw [Int.mul_comm];omega
  omega
 ·intro h
  have:S≤-c / g:=by omega
  have:=Int.mul_le_mul_of_nonneg_left this (Int.le_of_lt hg)
  omega
theorem gcd_dvd_kOf {l:List Mono} (w:Int):(gcdL l:Int) ∣ kOf l w:=by
 by_cases h:kOf l w=0
 ·rw [h];exact Int.dvd_zero _
 ·have key:∀ l:List Mono,kOf l w≠0→∃ m∈l,m.k=kOf l w:=by
   intro l
   induction l with
   | nil=>intro h;exact absurd rfl h
   | cons m l ih=>
    intro h
    rw [kOf] at h ⊢
    by_cases hm:m.v=w
    ·rw [if_pos hm];exact ⟨m,List.mem_cons_self,rfl⟩
    ·rw [if_neg hm] at h ⊢
     obtain ⟨z,h1,h2⟩:=ih h
     exact ⟨z,List.mem_cons_of_mem _ h1,h2⟩
  obtain ⟨m,h1,h2⟩:=key l h
  rw [←h2];exact gcd_dvd h1
theorem one_kOf {n:Nat} {x:Cons} (hg:goodX n x) (hne:x.t.l≠[]) (w:Int):kOf x.t.l w=kOf (oneCx x).t.l w*((gcdL x.t.l:Int)*sgC x):=by
 have gp:(0:Int)<gcdL x.t.l:=by have:=gcdL_pos hne (okC_parts hg.1).2.2;omega
 have h1:=(tdiv_exact gp (gcd_dvd_kOf (l:=x.t.l) w) (sgC_cases x)).1
 simp only [oneCx]
 rw [kOf_sh,←Int.mul_assoc,h1]
 rcases sgC_cases x with e|e<;>rw [e]<;>omega
theorem one_val {n:Nat} {x:Cons} (hg:goodX n x) (hne:x.t.l≠[]) (vals:List Int):sumW (fun w=>kOf x.t.l w*valOf vals w) 40=sumW (fun w=>kOf (oneCx x).t.l w*valOf vals w) 40*((gcdL x.t.l:Int)*sgC x):=by
 rw [←sumW_mul]
 refine sumW_congr 40 fun w _ _=>?_
 rw [one_kOf hg hne w,Int.mul_right_comm]
theorem holdX_one {n:Nat} {x:Cons} (hg:goodX n x) (hw:oneW x=0) (vals:List Int):holdX vals (oneCx x)↔holdX vals x:=by
 have hne:=oneW_ne hw
 have gp:(0:Int)<gcdL x.t.l:=by have:=gcdL_pos hne (okC_parts hg.1).2.2;omega
 have hv:=one_val hg hne vals
 have hwe:¬ ((x.eq&&decide (x.t.c.tmod (gcdL x.t.l)≠0))=true):=by
  intro h
  unfold oneW at hw
  rw [if_neg (by simp [hne]),if_pos h] at hw
  cases hw
 unfold holdX valF
 rw [hv]
 show (if x.eq=true then sgC x*(-(-x.t.c / (gcdL x.t.l:Int)))+sumW (fun w=>kOf (oneCx x).t.l w*valOf vals w) 40=0 else sgC x*(-(-x.t.c / (gcdL x.t.l:Int)))+sumW (fun w=>kOf (oneCx x).t.l w*valOf vals w) 40≤0)↔_
 generalize sumW (fun w=>kOf (oneCx x).t.l w*valOf vals w) 40=S
 generalize hgg:(gcdL x.t.l:Int)=g at gp hwe ⊢
 generalize x.t.c=c at hwe ⊢
 cases he:x.eq with
 | false=>
  have hs:sgC x=1:=by unfold sgC;rw [he];rfl
  simp only [Bool.false_eq_true,if_false,hs,Int.one_mul,Int.mul_one]
  rw [Int.mul_comm S g]
  exact (ceil_iff gp).symm
 | true=>
  rw [he] at hwe
  have hc:c.tmod g=0:=by simpa using hwe
  have hd:g ∣ c:=Int.dvd_of_tmod_eq_zero hc
  obtain ⟨q,rfl⟩:=hd
  have hq:-(-(g*q) / g)=q:=by
   rw [←Int.mul_neg,Int.mul_ediv_cancel_left _ (by omega)];omega
  simp only [if_true,hq]
  have hfac:g*q+S*(g*sgC x)=g*sgC x*(sgC x*q+S):=by
   rcases sgC_cases x with e|e<;>rw [e]
   ·simp only [Int.mul_one,Int.one_mul,Int.mul_add];rw [Int.mul_comm S g]
   ·simp only [Int.mul_neg,Int.mul_one,Int.neg_mul,Int.one_mul,Int.mul_add,Int.neg_neg,Int.neg_add];rw [Int.mul_comm S g]
  rw [hfac]
  constructor
  ·intro h;rw [h,Int.mul_zero]
  ·intro h
   rcases Int.mul_eq_zero.1 h with h|h
   ·rcases Int.mul_eq_zero.1 h with h|h
    ·omega
    ·rcases sgC_cases x with e|e<;>omega
   ·exact h
theorem holdX_always {x:Cons} (hw:oneW x=2) (vals:List Int):holdX vals x:=by
 unfold oneW at hw
 by_cases hne:x.t.l=[]
 ·rw [hne,List.isEmpty_nil,if_pos rfl] at hw
  have hb:alwaysB x=true:=by
   cases hq:alwaysB x with
   | true=>rfl
   | false=>rw [hq] at hw;cases hw
  have h0:sumW (fun w=>kOf x.t.l w*valOf vals w) 40=0:=by
   rw [hne,sumW_congr (g:=fun _=>0*0) 40 (fun w _ _=>by simp [kOf])];rfl
  unfold holdX valF
  rw [h0,Int.add_zero]
  unfold alwaysB at hb
  cases he:x.eq<;>rw [he] at hb<;>simp at hb ⊢<;>omega
 ·rw [if_neg (by simp [hne])] at hw
  split at hw<;>cases hw
theorem allS_has {l:List Cons} {x:Cons} (hx:x∈l) (hw:oneW x=0):oneCx x∈allS l:=by
 have keep:∀ (S:List Cons) (x y:Cons),y∈S→y∈addSx S x:=by
  intro S x y h
  unfold addSx;repeat' split
  ·exact h
  ·exact List.mem_append_left _ h
  ·exact h
 have key1:∀ (l S:List Cons) (y:Cons),y∈S→y∈l.foldl addSx S:=by
  intro l
  induction l with
  | nil=>intro S y h;exact h
  | cons z l ih=>intro S y h;rw [List.foldl_cons];exact ih _ _ (keep S z y h)
 have key2:∀ (l S:List Cons),x∈l→oneCx x∈l.foldl addSx S:=by
  intro l
  induction l with
  | nil=>intro S h;cases h
  | cons z l ih=>
   intro S h
   rw [List.foldl_cons]
   rcases List.mem_cons.1 h with rfl|h
   ·apply key1
    unfold addSx
    rw [if_pos hw]
    split
    ·rename_i ha
     obtain ⟨y,hy,hb⟩:=List.any_eq_true.1 ha
     rw [←consB_eq hb];exact hy
    ·simp
   ·exact ih _ h
 exact key2 l [] hx
theorem all_hold {n:Nat} {l:List Cons} (hg:good n l) (hn:neverB l=false) (vals:List Int):holdL vals (allS l)↔holdL vals l:=by
 constructor
 ·intro h x hx
  rcases oneW_cases x with hw|hw|hw
  ·exact (holdX_one (hg.2 x hx) hw vals).1 (h _ (allS_has hx hw))
  ·have:=List.any_eq_false.1 hn x hx
   simp [hw] at this
  ·exact holdX_always hw vals
 ·intro h y hy
  obtain ⟨x,hx,hw,rfl⟩:=allS_mem hy
  exact (holdX_one (hg.2 x hx) hw vals).2 (h x hx)
theorem allW_spec (l:List Cons):(allW l=1∧neverB l=true)∨(allW l=2∧neverB l=false∧allS l=[])∨(allW l=0∧neverB l=false∧allS l≠[]):=by
 unfold allW
 cases hn:neverB l with
 | true=>exact .inl ⟨rfl,rfl⟩
 | false=>
  cases he:(allS l).isEmpty with
  | true=>exact .inr (.inl ⟨rfl,rfl,List.isEmpty_iff.1 he⟩)
  | false=>exact .inr (.inr ⟨rfl,rfl,fun h=>by rw [h] at he;cases he⟩)
theorem scale_neg {c:Int} {l:List Mono} (h:okT c l=true):(scaleR c l (-1)).2.2=0:=by
 obtain ⟨h1,h2,h3,h4⟩:=okT_spec.1 h
 unfold scaleR
 rw [if_neg (by simp [h])]
 have hc:(timesP c (-1) 1099511627776).2=true:=times_unit (by omega) (by omega) (.inr rfl)
 have hb:scaleB (-1) l=true:=by
  unfold scaleB
  rw [List.all_eq_true]
  intro m hm
  have hmm:=okM_spec.1 (okFrom_ok h4 m hm)
  exact times_unit (by omega) (by omega) (.inr rfl)
 rw [hc,hb];rfl
theorem uneq_hold {n:Nat} {l:List Cons} (hg:good n l) (vals:List Int):holdL vals (uneq l)↔holdL vals l:=by
 have key:∀ x∈l,(∀ y∈uneqX x,holdX vals y)↔holdX vals x:=by
  intro x hx
  have hok:okT x.t.c x.t.l=true:=(hg.2 x hx).1
  unfold uneqX
  cases he:x.eq with
  | false=>
   simp only [Bool.false_eq_true,if_false,List.mem_singleton,forall_eq]
   unfold holdX;rw [he]
  | true=>
   rcases scaleR_spec (k:=-1) hok with ⟨s1,s2,s3,s4⟩|s1
   ·have hv:valF (scaleR x.t.c x.t.l (-1)).1 (kOf (scaleR x.t.c x.t.l (-1)).2.1) vals=valF x.t.c (kOf x.t.l) vals*(-1):=by
     rw [s3,valF_congr s4,valF_scale]
    simp only [if_true,List.mem_cons,List.not_mem_nil,or_false,forall_eq_or_imp,forall_eq]
    unfold holdX
    simp only [he,Bool.false_eq_true,if_false,if_true,hv]
    constructor
    ·rintro ⟨h1,h2⟩;omega
    ·intro h;omega
   ·have:=scale_neg hok;omega
 constructor
 ·intro h x hx
  exact (key x hx).1 fun y hy=>h y (List.mem_flatMap.2 ⟨x,hx,hy⟩)
 ·intro h y hy
  obtain ⟨x,hx,hy⟩:=List.mem_flatMap.1 hy
  exact (key x hx).2 (h x hx) y hy
theorem swap_zero {l:List Cons} {v c:Int} {b:List Mono} (hE:swapE l v c b=0) {x:Cons} (hx:x∈l):(swapX v c b x).2.2=0:=by
 unfold swapE at hE
 split at hE
 ·omega
 ·split at hE
  ·omega
  ·rename_i h1 h2
   have h3:l.any (fun x=>decide ((swapX v c b x).2.2≠0))=false:=by
    cases hq:l.any (fun x=>decide ((swapX v c b x).2.2≠0)) with
    | false=>rfl
    | true=>exact absurd hq h2
   have:=List.any_eq_false.1 h3 x hx
   simpa using this
theorem swap_hold {n:Nat} {l:List Cons} {v c:Int} {b:List Mono} (hg:good n l) (hb:okT c b=true) (hv:0≤v∧v<40) (hE:swapE l v c b=0) {vals:List Int} (hy:valOf vals v=valF c (kOf b) vals):holdL vals (swapL l v c b)↔holdL vals l:=by
 have key:∀ x∈l,holdX vals (swapC v c b x)↔holdX vals x:=by
  intro x hx
  have hok:okT x.t.c x.t.l=true:=(hg.2 x hx).1
  have hz:=swap_zero hE hx
  rcases putR_spec (v:=v) (a:=x.t.l) (c:=x.t.c) hok hb with ⟨r1,r2,r3,r4⟩|r1
  ·have hval:valF (putR x.t.c x.t.l v c b).1 (kOf (putR x.t.c x.t.l v c b).2.1) vals=valF x.t.c (kOf x.t.l) vals:=by
    rw [r3];exact val_put hv r4 hy
   unfold holdX
   show (if x.eq=true then valF (putR x.t.c x.t.l v c b).1 (kOf (putR x.t.c x.t.l v c b).2.1) vals=0 else valF (putR x.t.c x.t.l v c b).1 (kOf (putR x.t.c x.t.l v c b).2.1) vals≤0)↔_
   rw [hval]
  ·have:(swapX v c b x).2.2=12:=r1
   omega
 constructor
 ·intro h x hx
  exact (key x hx).1 (h _ (List.mem_map.2 ⟨x,hx,rfl⟩))
 ·intro h y hy
  obtain ⟨x,hx,rfl⟩:=List.mem_map.1 hy
  exact (key x hx).2 (h x hx)
theorem equal_hold {x:Cons} {v:Int} (hxo:okC x=true) (hv:0≤v∧v<40) (he:x.eq=true) (hk:oneB (kOf x.t.l v)=true) (vals:List Int):holdX vals x↔valOf vals v=valF (equalR x v).1 (kOf (equalR x v).2.1) vals:=by
 obtain ⟨e1,e2,e3,e4⟩:=equalR_spec hxo hv he hk
 rw [e3,valF_congr e4,valF_scale]
 unfold holdX
 rw [he,if_pos rfl,valF_split x.t.c (kOf x.t.l) vals hv]
 generalize valF x.t.c (fun w=>if w=v then 0 else kOf x.t.l w) vals=R
 have hk':kOf x.t.l v=1∨kOf x.t.l v=-1:=by simpa [oneB] using hk
 rcases hk' with e|e<;>rw [e]<;>omega
theorem pair_val {a b:Cons} {v:Int} (ha:okC a=true) (hb:okC b=true) (h0:(pairR a b v).2.2=0) (vals:List Int):
 valF (pairR a b v).1 (kOf (pairR a b v).2.1) vals=valF b.t.c (kOf b.t.l) vals*(-(kOf a.t.l v))+valF a.t.c (kOf a.t.l) vals*kOf b.t.l v:=by
 rcases scaleR_spec (k:=-(kOf a.t.l v)) (c:=b.t.c) (l:=b.t.l) hb with ⟨s1,s2,s3,s4⟩|s1
 ·rcases scaleR_spec (k:=kOf b.t.l v) (c:=a.t.c) (l:=a.t.l) ha with ⟨q1,q2,q3,q4⟩|q1
  ·have hp:pairR a b v=addR (scaleR b.t.c b.t.l (-(kOf a.t.l v))).1 (scaleR b.t.c b.t.l (-(kOf a.t.l v))).2.1 (scaleR a.t.c a.t.l (kOf b.t.l v)).1 (scaleR a.t.c a.t.l (kOf b.t.l v)).2.1:=by
    unfold pairR;rw [if_neg (by omega)]
   rcases addR_spec s2 q2 with ⟨r1,r2,r3,r4⟩|r1
   ·rw [hp,r3,valF_congr r4,valF_add,s3,q3,valF_congr s4,valF_congr q4,valF_scale,valF_scale]
   ·rw [hp] at h0;omega
  ·have:pairR a b v=(0,[],12):=by unfold pairR;rw [if_pos (.inr (by omega))]
   rw [this] at h0;cases h0
 ·have:pairR a b v=(0,[],12):=by unfold pairR;rw [if_pos (.inl (by omega))]
  rw [this] at h0;cases h0
theorem rest_lin (v:Int) (vals:List Int):∀ l:List Mono,linV vals (delM v l)=restOf v vals l
 | []=>rfl
 | m::l=>by
  have ih:=rest_lin v vals l
  unfold delM at ih ⊢
  by_cases h:m.v=v
  ·rw [List.filter_cons_of_neg (by simp [h]),ih,restOf,if_pos h];omega
  ·rw [List.filter_cons_of_pos (by simp [h]),linV,ih,restOf,if_neg h]
theorem rest_val {x:Cons} (hx:okC x=true) (v:Int) (vals:List Int):x.t.c+restOf v vals x.t.l=valF x.t.c (fun w=>if w=v then 0 else kOf x.t.l w) vals:=by
 have hd:okT x.t.c (delM v x.t.l)=true:=okT_del v hx
 rw [←rest_lin,val_eq hd vals]
 exact valF_congr (fun w=>kOf_del v w x.t.l) vals
theorem val_rest {x:Cons} (hx:okC x=true) {v:Int} (hv:0≤v∧v<40) (vals:List Int):valF x.t.c (kOf x.t.l) vals=(x.t.c+restOf v vals x.t.l)+kOf x.t.l v*valOf vals v:=by
 rw [rest_val hx,←valF_split _ _ _ hv]
theorem low_iff {k N t:Int} (hk:k<0):-(-N / -k)≤t↔N+k*t≤0:=by
 have h:=Int.le_ediv_iff_mul_le (a:=-t) (b:=-N) (c:=-k) (by omega)
 rw [Int.neg_mul_neg,Int.mul_comm t k] at h
 constructor
 ·intro h1
  have:=h.1 (by omega)
  omega
 ·intro h1
  have:=h.2 (by omega)
  omega
theorem high_iff {k N t:Int} (hk:0<k):t≤-N / k↔N+k*t≤0:=by
 have h:=Int.le_ediv_iff_mul_le (a:=t) (b:=-N) (c:=k) hk
 rw [Int.mul_comm t k] at h
 constructor
 ·intro h1;have:=h.1 h1;omega
 ·intro h1;exact h.2 (by omega)
theorem alone_mem {l:List Cons} {v:Int} {x:Cons} (h:x∈aloneL l v):x∈l∧∃ m,x.t.l=[m]∧m.v=v:=by
 have hal:=(List.mem_filter.1 h).2
 refine ⟨(List.mem_filter.1 h).1,?_⟩
 unfold aloneB at hal
 split at hal
 ·rename_i m hm
  exact ⟨m,hm,by simpa using hal⟩
 ·cases hal
theorem mem_span {l:List Cons} {v:Int} {x:Cons} (hx:x∈spanC l v):x∈l∧kOf x.t.l v≠0:=by
 unfold spanC lowsOf highsOf at hx
 rcases List.mem_append.1 hx with hx|hx
 ·exact ⟨(List.mem_filter.1 hx).1,by have:=(List.mem_filter.1 hx).2;simp at this;omega⟩
 ·exact ⟨(List.mem_filter.1 hx).1,by have:=(List.mem_filter.1 hx).2;simp at this;omega⟩
theorem may_zero {l:List Cons} {v:Int} (hq:∀ x∈l,x.eq=false) (hok:∀ x∈l,okC x=true) (hv:0≤v∧v<40):mayE l v=0:=by
 have h1:rightB l v=true:=by
  unfold rightB
  rw [List.all_eq_true.2 hok,decide_eq_true hv.1,decide_eq_true hv.2];rfl
 have h2:hasB l v=false:=by
  unfold hasB
  rw [List.any_eq_false]
  intro x hx
  rw [hq x hx];simp
 unfold mayE
 rw [h1,h2];rfl
theorem span_zero {l:List Cons} {v:Int} (hq:∀ x∈l,x.eq=false) (hok:∀ x∈l,okC x=true) (hv:0≤v∧v<40):spanE (aloneL l v) v []=0:=by
 have hm:mayE (aloneL l v) v=0:=may_zero (fun x hx=>hq x (alone_mem hx).1) (fun x hx=>hok x (alone_mem hx).1) hv
 have hf:(spanC (aloneL l v) v).any (fun x=>x.t.l.any (farB v (([]:List Int).length:Int)))=false:=by
  rw [List.any_eq_false]
  intro x hx
  obtain ⟨-,m,hm,hmv⟩:=alone_mem (mem_span hx).1
  rw [hm];simp [farB,hmv]
 unfold spanE
 rw [if_neg (by simp [hm]),if_neg (by rw [hf];simp),if_neg (by simp)]
theorem valF_nil (c:Int) (r:List Int):valF c (kOf []) r=c:=by
 unfold valF
 rw [sumW_congr (g:=fun _=>0*0) 40 (fun w _ _=>by simp [kOf])]
 show c+0=c
 omega
theorem kOf_one (v k w:Int):kOf [⟨v,k⟩] w=if v=w then k else 0:=by rw [kOf];rfl
theorem uneq_eq {l:List Cons} {x:Cons} (h:x∈uneq l):x.eq=false:=by
 obtain ⟨y,-,hx⟩:=List.mem_flatMap.1 h
 unfold uneqX at hx
 split at hx
 ·simp only [List.mem_cons,List.not_mem_nil,or_false] at hx
  rcases hx with rfl|rfl<;>rfl
 ·rename_i he
  have e:=List.mem_singleton.1 hx
  subst e
  rfl
def bxB (l:List Cons) (w c k:Int):Prop:=∃ x∈l,x.eq=false∧x.t.c=c∧∀ u,kOf x.t.l u=if u=w then k else 0
def bx2 (l:List Cons) (w:Int):Prop:=bxB l w (-2147483647) 1∧bxB l w (-2147483648) (-1)
def boxed (l:List Cons):Prop:=∀ x∈l,∀ w,kOf x.t.l w≠0→bx2 l w
theorem bx2_sub {l l':List Cons} {w:Int} (h:∀ x∈l,x∈l') (hb:bx2 l w):bx2 l' w:=by
 obtain ⟨⟨x,h1,h2⟩,⟨y,h3,h4⟩⟩:=hb
 exact ⟨⟨x,h x h1,h2⟩,⟨y,h y h3,h4⟩⟩
theorem valF_single {f:Int→Int} {w k:Int} (hw:0≤w∧w<40) (hf:∀ u,f u=if u=w then k else 0) (c:Int) (r:List Int):valF c f r=c+k*valOf r w:=by
 rw [valF_split c f r hw]
 have e:valF c (fun u=>if u=w then 0 else f u) r=valF c (kOf []) r:=valF_congr (fun u=>by
  by_cases h:u=w
  ·rw [if_pos h];rfl
  ·rw [if_neg h,hf,if_neg h];rfl) r
 rw [e,valF_nil,hf,if_pos rfl]
theorem bx2_hold {l:List Cons} {w:Int} (hw:0≤w∧w<40) (hb:bx2 l w) {r:List Int} (h:holdL r l):-2147483648≤valOf r w∧valOf r w≤2147483647:=by
 obtain ⟨⟨x,h1,h2,h3,h4⟩,⟨y,g1,g2,g3,g4⟩⟩:=hb
 have a:=h x h1
 have b:=h y g1
 unfold holdX at a b
 rw [h2,if_neg (by simp),valF_single hw h4,h3] at a
 rw [g2,if_neg (by simp),valF_single hw g4,g3] at b
 omega
theorem one_box {n:Nat} {x:Cons} {w c k:Int} (hg:goodX n x) (hk:k=1∨k=-1) (h2:x.eq=false) (h3:x.t.c=c) (h4:∀ u,kOf x.t.l u=if u=w then k else 0):
 oneW x=0∧(oneCx x).eq=false∧(oneCx x).t.c=c∧∀ u,kOf (oneCx x).t.l u=if u=w then k else 0:=by
 have hkw:kOf x.t.l w=k:=by rw [h4,if_pos rfl]
 have hne:x.t.l≠[]:=by
  intro e;rw [e] at hkw;have:(0:Int)=k:=hkw;omega
 have hs:sgC x=1:=by unfold sgC;rw [h2];rfl
 have hd:=gcd_dvd_kOf (l:=x.t.l) w
 have gp:(0:Int)<gcdL x.t.l:=by have:=gcdL_pos hne (okC_parts hg.1).2.2;omega
 have hgc:(gcdL x.t.l:Int)=1:=by
  rw [hkw] at hd
  have h1:(gcdL x.t.l:Int) ∣ 1:=by
   rcases hk with e|e
   ·rw [e] at hd;exact hd
   ·rw [e] at hd;exact (Int.dvd_neg).1 hd
  have:=Int.le_of_dvd (by omega) h1
  omega
 refine ⟨?_,h2,?_,fun u=>?_⟩
 ·unfold oneW
  rw [if_neg (by simp [hne]),h2];simp
 ·simp only [oneCx,hs,hgc,h3]
  rw [Int.ediv_one];omega
 ·have:=one_kOf hg hne u
  rw [hs,hgc] at this
  rw [←h4,this];omega
theorem bxB_all {n:Nat} {l:List Cons} {w c k:Int} (hg:good n l) (hk:k=1∨k=-1) (h:bxB l w c k):bxB (allS l) w c k:=by
 obtain ⟨x,h1,h2,h3,h4⟩:=h
 obtain ⟨a,b⟩:=one_box (hg.2 x h1) hk h2 h3 h4
 exact ⟨oneCx x,allS_has h1 a,b⟩
theorem boxed_all {n:Nat} {l:List Cons} (hg:good n l) (h:boxed l):boxed (allS l):=by
 intro y hy w hw
 obtain ⟨x,hx,hw0,rfl⟩:=allS_mem hy
 have hkx:kOf x.t.l w≠0:=by
  rw [one_kOf (hg.2 x hx) (oneW_ne hw0)]
  have gp:(0:Int)<gcdL x.t.l:=by have:=gcdL_pos (oneW_ne hw0) (okC_parts (hg.2 x hx).1).2.2;omega
  refine Int.mul_ne_zero hw (Int.mul_ne_zero (by omega) ?_)
  rcases sgC_cases x with e|e<;>rw [e]<;>simp
 exact ⟨bxB_all hg (.inl rfl) (h x hx w hkx).1,bxB_all hg (.inr rfl) (h x hx w hkx).2⟩
theorem bxB_uneq {l:List Cons} {w c k:Int} (h:bxB l w c k):bxB (uneq l) w c k:=by
 obtain ⟨x,h1,h2,h3⟩:=h
 refine ⟨x,List.mem_flatMap.2 ⟨x,h1,?_⟩,h2,h3⟩
 obtain ⟨⟨c0,m0⟩,q0⟩:=x
 simp only at h2
 subst h2
 simp [uneqX]
theorem boxed_uneq {n:Nat} {l:List Cons} (hg:good n l) (h:boxed l):boxed (uneq l):=by
 intro y hy w hw
 obtain ⟨x,hx,hyx⟩:=List.mem_flatMap.1 hy
 have hkx:kOf x.t.l w≠0:=by
  have hok:okT x.t.c x.t.l=true:=(hg.2 x hx).1
  unfold uneqX at hyx
  split at hyx
  ·simp only [List.mem_cons,List.not_mem_nil,or_false] at hyx
   rcases hyx with rfl|rfl
   ·exact hw
   ·intro e
    rcases scaleR_spec (k:=-1) hok with ⟨s1,s2,s3,s4⟩|s1
    ·exact hw (by show kOf (scaleR x.t.c x.t.l (-1)).2.1 w=0;rw [s4,e];rfl)
    ·have:=scale_neg hok;omega
  ·have e:=List.mem_singleton.1 hyx
   subst e;exact hw
 exact ⟨bxB_uneq (h x hx w hkx).1,bxB_uneq (h x hx w hkx).2⟩
theorem swap_parts {n:Nat} {l:List Cons} {v c:Int} {b:List Mono} (hg:good n l) (hb:okT c b=true) (hE:swapE l v c b=0) {x:Cons} (hx:x∈l):
 (swapC v c b x).t.c=x.t.c+c*kOf x.t.l v∧∀ w,kOf (swapC v c b x).t.l w=(if w=v then 0 else kOf x.t.l w)+kOf b w*kOf x.t.l v:=by
 have hok:okT x.t.c x.t.l=true:=(hg.2 x hx).1
 have hz:=swap_zero hE hx
 rcases putR_spec (v:=v) (a:=x.t.l) (c:=x.t.c) hok hb with ⟨r1,r2,r3,r4⟩|r1
 ·exact ⟨r3,r4⟩
 ·have:(swapX v c b x).2.2=12:=r1
  omega
theorem bxB_swap {n:Nat} {l:List Cons} {v c:Int} {b:List Mono} {w d k:Int} (hg:good n l) (hb:okT c b=true) (hE:swapE l v c b=0) (hwv:w≠v) (h:bxB l w d k):bxB (swapL l v c b) w d k:=by
 obtain ⟨x,h1,h2,h3,h4⟩:=h
 obtain ⟨p1,p2⟩:=swap_parts hg hb hE h1
 have h0:kOf x.t.l v=0:=by rw [h4,if_neg (fun e=>hwv e.symm)]
 refine ⟨swapC v c b x,List.mem_map.2 ⟨x,h1,rfl⟩,h2,?_,fun u=>?_⟩
 ·rw [p1,h0,h3];omega
 ·rw [p2,h0,←h4]
  by_cases e:u=v
  ·rw [if_pos e,e,h0];omega
  ·rw [if_neg e];omega
theorem boxed_swap {n:Nat} {l:List Cons} {v c:Int} {b:List Mono} (hg:good n l) (hb:okT c b=true) (hE:swapE l v c b=0) (hbv:kOf b v=0) (hbb:∀ w,kOf b w≠0→bx2 l w) (h:boxed l):boxed (swapL l v c b):=by
 intro y hy w hw
 obtain ⟨x,hx,rfl⟩:=List.mem_map.1 hy
 rw [(swap_parts hg hb hE hx).2] at hw
 have hwv:w≠v:=by
  intro e;rw [if_pos e,e,hbv] at hw;omega
 rw [if_neg hwv] at hw
 have h2:bx2 l w:=by
  by_cases e:kOf x.t.l w=0
  ·exact hbb w (fun e2=>hw (by rw [e,e2];omega))
  ·exact h x hx w e
 exact ⟨bxB_swap hg hb hE hwv h2.1,bxB_swap hg hb hE hwv h2.2⟩
theorem bxB_drop {l:List Cons} {v w d k:Int} (hwv:w≠v) (h:bxB l w d k):bxB (dropList l v) w d k:=by
 obtain ⟨x,h1,h2,h3,h4⟩:=h
 refine ⟨x,List.mem_append_left _ (List.mem_filter.2 ⟨h1,?_⟩),h2,h3,h4⟩
 have h0:kOf x.t.l v=0:=by rw [h4,if_neg (fun e=>hwv e.symm)]
 simp [h0]
theorem pair_kOf {a b:Cons} {v:Int} (ha:okC a=true) (hb:okC b=true) (h0:(pairR a b v).2.2=0) (w:Int):
 kOf (pairR a b v).2.1 w=kOf b.t.l w*(-(kOf a.t.l v))+kOf a.t.l w*kOf b.t.l v:=by
 rcases scaleR_spec (k:=-(kOf a.t.l v)) (c:=b.t.c) (l:=b.t.l) hb with ⟨s1,s2,s3,s4⟩|s1
 ·rcases scaleR_spec (k:=kOf b.t.l v) (c:=a.t.c) (l:=a.t.l) ha with ⟨q1,q2,q3,q4⟩|q1
  ·have hp:pairR a b v=addR (scaleR b.t.c b.t.l (-(kOf a.t.l v))).1 (scaleR b.t.c b.t.l (-(kOf a.t.l v))).2.1 (scaleR a.t.c a.t.l (kOf b.t.l v)).1 (scaleR a.t.c a.t.l (kOf b.t.l v)).2.1:=by
    unfold pairR;rw [if_neg (by omega)]
   rcases addR_spec s2 q2 with ⟨r1,r2,r3,r4⟩|r1
   ·rw [hp,r4,s4,q4]
   ·rw [hp] at h0;omega
  ·have:pairR a b v=(0,[],12):=by unfold pairR;rw [if_pos (.inr (by omega))]
   rw [this] at h0;cases h0
 ·have:pairR a b v=(0,[],12):=by unfold pairR;rw [if_pos (.inl (by omega))]
  rw [this] at h0;cases h0
theorem boxed_drop {n:Nat} {l:List Cons} {v:Int} (hg:good n l) (hE:dropErr l v=0) (h:boxed l):boxed (dropList l v):=by
 intro y hy w hw
 have key:w≠v∧bx2 l w:=by
  rcases List.mem_append.1 hy with hy|hy
  ·have hf:=List.mem_filter.1 hy
   have h0:kOf y.t.l v=0:=by simpa using hf.2
   exact ⟨fun e=>hw (by rw [e];exact h0),h y hf.1 w hw⟩
  ·obtain ⟨a,ha,hy⟩:=List.mem_flatMap.1 hy
   obtain ⟨b,hb,rfl⟩:=List.mem_map.1 hy
   have h0:=drop_zero.1 hE a ha b hb
   have hal:=mem_lows ha
   have hbl:=mem_highs hb
   have e:kOf (mkC (pairR a b v)).t.l w=kOf b.t.l w*(-(kOf a.t.l v))+kOf a.t.l w*kOf b.t.l v:=pair_kOf (hg.2 a hal).1 (hg.2 b hbl).1 h0 w
   rw [e] at hw
   refine ⟨fun e=>hw (by rw [e,Int.mul_neg,Int.mul_comm (kOf b.t.l v)];omega),?_⟩
   by_cases e1:kOf b.t.l w=0
   ·refine h a hal w fun e2=>hw ?_
    rw [e1,e2];simp
   ·exact h b hbl w e1
 exact ⟨bxB_drop key.1 key.2.1,bxB_drop key.1 key.2.2⟩
theorem boxed_app {l:List Cons} {x:Cons} (h:boxed l) (hx:∀ w,kOf x.t.l w≠0→bx2 l w):boxed (l++[x]):=by
 intro y hy w hw
 have hs:∀ z∈l,z∈l++[x]:=fun z hz=>List.mem_append_left _ hz
 rcases List.mem_append.1 hy with hy|hy
 ·exact bx2_sub hs (h y hy w hw)
 ·rw [List.mem_singleton.1 hy] at hw
  exact bx2_sub hs (hx w hw)
theorem valF_set {r:List Int} {v t:Int} (hv:0≤v∧v<r.length) (c:Int) (f:Int→Int):valF c (fun w=>if w=v then 0 else f w) (r.set v.toNat t)=valF c (fun w=>if w=v then 0 else f w) r:=by
 unfold valF
 rw [sumW_congr 40 fun w h0 _=>?_]
 show (if w=v then 0 else f w)*valOf (r.set v.toNat t) w=(if w=v then 0 else f w)*valOf r w
 by_cases h:w=v
 ·rw [if_pos h];simp
 ·rw [valOf_set hv h0,if_neg h,if_neg h]
theorem valF_set0 {r:List Int} {v t:Int} (hv:0≤v∧v<r.length) (c:Int) {f:Int→Int} (hf:f v=0):valF c f (r.set v.toNat t)=valF c f r:=by
 have e:f=fun w=>if w=v then 0 else f w:=by
  funext w;by_cases h:w=v
  ·rw [if_pos h,h,hf]
  ·rw [if_neg h]
 rw [e];exact valF_set hv c f
def SatAt (n:Nat) (rec:Nat→List Int→List Cons→Ans):Prop:=
 ∀ (left:Nat) (vals:List Int) (l:List Cons),vals.length=n→good n l→boxed l→in32 vals→
  (rec left vals l).2.2.length=n∧in32 (rec left vals l).2.2∧((rec left vals l).1=2→holdL (rec left vals l).2.2 l)
theorem told_zero {n:Nat} {c:Int} {b:List Mono} {r:List Int} (hb:okT c b=true) (hbv:∀ w,kOf b w≠0→w<n) (hn:r.length=n) (hr:in32 r):toldE c b r=0:=by
 unfold toldE
 have h5:b.any (fun m=>decide ((r.length:Int)≤m.v))=false:=by
  rw [List.any_eq_false]
  intro m hm
  have hmm:=okM_spec.1 (okFrom_ok (okT_spec.1 hb).2.2.2 m hm)
  have:=hbv m.v (by rw [mem_kOf (okT_spec.1 hb).2.2.2 m hm];exact hmm.2.2.1)
  simp;omega
 rw [if_neg (by simp [hb]),if_neg (by simp [h5]),if_neg (by rw [show r.any outB=false from hr];simp)]
theorem swapD_sat {n left:Nat} {rec:Nat→List Int→List Cons→Ans} {vals:List Int} {l:List Cons} {v c:Int} {b:List Mono} (hrec:SatAt n rec) (hn:vals.length=n)
 (hg:good n l) (hbx:boxed l) (hr:in32 vals) (hb:okT c b=true) (hbn:∀ w,kOf b w≠0→w<n) (hv:0≤v∧v<n) (hv40:v<40) (hbv:kOf b v=0) (hbb:∀ w,kOf b w≠0→bx2 l w) (hbxv:bx2 l v):
 (swapD rec left vals l v c b).2.2.length=n∧in32 (swapD rec left vals l v c b).2.2∧((swapD rec left vals l v c b).1=2→holdL (swapD rec left vals l v c b).2.2 l∧valOf (swapD rec left vals l v c b).2.2 v=valF c (kOf b) (swapD rec left vals l v c b).2.2):=by
 unfold swapD
 split
 ·exact ⟨hn,hr,fun h=>by simp at h⟩
 ·rename_i hE
  have hE0:swapE l v c b=0:=by omega
  obtain ⟨h1,h2,h3⟩:=hrec left vals (swapL l v c b) hn (swap_good hg hb hbn hE0) (boxed_swap hg hb hE0 hbv hbb hbx) hr
  split
  ·rename_i hs
   have hh:=h3 hs
   generalize (rec left vals (swapL l v c b)).2.2=r at h1 h2 hh ⊢
   have hvr:0≤v∧v<r.length:=by omega
   have hval:valueR c b r=valF c (kOf b) r:=by
    unfold valueR
    rw [if_pos (told_zero hb hbn h1 h2),val_eq hb r]
   have hy:valOf (r.set v.toNat (valueR c b r)) v=valF c (kOf b) (r.set v.toNat (valueR c b r)):=by
    rw [valOf_set hvr hv.1,if_pos rfl,valF_set0 hvr c hbv,hval]
   have hsw:holdL (r.set v.toNat (valueR c b r)) (swapL l v c b):=by
    intro y hy
    obtain ⟨x,hx,rfl⟩:=List.mem_map.1 hy
    have h0:kOf (swapC v c b x).t.l v=0:=by
     rw [(swap_parts hg hb hE0 hx).2,if_pos rfl,hbv];omega
    have:=hh _ hy
    unfold holdX at this ⊢
    rw [valF_set0 hvr _ h0];exact this
   have hl:=(swap_hold hg hb ⟨hv.1,hv40⟩ hE0 hy).1 hsw
   have hbd:=bx2_hold ⟨hv.1,hv40⟩ hbxv hl
   rw [valOf_set hvr hv.1,if_pos rfl] at hbd
   exact ⟨by rw [List.length_set];exact h1,in32_set h2 hbd,fun _=>⟨hl,hy⟩⟩
  ·rename_i hs
   exact ⟨h1,h2,fun h=>absurd h hs⟩
def loV (v:Int) (vals:List Int) (x:Cons):Int:=-(-(x.t.c+restOf v vals x.t.l) / -(kOf x.t.l v))
def hiV (v:Int) (vals:List Int) (x:Cons):Int:=-(x.t.c+restOf v vals x.t.l) / kOf x.t.l v
theorem fold_ge (v:Int) (vals:List Int):∀ (l:List Cons) (a b:Int),
 a≤(l.foldl (spanStep v vals) (a,b)).1∧(l.foldl (spanStep v vals) (a,b)).2≤b∧
 (∀ x∈l,(kOf x.t.l v<0→loV v vals x≤(l.foldl (spanStep v vals) (a,b)).1)∧(¬ kOf x.t.l v<0→(l.foldl (spanStep v vals) (a,b)).2≤hiV v vals x))∧
 ((l.foldl (spanStep v vals) (a,b)).1=a∨∃ x∈l,kOf x.t.l v<0∧(l.foldl (spanStep v vals) (a,b)).1=loV v vals x)∧
 ((l.foldl (spanStep v vals) (a,b)).2=b∨∃ x∈l,¬ kOf x.t.l v<0∧(l.foldl (spanStep v vals) (a,b)).2=hiV v vals x)
 | [],a,b=>⟨Int.le_refl _,Int.le_refl _,(fun x hx=>by cases hx),.inl rfl,.inl rfl⟩
 | x::l,a,b=>by
  rw [List.foldl_cons]
  by_cases hk:kOf x.t.l v<0
  ·have e:spanStep v vals (a,b) x=(max a (loV v vals x),b):=by unfold spanStep;rw [if_pos hk];rfl
   rw [e]
   obtain ⟨h1,h2,h3,h4,h5⟩:=fold_ge v vals l (max a (loV v vals x)) b
   generalize l.foldl (spanStep v vals) (max a (loV v vals x),b)=p at h1 h2 h3 h4 h5 ⊢
   refine ⟨by clear h3 h4 h5;omega,h2,fun y hy=>?_,?_,?_⟩
   ·rcases List.mem_cons.1 hy with rfl|hy
    ·exact ⟨fun _=>by clear h3 h4 h5;omega,fun h=>absurd hk h⟩
    ·exact h3 y hy
   ·rcases h4 with h4|⟨y,hy,h4⟩
    ·by_cases hm:a≤loV v vals x
     ·exact .inr ⟨x,List.mem_cons_self,hk,by clear h3 h5;omega⟩
     ·exact .inl (by clear h3 h5;omega)
    ·exact .inr ⟨y,List.mem_cons_of_mem _ hy,h4⟩
   ·rcases h5 with h5|⟨y,hy,h5⟩
    ·exact .inl h5
    ·exact .inr ⟨y,List.mem_cons_of_mem _ hy,h5⟩
  ·have e:spanStep v vals (a,b) x=(a,min b (hiV v vals x)):=by unfold spanStep;rw [if_neg hk];rfl
   rw [e]
   obtain ⟨h1,h2,h3,h4,h5⟩:=fold_ge v vals l a (min b (hiV v vals x))
   generalize l.foldl (spanStep v vals) (a,min b (hiV v vals x))=p at h1 h2 h3 h4 h5 ⊢
   refine ⟨h1,by clear h3 h4 h5;omega,fun y hy=>?_,?_,?_⟩
   ·rcases List.mem_cons.1 hy with rfl|hy
    ·exact ⟨fun h=>absurd h hk,fun _=>by clear h3 h4 h5;omega⟩
    ·exact h3 y hy
   ·rcases h4 with h4|⟨y,hy,h4⟩
    ·exact .inl h4
    ·exact .inr ⟨y,List.mem_cons_of_mem _ hy,h4⟩
   ·rcases h5 with h5|⟨y,hy,h5⟩
    ·by_cases hm:hiV v vals x≤b
     ·exact .inr ⟨x,List.mem_cons_self,hk,by clear h3 h4;omega⟩
     ·exact .inl (by clear h3 h4;omega)
    ·exact .inr ⟨y,List.mem_cons_of_mem _ hy,h5⟩
theorem span_zero' {n:Nat} {l:List Cons} {v:Int} {r:List Int} (hg:good n l) (hq:∀ x∈l,x.eq=false) (hv:0≤v∧v<40) (hn:r.length=n) (hr:in32 r):spanE l v r=0:=by
 have hm:mayE l v=0:=may_zero hq (fun x hx=>(hg.2 x hx).1) hv
 have hf:(spanC l v).any (fun x=>x.t.l.any (farB v (r.length:Int)))=false:=by
  rw [List.any_eq_false]
  intro x hx
  have hxg:=hg.2 x (mem_span hx).1
  have hok:okT x.t.c x.t.l=true:=hxg.1
  have:x.t.l.any (farB v (r.length:Int))=false:=by
   rw [List.any_eq_false]
   intro m hm
   have hmm:=okM_spec.1 (okFrom_ok (okT_spec.1 hok).2.2.2 m hm)
   have:=hxg.2 m.v (by rw [mem_kOf (okT_spec.1 hok).2.2.2 m hm];exact hmm.2.2.1)
   simp [farB];omega
  rw [this];simp
 unfold spanE
 rw [if_neg (by simp [hm]),if_neg (by rw [hf];simp),if_neg (by rw [show r.any outB=false from hr];simp)]
theorem span_mem {l:List Cons} {v:Int} {x:Cons} (hx:x∈l) (hk:kOf x.t.l v≠0):x∈spanC l v:=by
 unfold spanC lowsOf highsOf
 by_cases h:kOf x.t.l v<0
 ·exact List.mem_append_left _ (List.mem_filter.2 ⟨hx,by simpa using h⟩)
 ·exact List.mem_append_right _ (List.mem_filter.2 ⟨hx,by simp;omega⟩)
theorem pick_in {n:Nat} {l:List Cons} {v:Int} {r:List Int} (hg:good n l) (hq:∀ x∈l,x.eq=false) (hE:dropErr l v=0) (hv:0≤v∧v<40) (hn:r.length=n) (hr:in32 r) (hx:exactB l v=true) (hb:bx2 l v) (hh:holdL r (dropList l v)):
 ∀ x∈l,kOf x.t.l v≠0→(x.t.c+restOf v r x.t.l)+kOf x.t.l v*pickR (spanLo l v r) (spanHi l v r)≤0:=by
 have hz:=span_zero' hg hq hv hn hr
 obtain ⟨f1,f2,f3,f4,f5⟩:=fold_ge v r (spanC l v) (-2147483648) 2147483647
 have hpair:∀ a∈l,∀ b∈l,kOf a.t.l v<0→0<kOf b.t.l v→loV v r a≤hiV v r b:=by
  intro a ha b hb' ka kb
  have hal:a∈lowsOf l v:=List.mem_filter.2 ⟨ha,by simpa using ka⟩
  have hbl:b∈highsOf l v:=List.mem_filter.2 ⟨hb',by simpa using kb⟩
  have h0:=drop_zero.1 hE a hal b hbl
  have hp:=hh (mkC (pairR a b v)) (List.mem_append_right _ (List.mem_flatMap.2 ⟨a,hal,List.mem_map.2 ⟨b,hbl,rfl⟩⟩))
  have hp2:valF (pairR a b v).1 (kOf (pairR a b v).2.1) r≤0:=by
   unfold holdX at hp
   rw [if_neg (by simp [mkC])] at hp
   exact hp
  rw [pair_val (hg.2 a ha).1 (hg.2 b hb').1 h0,val_rest (hg.2 a ha).1 hv,val_rest (hg.2 b hb').1 hv] at hp2
  unfold loV hiV
  generalize a.t.c+restOf v r a.t.l=A at hp2 ⊢
  generalize b.t.c+restOf v r b.t.l=B at hp2 ⊢
  generalize valOf r v=t at hp2
  unfold exactB at hx
  rcases Bool.or_eq_true_iff.1 hx with hx|hx
  ·have e:=List.all_eq_true.1 hx a hal
   have e:kOf a.t.l v=-1:=by simpa using e
   rw [e] at hp2 ⊢
   have hA:-(-A / - -1)=A:=by rw [show (- -1:Int)=1 by rfl,Int.ediv_one];omega
   rw [hA,high_iff kb]
   generalize kOf b.t.l v=k at *
   have e1:(B+k*t)*- -1=B+k*t:=by omega
   have e2:(A+-1*t)*k=k*A-k*t:=by rw [Int.add_mul,Int.mul_comm A k,Int.mul_assoc,Int.mul_comm t k];omega
   rw [e1,e2] at hp2
   omega
  ·have e:=List.all_eq_true.1 hx b hbl
   have e:kOf b.t.l v=1:=by simpa using e
   rw [e] at hp2 ⊢
   rw [Int.ediv_one,low_iff ka]
   generalize kOf a.t.l v=k at *
   have e1:(B+1*t)*-k=-(k*B)-k*t:=by rw [Int.one_mul,Int.mul_neg,Int.add_mul,Int.mul_comm B k,Int.mul_comm t k];omega
   rw [e1] at hp2
   rw [Int.mul_neg]
   omega
 have hbl:∀ b∈l,0<kOf b.t.l v→-2147483648≤hiV v r b:=by
  intro b hb' kb
  obtain ⟨-,⟨y,g1,g2,g3,g4⟩⟩:=hb
  have hk:kOf y.t.l v=-1:=by rw [g4,if_pos rfl]
  have h:=hpair y g1 b hb' (by omega) kb
  have e0:y.t.c+restOf v r y.t.l=-2147483648:=by
   rw [rest_val (hg.2 y g1).1,valF_congr (g:=kOf []) (fun w=>by
    by_cases h:w=v
    ·rw [if_pos h];rfl
    ·rw [if_neg h,g4,if_neg h];rfl),valF_nil,g3]
  unfold loV at h
  rw [e0,hk] at h
  exact h
 have hah:∀ a∈l,kOf a.t.l v<0→loV v r a≤2147483647:=by
  intro a ha ka
  obtain ⟨⟨y,g1,g2,g3,g4⟩,-⟩:=hb
  have hk:kOf y.t.l v=1:=by rw [g4,if_pos rfl]
  have h:=hpair a ha y g1 ka (by omega)
  have e0:y.t.c+restOf v r y.t.l=-2147483647:=by
   rw [rest_val (hg.2 y g1).1,valF_congr (g:=kOf []) (fun w=>by
    by_cases h:w=v
    ·rw [if_pos h];rfl
    ·rw [if_neg h,g4,if_neg h];rfl),valF_nil,g3]
  unfold hiV at h
  rw [e0,hk] at h
  exact h
 have hle:(spanFold l v r).1≤(spanFold l v r).2:=by
  unfold spanFold
  rcases f4 with e1|⟨a,ha,ka,e1⟩
  ·rcases f5 with e2|⟨b,hb',kb,e2⟩
   ·omega
   ·have:=hbl b (mem_span hb').1 (by have:=(mem_span hb').2;omega)
    omega
  ·rcases f5 with e2|⟨b,hb',kb,e2⟩
   ·have:=hah a (mem_span ha).1 ka
    omega
   ·have:=hpair a (mem_span ha).1 b (mem_span hb').1 ka (by have:=(mem_span hb').2;omega)
    omega
 have hp:(spanFold l v r).1≤pickR (spanLo l v r) (spanHi l v r)∧pickR (spanLo l v r) (spanHi l v r)≤(spanFold l v r).2:=by
  have q1:-2147483648≤(spanFold l v r).1:=f1
  have q2:(spanFold l v r).2≤2147483647:=f2
  unfold pickR spanLo spanHi
  rw [if_pos hz,if_pos hz]
  split<;>omega
 intro x hx hk
 have h3:=f3 x (span_mem hx hk)
 by_cases h:kOf x.t.l v<0
 ·exact (low_iff h).1 (Int.le_trans (h3.1 h) hp.1)
 ·exact (high_iff (by omega)).1 (Int.le_trans hp.2 (h3.2 h))
theorem hold_sub {r:List Int} {l:List Cons} {x:Cons} (h:holdL r (l++[x])):holdL r l:=fun y hy=>h y (List.mem_append_left _ hy)
theorem var_box {n:Nat} {l:List Cons} {v:Int} (hg:good n l) (hb:boxed l) (h:v∈firstL l):bx2 l v:=by
 obtain ⟨x,hx,m,hm,rfl⟩:=firstL_mem h
 have hok:okT x.t.c x.t.l=true:=(hg.2 x hx).1
 have hmm:=okM_spec.1 (okFrom_ok (okT_spec.1 hok).2.2.2 m hm)
 exact hb x hx m.v (by rw [mem_kOf (okT_spec.1 hok).2.2.2 m hm];exact hmm.2.2.1)
theorem splitD_sat {n left:Nat} {rec:Nat→List Int→List Cons→Ans} {vals:List Int} {l:List Cons} {v:Int} (hrec:SatAt n rec) (hn:vals.length=n)
 (hg:good n l) (hbx:boxed l) (hr:in32 vals) (hl240:l.length≤240) (hv:0≤v∧v<n) (hv40:v<40) (hbv:bx2 l v):
 (splitD rec left vals l v).2.2.length=n∧in32 (splitD rec left vals l v).2.2∧((splitD rec left vals l v).1=2→holdL (splitD rec left vals l v).2.2 l):=by
 have b1:=span_lob (aloneL l v) v []
 have b2:=span_hib (aloneL l v) v []
 have hgo:∀ m:Int,spanLo (aloneL l v) v []≤m∧m≤spanHi (aloneL l v) v []→good n (l++[belowC v m])∧good n (l++[aboveC v m]):=fun m hm=>below_good hg hl240 hv hv40 (by omega)
 have hb0:okT (spanLo (aloneL l v) v []) []=true:=okT_spec.2 ⟨by omega,by omega,by simp,rfl⟩
 have hbo:∀ m:Int,boxed (l++[belowC v m])∧boxed (l++[aboveC v m]):=fun m=>
  ⟨boxed_app hbx fun w hw=>by rw [one_v v 1 w hw];exact hbv,boxed_app hbx fun w hw=>by rw [one_v v (-1) w hw];exact hbv⟩
 unfold splitD
 split
 ·exact ⟨hn,hr,fun h=>by simp at h⟩
 ·rename_i h0
  split
  ·exact ⟨hn,hr,fun h=>by simp at h⟩
  ·split
   ·obtain ⟨q1,q2,q3⟩:=swapD_sat (left:=left-1) hrec hn hg hbx hr hb0 (fun w hw=>absurd rfl hw) hv hv40 rfl (fun w hw=>absurd rfl hw) hbv
    exact ⟨q1,q2,fun h=>(q3 h).1⟩
   ·have hm:=hgo _ (half_b (by omega))
    have hb:=hbo (halfR (spanLo (aloneL l v) v []) (spanHi (aloneL l v) v []))
    generalize halfR (spanLo (aloneL l v) v []) (spanHi (aloneL l v) v [])=m at hm hb ⊢
    obtain ⟨q1,q2,q3⟩:=hrec (left-1) vals _ hn hm.1 hb.1 hr
    split
    ·obtain ⟨p1,p2,p3⟩:=hrec (rec (left-1) vals (l++[belowC v m])).2.1 (rec (left-1) vals (l++[belowC v m])).2.2 _ q1 hm.2 hb.2 q2
     exact ⟨p1,p2,fun h=>hold_sub (p3 h)⟩
    ·exact ⟨q1,q2,fun h=>hold_sub (q3 h)⟩
theorem pickR_b (lo hi:Int) (h1:-2147483648≤lo∧lo≤2147483647) (h2:-2147483648≤hi∧hi≤2147483647):-2147483648≤pickR lo hi∧pickR lo hi≤2147483647:=by
 unfold pickR;split<;>omega
theorem dropD_sat {n left:Nat} {rec:Nat→List Int→List Cons→Ans} {vals:List Int} {l:List Cons} {v:Int} (hrec:SatAt n rec) (hn:vals.length=n)
 (hg:good n l) (hq:∀ x∈l,x.eq=false) (hbx:boxed l) (hr:in32 vals) (hl240:l.length≤240) (hv:0≤v∧v<n) (hv40:v<40) (hbv:bx2 l v) (hex:exactB l v=true):
 (dropD rec left vals l v).2.2.length=n∧in32 (dropD rec left vals l v).2.2∧((dropD rec left vals l v).1=2→holdL (dropD rec left vals l v).2.2 l):=by
 unfold dropD
 generalize left-max ((lowsOf l v).length*(highsOf l v).length) 1=left'
 split
 ·exact ⟨hn,hr,fun h=>by simp at h⟩
 ·split
  ·exact ⟨hn,hr,fun h=>by simp at h⟩
  ·rename_i hd
   have hd0:dropErr l v=0:=by omega
   obtain ⟨q1,q2,q3⟩:=hrec left' vals (dropList l v) hn (drop_good hg hl240 hd0) (boxed_drop hg hd0 hbx) hr
   split
   ·rename_i hs
    have hh:=q3 hs
    generalize (rec left' vals (dropList l v)).2.2=r at q1 q2 hh ⊢
    have hpk:=pick_in hg hq hd0 ⟨hv.1,hv40⟩ q1 q2 hex hbv hh
    have hpb:=pickR_b _ _ (span_lob l v r) (span_hib l v r)
    generalize pickR (spanLo l v r) (spanHi l v r)=t at hpk hpb ⊢
    have hvr:0≤v∧v<r.length:=by omega
    refine ⟨by rw [List.length_set];exact q1,in32_set q2 hpb,fun _ x hx=>?_⟩
    by_cases hk:kOf x.t.l v=0
    ·have hm:x∈dropList l v:=List.mem_append_left _ (List.mem_filter.2 ⟨hx,by simp [hk]⟩)
     have:=hh x hm
     unfold holdX at this ⊢
     rw [valF_set0 hvr _ hk];exact this
    ·have:=hpk x hx hk
     unfold holdX
     rw [hq x hx,if_neg (by simp)]
     rw [rest_val (hg.2 x hx).1] at this
     rw [valF_split x.t.c (kOf x.t.l) (r.set v.toNat t) ⟨hv.1,hv40⟩,valF_set hvr,valOf_set hvr hv.1,if_pos rfl]
     exact this
   ·rename_i hs
    exact ⟨q1,q2,fun h=>absurd h hs⟩
theorem equalR_v {x:Cons} {v:Int} (hx:okC x=true) (hv:0≤v∧v<40) (he:x.eq=true) (hk:oneB (kOf x.t.l v)=true):kOf (equalR x v).2.1 v=0∧∀ w,kOf (equalR x v).2.1 w≠0→kOf x.t.l w≠0:=by
 obtain ⟨e1,e2,e3,e4⟩:=equalR_spec hx hv he hk
 refine ⟨by rw [e4,if_pos rfl];omega,fun w hw h0=>hw ?_⟩
 rw [e4]
 by_cases h:w=v
 ·rw [if_pos h];omega
 ·rw [if_neg h,h0];omega
theorem bxB_erase {l:List Cons} {w c k:Int} {q:Nat} {x:Cons} (hx:l[q]?=some x) (he:x.eq=true) (h:bxB l w c k):bxB (l.eraseIdx q) w c k:=by
 obtain ⟨y,h1,h2,h3⟩:=h
 refine ⟨y,?_,h2,h3⟩
 obtain ⟨i,hi,rfl⟩:=List.getElem_of_mem h1
 rw [List.mem_eraseIdx_iff_getElem]
 refine ⟨i,hi,?_,rfl⟩
 intro e
 subst e
 rw [List.getElem?_eq_getElem hi] at hx
 cases hx
 rw [h2] at he;cases he
theorem stepD_sat {n:Nat} {rec:Nat→List Int→List Cons→Ans} (hrec:SatAt n rec):SatAt n (stepD rec):=by
 intro left vals l hn hg hbx hr
 unfold stepD
 split
 ·rename_i hw
  refine ⟨hn,hr,fun h=>?_⟩
  rcases allW_spec l with ⟨h1,h2⟩|⟨h1,h2,h3⟩|⟨h1,h2,_⟩
  ·simp only at h;omega
  ·exact (all_hold hg h2 vals).1 (by rw [h3];intro x hx;cases hx)
  ·simp only at h;omega
 ·rename_i hw
  have hnv:neverB l=false:=by
   rcases allW_spec l with ⟨h1,h2⟩|⟨h1,h2,_⟩|⟨h1,h2,_⟩
   ·omega
   ·exact h2
   ·exact h2
  split
  ·exact ⟨hn,hr,fun h=>by simp at h⟩
  ·have hg1:=all_good hg
   have hb1:=boxed_all hg hbx
   have hh1:=fun r=>(all_hold hg hnv r).1
   split
   ·rename_i i v hu
    obtain ⟨q,x,rfl,hx,hgx,hxm,hxg,hxe,hone,hub,h40,hge,he2,hev⟩:=unit_facts hg1 hu
    unfold unitD
    rw [hgx]
    split
    ·exact ⟨hn,hr,fun h=>by simp at h⟩
    ·have hko:kOf x.t.l v≠0:=by intro e;rw [e] at hone;cases hone
     have hers:∀ w,kOf x.t.l w≠0→bx2 ((allS l).eraseIdx (q:Int).toNat) w:=fun w hw=>⟨bxB_erase hx hxe (hb1 x hxm w hw).1,bxB_erase hx hxe (hb1 x hxm w hw).2⟩
     have hbe:boxed ((allS l).eraseIdx (q:Int).toNat):=fun y hy w hw=>by
      have:=hb1 y (List.mem_of_mem_eraseIdx hy) w hw
      exact ⟨bxB_erase hx hxe this.1,bxB_erase hx hxe this.2⟩
     obtain ⟨z1,z2⟩:=equalR_v hxg.1 ⟨hub.1,h40⟩ hxe hone
     obtain ⟨p1,p2,p3⟩:=swapD_sat (left:=left-1) hrec hn hge hbe hr he2 hev hub h40 z1 (fun w hw=>hers w (z2 w hw)) (hers v hko)
     refine ⟨p1,p2,fun h=>hh1 _ fun y hy=>?_⟩
     obtain ⟨g1,g2⟩:=p3 h
     have hxh:=(equal_hold hxg.1 ⟨hub.1,h40⟩ hxe hone _).2 g2
     by_cases hyx:y∈(allS l).eraseIdx (q:Int).toNat
     ·exact g1 y hyx
     ·have hyq:y=x:=by
       obtain ⟨i,hi,rfl⟩:=List.getElem_of_mem hy
       by_cases hiq:i=q
       ·subst hiq
        rw [List.getElem?_eq_getElem hi] at hx
        cases hx;rfl
       ·exact absurd (List.mem_eraseIdx_iff_getElem.2 ⟨i,hi,by simpa using hiq,rfl⟩) hyx
      rw [hyq];exact hxh
   ·have hg2:=uneq_good hg1 (by omega)
    have hb2:=boxed_uneq hg1 hb1
    have hq2:∀ x∈uneq (allS l),x.eq=false:=fun x hx=>uneq_eq hx
    have hh2:=fun r h=>hh1 r ((uneq_hold hg1 r).1 h)
    unfold noUnitD
    split
    ·exact ⟨hn,hr,fun h=>by simp at h⟩
    ·have hw0:allW l=0:=by omega
     have hlm:=leastV_mem (uneq_vars (allW_ne hw0) fun y hy=>allS_ne hy)
     have hlv:=var_good hg2 hlm
     split
     ·obtain ⟨p1,p2,p3⟩:=splitD_sat (left:=left) hrec hn hg2 hb2 hr (by omega) ⟨hlv.1,hlv.2.1⟩ hlv.2.2 (var_box hg2 hb2 hlm)
      exact ⟨p1,p2,fun h=>hh2 _ (p3 h)⟩
     ·rename_i hx0
      obtain ⟨e1,e2⟩:=exactV_mem hx0
      have hev:=var_good hg2 e1
      obtain ⟨p1,p2,p3⟩:=dropD_sat (left:=left) hrec hn hg2 hq2 hb2 hr (by omega) ⟨hev.1,hev.2.1⟩ hev.2.2 (var_box hg2 hb2 e1) (exP_spec e2).2
      exact ⟨p1,p2,fun h=>hh2 _ (p3 h)⟩
theorem ansD_sat {n:Nat}:∀ d:Nat,SatAt n (ansD d)
 | 0=>fun left vals l hn _ _ hr=>⟨hn,hr,fun h=>by simp [ansD] at h⟩
 | d+1=>stepD_sat (ansD_sat d)
end Go.Proofs.YthdlkpmhjbaplaaGreat.Dx
namespace Go.Proofs.YthdlkpmhjbaplaaGreat.Dx
open Go
theorem fsem_of_csem {F:Tr Fd} {f:P} {ps:List P} {body:C} {rs:List Rs} {args:List VV} {nx:Nat} {h:VHp} {R:VV→Nat→VHp→Prop} {e:VEnv}
 (hf:Tr.get? f F=some (.mk ps body rs)) (he:vbinds ps args .nl=some e) (H:CSem F body ⟨e,nx,0,h⟩ (retK rs R)):FSem F f args nx h R:=by
 intro c dnx dh g ds hc hR hx
 obtain ⟨d,hb,hE⟩:=vbinds_sound hx EnvR.nl he
 obtain ⟨o,s',d',g',⟨fuel,hrun⟩,R',hw,E,hK⟩:=H c ⟨d,dnx,dh⟩ g hc ⟨hE,hR⟩
 have main:∀ r,vres rs s'=some r→R r s'.nx s'.h→(o=.norm∨o=.ret)→∃ r nx' h' x dnx' dh' g',(∃ fuel,∀ n,fuel≤n→∀ (e0:Env) (k:Kv),callK F (exec F n) c.wm f ds e0 dnx dh k=k e0 x dnx' dh')∧
  HpR c nx' 0 h' dnx' dh' g'∧XR g'.Z dh' (mm nx' h' g') r x∧Evo nx h dnx dh g nx' h' dnx' dh' g'∧R r nx' h':=by
  intro r hr hRr ho
  unfold vres at hr
  cases hv:vrsL rs s' with
  | none=>simp only [hv,reduceCtorEq] at hr
  | some vs=>
   simp only [hv,Option.some.injEq] at hr;subst hr
   obtain ⟨xs,h1,h2⟩:=vrsL_sound R' hv
   have hh:s'.w=0:=hw
   refine ⟨_,s'.nx,s'.h,one xs,d'.nx,d'.h,g',⟨fuel+1,fun n hn e0 k=>?_⟩,by have:=R'.hp;rw [hh] at this;exact this,vone_sound h2,E,hRr⟩
   obtain ⟨n,rfl⟩:∃ m,n=m+1:=⟨n-1,by omega⟩
   show Option.rec (motive:=fun _=>Res) .fail (callF (exec F (n+1)) c.wm ds e0 dnx dh k) (Tr.get? f F)=_
   rw [hf]
   show bindK ps ds .nl (fun e=>retR (exec F (n+1) body c.wm e dnx dh) rs e0 k)=_
   rw [bindK_eq,hb]
   show retR (step body F (exec F n) c.wm d dnx dh) rs e0 k=_
   rw [hrun n (by omega)]
   have:retE rs e0 k d'.e d'.nx d'.h=k e0 (one xs) d'.nx d'.h:=by
    show rsL rs d'.e d'.h (fun vs=>oneK vs fun v=>fV v fun v=>k e0 v d'.nx d'.h)=_
    rw [rsL_eq,h1]
    show oneK xs (fun v=>fV v fun v=>k e0 v d'.nx d'.h)=_
    rw [oneK_eq,fV_eq]
   rcases ho with rfl|rfl<;>exact this
 unfold retK at hK
 cases o with
 | exit i=>exact hK.elim
 | norm=>
  simp only at hK
  cases hr:vres rs s' with
  | none=>simp only [hr] at hK
  | some r=>simp only [hr] at hK;exact main r hr hK (.inl rfl)
 | ret=>
  simp only at hK
  cases hr:vres rs s' with
  | none=>simp only [hr] at hK
  | some r=>simp only [hr] at hK;exact main r hr hK (.inr rfl)
theorem CSem.seqR {F:Tr Fd} {a b:C} {s:VSt} {K:Out→VSt→Prop} (J:VSt→Prop) (Ha:wC F a s (fun o s'=>o=.norm∧J s')) (Hb:∀ s',J s'→CSem F b s' K):CSem F (.seq a b) s K:=by
 intro c d g hc R
 obtain ⟨o1,s1,d1,g1,⟨f1,r1⟩,R1,hw1,E1,rfl,H1⟩:=wC_sound Ha c d g hc R
 have run:∀ n,f1≤n→step (.seq a b) F (exec F n) c.wm d.e d.nx d.h=sqO (step b) F (exec F n) c.wm .norm d1.e d1.nx d1.h:=by
  intro n hn
  show Res.rec (motive:=fun _=>Res) .fail (sqO (step b) F (exec F n) c.wm) (step a F (exec F n) c.wm d.e d.nx d.h)=_
  rw [r1 n hn]
 obtain ⟨o2,s2,d2,g2,⟨f2,r2⟩,R2,hw2,E2,H2⟩:=Hb s1 H1 c d1 g1 hc R1
 exact ⟨o2,s2,d2,g2,⟨max f1 f2,fun n hn=>by rw [run n (by omega)];exact r2 n (by omega)⟩,R2,hw2.trans hw1,E1.trans E2,H2⟩
theorem CSem.frzV {F:Tr Fd} {cd:C} {s:VSt} {K:Out→VSt→Prop} (p:P) (i:Nat) {l:List VV} {v v':VV} (hp:Tr.get? p s.e=some (.var l)) (hi:l[i]?=some v) (hv:vw s.h v=some v')
 (H:CSem F cd ⟨Tr.set p s.e (some (.var (l.take i++v'::l.drop (i+1)))),s.nx,s.w,hdels s.h (keysV v)⟩ K):CSem F cd s K:=by
 intro c d g hc R
 obtain ⟨R1,E1⟩:=R.hp.freeze (keysV v) (zOf s.h g (keysV v)) fun b=>Iff.rfl
 have hE:=E1.env R.env
 obtain ⟨y,hy,hx⟩:=R.env.get hp
 obtain ⟨l',rfl,hl⟩:=hx.var_inv
 obtain ⟨d0,hd0,hd1⟩:=hl.get i _ hi
 have hd2:=(vw_sound R.hp hd1 hv (ks:=keysV v) fun k h=>h).none_any (M:=mm s.nx (hdels s.h (keysV v)) ⟨zOf s.h g (keysV v),g.μ⟩)
 have R2:RS c ⟨Tr.set p s.e (some (.var (l.take i++v'::l.drop (i+1)))),s.nx,s.w,hdels s.h (keysV v)⟩ d ⟨zOf s.h g (keysV v),g.μ⟩:=by
  refine ⟨fun q=>?_,R1⟩
  show match Tr.get? q (Tr.set p s.e (some (.var (l.take i++v'::l.drop (i+1))))),Tr.get? q d.e with|none,none=>True|some u,some x=>XR (zOf s.h g (keysV v)) d.h (mm s.nx (hdels s.h (keysV v)) ⟨zOf s.h g (keysV v),g.μ⟩) u x|_,_=>False
  rw [Tr.get_set]
  by_cases hq:q=p
  ·subst hq;rw [if_pos rfl,hy]
   have hl2:=E1.xrs hl
   have e:l'=l'.take i++d0::l'.drop (i+1):=by
    rw [←drop_cons' hd0,List.take_append_drop]
   show XR _ _ _ (.var _) (.var l')
   rw [e]
   exact .var ((hl2.take i).append (.cons hd2 (hl2.drop _)))
  ·rw [if_neg hq];exact hE q
 obtain ⟨o,s',d',g',hr,R',hw,E,hK⟩:=H c d _ hc R2
 exact ⟨o,s',d',g',hr,R',hw,E1.trans E,hK⟩
end Go.Proofs.YthdlkpmhjbaplaaGreat.Dx
namespace Go.Proofs.YthdlkpmhjbaplaaGreat.Dx
open Go
open Nat renaming reduceAdd → rdA, reduceMul → rdM, reduceLeDiff → rdL, reduceLT → rdT, reduceEqDiff → rdE
open Int renaming reduceNegSucc → rdN
attribute [local irreducible] wCall wLoop
attribute [local go_sem] decide_true decide_false Bool.and_true Bool.true_and Bool.and_self Bool.false_and Bool.and_false vMs vCs vIs Slots At Tr.get_z Tr.get_l Tr.get_r Tr.get_e Tr.set_z_e Tr.set_z_n Tr.set_l_e Tr.set_l_n Tr.set_r_e Tr.set_r_n eOs_n eOs_c eDs_n eDs_c ekOs ekDs ekPut ekBack ekSeq_n ekSeq_x ekSeq_r ekBlk_n ekBlk_x ekBlk_r eO_mk eO_gd eO_loc eO_locb eD_mk eD_loc eD_locb eD_gd eDr eC_skip eC_reg eC_drw eC_seq eC_cond eC_block eC_loop eC_exit eC_ret eRetW_n eRetW_r wk wkL eRet_n eRet_r ekLd_n ekLd_x ekLd_r ekLp_n ekLp_x ekLp_r wI wBin wBd vev vov vovs vplace vouter ofDV ofDVs vcells spl vfills vput vuse vuseP vback vbackP wOf vbare isVarV vkeep hget hset hdels hdel hkeys live vw vwL keysV keysL pureV pureL vsrc veqs vmx vmn vT cT vC cC VOb.cells vres vrsL vrs1 vone List.length_cons List.length_nil List.getElem?_cons_zero List.getElem?_cons_succ List.take_succ_cons List.take_zero List.drop_succ_cons List.drop_zero List.drop_nil List.take_nil List.nil_append List.cons_append List.append_nil Option.some.injEq Nat.zero_add Nat.add_zero if_true if_false ite_true ite_false true_and and_true false_and and_false true_implies implies_true false_implies Bool.true_eq_false Bool.false_eq_true Bool.not_true Bool.not_false eq_self_iff_true Int.toNat_natCast Int.ofNat_eq_natCast Int.ofNat_zero Int.ofNat_one Int.cast_ofNat_Int VV.int.injEq VV.bool.injEq cond_true cond_false
def seekO (j n left:Nat):VHp:=[(j,.obj [.int .i64 n,.int .i64 left])]
def SeekR (j n nx:Nat) (a:Ans) (r:VV) (nx':Nat) (h':VHp):Prop:=
 (a.1=2∧∃ k,nx≤k∧k<nx'∧r=.tup [.int .i64 2,.ow k n 1]∧h'=[(k,.row (encI a.2.2)),(j,.obj [.int .i64 n,.int .i64 a.2.1])])∨(a.1≠2∧r=.tup [.int .i64 a.1,.nils]∧h'=seekO j n a.2.1)
def SeekSem (f:P) (args:List VV) (j n nx left:Nat) (a:Ans):Prop:=
 FSem FT f (.pt j 2 0::args) nx (seekO j n left) (SeekR j n nx a)
theorem rburn_ok (j n left c:Nat) (nx:Nat) (hl:left≤1000000) (hc:c≤1000000000000):
 FSem FT p77 [.pt j 2 0,.int .i64 c] nx (seekO j n left) (fun r nx' h'=>nx'=nx∧r=.bool (decide (c≤left))∧h'=seekO j n (if c≤left then left-c else left)):=by
 refine fsem_of_body (f:=p77) rfl rfl ?_
 by_cases h:c≤left
 ·have d:decide ((left:Int)<(c:Int))=false:=by simp;omega
  have w1:IntKind.i64.wrap ((left:Int)-(c:Int))=((left-c:Nat):Int):=by rw [i64 (by omega)];omega
  rw [if_pos h,decide_eq_true h]
  simp -implicitDefEqProofs only [eRetK_r,seekO,d,w1,go_sem,reduceCtorEq,rdA,rdM,rdL,rdT,rdE,rdN,↓gTT,↓gFF,↓gTF,↓gFT]
  exact Nat.zero_le _
 ·have d:decide ((left:Int)<(c:Int))=true:=by simp;omega
  rw [if_neg h,decide_eq_false h]
  simp -implicitDefEqProofs only [eRetK_r,seekO,d,go_sem,reduceCtorEq,rdA,rdM,rdL,rdT,rdE,rdN,↓gTT,↓gFF,↓gTF,↓gFT]
theorem wCall_rburn {s:VSt} {K:VSt→VV→Prop} {j n left c:Nat} {H:VHp} (hl:left≤1000000) (hc:c≤1000000000000) (hw:s.w=0) (hh:s.h=seekO j n left++H) (hH:hdel H j=H)
 (hK:K ⟨s.e,s.nx,0,seekO j n (if c≤left then left-c else left)++H⟩ (.bool (decide (c≤left)))):wCall FT p77 [.pt j 2 0,.int .i64 c] s K:=by
 refine wCall_heap (hin:=seekO j n left) (rburn_ok j n left c s.nx hl hc) (fun k o h=>⟨?_,by omega⟩) ?_ ?_
 ·rw [hh];simp only [seekO,hget,List.cons_append,List.nil_append] at h ⊢
  split at h
  ·rename_i h1;rw [if_pos h1];exact h
  ·cases h
 ·rintro r nx' h' ⟨rfl,rfl,rfl⟩
  refine ⟨by simp [closed,keysV],?_⟩
  intro k o ho
  simp only [seekO,hget] at ho
  split at ho
  ·cases ho;simp [closed,okeys,keysL,keysV]
  ·cases ho
 ·rintro r nx' h' ⟨rfl,rfl,rfl⟩ hn
  have hk:hdels s.h (hkeys (seekO j n left))=H:=by
   rw [hh];simp [seekO,hkeys,hdels,hdel,hH]
  rw [hk,hw]
  exact hK
theorem wCall_seek {f:P} {args:List VV} {s:VSt} {K:VSt→VV→Prop} {j n left:Nat} {a:Ans} {H:VHp} (hsem:SeekSem f args j n s.nx left a) (hw:s.w=0) (hj:j<s.nx) (hh:s.h=seekO j n left++H) (hH:hdel H j=H)
 (h2:a.1=2→∀ k nx',s.nx≤k→k<nx'→(k=j)=False→(j=k)=False→K ⟨s.e,nx',0,(k,.row (encI a.2.2))::(j,.obj [.int .i64 n,.int .i64 a.2.1])::H⟩ (.tup [.int .i64 2,.ow k n 1]))
 (h3:a.1≠2→∀ nx',s.nx≤nx'→K ⟨s.e,nx',0,seekO j n a.2.1++H⟩ (.tup [.int .i64 a.1,.nils])):wCall FT f (.pt j 2 0::args) s K:=by
 have hk:hdels s.h (hkeys (seekO j n left))=H:=by
  rw [hh];simp [seekO,hkeys,hdels,hdel,hH]
 refine wCall_heap (hin:=seekO j n left) hsem (fun k o h=>⟨?_,by omega⟩) ?_ ?_
 ·rw [hh];simp only [seekO,hget,List.cons_append,List.nil_append] at h ⊢
  split at h
  ·rename_i h1;rw [if_pos h1];exact h
  ·cases h
 ·rintro r nx' h' (⟨e,k,hk1,hk2,rfl,rfl⟩|⟨e,rfl,rfl⟩)
  ·refine ⟨by simp [closed,keysV,keysL,hkeys],?_⟩
   intro k' o ho
   simp only [hget] at ho
   split at ho
   ·cases ho;simp [closed,okeys]
   ·split at ho
    ·cases ho;simp [closed,okeys,keysL,keysV]
    ·cases ho
  ·refine ⟨by simp [closed,keysV,keysL],?_⟩
   intro k o ho
   simp only [seekO,hget] at ho
   split at ho
   ·cases ho;simp [closed,okeys,keysL,keysV]
   ·cases ho
 ·rintro r nx' h' (⟨e,k,hk1,hk2,rfl,rfl⟩|⟨e,rfl,rfl⟩) hn
  ·rw [hk,hw]
   exact h2 e k nx' hk1 hk2 (by simp;omega) (by simp;omega)
  ·rw [hk,hw]
   exact h3 e nx' hn
abbrev zerosL (n:Nat):List Int:=List.replicate n 0
def SeekAt (j n:Nat) (rec:Nat→List Int→List Cons→Ans) (left:Nat):Prop:=
 ∀ (l:List Cons) (nx:Nat),good n l→boxed l→j<nx→SeekSem p22 [.fz l.length none 3 (encC l)] j n nx left (rec left (zerosL n) l)
theorem zeros_len (n:Nat):(zerosL n).length=n:=by simp
theorem zeros_in (n:Nat):in32 (zerosL n):=by
 unfold in32;rw [List.any_eq_false];intro x hx
 rw [List.eq_of_mem_replicate hx];decide
theorem vsub_take (L:List Cons) (q:Nat):vsub (encC L) 3 0 q=encC (L.take q):=by
 unfold vsub;rw [Nat.zero_mul,List.drop_zero,Nat.sub_zero,encC_take]
theorem vsub_drop (L:List Cons) (q:Nat):vsub (encC L) 3 q L.length=encC (L.drop q):=by
 unfold vsub;rw [encC_drop,List.take_of_length_le];rw [encC_len,List.length_drop];omega
theorem eraseC2 (L:List Cons) (q:Nat):encC (L.take q)++encC (L.drop (q+1))=encC (L.eraseIdx q):=by
 rw [←encC_app,List.eraseIdx_eq_take_drop_succ]
theorem good_right {n:Nat} {L:List Cons} {u:Int} (hg:good n L) (h:0≤u∧u<40):rightB L u=true:=by
 simp only [rightB,Bool.and_eq_true,decide_eq_true_eq];exact ⟨h,hg.ok⟩
set_option maxHeartbeats 1000000 in
theorem runit_sem {j n left nx:Nat} {rec:Nat→List Int→List Cons→Ans} {L:List Cons} {i u:Int} (hrec:∀ left',left'<left→SeekAt j n rec left') (hsat:SatAt n rec) (hj:j<nx) (hn1:n≤1000000)
 (hg:good n L) (hbx:boxed L) (hl:left≤1000000) (hu:unitOf L 0=some (i,u)):SeekSem p41 [.fz L.length none 3 (encC L),.int .i64 i,.int .i64 u] j n nx left (unitD rec left (zerosL n) L i u):=by
 obtain ⟨q,x,rfl,hx,hgx,hxm,hxg,hxe,hone,hub,h40,hge,he2,hev⟩:=unit_facts hg hu
 refine FSem.sub (fsem_of_body (f:=p41) rfl rfl ?_)
 unfold unitD
 rw [hgx]
 rw [Int.toNat_natCast] at hge ⊢
 have hql:q<L.length:=(List.getElem?_eq_some_iff.1 hx).1
 have hxo:okC x=true:=hxg.1
 have hEq:=rEqual_ok x u (good_right (n:=n) ⟨by simp,by simp;exact hxg⟩ ⟨hub.1,h40⟩) hxe hone
 obtain ⟨E,hE⟩:∃ E,E=equalR x u:=⟨_,rfl⟩
 have hbE:=equalR_v hxo ⟨hub.1,h40⟩ hxe hone
 rw [←hE] at hEq he2 hev hbE ⊢
 simp -implicitDefEqProofs only [go_sem,reduceCtorEq,rdA,rdM,rdL,rdT,rdE,rdN,↓gTT,↓gFF,↓gTF,↓gFT]
 refine wCall_rburn (c:=1) (H:=[]) hl (by omega) rfl rfl rfl ?_
 by_cases h1:1≤left
 case neg=>
  rw [if_neg h1,decide_eq_false h1,if_pos (by omega)]
  simp -implicitDefEqProofs only [Bool.not_false,eRetK_r,seekO,go_sem,reduceCtorEq,rdA,rdM,rdL,rdT,rdE,rdN,↓gTT,↓gFF,↓gTF,↓gFT]
  exact ⟨_,subH_refl _,.inr ⟨by simp,rfl,rfl⟩⟩
 rw [if_pos h1,decide_eq_true h1,if_neg (by omega)]
 simp -implicitDefEqProofs only [Bool.not_true,encC_cut hx,encC_len,go_sem,reduceCtorEq,rdA,rdM,rdL,rdT,rdE,rdN,↓gTT,↓gFF,↓gTF,↓gFT]
 refine ⟨⟨by omega,by omega⟩,by omega,?_⟩
 refine wCall_pp (by simp [pureL,pureV]) hEq (by simp [pureL,pureV]) ?_
 have j1:(nx=j)=False:=by simp;omega
 have j2:(j=nx)=False:=by simp;omega
 have w1:IntKind.i64.wrap ((q:Int)+1)=((q+1:Nat):Int):=by rw [i64 (by have:=hg.1;omega)];omega
 have hmin:min q L.length=q:=by omega
 simp -implicitDefEqProofs only [Int.toNat_zero,Nat.sub_zero,encC_len,w1,vsub_take,vsub_drop,List.length_take,List.length_drop,hmin,eraseC2,seekO,j1,j2,go_sem,reduceCtorEq,rdA,rdM,rdL,rdT,rdE,rdN,↓gTT,↓gFF,↓gTF,↓gFT]
 have hll:=hg.1
 have hel:(L.eraseIdx q).length=q+(L.length-(q+1)):=by rw [List.length_eraseIdx,if_pos hql];omega
 refine ⟨⟨by omega,by omega⟩,by omega,⟨by omega,by omega⟩,by omega,by omega,?_⟩
 have hS:=rSwap_ok (L.eraseIdx q) u E.1 E.2.1 (good_right hge ⟨hub.1,h40⟩) hge.small he2
 rw [←hel]
 have hbx2:∀ w c k,bxB L w c k→bxB (L.eraseIdx q) w c k:=fun w c k h=>bxB_erase hx hxe h
 have hbxe:boxed (L.eraseIdx q):=fun y hy w hw=>(hbx y (List.mem_of_mem_eraseIdx hy) w hw).imp (hbx2 _ _ _) (hbx2 _ _ _)
 have hbbE:∀ w,kOf E.2.1 w≠0→bx2 (L.eraseIdx q) w:=fun w hw=>(hbx x hxm w (hbE.2 w hw)).imp (hbx2 _ _ _) (hbx2 _ _ _)
 generalize hM:L.eraseIdx q=M at hS hge hbxe hbbE ⊢
 by_cases hE0:swapE M u E.1 E.2.1=0
 case neg=>
  have e:rSwapV M u E.1 E.2.1=.tup [.fz 0 none 3 [],.bool false]:=by unfold rSwapV;rw [if_neg hE0,decide_eq_false hE0];rfl
  rw [e] at hS
  refine wCall_any (args':=[.fz M.length none 3 (encC M),.int .i64 u,.agg [.int .i64 E.1,.fz E.2.1.length none 2 (encM E.2.1)]]) (b:=false) (by simp -implicitDefEqProofs only [encC_len,j1,j2,go_sem,reduceCtorEq,rdA,rdM,rdL,rdT,rdE,rdN,↓gTT,↓gFF,↓gTF,↓gFT]) hS rfl (by simp [pureL,pureV]) rfl ?_
  unfold swapD
  rw [if_pos hE0]
  simp -implicitDefEqProofs only [Bool.not_false,eRetK_r,j1,j2,go_sem,reduceCtorEq,rdA,rdM,rdL,rdT,rdE,rdN,↓gTT,↓gFF,↓gTF,↓gFT]
  exact ⟨_,subH_refl _,.inr ⟨by simp,rfl,rfl⟩⟩
 have e:rSwapV M u E.1 E.2.1=.tup [.fz (swapL M u E.1 E.2.1).length none 3 (encC (swapL M u E.1 E.2.1)),.bool true]:=by unfold rSwapV;rw [if_pos hE0,hE0];rfl
 rw [e] at hS
 refine wCall_any (args':=[.fz M.length none 3 (encC M),.int .i64 u,.agg [.int .i64 E.1,.fz E.2.1.length none 2 (encM E.2.1)]]) (b:=false) (by simp -implicitDefEqProofs only [encC_len,j1,j2,go_sem,reduceCtorEq,rdA,rdM,rdL,rdT,rdE,rdN,↓gTT,↓gFF,↓gTF,↓gFT]) hS (by simp [pureV,pureL]) (by simp [pureL,pureV]) (by simp [scal,scalL,scal1,pureL,pureV]) ?_
 unfold swapD
 rw [if_neg (by omega)]
 have hgS:=swap_good hge he2 hev hE0
 have hbS:=boxed_swap hge he2 hE0 hbE.1 hbbE hbxe
 have hR:=fun nx'=>hrec (left-1) (by omega) (swapL M u E.1 E.2.1) nx' hgS hbS
 obtain ⟨r1,r2,r3⟩:=hsat (left-1) (zerosL n) (swapL M u E.1 E.2.1) (zeros_len n) hgS hbS (zeros_in n)
 obtain ⟨A,hA⟩:∃ A,A=rec (left-1) (zerosL n) (swapL M u E.1 E.2.1):=⟨_,rfl⟩
 rw [←hA] at hR r1 r2 r3 ⊢
 simp -implicitDefEqProofs only [Bool.not_true,j1,j2,go_sem,reduceCtorEq,rdA,rdM,rdL,rdT,rdE,rdN,↓gTT,↓gFF,↓gTF,↓gFT]
 refine wCall_seek (H:=[]) (hR _ (by show j<nx+1;omega)) rfl (by show j<nx+1;omega) rfl rfl ?_ ?_
 ·intro h2 k nx' hk hk2 k1 k2
  have hTz:=told_zero he2 hev r1 r2
  have hVal:=rValue_ok E.1 E.2.1 A.2.2 hTz (by omega)
  have d2:decide (A.1=2)=true:=by simpa using h2
  obtain ⟨uu,rfl⟩:∃ uu:Nat,u=uu:=⟨u.toNat,by omega⟩
  rw [if_pos h2]
  simp -implicitDefEqProofs only [show decide ((2:Int)=2)=true from rfl,k1,k2,go_sem,reduceCtorEq,rdA,rdM,rdL,rdT,rdE,rdN,↓gTT,↓gFF,↓gTF,↓gFT]
  refine wCall_any (args':=[.agg [.int .i64 E.1,.fz E.2.1.length none 2 (encM E.2.1)],.fz A.2.2.length none 1 (encI A.2.2)]) (b:=true) (by simp -implicitDefEqProofs only [encI_len,r1,Nat.mul_one,k1,k2,go_sem,reduceCtorEq,rdA,rdM,rdL,rdT,rdE,rdN,↓gTT,↓gFF,↓gTF,↓gFT]) hVal rfl (by simp [pureL,pureV]) rfl ?_
  simp -implicitDefEqProofs only [encI_len,r1,Nat.mul_one,k1,k2,eRetK_r,go_sem,reduceCtorEq,rdA,rdM,rdL,rdT,rdE,rdN,↓gTT,↓gFF,↓gTF,↓gFT]
  have hk':nx+1≤k:=hk
  refine ⟨by omega,by omega,by omega,_,subH_refl _,.inl ⟨rfl,k,by omega,hk2,rfl,?_⟩⟩
  rw [encI_set2 _ _ _ (by omega)]
  simp only [valueR,hTz,if_true]
 ·intro h2 nx' hk
  have d2:decide (A.1=2)=false:=by simpa using h2
  rw [if_neg h2]
  simp -implicitDefEqProofs only [d2,seekO,eRetK_r,go_sem,reduceCtorEq,rdA,rdM,rdL,rdT,rdE,rdN,↓gTT,↓gFF,↓gTF,↓gFT]
  exact ⟨_,subH_refl _,.inr ⟨h2,rfl,rfl⟩⟩
theorem good_far {n:Nat} {l:List Cons} (v:Int) (hg:good n l):mayFar l v n=false:=by
 unfold mayFar
 rw [List.any_eq_false]
 intro x hx h
 rw [Bool.and_eq_true] at h
 obtain ⟨m,hm,h2⟩:=List.any_eq_true.1 h.2
 have hxg:=hg.2 x hx
 have hmm:=okM_spec.1 (okFrom_ok (okT_spec.1 hxg.1).2.2.2 m hm)
 have:=hxg.2 m.v (by rw [mem_kOf (okT_spec.1 hxg.1).2.2.2 m hm];exact hmm.2.2.1)
 simp only [farB,Bool.and_eq_true,decide_eq_true_eq] at h2;omega
theorem rspan_good {n:Nat} {l:List Cons} {v:Int} {r:List Int} (hg:good n l) (hq:∀ x∈l,x.eq=false) (hv:0≤v∧v<40) (hn:r.length=n) (hn1:n≤1000000) (hr:in32 r):
 VPure FT p85 [.fz l.length none 3 (encC l),.int .i64 v,.fz r.length none 1 (encI r)] (.tup [.int .i64 (spanLo l v r),.int .i64 (spanHi l v r)]):=by
 have h0:=span_zero' hg hq hv hn hr
 have H:=rSpan_ok l v r hg.small hg.ok (by omega) (by rw [hn];exact good_far v hg) hr
 unfold spanLo spanHi
 rw [if_pos h0,if_pos h0,span_split]
 exact H
theorem rPick_R (lo hi:Int):VPure FT p84 [.int .i64 lo,.int .i64 hi] (.tup [.int .i64 (pickR lo hi),.bool (decide (lo≤hi))]):=by
 have H:=rPick_ok lo hi
 have e:pickR lo hi=if hi<lo then 0 else if 0<lo then lo else if hi<0 then hi else 0:=by
  unfold pickR;repeat' split
  all_goals omega
 rw [e];exact H
set_option maxHeartbeats 1000000 in
theorem rdrop_sem {j n left nx:Nat} {rec:Nat→List Int→List Cons→Ans} {L:List Cons} {v:Int} (hrec:∀ left',left'<left→SeekAt j n rec left') (hsat:SatAt n rec) (hj:j<nx) (hn1:n≤1000000)
 (hg:good n L) (h240:L.length≤240) (hbx:boxed L) (hq:∀ x∈L,x.eq=false) (hl:left≤1000000) (hv:0≤v∧v<n) (h40:v<40):SeekSem p45 [.fz L.length none 3 (encC L),.int .i64 v] j n nx left (dropD rec left (zerosL n) L v):=by
 refine FSem.sub (fsem_of_body (f:=p45) rfl rfl ?_)
 have j1:(nx=j)=False:=by simp;omega
 have j2:(j=nx)=False:=by simp;omega
 have hll:L.length≤100000:=hg.1
 simp -implicitDefEqProofs only [go_sem,reduceCtorEq,rdA,rdM,rdL,rdT,rdE,rdN,↓gTT,↓gFF,↓gTF,↓gFT]
 refine wLoop_by (fun m s=>∃ i:Nat,i+m=L.length∧At s [(p0,.pt j 2 0),(p1,.fz L.length none 3 (encC L)),(p2,.int .i64 v),(p8,.int .i64 (lowsOf (L.take i) v).length),(p9,.int .i64 (highsOf (L.take i) v).length),(p10,.int .i64 i)] nx 0 (seekO j n left)) L.length ?_ ?_
 ·exact ⟨0,by simp,by simp -implicitDefEqProofs only [seekO,go_sem,reduceCtorEq,rdA,rdM,rdL,rdT,rdE,rdN,↓gTT,↓gFF,↓gTF,↓gFT];simp [lowsOf,highsOf]⟩
 ·rintro m ⟨e,nx1,w,h⟩ ⟨i,hi,⟨s1,s2,s3,s4,s5,s6,-⟩,rfl,rfl,rfl⟩
  rcases Nat.lt_or_ge i L.length with hlt|hge
  ·obtain ⟨x,hx⟩:=has hlt
   have hxl:=hg.small.all x (List.mem_of_getElem? hx)
   have hlo:=lows_snoc v hx
   have hhi:=highs_snoc v hx
   have b1:(lowsOf (L.take i) v).length≤i:=Nat.le_trans (List.length_filter_le _ _) (List.length_take_le _ _)
   have b2:(highsOf (L.take i) v).length≤i:=Nat.le_trans (List.length_filter_le _ _) (List.length_take_le _ _)
   have w1:IntKind.i64.wrap (((lowsOf (L.take i) v).length:Int)+1)=(((lowsOf (L.take i) v).length+1:Nat):Int):=by rw [i64 (by omega)];omega
   have w2:IntKind.i64.wrap (((highsOf (L.take i) v).length:Int)+1)=(((highsOf (L.take i) v).length+1:Nat):Int):=by rw [i64 (by omega)];omega
   have hK:=Kr_ok x.t.c x.t.l v (by omega)
   have i1:=inc64 hlt (by omega:L.length≤4611686018427387904)
   simp -implicitDefEqProofs only [s1,s2,s3,s4,s5,s6,ltT hlt,encC_t hx,encC_len,i1,go_sem,reduceCtorEq,rdA,rdM,rdL,rdT,rdE,rdN,↓gTT,↓gFF,↓gTF,↓gFT]
   by_cases k1:kOf x.t.l v<0
   ·have d1:decide (kOf x.t.l v<0)=true:=by simpa using k1
    rw [if_pos k1] at hlo
    rw [if_neg (by omega)] at hhi
    repeat' (first|(with_reducible refine And.intro ?_ ?_)|(with_reducible refine gs_t ?_ ?_)|(with_reducible refine gs_f ?_ ?_)|(intro _)|((with_reducible apply wCall_any);(· (simp -implicitDefEqProofs only [go_sem,reduceCtorEq,rdA,rdM,rdL,rdT,rdE,rdN,↓gTT,↓gFF,↓gTF,↓gFT]<;>rfl));(· (exact hK));(· rfl);(· rfl);(· (first|exact Eq.refl true|exact Eq.refl false));(simp -implicitDefEqProofs only [d1,w1,i1,go_sem,reduceCtorEq,rdA,rdM,rdL,rdT,rdE,rdN,↓gTT,↓gFF,↓gTF,↓gFT]))|fail)
    all_goals first|omega|skip
    refine ⟨m-1,by omega,i+1,by omega,?_,?_,rfl⟩
    ·rw [hlo];simp
    ·rw [hhi]
   ·have d1:decide (kOf x.t.l v<0)=false:=by simpa using k1
    rw [if_neg k1] at hlo
    by_cases k2:0<kOf x.t.l v
    ·have d2:decide (0<kOf x.t.l v)=true:=by simpa using k2
     rw [if_pos k2] at hhi
     repeat' (first|(with_reducible refine And.intro ?_ ?_)|(with_reducible refine gs_t ?_ ?_)|(with_reducible refine gs_f ?_ ?_)|(intro _)|((with_reducible apply wCall_any);(· (simp -implicitDefEqProofs only [go_sem,reduceCtorEq,rdA,rdM,rdL,rdT,rdE,rdN,↓gTT,↓gFF,↓gTF,↓gFT]<;>rfl));(· (exact hK));(· rfl);(· rfl);(· (first|exact Eq.refl true|exact Eq.refl false));(simp -implicitDefEqProofs only [d1,d2,w2,i1,encC_t hx,encC_len,go_sem,reduceCtorEq,rdA,rdM,rdL,rdT,rdE,rdN,↓gTT,↓gFF,↓gTF,↓gFT]))|fail)
     all_goals first|omega|skip
     refine ⟨m-1,by omega,i+1,by omega,?_,?_,rfl⟩
     ·rw [hlo]
     ·rw [hhi];simp
    ·have d2:decide (0<kOf x.t.l v)=false:=by simpa using k2
     rw [if_neg k2] at hhi
     repeat' (first|(with_reducible refine And.intro ?_ ?_)|(with_reducible refine gs_t ?_ ?_)|(with_reducible refine gs_f ?_ ?_)|(intro _)|((with_reducible apply wCall_any);(· (simp -implicitDefEqProofs only [go_sem,reduceCtorEq,rdA,rdM,rdL,rdT,rdE,rdN,↓gTT,↓gFF,↓gTF,↓gFT]<;>rfl));(· (exact hK));(· rfl);(· rfl);(· (first|exact Eq.refl true|exact Eq.refl false));(simp -implicitDefEqProofs only [d1,d2,i1,encC_t hx,encC_len,go_sem,reduceCtorEq,rdA,rdM,rdL,rdT,rdE,rdN,↓gTT,↓gFF,↓gTF,↓gFT]))|fail)
     all_goals first|omega|skip
     exact ⟨m-1,by omega,i+1,by omega,by rw [hlo],by rw [hhi],rfl⟩
  ·rw [List.take_of_length_le hge] at s4 s5
   have hb1:(lowsOf L v).length≤240:=Nat.le_trans (List.length_filter_le _ _) h240
   have hb2:(highsOf L v).length≤240:=Nat.le_trans (List.length_filter_le _ _) h240
   have hb3:(lowsOf L v).length*(highsOf L v).length≤240*240:=Nat.mul_le_mul hb1 hb2
   have hw:IntKind.i64.wrap (((lowsOf L v).length:Int)*((highsOf L v).length:Int))=(((lowsOf L v).length*(highsOf L v).length:Nat):Int):=by
    rw [←Int.natCast_mul];exact i64 (by omega)
   have hmx:max (((lowsOf L v).length*(highsOf L v).length:Nat):Int) 1=((max ((lowsOf L v).length*(highsOf L v).length) 1:Nat):Int):=by omega
   simp -implicitDefEqProofs only [s1,s2,s3,s4,s5,s6,ltF hge,hw,hmx,go_sem,reduceCtorEq,rdA,rdM,rdL,rdT,rdE,rdN,↓gTT,↓gFF,↓gTF,↓gFT]
   clear s1 s2 s3 s4 s5 s6
   unfold dropD
   have hC1:1≤max ((lowsOf L v).length*(highsOf L v).length) 1:=by omega
   have hC2:max ((lowsOf L v).length*(highsOf L v).length) 1≤1000000:=by omega
   generalize max ((lowsOf L v).length*(highsOf L v).length) 1=C at hC1 hC2 ⊢
   refine wCall_rburn (left:=left) (c:=C) (H:=[]) hl (by omega) rfl rfl rfl ?_
   by_cases h1:C≤left
   case neg=>
    rw [if_neg h1,decide_eq_false h1,if_pos (by omega)]
    simp -implicitDefEqProofs only [Bool.not_false,eRetK_r,seekO,go_sem,reduceCtorEq,rdA,rdM,rdL,rdT,rdE,rdN,↓gTT,↓gFF,↓gTF,↓gFT]
    exact ⟨_,subH_refl _,.inr ⟨by simp,rfl,rfl⟩⟩
   rw [if_pos h1,decide_eq_true h1,if_neg (by omega)]
   simp -implicitDefEqProofs only [Bool.not_true,go_sem,reduceCtorEq,rdA,rdM,rdL,rdT,rdE,rdN,↓gTT,↓gFF,↓gTF,↓gFT]
   have hD:=rDrop_ok L v hg.small hg.ok
   by_cases hE0:dropErr L v=0
   case neg=>
    have e:rDropV L v=.tup [.fz 0 none 3 [],.bool false]:=by unfold rDropV;rw [if_neg hE0,decide_eq_false hE0];rfl
    rw [e] at hD
    rw [if_pos hE0]
    refine wCall_pp rfl hD rfl ?_
    simp -implicitDefEqProofs only [Bool.not_false,eRetK_r,seekO,go_sem,reduceCtorEq,rdA,rdM,rdL,rdT,rdE,rdN,↓gTT,↓gFF,↓gTF,↓gFT]
    exact ⟨_,subH_refl _,.inr ⟨by simp,rfl,rfl⟩⟩
   have e:rDropV L v=.tup [.fz (dropList L v).length none 3 (encC (dropList L v)),.bool true]:=by unfold rDropV;rw [if_pos hE0,hE0];rfl
   rw [e] at hD
   rw [if_neg (by omega)]
   refine wCall_pp (by simp [pureL,pureV]) hD (by simp [pureL,pureV]) ?_
   simp -implicitDefEqProofs only [Bool.not_true,go_sem,reduceCtorEq,rdA,rdM,rdL,rdT,rdE,rdN,↓gTT,↓gFF,↓gTF,↓gFT]
   have hgS:=drop_good hg h240 hE0
   have hbS:=boxed_drop hg hE0 hbx
   have hR:=fun nx'=>hrec (left-C) (by omega) (dropList L v) nx' hgS hbS
   obtain ⟨r1,r2,r3⟩:=hsat (left-C) (zerosL n) (dropList L v) (zeros_len n) hgS hbS (zeros_in n)
   obtain ⟨A,hA⟩:∃ A,A=rec (left-C) (zerosL n) (dropList L v):=⟨_,rfl⟩
   rw [←hA] at hR r1 r2 r3 ⊢
   refine wCall_seek (H:=[]) (hR _ hj) rfl hj rfl rfl ?_ ?_
   ·intro h2 k nx' hk hk2 k1 k2
    have hSp:=rspan_good (r:=A.2.2) hg hq ⟨hv.1,h40⟩ r1 hn1 r2
    have hPk:=rPick_R (spanLo L v A.2.2) (spanHi L v A.2.2)
    obtain ⟨uu,rfl⟩:∃ uu:Nat,v=uu:=⟨v.toNat,by omega⟩
    rw [if_pos h2]
    simp -implicitDefEqProofs only [show decide ((2:Int)=2)=true from rfl,k1,k2,go_sem,reduceCtorEq,rdA,rdM,rdL,rdT,rdE,rdN,↓gTT,↓gFF,↓gTF,↓gFT]
    refine wCall_any (args':=[.fz L.length none 3 (encC L),.int .i64 uu,.fz A.2.2.length none 1 (encI A.2.2)]) (b:=true) (by simp -implicitDefEqProofs only [encI_len,r1,Nat.mul_one,k1,k2,go_sem,reduceCtorEq,rdA,rdM,rdL,rdT,rdE,rdN,↓gTT,↓gFF,↓gTF,↓gFT]) hSp rfl (by simp [pureL,pureV]) rfl ?_
    simp -implicitDefEqProofs only [go_sem,reduceCtorEq,rdA,rdM,rdL,rdT,rdE,rdN,↓gTT,↓gFF,↓gTF,↓gFT]
    refine wCall_pp rfl hPk rfl ?_
    simp -implicitDefEqProofs only [encI_len,r1,Nat.mul_one,k1,k2,eRetK_r,go_sem,reduceCtorEq,rdA,rdM,rdL,rdT,rdE,rdN,↓gTT,↓gFF,↓gTF,↓gFT]
    refine ⟨by omega,by omega,by omega,_,subH_refl _,.inl ⟨rfl,k,hk,hk2,rfl,?_⟩⟩
    rw [encI_set2 _ _ _ (by omega)]
   ·intro h2 nx' hk
    have d2:decide (A.1=2)=false:=by simpa using h2
    rw [if_neg h2]
    simp -implicitDefEqProofs only [d2,seekO,eRetK_r,go_sem,reduceCtorEq,rdA,rdM,rdL,rdT,rdE,rdN,↓gTT,↓gFF,↓gTF,↓gFT]
    exact ⟨_,subH_refl _,.inr ⟨h2,rfl,rfl⟩⟩
theorem inP_perm (x:Int):∀ l:List Int,(insI x l).Perm (x::l)
 | []=>.refl _
 | y::t=>by
  unfold insI
  cases h:ilt y x with
  | true=>exact (List.Perm.cons y (inP_perm x t)).trans (.swap x y t)
  | false=>exact .refl _
theorem soP_perm:∀ l:List Int,(sortI l).Perm l
 | []=>.refl _
 | x::l=>by unfold sortI;exact (inP_perm x _).trans (.cons x (soP_perm l))
theorem inP_sorted (x:Int):∀ l:List Int,l.Pairwise (·≤·)→(insI x l).Pairwise (·≤·)
 | [],_=>by simp [insI]
 | y::t,h=>by
  have h2:=List.pairwise_cons.1 h
  unfold insI
  cases hh:ilt y x with
  | true=>
   rw [ilt_eq,decide_eq_true_eq] at hh
   refine List.pairwise_cons.2 ⟨fun z hz=>?_,inP_sorted x t h2.2⟩
   have hz':=(inP_perm x t).mem_iff.1 hz
   rcases List.mem_cons.1 hz' with rfl|hz'
   ·omega
   ·exact h2.1 z hz'
  | false=>
   rw [ilt_eq,decide_eq_false_iff_not] at hh
   refine List.pairwise_cons.2 ⟨fun z hz=>?_,h⟩
   rcases List.mem_cons.1 hz with rfl|hz'
   ·omega
   ·have:=h2.1 z hz';omega
theorem soP_sorted:∀ l:List Int,(sortI l).Pairwise (·≤·)
 | []=>.nil
 | x::l=>by unfold sortI;exact inP_sorted x _ (soP_sorted l)
theorem mem_vars {l:List Cons} {x:Cons} (hx:x∈l) {m:Mono} (hm:m∈x.t.l):m.v∈varsOf l:=
 List.mem_flatMap.2 ⟨x,hx,List.mem_map.2 ⟨m,hm,rfl⟩⟩
theorem vars_mem {l:List Cons} {w:Int} (h:w∈varsOf l):∃ x∈l,∃ m∈x.t.l,m.v=w:=by
 obtain ⟨x,hx,hm⟩:=List.mem_flatMap.1 h
 obtain ⟨m,hm,rfl⟩:=List.mem_map.1 hm
 exact ⟨x,hx,m,by assumption,rfl⟩
theorem comp_sub:∀ (l acc:List Int),(l.foldl compF acc).Sublist (acc++l)
 | [],acc=>by simp
 | x::l,acc=>by
  rw [List.foldl_cons]
  refine (comp_sub l _).trans ?_
  unfold compF
  split
  ·exact (List.Sublist.refl acc).append (List.sublist_cons_self x l)
  ·simp
theorem comp_keep:∀ (l acc:List Int) (w:Int),w∈acc∨w∈l→w∈l.foldl compF acc
 | [],acc,w,h=>by simpa using h
 | x::l,acc,w,h=>by
  rw [List.foldl_cons]
  refine comp_keep l _ w ?_
  rcases h with h|h
  ·left;unfold compF;split
   ·exact h
   ·exact List.mem_append_left _ h
  ·rcases List.mem_cons.1 h with rfl|h
   ·left;exact List.mem_of_getLast? (compF_last acc w)
   ·exact .inr h
theorem first_sorted (l:List Cons):(firstL l).Pairwise (·≤·):=by
 have h:=comp_sub (sortI (varsOf l)) []
 rw [List.nil_append] at h
 exact (soP_sorted (varsOf l)).sublist h
theorem first_mem {l:List Cons} {w:Int}:w∈firstL l↔w∈varsOf l:=by
 constructor
 ·intro h;obtain ⟨x,hx,m,hm,rfl⟩:=firstL_mem h;exact mem_vars hx hm
 ·intro h;exact comp_keep _ [] w (.inr ((soP_perm (varsOf l)).mem_iff.2 h))
theorem least_of {l:List Cons} (hne:varsOf l≠[]):leastV l∈varsOf l∧∀ w∈varsOf l,leastV l≤w:=by
 have h:=leastV_mem hne
 refine ⟨first_mem.1 h,fun w hw=>?_⟩
 have hs:=first_sorted l
 have hw2:=first_mem.2 hw
 unfold leastV
 cases hf:firstL l with
 | nil=>rw [hf] at h;cases h
 | cons a t=>
  rw [hf] at hs hw2
  rcases List.mem_cons.1 hw2 with rfl|hw2
  ·exact Int.le_refl _
  ·exact (List.pairwise_cons.1 hs).1 w hw2
theorem exact_first {l:List Cons} (h:¬ exactV l<0):∀ w∈varsOf l,w<exactV l→exP l w=false:=by
 intro w hw hlt
 unfold exactV at h hlt
 by_cases hi:firstI l<0
 ·rw [if_pos hi] at h;omega
 rw [if_neg hi] at hlt
 obtain ⟨q,hq1,hq2,hq3,x,hx,hp⟩:=idxOf_some (exP l) (firstL l) 0 (by omega) (by show firstI l≠-1;omega)
 have:firstI l=q:=by unfold firstI;rw [hq1];omega
 rw [this,Int.toNat_natCast,hx] at hlt
 simp only [Option.getD_some] at hlt
 have hw2:=first_mem.2 hw
 have hs:=first_sorted l
 rw [←List.take_append_drop q (firstL l)] at hw2 hs
 rcases List.mem_append.1 hw2 with hw2|hw2
 ·exact hq3 w hw2
 ·exfalso
  rw [drop_cons' hx] at hw2 hs
  rcases List.mem_cons.1 hw2 with rfl|hw2
  ·omega
  ·have:=(List.pairwise_cons.1 (List.pairwise_append.1 hs).2.1).1 w hw2;omega
theorem exact_none {l:List Cons} (h:exactV l<0) (h0:∀ w∈varsOf l,0≤w):∀ w∈varsOf l,exP l w=false:=by
 intro w hw
 unfold exactV at h
 by_cases hi:firstI l=-1
 ·exact idxOf_none (exP l) (firstL l) 0 (by omega) hi w (first_mem.2 hw)
 ·obtain ⟨q,hq1,hq2,hq3,x,hx,hp⟩:=idxOf_some (exP l) (firstL l) 0 (by omega) hi
  have:firstI l=q:=by unfold firstI;rw [hq1];omega
  rw [this,Int.toNat_natCast,hx,if_neg (by omega)] at h
  simp only [Option.getD_some] at h
  have:=h0 x (first_mem.1 (List.mem_of_getElem? hx));omega
def thereB (l:List Cons) (v:Int):Bool:=l.any fun x=>decide (kOf x.t.l v≠0)
theorem there_iff {n:Nat} {l:List Cons} (hg:good n l) (v:Int):thereB l v=true↔v∈varsOf l:=by
 unfold thereB
 rw [List.any_eq_true]
 constructor
 ·rintro ⟨x,hx,h⟩
  rw [decide_eq_true_eq] at h
  have:∀ l:List Mono,kOf l v≠0→∃ m∈l,m.v=v:=by
   intro l
   induction l with
   | nil=>intro h;exact absurd rfl h
   | cons m l ih=>
    intro h
    rw [kOf] at h
    split at h
    ·exact ⟨m,List.mem_cons_self,by assumption⟩
    ·obtain ⟨m',h1,h2⟩:=ih h;exact ⟨m',List.mem_cons_of_mem _ h1,h2⟩
  obtain ⟨m,hm,rfl⟩:=this _ h
  exact mem_vars hx hm
 ·intro h
  obtain ⟨x,hx,m,hm,rfl⟩:=vars_mem h
  have hok:okT x.t.c x.t.l=true:=(hg.2 x hx).1
  refine ⟨x,hx,?_⟩
  rw [decide_eq_true_eq,mem_kOf (okT_spec.1 hok).2.2.2 m hm]
  exact (okM_spec.1 (okFrom_ok (okT_spec.1 hok).2.2.2 m hm)).2.2.1
theorem vars_b {n:Nat} {l:List Cons} (hg:good n l) {w:Int} (h:w∈varsOf l):0≤w∧w<n∧w<40:=var_good hg (first_mem.2 h)
theorem exP_exact {n:Nat} {l:List Cons} (hg:good n l) (hq:∀ x∈l,x.eq=false) {w:Int} (h:w∈varsOf l):exP l w=exactB l w:=by
 have:=vars_b hg h
 unfold exP
 rw [if_pos (may_zero hq (fun x hx=>(hg.2 x hx).1) ⟨this.1,this.2.2⟩)]
theorem Num_ok (n:Int):VPure FT p86 [.int .i64 n] (.agg [.int .i64 n,.fz 0 none 2 []]):=by
 refine vpure_of_body' (f:=p86) rfl rfl ?_
 simp -implicitDefEqProofs only [go_sem,reduceCtorEq,rdA,rdM,rdL,rdT,rdE,rdN,↓gTT,↓gFF,↓gTF,↓gFT]
theorem TwinC_own (l:List Cons) (hs:smallC l) (nx:Nat):FSem FT p5 [.fz l.length none 3 (encC l)] nx [] (fun r nx' h'=>r=.ow nx l.length 3∧nx<nx'∧h'=[(nx,.row (encC l))]):=by
 have hll:=hs.len
 refine fsem_of_body (f:=p5) rfl rfl ?_
 simp -implicitDefEqProofs only [go_sem,reduceCtorEq,rdA,rdM,rdL,rdT,rdE,rdN,↓gTT,↓gFF,↓gTF,↓gFT]
 refine wLoop_own p3 3 (by simp -implicitDefEqProofs only [go_sem,reduceCtorEq,rdA,rdM,rdL,rdT,rdE,rdN,↓gTT,↓gFF,↓gTF,↓gFT]) ?_
 simp -implicitDefEqProofs only [go_sem,reduceCtorEq,rdA,rdM,rdL,rdT,rdE,rdN,↓gTT,↓gFF,↓gTF,↓gFT]
 refine wLoop_dr (fun n s=>∃ i m:Nat,i+n=l.length∧At s [(p0,.fz l.length none 3 (encC l)),(p3,.ow nx (l.take i).length 3),(p4,.int .i64 i)] (nx+m+1) 0 [(nx,.row (encC (l.take i)))]) l.length ?_ ?_
 ·exact ⟨0,0,by simp,by simp -implicitDefEqProofs only [go_sem,reduceCtorEq,rdA,rdM,rdL,rdT,rdE,rdN,↓gTT,↓gFF,↓gTF,↓gFT];simp [encC]⟩
 ·rintro n ⟨e,nx1,w,h⟩ ⟨i,m,hi,⟨s1,s2,s3,-⟩,rfl,rfl,rfl⟩
  have k1:(nx=nx+m+1)=False:=by simp;omega
  have k2:(nx+m+1=nx)=False:=by simp;omega
  rcases Nat.lt_or_ge i l.length with hlt|hge
  ·obtain ⟨x,hx⟩:=has hlt
   have hxl:=hs.all x (List.mem_of_getElem? hx)
   have hb2:(l.take i).length≤i:=List.length_take_le _ _
   have ht:=take_snoc hx
   simp -implicitDefEqProofs only [s1,s2,s3,ltT hlt,encC_t hx,encC_g2 hx,encC_len,k1,k2,inc64 hlt (by omega:l.length≤4611686018427387904),go_sem,reduceCtorEq,rdA,rdM,rdL,rdT,rdE,rdN,↓gTT,↓gFF,↓gTF,↓gFT]
   repeat' (first|(with_reducible refine And.intro ?_ ?_)|(with_reducible refine gs_t ?_ ?_)|(with_reducible refine gs_f ?_ ?_)|(intro _)|((with_reducible apply wCall_any);(· (simp -implicitDefEqProofs only [go_sem,reduceCtorEq,rdA,rdM,rdL,rdT,rdE,rdN,↓gTT,↓gFF,↓gTF,↓gFT]<;>rfl));(· (exact TwinK_ok _ _ hxl));(· rfl);(· rfl);(· (first|exact Eq.refl true|exact Eq.refl false));(simp -implicitDefEqProofs only [encC_len,encC_g2 hx,k1,k2,inc64 hlt (by omega:l.length≤4611686018427387904),go_sem,reduceCtorEq,rdA,rdM,rdL,rdT,rdE,rdN,↓gTT,↓gFF,↓gTF,↓gFT]))|fail)
   all_goals (clear s1 s2 s3;try omega)
   refine ⟨n-1,by omega,_,subH_tail (by simp [hget,k1,k2]),i+1,m+1,by omega,⟨?_,rfl⟩,by omega,?_⟩<;>rw [ht]<;>simp [encC_app,encC,vMs]
  ·rw [List.take_of_length_le hge] at s2
   simp -implicitDefEqProofs only [eRetK_r,s1,s2,s3,ltF hge,List.take_of_length_le hge,encC_len,go_sem,reduceCtorEq,rdA,rdM,rdL,rdT,rdE,rdN,↓gTT,↓gFF,↓gTF,↓gFT]
   omega
theorem wCall_seek2 {f:P} {args:List VV} {s:VSt} {K:VSt→VV→Prop} {j n left:Nat} {a:Ans} (hsem:SeekSem f args j n s.nx left a) (hw:s.w=0) (hj:j<s.nx) (hh:hget s.h j=some (.obj [.int .i64 n,.int .i64 left]))
 (h2:a.1=2→∀ k nx',s.nx≤k→k<nx'→(k=j)=False→(j=k)=False→K ⟨s.e,nx',0,(k,.row (encI a.2.2))::(j,.obj [.int .i64 n,.int .i64 a.2.1])::hdel s.h j⟩ (.tup [.int .i64 2,.ow k n 1]))
 (h3:a.1≠2→∀ nx',s.nx≤nx'→K ⟨s.e,nx',0,(j,.obj [.int .i64 n,.int .i64 a.2.1])::hdel s.h j⟩ (.tup [.int .i64 a.1,.nils])):wCall FT f (.pt j 2 0::args) s K:=by
 refine wCall_heap (hin:=seekO j n left) hsem (fun k o h=>⟨?_,by omega⟩) ?_ ?_
 ·simp only [seekO,hget] at h
  split at h
  ·rename_i h1;rw [h1,hh];exact h
  ·cases h
 ·rintro r nx' h' (⟨e,k,hk1,hk2,rfl,rfl⟩|⟨e,rfl,rfl⟩)
  ·refine ⟨by simp [closed,keysV,keysL,hkeys],?_⟩
   intro k' o ho
   simp only [hget] at ho
   split at ho
   ·cases ho;simp [closed,okeys]
   ·split at ho
    ·cases ho;simp [closed,okeys,keysL,keysV]
    ·cases ho
  ·refine ⟨by simp [closed,keysV,keysL],?_⟩
   intro k o ho
   simp only [seekO,hget] at ho
   split at ho
   ·cases ho;simp [closed,okeys,keysL,keysV]
   ·cases ho
 ·rintro r nx' h' (⟨e,k,hk1,hk2,rfl,rfl⟩|⟨e,rfl,rfl⟩) hn
  ·rw [hw]
   exact h2 e k nx' hk1 hk2 (by simp;omega) (by simp;omega)
  ·rw [hw]
   exact h3 e nx' hn
theorem wCall_twin {s:VSt} {K:VSt→VV→Prop} {l:List Cons} (hs:smallC l) (hK:∀ nx',s.nx<nx'→K ⟨s.e,nx',s.w,(s.nx,.row (encC l))::s.h⟩ (.ow s.nx l.length 3)):wCall FT p5 [.fz l.length none 3 (encC l)] s K:=by
 refine wCall_heap (hin:=[]) (TwinC_own l hs s.nx) (fun k o h=>by cases h) ?_ ?_
 ·rintro r nx' h' ⟨rfl,hlt,rfl⟩
  refine ⟨by simp [closed,keysV,keysL,hkeys],?_⟩
  intro k o ho
  simp only [hget] at ho
  split at ho
  ·cases ho;simp [closed,okeys]
  ·cases ho
 ·rintro r nx' h' ⟨rfl,hlt,rfl⟩ _
  exact hK nx' hlt
theorem subH_one {a:Nat} {x:VOb} (t:VHp):subH [(a,x)] ((a,x)::t):=by
 intro k o h
 simp only [hget] at h ⊢
 split at h
 ·rename_i h1;rw [if_pos h1];exact h
 ·cases h
theorem alone_span {n:Nat} {l:List Cons} {v:Int} (hg:good n l) (hq:∀ x∈l,x.eq=false) (hv:0≤v∧v<40):
 VPure FT p85 [.fz (aloneL l v).length none 3 (encC (aloneL l v)),.int .i64 v,.fz 0 none 1 []] (.tup [.int .i64 (spanLo (aloneL l v) v []),.int .i64 (spanHi (aloneL l v) v [])]):=by
 have hga:good n (aloneL l v):=⟨Nat.le_trans (List.length_filter_le _ _) hg.1,fun x hx=>hg.2 x (alone_mem hx).1⟩
 have h0:=span_zero hq (fun x hx=>(hg.2 x hx).1) hv
 have H:=rSpan_ok (aloneL l v) v [] hga.small hga.ok (by simp) (by
  unfold mayFar
  rw [List.any_eq_false]
  intro x hx
  obtain ⟨-,m,hm,hmv⟩:=alone_mem hx
  rw [hm];simp [farB,hmv]) rfl
 unfold spanLo spanHi
 rw [if_pos h0,if_pos h0,span_split]
 exact H
set_option maxHeartbeats 2000000 in
theorem rhalf_sem {j n left nx:Nat} {rec:Nat→List Int→List Cons→Ans} {L:List Cons} (hrec:∀ left',left'<left→SeekAt j n rec left') (hsat:SatAt n rec) (hlen:∀ left',LenAt n rec left') (hstay:∀ left' vals l,(rec left' vals l).1≠2→(rec left' vals l).2.2=vals)
 (hj:j<nx) (hn1:n≤1000000) (hg:good n L) (h240:L.length≤240) (hbx:boxed L) (hq:∀ x∈L,x.eq=false) (hl:left≤1000000) (hne:varsOf L≠[]):
 SeekSem p46 [.fz L.length none 3 (encC L)] j n nx left (splitD rec left (zerosL n) L (leastV L)):=by
 obtain ⟨hm,hmin⟩:=least_of hne
 have hvb:=vars_b hg hm
 have hbv:=var_box hg hbx (leastV_mem hne)
 obtain ⟨V,hV⟩:∃ V:Nat,leastV L=V:=⟨(leastV L).toNat,by omega⟩
 rw [hV] at hm hmin hvb hbv ⊢
 refine FSem.sub (fsem_of_body (f:=p46) rfl rfl ?_)
 have hll:L.length≤100000:=hg.1
 have j1:(nx=j)=False:=by simp;omega
 have j2:(j=nx)=False:=by simp;omega
 simp -implicitDefEqProofs only [go_sem,reduceCtorEq,rdA,rdM,rdL,rdT,rdE,rdN,↓gTT,↓gFF,↓gTF,↓gFT]
 refine wLoop_by (fun m s=>∃ i:Nat,i+m=V∧At s [(p0,.pt j 2 0),(p1,.fz L.length none 3 (encC L)),(p6,.int .i64 i)] nx 0 (seekO j n left)) V ?_ ?_
 ·exact ⟨0,by simp,by simp -implicitDefEqProofs only [seekO,go_sem,reduceCtorEq,rdA,rdM,rdL,rdT,rdE,rdN,↓gTT,↓gFF,↓gTF,↓gFT]⟩
 ·rintro m ⟨e,nx1,w,h⟩ ⟨i,hi,⟨s1,s2,s3,-⟩,hnx,rfl,rfl⟩
  have hnx:nx1=nx:=hnx
  subst hnx
  have hH:=rhas_ok L i hg.small
  rcases Nat.lt_or_ge i V with hlt|hge
  ·have hT:thereB L i=false:=by
    rw [Bool.eq_false_iff];intro h
    have:=hmin _ ((there_iff hg _).1 h);omega
   unfold thereB at hT
   rw [hT] at hH
   have i1:IntKind.i64.wrap ((i:Int)+1)=((i+1:Nat):Int):=by rw [i64 (by omega)];omega
   simp -implicitDefEqProofs only [s1,s2,s3,go_sem,reduceCtorEq,rdA,rdM,rdL,rdT,rdE,rdN,↓gTT,↓gFF,↓gTF,↓gFT]
   refine wCall_pp rfl hH rfl ?_
   simp -implicitDefEqProofs only [Bool.not_false,i1,go_sem,reduceCtorEq,rdA,rdM,rdL,rdT,rdE,rdN,↓gTT,↓gFF,↓gTF,↓gFT]
   exact ⟨m-1,by omega,i+1,by omega,rfl⟩
  ·have hi0:i=V:=by omega
   subst hi0
   have hT:thereB L i=true:=(there_iff hg _).2 hm
   unfold thereB at hT
   rw [hT] at hH
   simp -implicitDefEqProofs only [s1,s2,s3,go_sem,reduceCtorEq,rdA,rdM,rdL,rdT,rdE,rdN,↓gTT,↓gFF,↓gTF,↓gFT]
   refine wCall_pp rfl hH rfl ?_
   simp -implicitDefEqProofs only [Bool.not_true,seekO,go_sem,reduceCtorEq,rdA,rdM,rdL,rdT,rdE,rdN,↓gTT,↓gFF,↓gTF,↓gFT]
   refine wLoop_own p7 3 (by simp -implicitDefEqProofs only [go_sem,reduceCtorEq,rdA,rdM,rdL,rdT,rdE,rdN,↓gTT,↓gFF,↓gTF,↓gFT]) ?_
   simp -implicitDefEqProofs only [go_sem,reduceCtorEq,rdA,rdM,rdL,rdT,rdE,rdN,↓gTT,↓gFF,↓gTF,↓gFT]
   clear s1 s2 s3 hT hH
   generalize hV':(i:Int)=v at *
   clear hi hge
   refine wLoop_dr (fun m s=>∃ q d:Nat,q+m=L.length∧At s [(p0,.pt j 2 0),(p1,.fz L.length none 3 (encC L)),(p6,.int .i64 v),(p7,.ow nx1 (aloneL (L.take q) v).length 3),(p8,.int .i64 q)] (nx1+d+1) 0 ((nx1,.row (encC (aloneL (L.take q) v)))::seekO j n left)) L.length ?_ ?_
   ·exact ⟨0,0,by simp,by simp -implicitDefEqProofs only [seekO,go_sem,reduceCtorEq,rdA,rdM,rdL,rdT,rdE,rdN,↓gTT,↓gFF,↓gTF,↓gFT];simp [aloneL,encC]⟩
   ·rintro m ⟨e,nx2,w,h⟩ ⟨q,d,hi,⟨s1,s2,s3,s4,s5,-⟩,hnx2,rfl,rfl⟩
    have hnx2:nx2=nx1+d+1:=hnx2
    subst hnx2
    rcases Nat.lt_or_ge q L.length with hlt|hge
    ·obtain ⟨x,hx⟩:=has hlt
     have hsn:=aloneL_snoc v hx
     have n5:(nx1=nx1+d+1)=False:=by simp;omega
     have n6:(nx1+d+1=nx1)=False:=by simp;omega
     have n7:hget (seekO j n left) (nx1+d+1)=none:=by
      have q1:(nx1+d+1=j)=False:=by simp;omega
      simp [seekO,hget,q1]
     have i1:=inc64 hlt (by omega:L.length≤4611686018427387904)
     have hal:(aloneL (L.take q) v).length≤q:=Nat.le_trans (List.length_filter_le _ _) (List.length_take_le _ _)
     have hca:aloneB v x=true∧(∃ y,x.t.l[0]?=some y∧decide (y.v=v)=true∧decide ((x.t.l.length:Int)=1)=true)∨aloneB v x=false∧(decide ((x.t.l.length:Int)=1)=false∨∃ y,x.t.l[0]?=some y∧decide (y.v=v)=false∧decide ((x.t.l.length:Int)=1)=true):=by
      unfold aloneB
      match hxl:x.t.l with
      | []=>exact .inr ⟨rfl,.inl (by simp)⟩
      | [y]=>
       by_cases hy:y.v=v
       ·exact .inl ⟨by simpa using hy,y,rfl,by simpa using hy,rfl⟩
       ·exact .inr ⟨by simpa using hy,.inr ⟨y,rfl,by simpa using hy,rfl⟩⟩
      | a::b::t=>exact .inr ⟨rfl,.inl (by simp;omega)⟩
     rcases hca with ⟨hb,y,hy,d1,d2⟩|⟨hb,hc⟩
     ·rw [if_pos hb] at hsn
      have hgy:(encM x.t.l)[Int.toNat 0*2]?=some (.int .i64 y.v):=encM_g0 hy
      simp -implicitDefEqProofs only [s1,s2,s3,s4,s5,ltT hlt,encC_cut hx,encC_g1 hx,encC_len,hgy,d1,d2,n5,n6,i1,go_sem,reduceCtorEq,rdA,rdM,rdL,rdT,rdE,rdN,↓gTT,↓gFF,↓gTF,↓gFT]
      have hl1:(x.t.l.length:Int)=1:=of_decide_eq_true d2
      refine ⟨⟨by omega,by omega⟩,⟨by omega,by omega⟩,⟨by omega,by omega⟩,⟨by omega,by omega⟩,by omega,by omega,by omega,m-1,by omega,_,subH_tail (by simp [hget,n6,n7]),q+1,d+1,by omega,⟨by rw [hsn];simp,rfl⟩,by omega,?_⟩
      rw [hsn];simp [encC_app,encC,vMs]
     ·rw [if_neg (by rw [hb];simp)] at hsn
      rcases hc with d1|⟨y,hy,d1,d2⟩
      ·simp -implicitDefEqProofs only [s1,s2,s3,s4,s5,ltT hlt,encC_cut hx,encC_g1 hx,encC_len,d1,i1,go_sem,reduceCtorEq,rdA,rdM,rdL,rdT,rdE,rdN,↓gTT,↓gFF,↓gTF,↓gFT]
       exact ⟨⟨by omega,by omega⟩,m-1,by omega,_,subH_refl _,q+1,d,by omega,⟨by rw [hsn],rfl⟩,rfl,by rw [hsn]⟩
      ·have hgy:(encM x.t.l)[Int.toNat 0*2]?=some (.int .i64 y.v):=encM_g0 hy
       simp -implicitDefEqProofs only [s1,s2,s3,s4,s5,ltT hlt,encC_cut hx,encC_g1 hx,encC_len,hgy,d1,d2,i1,go_sem,reduceCtorEq,rdA,rdM,rdL,rdT,rdE,rdN,↓gTT,↓gFF,↓gTF,↓gFT]
       have hl1:(x.t.l.length:Int)=1:=of_decide_eq_true d2
       exact ⟨⟨by omega,by omega⟩,⟨by omega,by omega⟩,⟨by omega,by omega⟩,m-1,by omega,_,subH_refl _,q+1,d,by omega,⟨by rw [hsn],rfl⟩,rfl,by rw [hsn]⟩
    ·rw [List.take_of_length_le hge] at s4
     simp -implicitDefEqProofs only [s1,s2,s3,s4,s5,ltF hge,List.take_of_length_le hge,go_sem,reduceCtorEq,rdA,rdM,rdL,rdT,rdE,rdN,↓gTT,↓gFF,↓gTF,↓gFT]
     clear s1 s2 s3 s4 s5
     have hSp:=alone_span (v:=v) hg hq ⟨hvb.1,hvb.2.2⟩
     have hLOb:=span_lob (aloneL L v) v []
     have hHIb:=span_hib (aloneL L v) v []
     unfold splitD
     generalize spanLo (aloneL L v) v []=LO at hSp hLOb ⊢
     generalize spanHi (aloneL L v) v []=HI at hSp hHIb ⊢
     have hb0:okT LO []=true:=okT_spec.2 ⟨by omega,by omega,by simp,rfl⟩
     obtain ⟨B,hB⟩:∃ B,B=nx1+d+1:=⟨_,rfl⟩
     rw [←hB]
     refine wCall_frz p7 (v':=.fz (aloneL L v).length none 3 (encC (aloneL L v))) (args':=[.fz (aloneL L v).length none 3 (encC (aloneL L v)),.int .i64 v,.nils]) (by simp -implicitDefEqProofs only [go_sem,reduceCtorEq,rdA,rdM,rdL,rdT,rdE,rdN,↓gTT,↓gFF,↓gTF,↓gFT];rfl) (by simp -implicitDefEqProofs only [encC_len,go_sem,reduceCtorEq,rdA,rdM,rdL,rdT,rdE,rdN,↓gTT,↓gFF,↓gTF,↓gFT]) (by simp -implicitDefEqProofs only [encC_len,go_sem,reduceCtorEq,rdA,rdM,rdL,rdT,rdE,rdN,↓gTT,↓gFF,↓gTF,↓gFT]) ?_
     simp -implicitDefEqProofs only [seekO,j1,j2,go_sem,reduceCtorEq,rdA,rdM,rdL,rdT,rdE,rdN,↓gTT,↓gFF,↓gTF,↓gFT]
     refine wCall_wk (args':=[.fz (aloneL L v).length none 3 (encC (aloneL L v)),.int .i64 v,.fz 0 none 1 []]) (by simp [wkL,wk]) ?_
     refine wCall_pp (r:=.tup [.int .i64 LO,.int .i64 HI]) rfl hSp rfl ?_
     by_cases h1:HI<LO
     ·have d1:decide (HI<LO)=true:=by simpa using h1
      rw [if_pos h1]
      simp -implicitDefEqProofs only [d1,eRetK_r,seekO,go_sem,reduceCtorEq,rdA,rdM,rdL,rdT,rdE,rdN,↓gTT,↓gFF,↓gTF,↓gFT]
      exact ⟨_,subH_refl _,.inr ⟨by simp,rfl,rfl⟩⟩
     have d1:decide (HI<LO)=false:=by simpa using h1
     rw [if_neg h1]
     simp -implicitDefEqProofs only [d1,go_sem,reduceCtorEq,rdA,rdM,rdL,rdT,rdE,rdN,↓gTT,↓gFF,↓gTF,↓gFT]
     refine wCall_rburn (left:=left) (c:=1) (H:=[]) hl (by omega) rfl rfl rfl ?_
     by_cases h2:1≤left
     case neg=>
      rw [if_neg h2,decide_eq_false h2,if_pos (by omega)]
      simp -implicitDefEqProofs only [Bool.not_false,eRetK_r,seekO,go_sem,reduceCtorEq,rdA,rdM,rdL,rdT,rdE,rdN,↓gTT,↓gFF,↓gTF,↓gFT]
      exact ⟨_,subH_refl _,.inr ⟨by simp,rfl,rfl⟩⟩
     rw [if_pos h2,decide_eq_true h2,if_neg (by omega)]
     by_cases h3:LO=HI
     ·have d3:decide (LO=HI)=true:=by simpa using h3
      rw [if_pos h3]
      simp -implicitDefEqProofs only [Bool.not_true,d3,go_sem,reduceCtorEq,rdA,rdM,rdL,rdT,rdE,rdN,↓gTT,↓gFF,↓gTF,↓gFT]
      refine wCall_pp (by simp [pureL,pureV]) (Num_ok LO) (by simp [pureL,pureV]) ?_
      simp -implicitDefEqProofs only [go_sem,reduceCtorEq,rdA,rdM,rdL,rdT,rdE,rdN,↓gTT,↓gFF,↓gTF,↓gFT]
      have hS:=rSwap_ok L v LO [] (good_right hg ⟨hvb.1,hvb.2.2⟩) hg.small hb0
      by_cases hE0:swapE L v LO []=0
      case neg=>
       have e:rSwapV L v LO []=.tup [.fz 0 none 3 [],.bool false]:=by unfold rSwapV;rw [if_neg hE0,decide_eq_false hE0];rfl
       rw [e] at hS
       refine wCall_pp (by simp [pureL,pureV]) hS rfl ?_
       unfold swapD
       rw [if_pos hE0]
       simp -implicitDefEqProofs only [Bool.not_false,eRetK_r,seekO,go_sem,reduceCtorEq,rdA,rdM,rdL,rdT,rdE,rdN,↓gTT,↓gFF,↓gTF,↓gFT]
       exact ⟨_,subH_refl _,.inr ⟨by simp,rfl,rfl⟩⟩
      have e:rSwapV L v LO []=.tup [.fz (swapL L v LO []).length none 3 (encC (swapL L v LO [])),.bool true]:=by unfold rSwapV;rw [if_pos hE0,hE0];rfl
      rw [e] at hS
      refine wCall_pp (by simp [pureL,pureV]) hS (by simp [pureL,pureV]) ?_
      unfold swapD
      rw [if_neg (by omega)]
      have hgS:=swap_good hg hb0 (fun w hw=>absurd rfl hw) hE0 (n:=n) (v:=v)
      have hbS:=boxed_swap hg hb0 hE0 rfl (fun w hw=>absurd rfl hw) hbx
      have hR:=fun nx'=>hrec (left-1) (by omega) (swapL L v LO []) nx' hgS hbS
      obtain ⟨r1,r2,r3⟩:=hsat (left-1) (zerosL n) (swapL L v LO []) (zeros_len n) hgS hbS (zeros_in n)
      obtain ⟨A,hA⟩:∃ A,A=rec (left-1) (zerosL n) (swapL L v LO []):=⟨_,rfl⟩
      rw [←hA] at hR r1 r2 r3 ⊢
      simp -implicitDefEqProofs only [Bool.not_true,seekO,go_sem,reduceCtorEq,rdA,rdM,rdL,rdT,rdE,rdN,↓gTT,↓gFF,↓gTF,↓gFT]
      refine wCall_seek (H:=[]) (hR _ (by show j<B;omega)) rfl (by show j<B;omega) rfl rfl ?_ ?_
      ·intro h4 k nx' hk hk2 k1 k2
       have hTz:=told_zero (c:=LO) (b:=[]) hb0 (fun w hw=>absurd rfl hw) r1 r2
       rw [if_pos h4]
       subst hV'
       simp -implicitDefEqProofs only [show decide ((2:Int)=2)=true from rfl,k1,k2,encI_len,r1,Nat.mul_one,eRetK_r,go_sem,reduceCtorEq,rdA,rdM,rdL,rdT,rdE,rdN,↓gTT,↓gFF,↓gTF,↓gFT]
       have hk':B≤k:=hk
       refine ⟨by omega,by omega,by omega,_,subH_refl _,.inl ⟨rfl,k,by omega,hk2,rfl,?_⟩⟩
       rw [encI_set2 _ _ _ (by omega)]
       simp only [valueR,hTz,if_true,linV,Int.add_zero]
      ·intro h4 nx' hk
       have d2:decide (A.1=2)=false:=by simpa using h4
       rw [if_neg h4]
       simp -implicitDefEqProofs only [d2,seekO,eRetK_r,go_sem,reduceCtorEq,rdA,rdM,rdL,rdT,rdE,rdN,↓gTT,↓gFF,↓gTF,↓gFT]
       exact ⟨_,subH_refl _,.inr ⟨h4,rfl,rfl⟩⟩
     have d3:decide (LO=HI)=false:=by simpa using h3
     rw [if_neg h3]
     have hD:=rdown_ok (LO+HI) 2 (by omega) (by omega)
     have w0:IntKind.i64.wrap (LO+HI)=LO+HI:=i64 (by omega)
     have hMb:LO≤halfR LO HI∧halfR LO HI≤HI:=half_b (by omega)
     have hM:(LO+HI) / 2=halfR LO HI:=rfl
     rw [hM] at hD
     generalize halfR LO HI=M at hD hMb ⊢
     simp -implicitDefEqProofs only [Bool.not_true,d3,w0,go_sem,reduceCtorEq,rdA,rdM,rdL,rdT,rdE,rdN,↓gTT,↓gFF,↓gTF,↓gFT]
     refine wCall_pp rfl hD rfl ?_
     have w1:IntKind.i64.wrap (0-M)=-M:=by rw [i64 (by omega)];omega
     have w2:IntKind.i64.wrap (M+1)=M+1:=i64 (by omega)
     simp -implicitDefEqProofs only [go_sem,reduceCtorEq,rdA,rdM,rdL,rdT,rdE,rdN,↓gTT,↓gFF,↓gTF,↓gFT]
     have hgo:=below_good hg h240 ⟨hvb.1,hvb.2.1⟩ hvb.2.2 (m:=M) (by omega)
     have hbo1:boxed (L++[belowC v M]):=boxed_app hbx fun w hw=>by rw [one_v v 1 w hw];exact hbv
     have hbo2:boxed (L++[aboveC v M]):=boxed_app hbx fun w hw=>by rw [one_v v (-1) w hw];exact hbv
     have hR:=fun nx'=>hrec (left-1) (by omega) (L++[belowC v M]) nx' hgo.1 hbo1
     have hA1:=(hlen (left-1) (zerosL n) (L++[belowC v M]) (zeros_len n) hgo.1).2
     have hA2:=hstay (left-1) (zerosL n) (L++[belowC v M])
     obtain ⟨A,hA⟩:∃ A,A=rec (left-1) (zerosL n) (L++[belowC v M]):=⟨_,rfl⟩
     rw [←hA] at hR hA1 hA2 ⊢
     have eb:encC (L++[belowC v M])=encC L++[.int .i64 (-M),.fz 1 none 2 [.int .i64 v,.int .i64 1],.bool false]:=by rw [encC_app];rfl
     have ea:encC (L++[aboveC v M])=encC L++[.int .i64 (M+1),.fz 1 none 2 [.int .i64 v,.int .i64 (-1)],.bool false]:=by rw [encC_app];rfl
     have eln:∀ z:Cons,(L++[z]).length=L.length+1:=fun z=>by simp
     rw [eb,eln] at hR
     refine wCall_twin hg.small fun C hC=>?_
     replace hC:B<C:=hC
     have b1:(B=j)=False:=by simp;omega
     have b2:(j=B)=False:=by simp;omega
     have b3:(C=j)=False:=by simp;omega
     have b4:(j=C)=False:=by simp;omega
     have b5:(C+1=j)=False:=by simp;omega
     have b6:(j=C+1)=False:=by simp;omega
     have b7:(B=C)=False:=by simp;omega
     have b8:(C=B)=False:=by simp;omega
     have b9:(B=C+1)=False:=by simp;omega
     have b10:(C+1=B)=False:=by simp;omega
     have b11:(C=C+1)=False:=by simp
     have b12:(C+1=C)=False:=by simp
     simp -implicitDefEqProofs only [w1,seekO,b1,b2,b3,b4,b5,b6,b7,b8,b9,b10,b11,b12,encC_len,go_sem,reduceCtorEq,rdA,rdM,rdL,rdT,rdE,rdN,↓gTT,↓gFF,↓gTF,↓gFT]
     refine ⟨by omega,by omega,?_⟩
     refine wCall_frz2 (v':=.fz (L.length+1) none 3 (encC L++[.int .i64 (-M),.fz 1 none 2 [.int .i64 v,.int .i64 1],.bool false])) (by simp -implicitDefEqProofs only [b1,b2,b3,b4,b5,b6,b7,b8,b9,b10,b11,b12,encC_len1,go_sem,reduceCtorEq,rdA,rdM,rdL,rdT,rdE,rdN,↓gTT,↓gFF,↓gTF,↓gFT]) ?_
     refine wCall_seek2 (hR _ (by show j<C+1+1;omega)) rfl (by show j<C+1+1;omega) (by simp -implicitDefEqProofs only [b1,b2,b3,b4,b5,b6,b7,b8,b9,b10,b11,b12,hdels,go_sem,reduceCtorEq,rdA,rdM,rdL,rdT,rdE,rdN,↓gTT,↓gFF,↓gTF,↓gFT]) ?_ ?_
     ·intro h4 k nx' hk hk2 k1 k2
      replace hk:C+1+1≤k:=hk
      rw [if_neg (by omega)]
      simp -implicitDefEqProofs only [show decide ((2:Int)=1)=false from rfl,Bool.not_false,k1,k2,eRetK_r,b1,b2,b3,b4,b5,b6,b7,b8,b9,b10,b11,b12,hdels,go_sem,reduceCtorEq,rdA,rdM,rdL,rdT,rdE,rdN,↓gTT,↓gFF,↓gTF,↓gFT]
      exact ⟨_,subH_two _,.inl ⟨h4,k,by omega,hk2,rfl,rfl⟩⟩
     ·intro h4 nx' hk
      replace hk:C+1+1≤nx':=hk
      by_cases h5:A.1=1
      case neg=>
       have d5:decide (A.1=1)=false:=by simpa using h5
       rw [if_neg h5]
       simp -implicitDefEqProofs only [d5,Bool.not_false,eRetK_r,b1,b2,b3,b4,b5,b6,b7,b8,b9,b10,b11,b12,hdels,go_sem,reduceCtorEq,rdA,rdM,rdL,rdT,rdE,rdN,↓gTT,↓gFF,↓gTF,↓gFT]
       exact ⟨_,subH_one _,.inr ⟨h4,rfl,rfl⟩⟩
      have d5:decide (A.1=1)=true:=by simpa using h5
      have hA2':=hA2 h4
      rw [if_pos h5,hA2']
      have hR2:=fun nx'=>hrec A.2.1 (by omega) (L++[aboveC v M]) nx' hgo.2 hbo2
      obtain ⟨A2,hAA⟩:∃ A2,A2=rec A.2.1 (zerosL n) (L++[aboveC v M]):=⟨_,rfl⟩
      rw [←hAA] at hR2 ⊢
      rw [ea,eln] at hR2
      simp -implicitDefEqProofs only [d5,Bool.not_true,b1,b2,b3,b4,b5,b6,b7,b8,b9,b10,b11,b12,hdels,go_sem,reduceCtorEq,rdA,rdM,rdL,rdT,rdE,rdN,↓gTT,↓gFF,↓gTF,↓gFT]
      refine wCall_twin hg.small fun D hD=>?_
      replace hD:nx'<D:=hD
      have c1:(nx'=j)=False:=by simp;omega
      have c2:(j=nx')=False:=by simp;omega
      have c3:(D=j)=False:=by simp;omega
      have c4:(j=D)=False:=by simp;omega
      have c5:(D+1=j)=False:=by simp;omega
      have c6:(j=D+1)=False:=by simp;omega
      have c7:(nx'=D)=False:=by simp;omega
      have c8:(D=nx')=False:=by simp;omega
      have c9:(nx'=D+1)=False:=by simp;omega
      have c10:(D+1=nx')=False:=by simp;omega
      have c11:(D=D+1)=False:=by simp
      have c12:(D+1=D)=False:=by simp
      have c13:(C+1=nx')=False:=by simp;omega
      have c14:(nx'=C+1)=False:=by simp;omega
      have c15:(C+1=D)=False:=by simp;omega
      have c16:(D=C+1)=False:=by simp;omega
      have c17:(C=D)=False:=by simp;omega
      have c18:(D=C)=False:=by simp;omega
      simp -implicitDefEqProofs only [w2,c1,c2,c3,c4,c5,c6,c7,c8,c9,c10,c11,c12,c13,c14,c15,c16,c17,c18,b1,b2,b3,b4,b5,b6,b7,b8,b9,b10,b11,b12,encC_len,go_sem,reduceCtorEq,rdA,rdM,rdL,rdT,rdE,rdN,↓gTT,↓gFF,↓gTF,↓gFT]
      refine ⟨by omega,by omega,?_⟩
      refine wCall_frz2 (v':=.fz (L.length+1) none 3 (encC L++[.int .i64 (M+1),.fz 1 none 2 [.int .i64 v,.int .i64 (-1)],.bool false])) (by simp -implicitDefEqProofs only [c1,c2,c3,c4,c5,c6,c7,c8,c9,c10,c11,c12,c13,c14,c15,c16,c17,c18,b1,b2,b3,b4,b5,b6,b7,b8,b9,b10,b11,b12,encC_len1,go_sem,reduceCtorEq,rdA,rdM,rdL,rdT,rdE,rdN,↓gTT,↓gFF,↓gTF,↓gFT]) ?_
      refine wCall_seek2 (hR2 _ (by show j<D+1+1;omega)) rfl (by show j<D+1+1;omega) (by simp -implicitDefEqProofs only [c1,c2,c3,c4,c5,c6,c7,c8,c9,c10,c11,c12,c13,c14,c15,c16,c17,c18,b1,b2,b3,b4,b5,b6,b7,b8,b9,b10,b11,b12,hdels,go_sem,reduceCtorEq,rdA,rdM,rdL,rdT,rdE,rdN,↓gTT,↓gFF,↓gTF,↓gFT]) ?_ ?_
      ·intro h6 k nx2 hk2 hk3 k1 k2
       replace hk2:D+1+1≤k:=hk2
       simp -implicitDefEqProofs only [k1,k2,eRetK_r,c1,c2,c3,c4,c5,c6,c7,c8,c9,c10,c11,c12,c13,c14,c15,c16,c17,c18,b1,b2,b3,b4,b5,b6,b7,b8,b9,b10,b11,b12,hdels,go_sem,reduceCtorEq,rdA,rdM,rdL,rdT,rdE,rdN,↓gTT,↓gFF,↓gTF,↓gFT]
       exact ⟨_,subH_two _,.inl ⟨h6,k,by omega,hk3,rfl,rfl⟩⟩
      ·intro h6 nx2 hk2
       simp -implicitDefEqProofs only [eRetK_r,c1,c2,c3,c4,c5,c6,c7,c8,c9,c10,c11,c12,c13,c14,c15,c16,c17,c18,b1,b2,b3,b4,b5,b6,b7,b8,b9,b10,b11,b12,hdels,go_sem,reduceCtorEq,rdA,rdM,rdL,rdT,rdE,rdN,↓gTT,↓gFF,↓gTF,↓gFT]
       exact ⟨_,subH_one _,.inr ⟨h6,rfl,rfl⟩⟩
set_option maxHeartbeats 2000000 in
theorem rlook_sem {j n left nx:Nat} {rec:Nat→List Int→List Cons→Ans} {l:List Cons} (hrec:∀ left',left'<left→SeekAt j n rec left') (hsat:SatAt n rec) (hlen:∀ left',LenAt n rec left') (hstay:∀ left' vals l,(rec left' vals l).1≠2→(rec left' vals l).2.2=vals)
 (hj:j<nx) (hn1:n≤1000000) (hg:good n l) (hbx:boxed l) (hl:left≤1000000):
 SeekSem p22 [.fz l.length none 3 (encC l)] j n nx left (stepD rec left (zerosL n) l):=by
 refine FSem.sub (fsem_of_body (f:=p22) rfl rfl ?_)
 have j1:(nx=j)=False:=by simp;omega
 have j2:(j=nx)=False:=by simp;omega
 have hA:=rAll_ok l hg.1 hg.ok
 unfold stepD
 by_cases hw:allW l=0
 case neg=>
  have e:rAllV l=.tup [.fz 0 none 3 [],.int .i64 (allW l)]:=by unfold rAllV allL;rw [if_neg hw];rfl
  rw [e] at hA
  rw [if_pos hw]
  simp -implicitDefEqProofs only [go_sem,reduceCtorEq,rdA,rdM,rdL,rdT,rdE,rdN,↓gTT,↓gFF,↓gTF,↓gFT]
  refine wCall_pp rfl hA rfl ?_
  rcases allW_spec l with ⟨h1,-⟩|⟨h1,-⟩|⟨h1,-⟩
  ·rw [h1]
   simp -implicitDefEqProofs only [show decide ((1:Int)=1)=true from rfl,seekO,eRetK_r,go_sem,reduceCtorEq,rdA,rdM,rdL,rdT,rdE,rdN,↓gTT,↓gFF,↓gTF,↓gFT]
   exact ⟨_,subH_refl _,.inr ⟨by simp,rfl,rfl⟩⟩
  ·rw [h1]
   simp -implicitDefEqProofs only [show decide ((2:Int)=1)=false from rfl,show decide ((2:Int)=2)=true from rfl,seekO,eRetK_r,go_sem,reduceCtorEq,rdA,rdM,rdL,rdT,rdE,rdN,↓gTT,↓gFF,↓gTF,↓gFT]
   exact ⟨⟨by omega,by omega,by omega⟩,_,subH_refl _,.inl ⟨rfl,nx,Nat.le_refl _,by omega,rfl,by rw [reps_zero]⟩⟩
  ·exact absurd h1 hw
 have e:rAllV l=.tup [.fz (allS l).length none 3 (encC (allS l)),.int .i64 0]:=by unfold rAllV allL;rw [hw,if_pos rfl];rfl
 rw [e] at hA
 rw [if_neg (by omega)]
 have hg1:=all_good hg
 have hb1:=boxed_all hg hbx
 have hSne:allS l≠[]:=allW_ne hw
 have hmne:∀ y∈allS l,y.t.l≠[]:=fun y hy=>allS_ne hy
 generalize allS l=L at hA hg1 hb1 hSne hmne ⊢
 by_cases h240:240<L.length
 ·have d:decide ((240:Int)<(L.length:Int))=true:=by simp;omega
  rw [if_pos h240]
  simp -implicitDefEqProofs only [go_sem,reduceCtorEq,rdA,rdM,rdL,rdT,rdE,rdN,↓gTT,↓gFF,↓gTF,↓gFT]
  refine wCall_pp rfl hA (by simp [pureL,pureV]) ?_
  simp -implicitDefEqProofs only [show decide ((0:Int)=1)=false from rfl,show decide ((0:Int)=2)=false from rfl,d,seekO,eRetK_r,go_sem,reduceCtorEq,rdA,rdM,rdL,rdT,rdE,rdN,↓gTT,↓gFF,↓gTF,↓gFT]
  exact ⟨_,subH_refl _,.inr ⟨by simp,rfl,rfl⟩⟩
 have d:decide ((240:Int)<(L.length:Int))=false:=by simp;omega
 rw [if_neg h240]
 have hU:=rUnit_ok L hg1.small hg1.ok
 simp -implicitDefEqProofs only [go_sem,reduceCtorEq,rdA,rdM,rdL,rdT,rdE,rdN,↓gTT,↓gFF,↓gTF,↓gFT]
 refine wCall_pp rfl hA (by simp [pureL,pureV]) ?_
 simp -implicitDefEqProofs only [show decide ((0:Int)=1)=false from rfl,show decide ((0:Int)=2)=false from rfl,d,go_sem,reduceCtorEq,rdA,rdM,rdL,rdT,rdE,rdN,↓gTT,↓gFF,↓gTF,↓gFT]
 cases hu:unitOf L 0 with
 | some iu=>
  obtain ⟨i,u⟩:=iu
  obtain ⟨q,x,rfl,-⟩:=unit_facts hg1 hu
  have e:rUnitV L=.tup [.int .i64 q,.int .i64 u]:=by unfold rUnitV;rw [hu]
  rw [e] at hU
  refine wCall_pp rfl hU rfl ?_
  have dq:decide ((0:Int)≤(q:Int))=true:=by simp
  simp -implicitDefEqProofs only [dq,go_sem,reduceCtorEq,rdA,rdM,rdL,rdT,rdE,rdN,↓gTT,↓gFF,↓gTF,↓gFT]
  refine wCall_seek (H:=[]) (runit_sem hrec hsat (by show j<nx;exact hj) hn1 hg1 hb1 hl hu) rfl hj rfl rfl ?_ ?_
  ·intro h2 k nx' hk hk2 k1 k2
   simp -implicitDefEqProofs only [k1,k2,eRetK_r,go_sem,reduceCtorEq,rdA,rdM,rdL,rdT,rdE,rdN,↓gTT,↓gFF,↓gTF,↓gFT]
   exact ⟨_,subH_refl _,.inl ⟨h2,k,hk,hk2,rfl,rfl⟩⟩
  ·intro h2 nx' hk
   simp -implicitDefEqProofs only [seekO,eRetK_r,go_sem,reduceCtorEq,rdA,rdM,rdL,rdT,rdE,rdN,↓gTT,↓gFF,↓gTF,↓gFT]
   exact ⟨_,subH_refl _,.inr ⟨h2,rfl,rfl⟩⟩
 | none=>
  have e:rUnitV L=.tup [.int .i64 (-1),.int .i64 0]:=by unfold rUnitV;rw [hu]
  rw [e] at hU
  refine wCall_pp rfl hU rfl ?_
  simp -implicitDefEqProofs only [show decide ((0:Int)≤-1)=false from rfl,seekO,go_sem,reduceCtorEq,rdA,rdM,rdL,rdT,rdE,rdN,↓gTT,↓gFF,↓gTF,↓gFT]
  clear hU e hA hu
  refine wLoop_own p9 3 (by simp -implicitDefEqProofs only [go_sem,reduceCtorEq,rdA,rdM,rdL,rdT,rdE,rdN,↓gTT,↓gFF,↓gTF,↓gFT]) ?_
  simp -implicitDefEqProofs only [go_sem,reduceCtorEq,rdA,rdM,rdL,rdT,rdE,rdN,↓gTT,↓gFF,↓gTF,↓gFT]
  have hll:L.length≤240:=by omega
  refine wLoop_dr (fun m s=>∃ i d:Nat,i+m=L.length∧At s [(p0,.pt j 2 0),(p1,.fz L.length none 3 (encC L)),(p9,.ow nx (uneq (L.take i)).length 3),(p10,.int .i64 i)] (nx+d+1) 0 ((nx,.row (encC (uneq (L.take i))))::seekO j n left)) L.length ?_ ?_
  ·exact ⟨0,0,by simp,by simp -implicitDefEqProofs only [seekO,go_sem,reduceCtorEq,rdA,rdM,rdL,rdT,rdE,rdN,↓gTT,↓gFF,↓gTF,↓gFT];simp [encC,uneq]⟩
  ·rintro m ⟨e,nx2,w,h⟩ ⟨i,d,hi,⟨s1,s2,s3,s4,-⟩,hnx2,rfl,rfl⟩
   have hnx2:nx2=nx+d+1:=hnx2
   subst hnx2
   rcases Nat.lt_or_ge i L.length with hlt|hge
   ·obtain ⟨x,hx⟩:=has hlt
    have hxm:=List.mem_of_getElem? hx
    have hxo:okT x.t.c x.t.l=true:=(hg1.2 x hxm).1
    have ht:uneq (L.take (i+1))=uneq (L.take i)++uneqX x:=by rw [take_snoc hx];simp [uneq]
    have hul:=uneq_len (L.take i)
    have hul2:(L.take i).length≤i:=List.length_take_le _ _
    have hS:=rScale_ok x.t.c x.t.l (-1) hxo
    have i1:=inc64 hlt (by omega:L.length≤4611686018427387904)
    have n5:(nx=nx+d+1)=False:=by simp;omega
    have n6:(nx+d+1=nx)=False:=by simp;omega
    have n8:(nx=nx+d+2)=False:=by simp;omega
    have n9:(nx+d+2=nx)=False:=by simp;omega
    have n5':(nx=nx+d+1+1)=False:=by simp;omega
    have n6':(nx+d+1+1=nx)=False:=by simp;omega
    have n5'':(nx+d=nx+d+1)=False:=by simp
    have n7:hget (seekO j n left) (nx+d+1)=none:=by
     have q1:(nx+d+1=j)=False:=by simp;omega
     simp [seekO,hget,q1]
    cases hxe:x.eq with
    | false=>
     have hX:uneqX x=[⟨x.t,false⟩]:=by unfold uneqX;rw [hxe];rfl
     simp -implicitDefEqProofs only [s1,s2,s3,s4,ltT hlt,encC_t hx,encC_g2 hx,encC_len,hxe,n5,n6,i1,go_sem,reduceCtorEq,rdA,rdM,rdL,rdT,rdE,rdN,↓gTT,↓gFF,↓gTF,↓gFT]
     refine ⟨⟨by omega,by omega⟩,by omega,by omega,by omega,⟨by omega,by omega⟩,m-1,by omega,_,subH_tail (by simp [hget,n6,n7]),i+1,d+1,by omega,⟨?_,rfl⟩,by omega,?_⟩
     ·rw [ht,hX];simp
     ·rw [ht,hX];simp [encC_app,encC,vMs]
    | true=>
     have hX:uneqX x=[⟨x.t,false⟩,⟨⟨(scaleR x.t.c x.t.l (-1)).1,(scaleR x.t.c x.t.l (-1)).2.1⟩,false⟩]:=by unfold uneqX;rw [hxe];rfl
     simp -implicitDefEqProofs only [s1,s2,s3,s4,ltT hlt,encC_t hx,encC_g2 hx,encC_len,hxe,n5,n6,i1,go_sem,reduceCtorEq,rdA,rdM,rdL,rdT,rdE,rdN,↓gTT,↓gFF,↓gTF,↓gFT]
     refine ⟨⟨by omega,by omega⟩,by omega,by omega,by omega,⟨by omega,by omega⟩,⟨by omega,by omega⟩,by omega,?_⟩
     refine wCall_pp (by simp [pureL,pureV]) hS (by simp [vTB,pureL,pureV]) ?_
     simp -implicitDefEqProofs only [vTB,encC_len1,n5,n6,n8,n9,n5',n6',i1,go_sem,reduceCtorEq,rdA,rdM,rdL,rdT,rdE,rdN,↓gTT,↓gFF,↓gTF,↓gFT]
     have n7':hget (seekO j n left) (nx+d+1+1)=none:=by
      have q1:(nx+d+1+1=j)=False:=by simp;omega
      simp [seekO,hget,q1]
     refine ⟨by omega,by omega,m-1,by omega,_,subH_tail2 (by simp [hget,n6,n7]) (by rw [hget,if_neg (by omega),hget,if_neg (by omega)];exact n7'),i+1,d+2,by omega,⟨?_,rfl⟩,by omega,?_⟩
     ·rw [ht,hX];simp
     ·rw [ht,hX];simp [encC_app,encC,vMs]
   ·rw [List.take_of_length_le hge] at s3
    simp -implicitDefEqProofs only [s1,s2,s3,s4,ltF hge,List.take_of_length_le hge,encC_len,go_sem,reduceCtorEq,rdA,rdM,rdL,rdT,rdE,rdN,↓gTT,↓gFF,↓gTF,↓gFT]
    clear s1 s2 s3 s4
    unfold noUnitD
    have hgT:=uneq_good hg1 (by omega)
    have hbT:=boxed_uneq hg1 hb1
    have hvT:=uneq_vars hSne hmne
    have hqT:∀ x∈uneq L,x.eq=false:=by
     intro x hx
     obtain ⟨y,hy,hx⟩:=List.mem_flatMap.1 hx
     unfold uneqX at hx
     split at hx
     ·rcases List.mem_cons.1 hx with rfl|hx
      ·rfl
      ·rw [List.mem_singleton.1 hx]
     ·rw [List.mem_singleton.1 hx]
    generalize uneq L=T at hgT hbT hvT hqT ⊢
    obtain ⟨B,hB⟩:∃ B,B=nx+d+1:=⟨_,rfl⟩
    have hBn:j<B:=by omega
    by_cases g240:240<T.length
    ·have dg:decide ((240:Int)<(T.length:Int))=true:=by simp;omega
     rw [if_pos g240]
     simp -implicitDefEqProofs only [dg,seekO,eRetK_r,go_sem,reduceCtorEq,rdA,rdM,rdL,rdT,rdE,rdN,↓gTT,↓gFF,↓gTF,↓gFT]
     exact ⟨_,subH_tail (by simp [hget,j1]),.inr ⟨by simp,rfl,rfl⟩⟩
    have dg:decide ((240:Int)<(T.length:Int))=false:=by simp;omega
    rw [if_neg g240]
    simp -implicitDefEqProofs only [dg,←hB,go_sem,reduceCtorEq,rdA,rdM,rdL,rdT,rdE,rdN,↓gTT,↓gFF,↓gTF,↓gFT]
    refine wLoop_by (fun m s=>∃ v:Nat,v+m=n∧At s [(p0,.pt j 2 0),(p9,.ow nx T.length 3),(p13,.int .i64 v)] B 0 ((nx,.row (encC T))::seekO j n left)∧∀ w:Int,0≤w→w<v→w∈varsOf T→exP T w=false) n ?_ ?_
    ·exact ⟨0,by simp,by simp -implicitDefEqProofs only [seekO,go_sem,reduceCtorEq,rdA,rdM,rdL,rdT,rdE,rdN,↓gTT,↓gFF,↓gTF,↓gFT],fun w h1 h2=>by omega⟩
    ·rintro m2 ⟨e,nx3,w,h⟩ ⟨v,hv,⟨⟨s1,s2,s3,-⟩,hnx3,rfl,rfl⟩,hno⟩
     have hnx3:nx3=B:=hnx3
     subst hnx3
     rcases Nat.lt_or_ge v n with hvlt|hvge
     ·have dv:decide ((v:Int)<(n:Int))=true:=by simp;omega
      have hH:=rhas_ok T v hgT.small
      have hE:=rExact_ok T v hgT.small
      have i1:IntKind.i64.wrap ((v:Int)+1)=((v+1:Nat):Int):=by rw [i64 (by omega)];omega
      simp -implicitDefEqProofs only [s1,s2,s3,dv,seekO,j1,j2,go_sem,reduceCtorEq,rdA,rdM,rdL,rdT,rdE,rdN,↓gTT,↓gFF,↓gTF,↓gFT]
      refine wCall_any (args':=[.fz T.length none 3 (encC T),.int .i64 v]) (b:=true) (by simp -implicitDefEqProofs only [encC_len,go_sem,reduceCtorEq,rdA,rdM,rdL,rdT,rdE,rdN,↓gTT,↓gFF,↓gTF,↓gFT]) hH rfl (by simp [pureL,pureV]) rfl ?_
      cases hT:thereB T v with
      | false=>
       have hT':=hT
       unfold thereB at hT
       have hnv:∀ h:(v:Int)∈varsOf T,False:=fun h=>by rw [(there_iff hgT _).2 h] at hT';cases hT'
       simp -implicitDefEqProofs only [hT,i1,seekO,j1,j2,go_sem,reduceCtorEq,rdA,rdM,rdL,rdT,rdE,rdN,↓gTT,↓gFF,↓gTF,↓gFT]
       exact ⟨m2-1,by omega,v+1,by omega,rfl,fun w h1 h2 h3=>by
        by_cases h4:w=v
        ·rw [h4] at h3;exact absurd h3 hnv
        ·exact hno w h1 (by omega) h3⟩
      | true=>
       have hmv:=(there_iff hgT _).1 hT
       unfold thereB at hT
       simp -implicitDefEqProofs only [hT,seekO,j1,j2,go_sem,reduceCtorEq,rdA,rdM,rdL,rdT,rdE,rdN,↓gTT,↓gFF,↓gTF,↓gFT]
       refine wCall_any (args':=[.fz T.length none 3 (encC T),.int .i64 v]) (b:=true) (by simp -implicitDefEqProofs only [encC_len,go_sem,reduceCtorEq,rdA,rdM,rdL,rdT,rdE,rdN,↓gTT,↓gFF,↓gTF,↓gFT]) hE rfl (by simp [pureL,pureV]) rfl ?_
       have hex:=exP_exact hgT hqT hmv
       cases hX:exactB T v with
       | false=>
        simp -implicitDefEqProofs only [i1,seekO,j1,j2,go_sem,reduceCtorEq,rdA,rdM,rdL,rdT,rdE,rdN,↓gTT,↓gFF,↓gTF,↓gFT]
        exact ⟨m2-1,by omega,v+1,by omega,rfl,fun w h1 h2 h3=>by
         by_cases h4:w=v
         ·rw [h4,hex,hX]
         ·exact hno w h1 (by omega) h3⟩
       | true=>
        have hx0:¬ exactV T<0:=fun h=>by
         have:=exact_none h (fun w hw=>(vars_b hgT hw).1) v hmv
         rw [hex,hX] at this;cases this
        have hXm:=exactV_mem hx0
        have hxe:exactV T=v:=by
         rcases Int.lt_trichotomy (exactV T) v with h|h|h
         ·have:=hno _ (by omega) h (first_mem.1 hXm.1);rw [hXm.2] at this;cases this
         ·exact h
         ·have:=exact_first hx0 v hmv h;rw [hex,hX] at this;cases this
        rw [if_neg hx0,hxe]
        have hvb:=vars_b hgT hmv
        simp -implicitDefEqProofs only [seekO,j1,j2,go_sem,reduceCtorEq,rdA,rdM,rdL,rdT,rdE,rdN,↓gTT,↓gFF,↓gTF,↓gFT]
        refine wCall_frzR (v':=.fz T.length none 3 (encC T)) (by simp -implicitDefEqProofs only [encC_len,go_sem,reduceCtorEq,rdA,rdM,rdL,rdT,rdE,rdN,↓gTT,↓gFF,↓gTF,↓gFT]) ?_
        simp -implicitDefEqProofs only [hdels,j1,j2,go_sem,reduceCtorEq,rdA,rdM,rdL,rdT,rdE,rdN,↓gTT,↓gFF,↓gTF,↓gFT]
        refine wCall_seek (H:=[]) (rdrop_sem hrec hsat (by show j<nx3;exact hBn) hn1 hgT (by omega) hbT hqT hl ⟨hvb.1,hvb.2.1⟩ hvb.2.2) rfl hBn rfl rfl ?_ ?_
        ·intro h2 k nx' hk hk2 k1 k2
         replace hk:nx3≤k:=hk
         simp -implicitDefEqProofs only [k1,k2,eRetK_r,go_sem,reduceCtorEq,rdA,rdM,rdL,rdT,rdE,rdN,↓gTT,↓gFF,↓gTF,↓gFT]
         exact ⟨_,subH_refl _,.inl ⟨h2,k,by omega,hk2,rfl,rfl⟩⟩
        ·intro h2 nx' hk
         simp -implicitDefEqProofs only [seekO,eRetK_r,go_sem,reduceCtorEq,rdA,rdM,rdL,rdT,rdE,rdN,↓gTT,↓gFF,↓gTF,↓gFT]
         exact ⟨_,subH_refl _,.inr ⟨h2,rfl,rfl⟩⟩
     ·have dv:decide ((v:Int)<(n:Int))=false:=by simp;omega
      have hx0:exactV T<0:=by
       by_cases h:exactV T<0
       ·exact h
       ·have h1:=exactV_mem h
        have h2:=first_mem.1 h1.1
        have h3:=vars_b hgT h2
        have:=hno _ h3.1 (by omega) h2
        rw [h1.2] at this;cases this
      rw [if_pos hx0]
      simp -implicitDefEqProofs only [s1,s2,s3,dv,seekO,j1,j2,go_sem,reduceCtorEq,rdA,rdM,rdL,rdT,rdE,rdN,↓gTT,↓gFF,↓gTF,↓gFT]
      refine wCall_frz2 (v':=.fz T.length none 3 (encC T)) (by simp -implicitDefEqProofs only [encC_len,go_sem,reduceCtorEq,rdA,rdM,rdL,rdT,rdE,rdN,↓gTT,↓gFF,↓gTF,↓gFT]) ?_
      simp -implicitDefEqProofs only [hdels,j1,j2,go_sem,reduceCtorEq,rdA,rdM,rdL,rdT,rdE,rdN,↓gTT,↓gFF,↓gTF,↓gFT]
      refine wCall_seek (H:=[]) (rhalf_sem hrec hsat hlen hstay (by show j<nx3;exact hBn) hn1 hgT (by omega) hbT hqT hl hvT) rfl hBn rfl rfl ?_ ?_
      ·intro h2 k nx' hk hk2 k1 k2
       replace hk:nx3≤k:=hk
       simp -implicitDefEqProofs only [k1,k2,eRetK_r,go_sem,reduceCtorEq,rdA,rdM,rdL,rdT,rdE,rdN,↓gTT,↓gFF,↓gTF,↓gFT]
       exact ⟨_,subH_refl _,.inl ⟨h2,k,by omega,hk2,rfl,rfl⟩⟩
      ·intro h2 nx' hk
       simp -implicitDefEqProofs only [seekO,eRetK_r,go_sem,reduceCtorEq,rdA,rdM,rdL,rdT,rdE,rdN,↓gTT,↓gFF,↓gTF,↓gFT]
       exact ⟨_,subH_refl _,.inr ⟨h2,rfl,rfl⟩⟩
theorem boxL_mem:∀ (n:Nat) (x:Cons),x∈boxL n→∃ k:Nat,k<n∧x∈boxX k
 | 0,x,h=>by simp [boxL] at h
 | n+1,x,h=>by
  rw [boxL] at h
  rcases List.mem_append.1 h with h|h
  ·obtain ⟨k,h1,h2⟩:=boxL_mem n x h
   exact ⟨k,by omega,h2⟩
  ·exact ⟨n,by omega,h⟩
theorem boxL_has:∀ (n k:Nat),k<n→∀ x∈boxX k,x∈boxL n
 | 0,k,h=>by omega
 | n+1,k,h=>fun x hx=>by
  rw [boxL]
  by_cases e:k=n
  ·subst e;exact List.mem_append_right _ hx
  ·exact List.mem_append_left _ (boxL_has n k (by omega) x hx)
theorem box_boxed {n:Nat} {l:List Cons} (hg:good n l):boxed (l++boxL n):=by
 have key:∀ w:Int,0≤w→w<n→bx2 (l++boxL n) w:=by
  intro w h0 h1
  obtain ⟨k,rfl⟩:∃ k:Nat,w=k:=⟨w.toNat,by omega⟩
  have hm:=boxL_has n k (by omega)
  refine ⟨⟨⟨⟨-2147483647,[⟨k,1⟩]⟩,false⟩,List.mem_append_right _ (hm _ (by simp [boxX])),rfl,rfl,fun u=>?_⟩,⟨⟨⟨-2147483648,[⟨k,-1⟩]⟩,false⟩,List.mem_append_right _ (hm _ (by simp [boxX])),rfl,rfl,fun u=>?_⟩⟩
  ·rw [kOf_one];by_cases e:(k:Int)=u
   ·rw [if_pos e,if_pos e.symm]
   ·rw [if_neg e,if_neg (fun h=>e h.symm)]
  ·rw [kOf_one];by_cases e:(k:Int)=u
   ·rw [if_pos e,if_pos e.symm]
   ·rw [if_neg e,if_neg (fun h=>e h.symm)]
 intro x hx w hw
 rcases List.mem_append.1 hx with hx|hx
 ·have hxg:=hg.2 x hx
  have hok:okT x.t.c x.t.l=true:=hxg.1
  have hf:∀ l:List Mono,kOf l w≠0→∃ m∈l,m.v=w:=by
   intro l
   induction l with
   | nil=>intro h;exact absurd rfl h
   | cons m l ih=>
    intro h
    rw [kOf] at h
    by_cases hm:m.v=w
    ·exact ⟨m,List.mem_cons_self,hm⟩
    ·rw [if_neg hm] at h
     obtain ⟨z,h1,h2⟩:=ih h
     exact ⟨z,List.mem_cons_of_mem _ h1,h2⟩
  obtain ⟨m,hm,rfl⟩:=hf _ hw
  exact key _ (okM_spec.1 (okFrom_ok (okT_spec.1 hok).2.2.2 m hm)).1 (hxg.2 _ hw)
 ·obtain ⟨k,h1,h2⟩:=boxL_mem n x hx
  simp only [boxX,List.mem_cons,List.not_mem_nil,or_false] at h2
  have:w=k:=by
   rcases h2 with rfl|rfl
   ·exact one_v k 1 w hw
   ·exact one_v k (-1) w hw
  exact key w (by omega) (by omega)
def StayAt (rec:Nat→List Int→List Cons→Ans):Prop:=∀ left vals l,(rec left vals l).1≠2→(rec left vals l).2.2=vals
theorem swapD_stay {rec:Nat→List Int→List Cons→Ans} (h:StayAt rec) (left:Nat) (vals:List Int) (l:List Cons) (v c:Int) (b:List Mono) (h2:(swapD rec left vals l v c b).1≠2):(swapD rec left vals l v c b).2.2=vals:=by
 unfold swapD at h2 ⊢
 split at h2
 ·rename_i h1;rw [if_pos h1]
 ·rename_i h1
  rw [if_neg h1]
  split at h2
  ·exact absurd rfl h2
  ·rename_i h3;rw [if_neg h3];exact h _ _ _ h2
theorem splitD_stay {rec:Nat→List Int→List Cons→Ans} (h:StayAt rec) (left:Nat) (vals:List Int) (l:List Cons) (v:Int) (h2:(splitD rec left vals l v).1≠2):(splitD rec left vals l v).2.2=vals:=by
 unfold splitD at h2 ⊢
 generalize halfR (spanLo (aloneL l v) v []) (spanHi (aloneL l v) v [])=M at h2 ⊢
 by_cases h0:spanHi (aloneL l v) v []<spanLo (aloneL l v) v []
 ·rw [if_pos h0]
 rw [if_neg h0] at h2 ⊢
 by_cases h1:left<1
 ·rw [if_pos h1]
 rw [if_neg h1] at h2 ⊢
 by_cases h3:spanLo (aloneL l v) v []=spanHi (aloneL l v) v []
 ·rw [if_pos h3] at h2 ⊢;exact swapD_stay h _ _ _ _ _ _ h2
 rw [if_neg h3] at h2 ⊢
 by_cases h4:(rec (left-1) vals (l++[belowC v M])).1=1
 ·rw [if_pos h4] at h2 ⊢
  rw [h _ _ _ h2];exact h _ _ _ (by omega)
 ·rw [if_neg h4] at h2 ⊢
  exact h _ _ _ h2
theorem dropD_stay {rec:Nat→List Int→List Cons→Ans} (h:StayAt rec) (left:Nat) (vals:List Int) (l:List Cons) (v:Int) (h2:(dropD rec left vals l v).1≠2):(dropD rec left vals l v).2.2=vals:=by
 unfold dropD at h2 ⊢
 generalize max ((lowsOf l v).length*(highsOf l v).length) 1=C at h2 ⊢
 by_cases h0:left<C
 ·rw [if_pos h0]
 rw [if_neg h0] at h2 ⊢
 by_cases h1:dropErr l v≠0
 ·rw [if_pos h1]
 rw [if_neg h1] at h2 ⊢
 by_cases h3:(rec (left-C) vals (dropList l v)).1=2
 ·rw [if_pos h3] at h2;exact absurd rfl h2
 ·rw [if_neg h3] at h2 ⊢;exact h _ _ _ h2
theorem stepD_stay {rec:Nat→List Int→List Cons→Ans} (h:StayAt rec):StayAt (stepD rec):=by
 intro left vals l h2
 unfold stepD at h2 ⊢
 by_cases h0:allW l≠0
 ·rw [if_pos h0]
 rw [if_neg h0] at h2 ⊢
 by_cases h1:240<(allS l).length
 ·rw [if_pos h1]
 rw [if_neg h1] at h2 ⊢
 cases hu:unitOf (allS l) 0 with
 | some iv=>
  obtain ⟨i,v⟩:=iv
  rw [hu] at h2
  simp only [unitD] at h2 ⊢
  by_cases h3:left<1
  ·rw [if_pos h3]
  ·rw [if_neg h3] at h2 ⊢;exact swapD_stay h _ _ _ _ _ _ h2
 | none=>
  rw [hu] at h2
  simp only [noUnitD] at h2 ⊢
  by_cases h3:240<(uneq (allS l)).length
  ·rw [if_pos h3]
  rw [if_neg h3] at h2 ⊢
  by_cases h4:exactV (uneq (allS l))<0
  ·rw [if_pos h4] at h2 ⊢;exact splitD_stay h _ _ _ _ h2
  ·rw [if_neg h4] at h2 ⊢;exact dropD_stay h _ _ _ _ h2
theorem ansD_stay:∀ d:Nat,StayAt (ansD d)
 | 0=>fun left vals l h=>rfl
 | d+1=>stepD_stay (ansD_stay d)
theorem seek_ok {j n:Nat} (hn1:n≤1000000):∀ (d left:Nat),left<d→left≤1000000→SeekAt j n (ansD d) left
 | 0,left,h,_=>absurd h (Nat.not_lt_zero _)
 | d+1,left,h,hl=>fun l nx hg hbx hj=>rlook_sem (rec:=ansD d) (fun left' h'=>seek_ok hn1 d left' (by omega) (by omega)) (ansD_sat d) (fun left'=>ansD_len d left') (ansD_stay d) hj hn1 hg hbx hl
def rSolveV (n:Nat) (l:List Cons) (fuel:Nat):VV:=.tup [.int .i64 (solveA n l fuel).1,vIs (modelL (solveA n l fuel)),.int .i64 (solveA n l fuel).2.1]
theorem rSolve_ok (n:Nat) (l:List Cons) (fuel:Nat) (hn:n≤40) (hf:fuel≤4000) (hl:l.length≤240) (hg:good n l):
 VPure FT p12 [.int .i64 n,.fz l.length none 3 (encC l),.int .i64 fuel] (rSolveV n l fuel):=by
 refine vpure_of_body' (f:=p12) rfl rfl ?_
 have hB:=rBox_ok n (by omega)
 have hbl:=boxL_len n
 have hg2:good n (l++boxL n):=good_app hg (box_good n hn n (Nat.le_refl n)) (by rw [boxL_len];omega)
 have hS:=fun nx' (h:0<nx')=>seek_ok (j:=0) (n:=n) (by omega) (fuel+1) fuel (by omega) (by omega) (l++boxL n) nx' hg2 (box_boxed hg) h
 have hlen:=(ansD_len (fuel+1) fuel (zerosL n) (l++boxL n) (zeros_len n) hg2).1
 obtain ⟨A,hA⟩:∃ A,A=solveA n l fuel:=⟨_,rfl⟩
 have hA':A=ansD (fuel+1) fuel (zerosL n) (l++boxL n):=hA
 unfold rSolveV
 rw [←hA]
 rw [←hA'] at hS hlen
 rw [encC_app,List.length_append] at hS
 simp -implicitDefEqProofs only [go_sem,reduceCtorEq,rdA,rdM,rdL,rdT,rdE,rdN,↓gTT,↓gFF,↓gTF,↓gFT]
 refine wCall_twin hg.small fun C hC=>?_
 replace hC:1<C:=hC
 have c0:(C=0)=False:=by simp;omega
 simp -implicitDefEqProofs only [go_sem,reduceCtorEq,rdA,rdM,rdL,rdT,rdE,rdN,↓gTT,↓gFF,↓gTF,↓gFT]
 refine wCall_pp (r:=vCs (boxL n)) rfl hB (by simp [vCs,pureV,pureL]) ?_
 simp -implicitDefEqProofs only [vCs,encC_len,go_sem,reduceCtorEq,rdA,rdM,rdL,rdT,rdE,rdN,↓gTT,↓gFF,↓gTF,↓gFT]
 refine ⟨by omega,?_⟩
 have hlc:(encC l++encC (boxL n)).length=(l.length+(boxL n).length)*3:=by rw [List.length_append,encC_len,encC_len];omega
 refine wCall_frz2 (v':=.fz (l.length+(boxL n).length) none 3 (encC l++encC (boxL n))) (by simp -implicitDefEqProofs only [hlc,go_sem,reduceCtorEq,rdA,rdM,rdL,rdT,rdE,rdN,↓gTT,↓gFF,↓gTF,↓gFT]) ?_
 simp -implicitDefEqProofs only [hdels,go_sem,reduceCtorEq,rdA,rdM,rdL,rdT,rdE,rdN,↓gTT,↓gFF,↓gTF,↓gFT]
 refine wCall_seek2 (hS _ (by show 0<C;omega)) rfl (by show 0<C;omega) (by simp -implicitDefEqProofs only [hdels,go_sem,reduceCtorEq,rdA,rdM,rdL,rdT,rdE,rdN,↓gTT,↓gFF,↓gTF,↓gFT]) ?_ ?_
 ·intro h2 k nx' hk hk2 k1 k2
  have hm:modelL A=A.2.2:=by unfold modelL;rw [if_pos h2]
  simp -implicitDefEqProofs only [show decide ((2:Int)=2)=true from rfl,Bool.not_true,h2,hm,vIs,k1,k2,encI_len,hlen,Nat.mul_one,go_sem,reduceCtorEq,rdA,rdM,rdL,rdT,rdE,rdN,↓gTT,↓gFF,↓gTF,↓gFT]
 ·intro h2 nx' hk
  have d2:decide (A.1=2)=false:=by simpa using h2
  have hm:modelL A=[]:=by unfold modelL;rw [if_neg h2]
  simp -implicitDefEqProofs only [d2,Bool.not_false,hm,vIs,encI,List.length_nil,go_sem,reduceCtorEq,rdA,rdM,rdL,rdT,rdE,rdN,↓gTT,↓gFF,↓gTF,↓gFT]
theorem last_max:∀ {l:List Mono} {p:Option Int},okFrom p l=true→l≠[]→∃ m,l[l.length-1]?=some m∧m∈l∧(∀ y∈l,y.v≤m.v)∧∀ q,p=some q→q<m.v
 | [],_,_,h=>absurd rfl h
 | [a],p,hp,_=>by
  have h:=okFrom_cons.1 hp
  exact ⟨a,rfl,by simp,by simp,h.2.1⟩
 | a::b::l,p,hp,_=>by
  have h:=okFrom_cons.1 hp
  obtain ⟨m,h1,h2,h3,h4⟩:=last_max h.2.2 (by simp)
  have h5:=h4 _ rfl
  refine ⟨m,by simpa using h1,List.mem_cons_of_mem _ h2,fun y hy=>?_,fun q hq=>by have:=h.2.1 q hq;omega⟩
  rcases List.mem_cons.1 hy with rfl|hy
  ·omega
  ·exact h3 y hy
theorem last_lt {n:Int} {x:Cons} (hx:okC x=true) {m:Mono} (hm:x.t.l[x.t.l.length-1]?=some m):ltB n x=decide (m.v<n):=by
 have hok:okT x.t.c x.t.l=true:=hx
 obtain ⟨m',h1,h2,h3,-⟩:=last_max (okT_spec.1 hok).2.2.2 (fun e=>by rw [e] at hm;simp at hm)
 rw [hm] at h1
 cases h1
 unfold ltB
 by_cases h:m.v<n
 ·rw [decide_eq_true h,List.all_eq_true]
  intro y hy;have:=h3 y hy;simp;omega
 ·rw [decide_eq_false h,Bool.eq_false_iff]
  intro ha
  have:=List.all_eq_true.1 ha m h2;simp at this;omega
set_option maxHeartbeats 1000000 in
theorem Solve_bad (n:Int) (l:List Cons) (fuel:Int) (hs:smallC l) (hm:mayS n l fuel=false):
 VPure FT p6 [.int .i64 n,.fz l.length none 3 (encC l),.int .i64 fuel] (.tup [.int .i64 0,.fz 0 none 1 [],.int .i64 0,.int .i64 1]):=by
 refine vpure_of_body' (f:=p6) rfl rfl ?_
 have hll:=hs.len
 by_cases h1:n<0
 ·simp -implicitDefEqProofs only [decide_eq_true h1,go_sem,reduceCtorEq,rdA,rdM,rdL,rdT,rdE,rdN,↓gTT,↓gFF,↓gTF,↓gFT]
 have e1:decide (n<0)=false:=by simpa using h1
 by_cases h2:40<n
 ·simp -implicitDefEqProofs only [e1,decide_eq_true h2,go_sem,reduceCtorEq,rdA,rdM,rdL,rdT,rdE,rdN,↓gTT,↓gFF,↓gTF,↓gFT]
 have e2:decide (40<n)=false:=by simpa using h2
 by_cases h3:fuel<0
 ·simp -implicitDefEqProofs only [e1,e2,decide_eq_true h3,go_sem,reduceCtorEq,rdA,rdM,rdL,rdT,rdE,rdN,↓gTT,↓gFF,↓gTF,↓gFT]
 have e3:decide (fuel<0)=false:=by simpa using h3
 by_cases h4:4000<fuel
 ·simp -implicitDefEqProofs only [e1,e2,e3,decide_eq_true h4,go_sem,reduceCtorEq,rdA,rdM,rdL,rdT,rdE,rdN,↓gTT,↓gFF,↓gTF,↓gFT]
 have e4:decide (4000<fuel)=false:=by simpa using h4
 by_cases h5:240<l.length
 ·have e5:decide ((240:Int)<(l.length:Int))=true:=by simp;omega
  simp -implicitDefEqProofs only [e1,e2,e3,e4,e5,go_sem,reduceCtorEq,rdA,rdM,rdL,rdT,rdE,rdN,↓gTT,↓gFF,↓gTF,↓gFT]
 have e5:decide ((240:Int)<(l.length:Int))=false:=by simp;omega
 have hbad:l.all (fun x=>okC x&&ltB n x)=false:=by
  unfold mayS at hm
  rw [decide_eq_true (p:=0≤n) (by omega),decide_eq_true (p:=n≤40) (by omega),decide_eq_true (p:=0≤fuel) (by omega),decide_eq_true (p:=fuel≤4000) (by omega),decide_eq_true (p:=l.length≤240) (by omega)] at hm
  rw [←hm]
  have:∀ (l:List Cons) (f g:Cons→Bool),l.all (fun x=>f x&&g x)=(l.all f&&l.all g):=by
   intro l f g
   induction l with
   | nil=>rfl
   | cons x l ih=>simp only [List.all_cons,ih];cases f x<;>cases g x<;>simp
  rw [this];simp
 simp -implicitDefEqProofs only [e1,e2,e3,e4,e5,go_sem,reduceCtorEq,rdA,rdM,rdL,rdT,rdE,rdN,↓gTT,↓gFF,↓gTF,↓gFT]
 refine wLoop_by (fun m s=>∃ i:Nat,i+m=l.length∧At s [(p0,.int .i64 n),(p1,.fz l.length none 3 (encC l)),(p2,.int .i64 fuel),(p7,.nils),(p32,.fz l.length none 3 (encC l)),(p33,.int .i64 l.length),(p34,.int .i64 i)] 0 0 []∧(l.drop i).all (fun x=>okC x&&ltB n x)=false) l.length ?_ ?_
 ·exact ⟨0,by simp,by simp -implicitDefEqProofs only [go_sem,reduceCtorEq,rdA,rdM,rdL,rdT,rdE,rdN,↓gTT,↓gFF,↓gTF,↓gFT],by simpa using hbad⟩
 ·rintro m ⟨e,nx,w,h⟩ ⟨i,hi,⟨⟨s1,s2,s3,s4,s5,s6,s7,-⟩,rfl,rfl,rfl⟩,hk⟩
  rcases Nat.lt_or_ge i l.length with hlt|hge
  ·obtain ⟨x,hx⟩:=has hlt
   have hxl:=hs.all x (List.mem_of_getElem? hx)
   rw [drop_cons' hx,List.all_cons] at hk
   have hCk:=Check_ok x.t.c x.t.l (by omega)
   have i1:=inc64 hlt (by omega:l.length≤4611686018427387904)
   simp -implicitDefEqProofs only [s1,s2,s3,s4,s5,s6,s7,ltT hlt,encC_cut hx,encC_len,go_sem,reduceCtorEq,rdA,rdM,rdL,rdT,rdE,rdN,↓gTT,↓gFF,↓gTF,↓gFT]
   refine ⟨⟨by omega,by omega⟩,by omega,?_⟩
   cases hok:okT x.t.c x.t.l with
   | false=>
    rw [hok,if_neg (by simp)] at hCk
    refine wCall_pp rfl hCk rfl ?_
    simp -implicitDefEqProofs only [nb10,Bool.not_false,go_sem,reduceCtorEq,rdA,rdM,rdL,rdT,rdE,rdN,↓gTT,↓gFF,↓gTF,↓gFT]
   | true=>
    have hxo:okC x=true:=hok
    rw [hok,if_pos rfl] at hCk
    rw [hxo,Bool.true_and] at hk
    refine wCall_pp rfl hCk rfl ?_
    rcases Nat.eq_zero_or_pos x.t.l.length with h0|hpos
    ·have d0:decide ((0:Int)<(x.t.l.length:Int))=false:=decide_eq_false (by omega)
     have hlt2:ltB n x=true:=by unfold ltB;rw [List.length_eq_zero_iff.1 h0];rfl
     rw [hlt2,Bool.true_and] at hk
     simp -implicitDefEqProofs only [s0eq,d0,Bool.not_true,i1,go_sem,reduceCtorEq,rdA,rdM,rdL,rdT,rdE,rdN,↓gTT,↓gFF,↓gTF,↓gFT]
     exact ⟨m-1,by omega,i+1,by omega,rfl,hk⟩
    ·have d0:decide ((0:Int)<(x.t.l.length:Int))=true:=by simp;omega
     obtain ⟨y,hy⟩:=has (show x.t.l.length-1<x.t.l.length by omega)
     have hw:IntKind.i64.wrap ((x.t.l.length:Int)-1)=((x.t.l.length-1:Nat):Int):=by rw [i64 (by omega)];omega
     rw [last_lt hxo hy] at hk
     by_cases hb:n≤y.v
     ·have d1:decide (n≤y.v)=true:=by simpa using hb
      simp -implicitDefEqProofs only [s0eq,d0,Bool.not_true,hw,encM_g0 hy,d1,go_sem,reduceCtorEq,rdA,rdM,rdL,rdT,rdE,rdN,↓gTT,↓gFF,↓gTF,↓gFT]
      exact ⟨by omega,by omega⟩
     ·have d1:decide (n≤y.v)=false:=by simpa using hb
      rw [decide_eq_true (p:=y.v<n) (by omega),Bool.true_and] at hk
      simp -implicitDefEqProofs only [s0eq,d0,Bool.not_true,hw,encM_g0 hy,d1,i1,go_sem,reduceCtorEq,rdA,rdM,rdL,rdT,rdE,rdN,↓gTT,↓gFF,↓gTF,↓gFT]
      exact ⟨⟨by omega,by omega⟩,m-1,by omega,i+1,by omega,rfl,hk⟩
  ·rw [List.drop_eq_nil_of_le hge] at hk;simp at hk
theorem sBox_ok (n:Int):VPure FT p7 [.int .i64 n] (if n<0∨40<n then .tup [.fz 0 none 3 [],.int .i64 1] else .tup [vCs (boxL n.toNat),.int .i64 0]):=by
 refine vpure_of_body' (f:=p7) rfl rfl ?_
 by_cases h1:n<0
 ·rw [if_pos (.inl h1)]
  simp -implicitDefEqProofs only [decide_eq_true h1,go_sem,reduceCtorEq,rdA,rdM,rdL,rdT,rdE,rdN,↓gTT,↓gFF,↓gTF,↓gFT]
 by_cases h2:40<n
 ·rw [if_pos (.inr h2)]
  simp -implicitDefEqProofs only [decide_eq_false h1,decide_eq_true h2,go_sem,reduceCtorEq,rdA,rdM,rdL,rdT,rdE,rdN,↓gTT,↓gFF,↓gTF,↓gFT]
 rw [if_neg (by omega)]
 obtain ⟨m,rfl⟩:∃ m:Nat,n=m:=⟨n.toNat,by omega⟩
 have hB:=box_ok m (by omega)
 simp -implicitDefEqProofs only [decide_eq_false h1,decide_eq_false h2,go_sem,reduceCtorEq,rdA,rdM,rdL,rdT,rdE,rdN,↓gTT,↓gFF,↓gTF,↓gFT]
 refine wCall_pp (r:=vCs (boxL m)) rfl hB (by simp [vCs,pureV,pureL]) ?_
 simp -implicitDefEqProofs only [vCs,go_sem,reduceCtorEq,rdA,rdM,rdL,rdT,rdE,rdN,↓gTT,↓gFF,↓gTF,↓gFT]
def wx:Cons:=⟨⟨1,[⟨0,1⟩,⟨1,-1⟩]⟩,false⟩
def wy:Cons:=⟨⟨1,[⟨0,-1⟩,⟨1,1⟩]⟩,false⟩
theorem wk1:(solveA 2 [wx] 100).1=2:=by decide +kernel
theorem wk1b:decide ((solveA 2 [wx] 100).2.2.getD 0 0<(solveA 2 [wx] 100).2.2.getD 1 0)=true:=by decide +kernel
theorem wk1c:(solveA 2 [wx] 100).2.2.length=2:=by decide +kernel
theorem wk2:(solveA 2 [wx,wy] 100).1=1:=by decide +kernel
theorem wk3:(solveA 2 [wx] 0).1=3:=by decide +kernel
theorem wg:good 2 [wx,wy]:=by
 refine ⟨by simp,fun x hx=>?_⟩
 simp only [List.mem_cons,List.not_mem_nil,or_false] at hx
 rcases hx with rfl|rfl
 ·refine ⟨by decide +kernel,fun w hw=>?_⟩
  simp only [wx,kOf] at hw
  split at hw
  ·omega
  ·split at hw
   ·omega
   ·exact absurd rfl hw
 ·refine ⟨by decide +kernel,fun w hw=>?_⟩
  simp only [wy,kOf] at hw
  split at hw
  ·omega
  ·split at hw
   ·omega
   ·exact absurd rfl hw
theorem wg1:good 2 [wx]:=⟨by simp,fun x hx=>wg.2 x (by simp at hx;simp [hx])⟩
theorem wakesS_ok:VPure FT p11 [] (.bool true):=by
 refine FSem.view (fsem_of_csem (f:=p11) (R:=fun r' _ h'=>vw h' r'=some (.bool true)) rfl rfl ?_)
 have h1:=Solve_ok 2 [wx] 100 (by omega) (by omega) (by simp) wg1
 have h2:=Solve_ok 2 [wx,wy] 100 (by omega) (by omega) (by simp) wg
 have h3:=Solve_ok 2 [wx] 0 (by omega) (by omega) (by simp) wg1
 obtain ⟨m,hm⟩:∃ m,m=(solveA 2 [wx] 100).2.2:=⟨_,rfl⟩
 have hmo:modelL (solveA 2 [wx] 100)=m:=by unfold modelL;rw [if_pos wk1,hm]
 have hb:=wk1b
 have hc:=wk1c
 rw [←hm] at hb hc
 match m,hc with
 | [a,b],_=>
 have hab:decide (a<b)=true:=hb
 have hm2:modelL (solveA 2 [wx,wy] 100)=[]:=by unfold modelL;rw [if_neg (by rw [wk2];decide)]
 have hm3:modelL (solveA 2 [wx] 0)=[]:=by unfold modelL;rw [if_neg (by rw [wk3];decide)]
 rw [solveV,hmo,wk1] at h1
 rw [solveV,hm2,wk2] at h2
 rw [solveV,hm3,wk3] at h3
 generalize (solveA 2 [wx] 100).2.1=f1 at h1
 generalize (solveA 2 [wx,wy] 100).2.1=f2 at h2
 generalize (solveA 2 [wx] 0).2.1=f3 at h3
 simp -implicitDefEqProofs only [wx,wy,encC,encM,vIs,encI,go_sem,reduceCtorEq,rdA,rdM,rdL,rdT,rdE,rdN,↓gTT,↓gFF,↓gTF,↓gFT] at h1 h2 h3
 refine CSem.seqR (fun s'=>s'=?s1) ?a1 ?b1
 case a1=>simp -implicitDefEqProofs only [go_sem,reduceCtorEq,rdA,rdM,rdL,rdT,rdE,rdN,↓gTT,↓gFF,↓gTF,↓gFT];exact rfl
 case b1=>
 rintro _ rfl
 refine CSem.seqR (fun s'=>s'=?s2) ?a2 ?b2
 case a2=>simp -implicitDefEqProofs only [go_sem,reduceCtorEq,rdA,rdM,rdL,rdT,rdE,rdN,↓gTT,↓gFF,↓gTF,↓gFT];exact rfl
 case b2=>
 rintro _ rfl
 refine CSem.seqR (fun s'=>s'=?s3) ?a3 ?b3
 case a3=>simp -implicitDefEqProofs only [go_sem,reduceCtorEq,rdA,rdM,rdL,rdT,rdE,rdN,↓gTT,↓gFF,↓gTF,↓gFT];exact rfl
 case b3=>
 rintro _ rfl
 refine CSem.frzV p1 1 (by simp -implicitDefEqProofs only [go_sem,reduceCtorEq,rdA,rdM,rdL,rdT,rdE,rdN,↓gTT,↓gFF,↓gTF,↓gFT];rfl) (by rfl) (by simp -implicitDefEqProofs only [go_sem,reduceCtorEq,rdA,rdM,rdL,rdT,rdE,rdN,↓gTT,↓gFF,↓gTF,↓gFT];rfl) ?_
 refine CSem.frzV p2 1 (by simp -implicitDefEqProofs only [go_sem,reduceCtorEq,rdA,rdM,rdL,rdT,rdE,rdN,↓gTT,↓gFF,↓gTF,↓gFT];rfl) (by rfl) (by simp -implicitDefEqProofs only [go_sem,reduceCtorEq,rdA,rdM,rdL,rdT,rdE,rdN,↓gTT,↓gFF,↓gTF,↓gFT];rfl) ?_
 refine wC_sound ?_
 simp -implicitDefEqProofs only [go_sem,reduceCtorEq,rdA,rdM,rdL,rdT,rdE,rdN,↓gTT,↓gFF,↓gTF,↓gFT]
 repeat' (first|(with_reducible refine And.intro ?_ ?_)|(with_reducible refine gs_t ?_ ?_)|(with_reducible refine gs_f ?_ ?_)|(intro _)|((with_reducible apply wCall_any);(· (simp -implicitDefEqProofs only [go_sem,reduceCtorEq,rdA,rdM,rdL,rdT,rdE,rdN,↓gTT,↓gFF,↓gTF,↓gFT]<;>rfl));(· (first|exact h1|exact h2|exact h3));(· rfl);(· rfl);(· (first|exact Eq.refl true|exact Eq.refl false));(simp -implicitDefEqProofs only [hab,s0eq,show decide ((2:Int)=2)=true from rfl,show decide ((3:Int)=3)=true from rfl,dE1e,show Int.toNat 0=0 from rfl,show Int.toNat 1=1 from rfl,show decide (((2:Nat):Int)=2)=true from rfl,go_sem,reduceCtorEq,rdA,rdM,rdL,rdT,rdE,rdN,↓gTT,↓gFF,↓gTF,↓gFT]))|fail)
 all_goals first|omega|trivial|(simp;done)
theorem wz0:decide (IntKind.i64.wrap (IntKind.i64.wrap (0+0)+0)=0)=true:=by
 have h:IntKind.i64.wrap (0+0)=0:=i64 (by omega)
 rw [h,h];rfl
set_option maxHeartbeats 4000000 in
theorem ExactS_ok (n:Int) (l:List Cons) (fuel:Int):VPure FT p3 [.int .i64 n,.fz l.length none 3 (encC l),.int .i64 fuel] (.bool true):=by
 refine vpure_of_body (f:=p3) rfl rfl ?_
 simp -implicitDefEqProofs only [go_sem,reduceCtorEq,rdA,rdM,rdL,rdT,rdE,rdN,↓gTT,↓gFF,↓gTF,↓gFT]
 have hM:=mayS_ok n l fuel
 have hH:=heavyS_ok n l fuel
 have hW:=wakesS_ok
 have hB:=sBox_ok n
 cases hh:heavyS n l fuel with
 | true=>
  rw [hh] at hH
  repeat' (first|(with_reducible refine And.intro ?_ ?_)|(with_reducible refine gs_t ?_ ?_)|(with_reducible refine gs_f ?_ ?_)|(intro _)|((with_reducible apply wCall_any);(· (simp -implicitDefEqProofs only [go_sem,reduceCtorEq,rdA,rdM,rdL,rdT,rdE,rdN,↓gTT,↓gFF,↓gTF,↓gFT]<;>rfl));(· (exact hH));(· rfl);(· rfl);(· (first|exact Eq.refl true|exact Eq.refl false));(simp -implicitDefEqProofs only [Bool.not_true,go_sem,reduceCtorEq,rdA,rdM,rdL,rdT,rdE,rdN,↓gTT,↓gFF,↓gTF,↓gFT]))|fail)
 | false=>
 rw [hh] at hH
 have hs:smallC l:=smallC_of_light (by
  unfold heavyS at hh
  cases hb:heavyB l with
  | false=>rfl
  | true=>rw [hb] at hh;simp at hh)
 have hT:=TwinC_ok l hs
 have hK:=keepC_ok l hs
 cases hm:mayS n l fuel with
 | false=>
  rw [hm] at hM
  have hS:=Solve_bad n l fuel hs hm
  by_cases hn:n<0∨40<n
  ·rw [if_pos hn] at hB
   have dn:decide (n<0)=true∨decide (n<0)=false∧decide (40<n)=true:=by
    rcases hn with h|h
    ·exact .inl (by simpa using h)
    ·by_cases h2:n<0
     ·exact .inl (by simpa using h2)
     ·exact .inr ⟨by simpa using h2,by simpa using h⟩
   rcases dn with d1|⟨d1,d2⟩
   ·repeat' (first|(with_reducible refine And.intro ?_ ?_)|(with_reducible refine gs_t ?_ ?_)|(with_reducible refine gs_f ?_ ?_)|(intro _)|((with_reducible apply wCall_any);(· (simp -implicitDefEqProofs only [go_sem,reduceCtorEq,rdA,rdM,rdL,rdT,rdE,rdN,↓gTT,↓gFF,↓gTF,↓gFT]<;>rfl));(· (first|exact hH|exact hT|exact hS|exact hB|exact hM|exact hK|exact hW));(· rfl);(· rfl);(· (first|exact Eq.refl true|exact Eq.refl false));(simp -implicitDefEqProofs only [Bool.not_true,Bool.not_false,d1,s0eq,show decide ((1:Int)=1)=true from rfl,wz0,go_sem,reduceCtorEq,rdA,rdM,rdL,rdT,rdE,rdN,↓gTT,↓gFF,↓gTF,↓gFT]))|fail)
   ·repeat' (first|(with_reducible refine And.intro ?_ ?_)|(with_reducible refine gs_t ?_ ?_)|(with_reducible refine gs_f ?_ ?_)|(intro _)|((with_reducible apply wCall_any);(· (simp -implicitDefEqProofs only [go_sem,reduceCtorEq,rdA,rdM,rdL,rdT,rdE,rdN,↓gTT,↓gFF,↓gTF,↓gFT]<;>rfl));(· (first|exact hH|exact hT|exact hS|exact hB|exact hM|exact hK|exact hW));(· rfl);(· rfl);(· (first|exact Eq.refl true|exact Eq.refl false));(simp -implicitDefEqProofs only [Bool.not_true,Bool.not_false,d1,d2,s0eq,show decide ((1:Int)=1)=true from rfl,wz0,go_sem,reduceCtorEq,rdA,rdM,rdL,rdT,rdE,rdN,↓gTT,↓gFF,↓gTF,↓gFT]))|fail)
  ·rw [if_neg hn] at hB
   have d1:decide (n<0)=false:=by simp;omega
   have d2:decide (40<n)=false:=by simp;omega
   obtain ⟨m,rfl⟩:∃ m:Nat,n=m:=⟨n.toNat,by omega⟩
   rw [Int.toNat_natCast] at hB
   have hR:=rBox_ok m (by omega)
   have hK2:=keepC_ok (boxL m) (box_good m (by omega) m (Nat.le_refl m)).small
   unfold vCs at hB hR
   repeat' (first|(with_reducible refine And.intro ?_ ?_)|(with_reducible refine gs_t ?_ ?_)|(with_reducible refine gs_f ?_ ?_)|(intro _)|((with_reducible apply wCall_any);(· (simp -implicitDefEqProofs only [go_sem,reduceCtorEq,rdA,rdM,rdL,rdT,rdE,rdN,↓gTT,↓gFF,↓gTF,↓gFT]<;>rfl));(· (first|exact hH|exact hT|exact hS|exact hB|exact hR|exact hK2|exact hM|exact hK|exact hW));(· rfl);(· rfl);(· (first|exact Eq.refl true|exact Eq.refl false));(simp -implicitDefEqProofs only [Bool.not_true,Bool.not_false,d1,d2,s0eq,show decide ((1:Int)=1)=true from rfl,wz0,go_sem,reduceCtorEq,rdA,rdM,rdL,rdT,rdE,rdN,↓gTT,↓gFF,↓gTF,↓gFT]))|fail)
 | true=>
 rw [hm] at hM
 obtain ⟨m,f,rfl,rfl,hm40,hf,hl240,hg⟩:=mayS_spec hm
 rw [if_neg (by omega),Int.toNat_natCast] at hB
 have d1:decide ((m:Int)<0)=false:=by simp
 have d2:decide (40<(m:Int))=false:=by simp;omega
 have hR:=rBox_ok m (by omega)
 have hK2:=keepC_ok (boxL m) (box_good m hm40 m (Nat.le_refl m)).small
 unfold vCs at hB hR
 have hS:=Solve_ok m l f hm40 hf hl240 hg
 have hRS:=rSolve_ok m l f hm40 hf hl240 hg
 unfold solveV at hS
 unfold rSolveV at hRS
 have hml:(modelL (solveA m l f)).length≤1000000:=by
  unfold modelL
  split
  ·have hz:(List.replicate m (0:Int)).length=m:=by simp
   have:=(ansD_len (n:=m) (f+1) f (List.replicate m 0) (l++boxL m) hz (good_app hg (box_good m hm40 m (Nat.le_refl m)) (by rw [boxL_len];omega))).1
   show ((solveA m l f).2.2).length≤1000000
   unfold solveA;omega
  ·simp
 have hI:=Ints_ok (modelL (solveA m l f)) (modelL (solveA m l f)) (by omega) (by omega)
 rw [decide_eq_true rfl] at hI
 generalize modelL (solveA m l f)=M at hS hRS hI hml
 generalize solveA m l f=A at hS hRS
 obtain ⟨a,b,c⟩:=A
 simp only [vIs] at hS hRS
 have q1:decide (a=a)=true:=by simp
 have q2:decide ((b:Int)=(b:Int))=true:=by simp
 repeat' (first|(with_reducible refine And.intro ?_ ?_)|(with_reducible refine gs_t ?_ ?_)|(with_reducible refine gs_f ?_ ?_)|(intro _)|((with_reducible apply wCall_any);(· (simp -implicitDefEqProofs only [go_sem,reduceCtorEq,rdA,rdM,rdL,rdT,rdE,rdN,↓gTT,↓gFF,↓gTF,↓gFT]<;>rfl));(· (first|exact hH|exact hT|exact hS|exact hB|exact hR|exact hK2|exact hM|exact hRS|exact hI|exact hK|exact hW));(· rfl);(· rfl);(· (first|exact Eq.refl true|exact Eq.refl false));(simp -implicitDefEqProofs only [Bool.not_true,Bool.not_false,d1,d2,q1,q2,s0eq,go_sem,reduceCtorEq,rdA,rdM,rdL,rdT,rdE,rdN,↓gTT,↓gFF,↓gTF,↓gFT]))|fail)
end Go.Proofs.YthdlkpmhjbaplaaGreat.Dx
