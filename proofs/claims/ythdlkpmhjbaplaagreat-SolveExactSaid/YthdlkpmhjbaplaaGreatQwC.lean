/- A part of the proof of ExactS: a small machine, what its functions come to, plain laws. No statement of this seat is proved here. -/
import Derived.Test.YthdlkpmhjbaplaaGreatQwB
set_option autoImplicit false
set_option linter.unusedSimpArgs false
set_option linter.unusedVariables false
set_option maxRecDepth 10000
noncomputable section
namespace Go.Proofs.YthdlkpmhjbaplaaGreat.Dx
open Go
open Nat renaming reduceAdd → rdA, reduceMul → rdM, reduceLeDiff → rdL, reduceLT → rdT, reduceEqDiff → rdE
open Int renaming reduceNegSucc → rdN
attribute [local irreducible] wCall wLoop
attribute [local go_sem] decide_true decide_false Bool.and_true Bool.true_and Bool.and_self Bool.false_and Bool.and_false vMs vCs vIs Slots At Tr.get_z Tr.get_l Tr.get_r Tr.get_e Tr.set_z_e Tr.set_z_n Tr.set_l_e Tr.set_l_n Tr.set_r_e Tr.set_r_n eOs_n eOs_c eDs_n eDs_c ekOs ekDs ekPut ekBack ekSeq_n ekSeq_x ekSeq_r ekBlk_n ekBlk_x ekBlk_r eO_mk eO_gd eO_loc eO_locb eD_mk eD_loc eD_locb eD_gd eDr eC_skip eC_reg eC_drw eC_seq eC_cond eC_block eC_loop eC_exit eC_ret eRetW_n eRetW_r wk wkL eRet_n eRet_r ekLd_n ekLd_x ekLd_r ekLp_n ekLp_x ekLp_r wI wBin wBd vev vov vovs vplace vouter ofDV ofDVs vcells spl vfills vput vuse vuseP vback vbackP wOf vbare isVarV vkeep hget hset hdels hdel hkeys live vw vwL keysV keysL pureV pureL vsrc veqs vmx vmn vT cT vC cC VOb.cells vres vrsL vrs1 vone List.length_cons List.length_nil List.getElem?_cons_zero List.getElem?_cons_succ List.take_succ_cons List.take_zero List.drop_succ_cons List.drop_zero List.drop_nil List.take_nil List.nil_append List.cons_append List.append_nil Option.some.injEq Nat.zero_add Nat.add_zero if_true if_false ite_true ite_false true_and and_true false_and and_false true_implies implies_true false_implies Bool.true_eq_false Bool.false_eq_true Bool.not_true Bool.not_false eq_self_iff_true Int.toNat_natCast Int.ofNat_eq_natCast Int.ofNat_zero Int.ofNat_one Int.cast_ofNat_Int VV.int.injEq VV.bool.injEq cond_true cond_false
def keepM (m:Mono) (l:List Mono):List Mono:=if m.k=0 then l else m::l
def sumM:List Mono→List Mono→List Mono
 | [],[]=>[]
 | m::x,[]=>keepM m (sumM x [])
 | [],n::y=>keepM n (sumM [] y)
 | m::x,n::y=>if m.v<n.v then keepM m (sumM x (n::y)) else if n.v<m.v then keepM n (sumM (m::x) y) else keepM ⟨m.v,IntKind.i64.wrap (m.k+n.k)⟩ (sumM x y)
termination_by x y=>x.length+y.length
theorem vsub_one (m:Mono) (l:List Mono):vsub (encM (m::l)) 2 1 (l.length+1)=encM l:=by
 unfold vsub
 have:(encM (m::l)).drop (1*2)=encM l:=rfl
 rw [this,List.take_of_length_le]
 rw [encM_len];omega
theorem vsub_two (m:Mono) (l:List Mono):vsub (.int .i64 m.v::.int .i64 m.k::encM l) 2 1 (l.length+1)=encM l:=vsub_one m l
theorem sumY (Y:List Mono):(decide ((0:Int)<((Y.length+1:Nat):Int))=true)∧(decide (((Y.length+1:Nat):Int)=0)=false):=by
 constructor<;>simp<;>omega
theorem s0lt:decide ((0:Int)<0)=false:=rfl
theorem s0eq:decide ((0:Int)=0)=true:=rfl
set_option maxHeartbeats 2000000 in
theorem sum_ok (c:Int) (a:List Mono) (d:Int) (b:List Mono) (ha:a.length≤1000000) (hb:b.length≤1000000):
 VPure FT p114 [.agg [.int .i64 c,.fz a.length none 2 (encM a)],.agg [.int .i64 d,.fz b.length none 2 (encM b)]] (.agg [.int .i64 (IntKind.i64.wrap (c+d)),.fz (sumM a b).length none 2 (encM (sumM a b))]):=by
 refine vpure_of_body' (f:=p114) rfl rfl ?_
 simp -implicitDefEqProofs only [go_sem,reduceCtorEq,rdA,rdM,rdL,rdT,rdE,rdN,↓gTT,↓gFF,↓gTF,↓gFT]
 refine wLoop_ownV p5 1 2 (by simp -implicitDefEqProofs only [go_sem,reduceCtorEq,rdA,rdM,rdL,rdT,rdE,rdN,↓gTT,↓gFF,↓gTF,↓gFT];rfl) (by rfl) ?_
 simp -implicitDefEqProofs only [go_sem,reduceCtorEq,rdA,rdM,rdL,rdT,rdE,rdN,↓gTT,↓gFF,↓gTF,↓gFT]
 refine wLoop_dr (fun n s=>∃ (O X Y:List Mono) (m:Nat),X.length+Y.length=n∧O.length+n≤a.length+b.length∧At s [(p4,.var [.int .i64 0,.nils]),(p5,.var [.int .i64 (IntKind.i64.wrap (c+d)),.ow 0 O.length 2]),(p6,.fz X.length none 2 (encM X)),(p7,.fz Y.length none 2 (encM Y))] (m+1) 0 [(0,.row (encM O))]∧sumM a b=O++sumM X Y) (a.length+b.length) ?_ ?_
 ·exact ⟨[],a,b,0,rfl,by simp,by simp -implicitDefEqProofs only [go_sem,reduceCtorEq,rdA,rdM,rdL,rdT,rdE,rdN,↓gTT,↓gFF,↓gTF,↓gFT];simp [encM],rfl⟩
 ·rintro n ⟨e,nx,w,h⟩ ⟨O,X,Y,mm,hn,hO,⟨⟨s1,s2,s3,s4,-⟩,rfl,rfl,rfl⟩,hk⟩
  cases X with
  | nil=>
   cases Y with
   | nil=>
    simp -implicitDefEqProofs only [s1,s2,s3,s4,s0lt,s0eq,Int.toNat_zero,Int.toNat_one,Nat.zero_mul,Nat.add_sub_cancel,encM,encM_len,go_sem,reduceCtorEq,rdA,rdM,rdL,rdT,rdE,rdN,↓gTT,↓gFF,↓gTF,↓gFT]
    have:sumM [] []=[]:=by simp [sumM]
    rw [this,List.append_nil] at hk
    rw [hk]
   | cons y Y=>
    have hs:sumM [] (y::Y)=keepM y (sumM [] Y):=by simp [sumM]
    rw [hs] at hk
    have fin:∀ Z:List Mono,sumM a b=O++keepM y Z→(y.k=0→sumM a b=O++Z)∧(y.k≠0→sumM a b=(O++[y])++Z):=fun Z h=>⟨fun h0=>by rw [h];simp [keepM,h0],fun h0=>by rw [h];simp [keepM,h0]⟩
    obtain ⟨fin1,fin2⟩:=fin _ hk
    simp only [List.length_cons,List.length_nil] at hn
    by_cases h0:y.k=0
    ·have hd:decide (y.k=0)=true:=by simpa using h0
     simp -implicitDefEqProofs only [s1,s2,s3,s4,hd,s0lt,s0eq,Int.toNat_zero,Int.toNat_one,Nat.zero_mul,Nat.add_sub_cancel,encM,sumY Y,vsub_two,encM_len,go_sem,reduceCtorEq,rdA,rdM,rdL,rdT,rdE,rdN,↓gTT,↓gFF,↓gTF,↓gFT]
     repeat' (first|(with_reducible refine And.intro ?_ ?_)|(with_reducible refine gs_t ?_ ?_)|(with_reducible refine gs_f ?_ ?_)|(intro _)|fail)
     all_goals first|omega|skip
     exact ⟨n-1,by omega,_,subH_refl _,O,[],Y,mm,by simp;omega,by omega,⟨⟨rfl,rfl,rfl⟩,rfl,rfl⟩,fin1 h0⟩
    ·have hd:decide (y.k=0)=false:=by simpa using h0
     simp -implicitDefEqProofs only [s1,s2,s3,s4,hd,s0lt,s0eq,Int.toNat_zero,Int.toNat_one,Nat.zero_mul,Nat.add_sub_cancel,encM,sumY Y,vsub_two,encM_len,go_sem,reduceCtorEq,rdA,rdM,rdL,rdT,rdE,rdN,↓gTT,↓gFF,↓gTF,↓gFT]
     repeat' (first|(with_reducible refine And.intro ?_ ?_)|(with_reducible refine gs_t ?_ ?_)|(with_reducible refine gs_f ?_ ?_)|(intro _)|fail)
     all_goals first|omega|skip
     exact ⟨n-1,by omega,_,subH_tail (by simp [hget]),O++[y],[],Y,mm+1,by simp;omega,by simp;omega,⟨⟨by simp,rfl,rfl⟩,rfl,by simp [encM_app,encM]⟩,fin2 h0⟩
  | cons x X=>
   cases Y with
   | nil=>
    have hs:sumM (x::X) []=keepM x (sumM X []):=by simp [sumM]
    rw [hs] at hk
    simp only [List.length_cons,List.length_nil] at hn
    by_cases h0:x.k=0
    ·have hd:decide (x.k=0)=true:=by simpa using h0
     simp -implicitDefEqProofs only [s1,s2,s3,s4,hd,s0lt,s0eq,Int.toNat_zero,Int.toNat_one,Nat.zero_mul,Nat.add_sub_cancel,encM,sumY X,vsub_two,encM_len,go_sem,reduceCtorEq,rdA,rdM,rdL,rdT,rdE,rdN,↓gTT,↓gFF,↓gTF,↓gFT]
     repeat' (first|(with_reducible refine And.intro ?_ ?_)|(with_reducible refine gs_t ?_ ?_)|(with_reducible refine gs_f ?_ ?_)|(intro _)|fail)
     all_goals first|omega|skip
     exact ⟨n-1,by omega,_,subH_refl _,O,X,[],mm,by simp;omega,by omega,⟨⟨rfl,rfl,rfl⟩,rfl,rfl⟩,by rw [hk];simp [keepM,h0]⟩
    ·have hd:decide (x.k=0)=false:=by simpa using h0
     simp -implicitDefEqProofs only [s1,s2,s3,s4,hd,s0lt,s0eq,Int.toNat_zero,Int.toNat_one,Nat.zero_mul,Nat.add_sub_cancel,encM,sumY X,vsub_two,encM_len,go_sem,reduceCtorEq,rdA,rdM,rdL,rdT,rdE,rdN,↓gTT,↓gFF,↓gTF,↓gFT]
     repeat' (first|(with_reducible refine And.intro ?_ ?_)|(with_reducible refine gs_t ?_ ?_)|(with_reducible refine gs_f ?_ ?_)|(intro _)|fail)
     all_goals first|omega|skip
     exact ⟨n-1,by omega,_,subH_tail (by simp [hget]),O++[x],X,[],mm+1,by simp;omega,by simp;omega,⟨⟨by simp,rfl,rfl⟩,rfl,by simp [encM_app,encM]⟩,by rw [hk];simp [keepM,h0]⟩
   | cons y Y=>
    simp only [List.length_cons,List.length_nil] at hn
    by_cases hlt:x.v<y.v
    ·have hs:sumM (x::X) (y::Y)=keepM x (sumM X (y::Y)):=by rw [sumM,if_pos hlt]
     rw [hs] at hk
     have hd1:decide (x.v<y.v)=true:=by simpa using hlt
     by_cases h0:x.k=0
     ·have hd:decide (x.k=0)=true:=by simpa using h0
      simp -implicitDefEqProofs only [s1,s2,s3,s4,hd,hd1,s0lt,s0eq,Int.toNat_zero,Int.toNat_one,Nat.zero_mul,Nat.add_sub_cancel,encM,sumY X,sumY Y,vsub_two,encM_len,go_sem,reduceCtorEq,rdA,rdM,rdL,rdT,rdE,rdN,↓gTT,↓gFF,↓gTF,↓gFT]
      repeat' (first|(with_reducible refine And.intro ?_ ?_)|(with_reducible refine gs_t ?_ ?_)|(with_reducible refine gs_f ?_ ?_)|(intro _)|fail)
      all_goals first|omega|skip
      exact ⟨n-1,by omega,_,subH_refl _,O,X,y::Y,mm,by simp;omega,by omega,⟨⟨rfl,rfl,rfl⟩,rfl,rfl⟩,by rw [hk];simp [keepM,h0]⟩
     ·have hd:decide (x.k=0)=false:=by simpa using h0
      simp -implicitDefEqProofs only [s1,s2,s3,s4,hd,hd1,s0lt,s0eq,Int.toNat_zero,Int.toNat_one,Nat.zero_mul,Nat.add_sub_cancel,encM,sumY X,sumY Y,vsub_two,encM_len,go_sem,reduceCtorEq,rdA,rdM,rdL,rdT,rdE,rdN,↓gTT,↓gFF,↓gTF,↓gFT]
      repeat' (first|(with_reducible refine And.intro ?_ ?_)|(with_reducible refine gs_t ?_ ?_)|(with_reducible refine gs_f ?_ ?_)|(intro _)|fail)
      all_goals first|omega|skip
      exact ⟨n-1,by omega,_,subH_tail (by simp [hget]),O++[x],X,y::Y,mm+1,by simp;omega,by simp;omega,⟨⟨by simp,rfl,rfl⟩,rfl,by simp [encM_app,encM]⟩,by rw [hk];simp [keepM,h0]⟩
    ·have hd1:decide (x.v<y.v)=false:=by simpa using hlt
     by_cases hgt:y.v<x.v
     ·have hs:sumM (x::X) (y::Y)=keepM y (sumM (x::X) Y):=by rw [sumM,if_neg hlt,if_pos hgt]
      rw [hs] at hk
      have hd2:decide (y.v<x.v)=true:=by simpa using hgt
      by_cases h0:y.k=0
      ·have hd:decide (y.k=0)=true:=by simpa using h0
       simp -implicitDefEqProofs only [s1,s2,s3,s4,hd,hd1,hd2,s0lt,s0eq,Int.toNat_zero,Int.toNat_one,Nat.zero_mul,Nat.add_sub_cancel,encM,sumY X,sumY Y,vsub_two,encM_len,go_sem,reduceCtorEq,rdA,rdM,rdL,rdT,rdE,rdN,↓gTT,↓gFF,↓gTF,↓gFT]
       repeat' (first|(with_reducible refine And.intro ?_ ?_)|(with_reducible refine gs_t ?_ ?_)|(with_reducible refine gs_f ?_ ?_)|(intro _)|fail)
       all_goals first|omega|skip
       exact ⟨n-1,by omega,_,subH_refl _,O,x::X,Y,mm,by simp;omega,by omega,⟨⟨rfl,rfl,rfl⟩,rfl,rfl⟩,by rw [hk];simp [keepM,h0]⟩
      ·have hd:decide (y.k=0)=false:=by simpa using h0
       simp -implicitDefEqProofs only [s1,s2,s3,s4,hd,hd1,hd2,s0lt,s0eq,Int.toNat_zero,Int.toNat_one,Nat.zero_mul,Nat.add_sub_cancel,encM,sumY X,sumY Y,vsub_two,encM_len,go_sem,reduceCtorEq,rdA,rdM,rdL,rdT,rdE,rdN,↓gTT,↓gFF,↓gTF,↓gFT]
       repeat' (first|(with_reducible refine And.intro ?_ ?_)|(with_reducible refine gs_t ?_ ?_)|(with_reducible refine gs_f ?_ ?_)|(intro _)|fail)
       all_goals first|omega|skip
       exact ⟨n-1,by omega,_,subH_tail (by simp [hget]),O++[y],x::X,Y,mm+1,by simp;omega,by simp;omega,⟨⟨by simp,rfl,rfl⟩,rfl,by simp [encM_app,encM]⟩,by rw [hk];simp [keepM,h0]⟩
     ·have hs:sumM (x::X) (y::Y)=keepM ⟨x.v,IntKind.i64.wrap (x.k+y.k)⟩ (sumM X Y):=by rw [sumM,if_neg hlt,if_neg hgt]
      rw [hs] at hk
      have hd2:decide (y.v<x.v)=false:=by simpa using hgt
      by_cases h0:IntKind.i64.wrap (x.k+y.k)=0
      ·have hd:decide (IntKind.i64.wrap (x.k+y.k)=0)=true:=by simpa using h0
       simp -implicitDefEqProofs only [s1,s2,s3,s4,hd,hd1,hd2,s0lt,s0eq,Int.toNat_zero,Int.toNat_one,Nat.zero_mul,Nat.add_sub_cancel,encM,sumY X,sumY Y,vsub_two,encM_len,go_sem,reduceCtorEq,rdA,rdM,rdL,rdT,rdE,rdN,↓gTT,↓gFF,↓gTF,↓gFT]
       repeat' (first|(with_reducible refine And.intro ?_ ?_)|(with_reducible refine gs_t ?_ ?_)|(with_reducible refine gs_f ?_ ?_)|(intro _)|fail)
       all_goals first|omega|skip
       exact ⟨n-2,by omega,_,subH_refl _,O,X,Y,mm,by omega,by omega,⟨⟨rfl,rfl,rfl⟩,rfl,rfl⟩,by rw [hk];simp [keepM,h0]⟩
      ·have hd:decide (IntKind.i64.wrap (x.k+y.k)=0)=false:=by simpa using h0
       simp -implicitDefEqProofs only [s1,s2,s3,s4,hd,hd1,hd2,s0lt,s0eq,Int.toNat_zero,Int.toNat_one,Nat.zero_mul,Nat.add_sub_cancel,encM,sumY X,sumY Y,vsub_two,encM_len,go_sem,reduceCtorEq,rdA,rdM,rdL,rdT,rdE,rdN,↓gTT,↓gFF,↓gTF,↓gFT]
       repeat' (first|(with_reducible refine And.intro ?_ ?_)|(with_reducible refine gs_t ?_ ?_)|(with_reducible refine gs_f ?_ ?_)|(intro _)|fail)
       all_goals first|omega|skip
       exact ⟨n-2,by omega,_,subH_tail (by simp [hget]),O++[⟨x.v,IntKind.i64.wrap (x.k+y.k)⟩],X,Y,mm+1,by omega,by simp;omega,⟨⟨by simp,rfl,rfl⟩,rfl,by simp [encM_app,encM]⟩,by rw [hk];simp [keepM,h0]⟩
theorem fits_ok (c:Int) (l:List Mono) (hl:l.length≤1000000):VPure FT p113 [.agg [.int .i64 c,.fz l.length none 2 (encM l)]] (vTE (if okT c l=true then (c,l,0) else (0,[],12))):=by
 refine vpure_of_body' (f:=p113) rfl rfl ?_
 cases hok:okT c l with
 | true=>
  simp -implicitDefEqProofs only [vTE,if_true,go_sem,reduceCtorEq,rdA,rdM,rdL,rdT,rdE,rdN,↓gTT,↓gFF,↓gTF,↓gFT]
  repeat' (first|(with_reducible refine And.intro ?_ ?_)|(with_reducible refine gs_t ?_ ?_)|(with_reducible refine gs_f ?_ ?_)|(intro _)|((with_reducible apply wCall_any);(· (simp -implicitDefEqProofs only [go_sem,reduceCtorEq,rdA,rdM,rdL,rdT,rdE,rdN,↓gTT,↓gFF,↓gTF,↓gFT]<;>rfl));(· (exact Check_ok _ _ (by omega)));(· rfl);(· rfl);(· (first|exact Eq.refl true|exact Eq.refl false));(simp -implicitDefEqProofs only [hok,if_true,go_sem,reduceCtorEq,rdA,rdM,rdL,rdT,rdE,rdN,↓gTT,↓gFF,↓gTF,↓gFT]))|fail)
 | false=>
  have h1:decide ((1:Int)=0)=false:=rfl
  simp -implicitDefEqProofs only [vTE,Bool.false_eq_true,if_false,encM,go_sem,reduceCtorEq,rdA,rdM,rdL,rdT,rdE,rdN,↓gTT,↓gFF,↓gTF,↓gFT]
  repeat' (first|(with_reducible refine And.intro ?_ ?_)|(with_reducible refine gs_t ?_ ?_)|(with_reducible refine gs_f ?_ ?_)|(intro _)|((with_reducible apply wCall_any);(· (simp -implicitDefEqProofs only [go_sem,reduceCtorEq,rdA,rdM,rdL,rdT,rdE,rdN,↓gTT,↓gFF,↓gTF,↓gFT]<;>rfl));(· (exact Check_ok _ _ (by omega)));(· rfl);(· rfl);(· (first|exact Eq.refl true|exact Eq.refl false));(simp -implicitDefEqProofs only [hok,Bool.false_eq_true,if_false,encM,h1,go_sem,reduceCtorEq,rdA,rdM,rdL,rdT,rdE,rdN,↓gTT,↓gFF,↓gTF,↓gFT]))|fail)
def addR (c:Int) (a:List Mono) (d:Int) (b:List Mono):Int × List Mono × Int:=
 if okT c a=false∨okT d b=false then (0,[],1) else if okT (IntKind.i64.wrap (c+d)) (sumM a b)=true then (IntKind.i64.wrap (c+d),sumM a b,0) else (0,[],12)
theorem sumM_len:∀ a b:List Mono,(sumM a b).length≤a.length+b.length:=by
 intro a b
 induction a,b using sumM.induct<;>simp_all [sumM,keepM]
 all_goals (repeat' split)<;>first|omega|(simp only [List.length_cons] at *;omega)|(simp_all;done)|(simp_all;omega)
theorem Add_ok (c:Int) (a:List Mono) (d:Int) (b:List Mono) (ha:a.length≤500000) (hb:b.length≤500000):
 VPure FT p97 [.agg [.int .i64 c,.fz a.length none 2 (encM a)],.agg [.int .i64 d,.fz b.length none 2 (encM b)]] (vTE (addR c a d b)):=by
 refine vpure_of_body' (f:=p97) rfl rfl ?_
 have h1:decide ((1:Int)=0)=false:=rfl
 have hlen:=sumM_len a b
 cases hok:okT c a with
 | false=>
  have e:addR c a d b=(0,[],1):=by unfold addR;rw [if_pos (.inl hok)]
  simp -implicitDefEqProofs only [e,vTE,encM,go_sem,reduceCtorEq,rdA,rdM,rdL,rdT,rdE,rdN,↓gTT,↓gFF,↓gTF,↓gFT]
  repeat' (first|(with_reducible refine And.intro ?_ ?_)|(with_reducible refine gs_t ?_ ?_)|(with_reducible refine gs_f ?_ ?_)|(intro _)|((with_reducible apply wCall_any);(· (simp -implicitDefEqProofs only [go_sem,reduceCtorEq,rdA,rdM,rdL,rdT,rdE,rdN,↓gTT,↓gFF,↓gTF,↓gFT]<;>rfl));(· (exact Check_ok _ _ (by omega)));(· rfl);(· rfl);(· (first|exact Eq.refl true|exact Eq.refl false));(simp -implicitDefEqProofs only [hok,Bool.false_eq_true,if_false,encM,h1,go_sem,reduceCtorEq,rdA,rdM,rdL,rdT,rdE,rdN,↓gTT,↓gFF,↓gTF,↓gFT]))|fail)
 | true=>
  cases hok2:okT d b with
  | false=>
   have e:addR c a d b=(0,[],1):=by unfold addR;rw [if_pos (.inr hok2)]
   simp -implicitDefEqProofs only [e,vTE,encM,go_sem,reduceCtorEq,rdA,rdM,rdL,rdT,rdE,rdN,↓gTT,↓gFF,↓gTF,↓gFT]
   repeat' (first|(with_reducible refine And.intro ?_ ?_)|(with_reducible refine gs_t ?_ ?_)|(with_reducible refine gs_f ?_ ?_)|(intro _)|((with_reducible apply wCall_any);(· (simp -implicitDefEqProofs only [go_sem,reduceCtorEq,rdA,rdM,rdL,rdT,rdE,rdN,↓gTT,↓gFF,↓gTF,↓gFT]<;>rfl));(· (exact Check_ok _ _ (by omega)));(· rfl);(· rfl);(· (first|exact Eq.refl true|exact Eq.refl false));(simp -implicitDefEqProofs only [hok,hok2,Bool.false_eq_true,if_false,if_true,encM,h1,go_sem,reduceCtorEq,rdA,rdM,rdL,rdT,rdE,rdN,↓gTT,↓gFF,↓gTF,↓gFT]))|fail)
  | true=>
   have e:addR c a d b=if okT (IntKind.i64.wrap (c+d)) (sumM a b)=true then (IntKind.i64.wrap (c+d),sumM a b,0) else (0,[],12):=by unfold addR;rw [if_neg (by rw [hok,hok2];simp)]
   rw [e]
   simp -implicitDefEqProofs only [vTE,go_sem,reduceCtorEq,rdA,rdM,rdL,rdT,rdE,rdN,↓gTT,↓gFF,↓gTF,↓gFT]
   repeat' (first|(with_reducible refine And.intro ?_ ?_)|(with_reducible refine gs_t ?_ ?_)|(with_reducible refine gs_f ?_ ?_)|(intro _)|((with_reducible apply wCall_any);(· (simp -implicitDefEqProofs only [go_sem,reduceCtorEq,rdA,rdM,rdL,rdT,rdE,rdN,↓gTT,↓gFF,↓gTF,↓gFT]<;>rfl));(· (first|exact Check_ok _ _ (by omega)|exact sum_ok c a d b (by omega) (by omega)|exact fits_ok _ (sumM a b) (by omega)));(· rfl);(· rfl);(· (first|exact Eq.refl true|exact Eq.refl false));(simp -implicitDefEqProofs only [vTE,hok,hok2,if_true,go_sem,reduceCtorEq,rdA,rdM,rdL,rdT,rdE,rdN,↓gTT,↓gFF,↓gTF,↓gFT]))|fail)
def pairR (low high:Cons) (v:Int):Int × List Mono × Int:=
 if (scaleR high.t.c high.t.l (-(kOf low.t.l v))).2.2≠0∨(scaleR low.t.c low.t.l (kOf high.t.l v)).2.2≠0 then (0,[],12)
 else addR (scaleR high.t.c high.t.l (-(kOf low.t.l v))).1 (scaleR high.t.c high.t.l (-(kOf low.t.l v))).2.1 (scaleR low.t.c low.t.l (kOf high.t.l v)).1 (scaleR low.t.c low.t.l (kOf high.t.l v)).2.1
theorem scaleR_len (c:Int) (l:List Mono) (k:Int):(scaleR c l k).2.1.length≤l.length:=by
 unfold scaleR
 split
 ·simp
 ·split
  ·exact scaleL_len k l
  ·simp
def vCE (r:Int × List Mono × Int):VV:=.tup [.agg [.int .i64 r.1,.fz r.2.1.length none 2 (encM r.2.1),.bool false],.int .i64 r.2.2]
set_option maxHeartbeats 1000000 in
theorem pair_ok (low high:Cons) (v:Int) (h1:okC low=true) (h2:okC high=true):VPure FT p66 [.agg (cC low),.agg (cC high),.int .i64 v] (vCE (pairR low high v)):=by
 refine vpure_of_body' (f:=p66) rfl rfl ?_
 obtain ⟨_,l40,lok⟩:=okC_parts h1
 obtain ⟨_,h40,hok⟩:=okC_parts h2
 have kb:=kOf_bound v lok
 have w1:IntKind.i64.wrap (-(kOf low.t.l v))=-(kOf low.t.l v):=i64 (by omega)
 obtain ⟨A,hA⟩:∃ A,A=scaleR high.t.c high.t.l (-(kOf low.t.l v)):=⟨_,rfl⟩
 obtain ⟨B,hB⟩:∃ B,B=scaleR low.t.c low.t.l (kOf high.t.l v):=⟨_,rfl⟩
 have lA:A.2.1.length≤40:=by rw [hA];exact Nat.le_trans (scaleR_len _ _ _) h40
 have lB:B.2.1.length≤40:=by rw [hB];exact Nat.le_trans (scaleR_len _ _ _) l40
 have SA:=Scale_ok high.t.c high.t.l (-(kOf low.t.l v)) (by omega)
 have SB:=Scale_ok low.t.c low.t.l (kOf high.t.l v) (by omega)
 have hP:pairR low high v=if A.2.2≠0∨B.2.2≠0 then (0,[],12) else addR A.1 A.2.1 B.1 B.2.1:=by unfold pairR;rw [hA,hB]
 rw [←hA] at SA
 rw [←hB] at SB
 by_cases ea:A.2.2=0
 ·have da:decide (A.2.2=0)=true:=by simpa using ea
  by_cases eb:B.2.2=0
  ·have db:decide (B.2.2=0)=true:=by simpa using eb
   have hP':pairR low high v=addR A.1 A.2.1 B.1 B.2.1:=by rw [hP,if_neg (by omega)]
   rw [hP']
   simp -implicitDefEqProofs only [vCE,go_sem,reduceCtorEq,rdA,rdM,rdL,rdT,rdE,rdN,↓gTT,↓gFF,↓gTF,↓gFT]
   repeat' (first|(with_reducible refine And.intro ?_ ?_)|(with_reducible refine gs_t ?_ ?_)|(with_reducible refine gs_f ?_ ?_)|(intro _)|((with_reducible apply wCall_any);(· (simp -implicitDefEqProofs only [go_sem,reduceCtorEq,rdA,rdM,rdL,rdT,rdE,rdN,↓gTT,↓gFF,↓gTF,↓gFT]<;>rfl));(· (first|exact K_ok _ _ _ (by omega)|exact SA|exact SB|exact Add_ok A.1 A.2.1 B.1 B.2.1 (by omega) (by omega)));(· rfl);(· rfl);(· (first|exact Eq.refl true|exact Eq.refl false));(simp -implicitDefEqProofs only [vTE,w1,da,db,go_sem,reduceCtorEq,rdA,rdM,rdL,rdT,rdE,rdN,↓gTT,↓gFF,↓gTF,↓gFT]))|fail)
  ·have db:decide (B.2.2=0)=false:=by simpa using eb
   have hP':pairR low high v=(0,[],12):=by rw [hP,if_pos (.inr eb)]
   rw [hP']
   simp -implicitDefEqProofs only [vCE,encM,go_sem,reduceCtorEq,rdA,rdM,rdL,rdT,rdE,rdN,↓gTT,↓gFF,↓gTF,↓gFT]
   repeat' (first|(with_reducible refine And.intro ?_ ?_)|(with_reducible refine gs_t ?_ ?_)|(with_reducible refine gs_f ?_ ?_)|(intro _)|((with_reducible apply wCall_any);(· (simp -implicitDefEqProofs only [go_sem,reduceCtorEq,rdA,rdM,rdL,rdT,rdE,rdN,↓gTT,↓gFF,↓gTF,↓gFT]<;>rfl));(· (first|exact K_ok _ _ _ (by omega)|exact SA|exact SB));(· rfl);(· rfl);(· (first|exact Eq.refl true|exact Eq.refl false));(simp -implicitDefEqProofs only [vTE,w1,da,db,encM,go_sem,reduceCtorEq,rdA,rdM,rdL,rdT,rdE,rdN,↓gTT,↓gFF,↓gTF,↓gFT]))|fail)
 ·have da:decide (A.2.2=0)=false:=by simpa using ea
  have hP':pairR low high v=(0,[],12):=by rw [hP,if_pos (.inl ea)]
  rw [hP']
  simp -implicitDefEqProofs only [vCE,encM,go_sem,reduceCtorEq,rdA,rdM,rdL,rdT,rdE,rdN,↓gTT,↓gFF,↓gTF,↓gFT]
  repeat' (first|(with_reducible refine And.intro ?_ ?_)|(with_reducible refine gs_t ?_ ?_)|(with_reducible refine gs_f ?_ ?_)|(intro _)|((with_reducible apply wCall_any);(· (simp -implicitDefEqProofs only [go_sem,reduceCtorEq,rdA,rdM,rdL,rdT,rdE,rdN,↓gTT,↓gFF,↓gTF,↓gFT]<;>rfl));(· (first|exact K_ok _ _ _ (by omega)|exact SA|exact SB));(· rfl);(· rfl);(· (first|exact Eq.refl true|exact Eq.refl false));(simp -implicitDefEqProofs only [vTE,w1,da,encM,go_sem,reduceCtorEq,rdA,rdM,rdL,rdT,rdE,rdN,↓gTT,↓gFF,↓gTF,↓gFT]))|fail)
def mkC (r:Int × List Mono × Int):Cons:=⟨⟨r.1,r.2.1⟩,false⟩
def firstErr:List Int→Int
 | []=>0
 | e::l=>if e≠0 then e else firstErr l
theorem firstErr_app:∀ a b:List Int,firstErr (a++b)=if firstErr a≠0 then firstErr a else firstErr b
 | [],b=>by simp [firstErr]
 | e::a,b=>by
  simp only [List.cons_append,firstErr,firstErr_app a b]
  by_cases h:e=0<;>simp [h]
def errRow (highs:List Cons) (v:Int) (low:Cons):List Int:=highs.map fun h=>(pairR low h v).2.2
def conRow (highs:List Cons) (v:Int) (low:Cons):List Cons:=highs.map fun h=>mkC (pairR low h v)
def dropErr (l:List Cons) (v:Int):Int:=firstErr ((lowsOf l v).flatMap (errRow (highsOf l v) v))
def dropList (l:List Cons) (v:Int):List Cons:=othersOf l v++(lowsOf l v).flatMap (conRow (highsOf l v) v)
def dropV (l:List Cons) (v:Int):VV:=
 if mayE l v≠0 then .tup [vCs [],.int .i64 (mayE l v)] else if dropErr l v≠0 then .tup [vCs [],.int .i64 (dropErr l v)] else .tup [vCs (dropList l v),.int .i64 0]
theorem flat_len {α β:Type} (f:α→List β) (n:Nat) (h:∀ a,(f a).length≤n):∀ l:List α,(l.flatMap f).length≤l.length*n
 | []=>by simp
 | a::l=>by
  rw [List.flatMap_cons,List.length_append,List.length_cons,Nat.succ_mul]
  have:=flat_len f n h l;have:=h a;omega
set_option maxHeartbeats 1000000 in
theorem Drop_ok (l:List Cons) (v:Int) (hl:smallC l):VPure FT p35 [.fz l.length none 3 (encC l),.int .i64 v] (dropV l v):=by
 refine vpure_of_body' (f:=p35) rfl rfl ?_
 by_cases h0:mayE l v=0
 case neg=>
  have d0:decide (mayE l v=0)=false:=by simpa using h0
  have e:dropV l v=.tup [vCs [],.int .i64 (mayE l v)]:=by unfold dropV;rw [if_pos h0]
  simp -implicitDefEqProofs only [e,vCs,encC,go_sem,reduceCtorEq,rdA,rdM,rdL,rdT,rdE,rdN,↓gTT,↓gFF,↓gTF,↓gFT]
  repeat' (first|(with_reducible refine And.intro ?_ ?_)|(with_reducible refine gs_t ?_ ?_)|(with_reducible refine gs_f ?_ ?_)|(intro _)|((with_reducible apply wCall_any);(· (simp -implicitDefEqProofs only [go_sem,reduceCtorEq,rdA,rdM,rdL,rdT,rdE,rdN,↓gTT,↓gFF,↓gTF,↓gFT]<;>rfl));(· (exact may_ok l v hl));(· rfl);(· rfl);(· (first|exact Eq.refl true|exact Eq.refl false));(simp -implicitDefEqProofs only [d0,encC,go_sem,reduceCtorEq,rdA,rdM,rdL,rdT,rdE,rdN,↓gTT,↓gFF,↓gTF,↓gFT]))|fail)
 case pos=>
  have d0:decide ((0:Int)=0)=true:=rfl
  have hall:l.all okC=true:=by
   have:=h0
   unfold mayE at this
   by_cases hr:rightB l v=false
   ·rw [if_pos hr] at this;omega
   ·have:rightB l v=true:=by simpa using hr
    simp only [rightB,Bool.and_eq_true] at this;exact this.2
  have okm:∀ x∈l,okC x=true:=fun x hx=>List.all_eq_true.1 hall x hx
  obtain ⟨L,hL⟩:∃ L,L=lowsOf l v:=⟨_,rfl⟩
  obtain ⟨H,hH⟩:∃ H,H=highsOf l v:=⟨_,rfl⟩
  obtain ⟨T,hT⟩:∃ T,T=othersOf l v:=⟨_,rfl⟩
  have sL:=hl.lows v;have sH:=hl.highs v;have sT:=hl.others v
  have oL:∀ x∈L,okC x=true:=fun x hx=>okm x (by rw [hL] at hx;exact (List.mem_filter.1 hx).1)
  have oH:∀ x∈H,okC x=true:=fun x hx=>okm x (by rw [hH] at hx;exact (List.mem_filter.1 hx).1)
  have P:=parts_ok l v hl
  have hE:dropErr l v=firstErr (L.flatMap (errRow H v)):=by unfold dropErr;rw [hL,hH]
  have hD:dropList l v=T++L.flatMap (conRow H v):=by unfold dropList;rw [hL,hH,hT]
  rw [←hL] at P sL;rw [←hH] at P sH;rw [←hT] at P sT
  have bL:=sL.len;have bH:=sH.len;have bT:=sT.len
  simp -implicitDefEqProofs only [go_sem,reduceCtorEq,rdA,rdM,rdL,rdT,rdE,rdN,↓gTT,↓gFF,↓gTF,↓gFT]
  repeat' (first|(with_reducible refine And.intro ?_ ?_)|(with_reducible refine gs_t ?_ ?_)|(with_reducible refine gs_f ?_ ?_)|(intro _)|((with_reducible apply wCall_any);(· (simp -implicitDefEqProofs only [go_sem,reduceCtorEq,rdA,rdM,rdL,rdT,rdE,rdN,↓gTT,↓gFF,↓gTF,↓gFT]<;>rfl));(· (first|exact may_ok l v hl|exact P));(· rfl);(· rfl);(· (first|exact Eq.refl true|exact Eq.refl false));(simp -implicitDefEqProofs only [h0,d0,vCs,go_sem,reduceCtorEq,rdA,rdM,rdL,rdT,rdE,rdN,↓gTT,↓gFF,↓gTF,↓gFT]))|fail)
  refine wLoop_own p10 3 (by simp -implicitDefEqProofs only [go_sem,reduceCtorEq,rdA,rdM,rdL,rdT,rdE,rdN,↓gTT,↓gFF,↓gTF,↓gFT]) ?_
  simp -implicitDefEqProofs only [go_sem,reduceCtorEq,rdA,rdM,rdL,rdT,rdE,rdN,↓gTT,↓gFF,↓gTF,↓gFT]
  refine wLoop_dr (fun n s=>∃ i m:Nat,i+n=T.length∧At s [(p1,.int .i64 v),(p7,.fz L.length none 3 (encC L)),(p8,.fz H.length none 3 (encC H)),(p10,.ow 0 (T.take i).length 3),(p32,.fz T.length none 3 (encC T)),(p33,.int .i64 T.length),(p34,.int .i64 i)] (m+1) 0 [(0,.row (encC (T.take i)))]) T.length ?_ ?_
  ·exact ⟨0,0,by simp,by simp -implicitDefEqProofs only [go_sem,reduceCtorEq,rdA,rdM,rdL,rdT,rdE,rdN,↓gTT,↓gFF,↓gTF,↓gFT];simp [encC]⟩
  ·rintro n ⟨e,nx,w,h⟩ ⟨i,m,hi,⟨s1,s2,s3,s4,s5,s6,s7,-⟩,rfl,rfl,rfl⟩
   rcases Nat.lt_or_ge i T.length with hlt|hge
   ·obtain ⟨x,hx⟩:=has hlt
    have hxl:=sT.all x (List.mem_of_getElem? hx)
    have hb2:(T.take i).length≤i:=List.length_take_le _ _
    have ht:=take_snoc hx
    simp -implicitDefEqProofs only [s1,s2,s3,s4,s5,s6,s7,ltT hlt,encC_cut hx,encC_len,inc64 hlt (by omega:T.length≤4611686018427387904),go_sem,reduceCtorEq,rdA,rdM,rdL,rdT,rdE,rdN,↓gTT,↓gFF,↓gTF,↓gFT]
    repeat' (first|(with_reducible refine And.intro ?_ ?_)|(with_reducible refine gs_t ?_ ?_)|(with_reducible refine gs_f ?_ ?_)|(intro _)|((with_reducible apply wCall_any);(· (simp -implicitDefEqProofs only [go_sem,reduceCtorEq,rdA,rdM,rdL,rdT,rdE,rdN,↓gTT,↓gFF,↓gTF,↓gFT]<;>rfl));(· (exact twin_ok x hxl));(· rfl);(· rfl);(· (first|exact Eq.refl true|exact Eq.refl false));(simp -implicitDefEqProofs only [encC_len,inc64 hlt (by omega:T.length≤4611686018427387904),go_sem,reduceCtorEq,rdA,rdM,rdL,rdT,rdE,rdN,↓gTT,↓gFF,↓gTF,↓gFT]))|fail)
    all_goals (clear s1 s2 s3 s4 s5 s6 s7;try omega)
    refine ⟨n-1,by omega,_,subH_tail (by simp [hget]),i+1,m+1,by omega,⟨?_,rfl⟩,rfl,?_⟩<;>rw [ht]<;>simp [encC_app,encC,vMs]
   ·rw [List.take_of_length_le hge] at s4
    simp -implicitDefEqProofs only [s1,s2,s3,s4,s5,s6,s7,ltF hge,List.take_of_length_le hge,go_sem,reduceCtorEq,rdA,rdM,rdL,rdT,rdE,rdN,↓gTT,↓gFF,↓gTF,↓gFT]
    clear s1 s2 s3 s4 s5 s6 s7
    refine wLoop_dr (fun n s=>∃ i m:Nat,i+n=L.length∧At s [(p1,.int .i64 v),(p8,.fz H.length none 3 (encC H)),(p10,.ow 0 (T++(L.take i).flatMap (conRow H v)).length 3),(p44,.fz L.length none 3 (encC L)),(p45,.int .i64 L.length),(p46,.int .i64 i)] (m+1) 0 [(0,.row (encC (T++(L.take i).flatMap (conRow H v))))]∧firstErr ((L.take i).flatMap (errRow H v))=0) L.length ?_ ?_
    ·exact ⟨0,m,by simp,by simp -implicitDefEqProofs only [go_sem,reduceCtorEq,rdA,rdM,rdL,rdT,rdE,rdN,↓gTT,↓gFF,↓gTF,↓gFT];simp,rfl⟩
    ·rintro n ⟨e,nx,w,h⟩ ⟨i,m,hi,⟨⟨s1,s2,s3,s4,s5,s6,-⟩,rfl,rfl,rfl⟩,hk⟩
     rcases Nat.lt_or_ge i L.length with hlt|hge
     ·obtain ⟨x,hx⟩:=has hlt
      have hxm:=List.mem_of_getElem? hx
      have ht:=take_snoc hx
      simp -implicitDefEqProofs only [s1,s2,s3,s4,s5,s6,ltT hlt,encC_cut hx,encC_len,go_sem,reduceCtorEq,rdA,rdM,rdL,rdT,rdE,rdN,↓gTT,↓gFF,↓gTF,↓gFT]
      repeat' (first|(with_reducible refine And.intro ?_ ?_)|(with_reducible refine gs_t ?_ ?_)|(with_reducible refine gs_f ?_ ?_)|(intro _)|fail)
      all_goals (try omega)
      obtain ⟨Q,hQ⟩:∃ Q,Q=T++(L.take i).flatMap (conRow H v):=⟨_,rfl⟩
      have hQl:Q.length≤100000+100000*100000:=by
       rw [hQ,List.length_append]
       have h1:=flat_len (conRow H v) H.length (fun a=>by unfold conRow;simp) (L.take i)
       have h2:(L.take i).length*H.length≤100000*100000:=Nat.mul_le_mul (Nat.le_trans (List.length_take_le _ _) (by omega)) bH
       omega
      rw [←hQ]
      refine wLoop_dr (fun n' s=>∃ j m':Nat,j+n'=H.length∧At s [(p1,.int .i64 v),(p8,.fz H.length none 3 (encC H)),(p10,.ow 0 (Q++(conRow (H.take j) v x)).length 3),(p14,.var (cC x)),(p44,.fz L.length none 3 (encC L)),(p45,.int .i64 L.length),(p46,.int .i64 i),(p50,.fz H.length none 3 (encC H)),(p51,.int .i64 H.length),(p52,.int .i64 j)] (m'+1) 0 [(0,.row (encC (Q++conRow (H.take j) v x)))]∧firstErr (errRow (H.take j) v x)=0) H.length ?_ ?_
      ·exact ⟨0,m,by simp,by simp -implicitDefEqProofs only [go_sem,reduceCtorEq,rdA,rdM,rdL,rdT,rdE,rdN,↓gTT,↓gFF,↓gTF,↓gFT];simp [conRow],rfl⟩
      ·rintro n' ⟨e',nx,w,h⟩ ⟨j,m',hj,⟨⟨a1,a2,a3,a4,a5,a6,a7,a8,a9,a10,-⟩,rfl,rfl,rfl⟩,hkj⟩
       rcases Nat.lt_or_ge j H.length with hjlt|hjge
       ·obtain ⟨y,hy⟩:=has hjlt
        have hym:=List.mem_of_getElem? hy
        have hty:=take_snoc hy
        have hcr:(conRow (H.take j) v x).length≤j:=by unfold conRow;rw [List.length_map];exact List.length_take_le _ _
        have hrow:conRow (H.take (j+1)) v x=conRow (H.take j) v x++[mkC (pairR x y v)]:=by unfold conRow;rw [hty,List.map_append];rfl
        have herr:errRow (H.take (j+1)) v x=errRow (H.take j) v x++[(pairR x y v).2.2]:=by unfold errRow;rw [hty,List.map_append];rfl
        obtain ⟨R,hR⟩:∃ R,R=pairR x y v:=⟨_,rfl⟩
        have PR:=pair_ok x y v (oL x hxm) (oH y hym)
        rw [←hR] at PR hrow herr
        by_cases eR:R.2.2=0
        ·have dR:decide (R.2.2=0)=true:=by simpa using eR
         simp -implicitDefEqProofs only [a1,a2,a3,a4,a5,a6,a7,a8,a9,a10,ltT hjlt,encC_cut hy,encC_len,inc64 hjlt (by omega:H.length≤4611686018427387904),go_sem,reduceCtorEq,rdA,rdM,rdL,rdT,rdE,rdN,↓gTT,↓gFF,↓gTF,↓gFT]
         repeat' (first|(with_reducible refine And.intro ?_ ?_)|(with_reducible refine gs_t ?_ ?_)|(with_reducible refine gs_f ?_ ?_)|(intro _)|((with_reducible apply wCall_any);(· (simp -implicitDefEqProofs only [go_sem,reduceCtorEq,rdA,rdM,rdL,rdT,rdE,rdN,↓gTT,↓gFF,↓gTF,↓gFT]<;>rfl));(· (exact PR));(· rfl);(· rfl);(· (first|exact Eq.refl true|exact Eq.refl false));(simp -implicitDefEqProofs only [vCE,dR,encC_len,inc64 hjlt (by omega:H.length≤4611686018427387904),go_sem,reduceCtorEq,rdA,rdM,rdL,rdT,rdE,rdN,↓gTT,↓gFF,↓gTF,↓gFT]))|fail)
         all_goals (clear a1 a2 a3 a4 a5 a6 a7 a8 a9 a10 s1 s2 s3 s4 s5 s6)
         all_goals first|omega|(rw [List.length_append];omega)|skip
         refine ⟨n'-1,by omega,_,subH_tail (by simp [hget]),j+1,m'+1,by omega,⟨⟨?_,rfl⟩,rfl,?_⟩,?_⟩
         ·rw [hrow];simp;omega
         ·rw [hrow];simp [encC_app,encC,mkC,vMs]
         ·rw [herr,firstErr_app,hkj];simp [firstErr,eR]
        ·have dR:decide (R.2.2=0)=false:=by simpa using eR
         have hrowE:errRow H v x=errRow (H.take j) v x++R.2.2::errRow (H.drop (j+1)) v x:=by
          have:H=H.take j++y::H.drop (j+1):=by rw [←drop_cons hy,List.take_append_drop]
          conv=>lhs;rw [this]
          unfold errRow;rw [List.map_append,List.map_cons,←hR]
         have hLE:L.flatMap (errRow H v)=(L.take i).flatMap (errRow H v)++(errRow (H.take j) v x++R.2.2::(errRow (H.drop (j+1)) v x++(L.drop (i+1)).flatMap (errRow H v))):=by
          have:L=L.take i++x::L.drop (i+1):=by rw [←drop_cons hx,List.take_append_drop]
          conv=>lhs;rw [this]
          rw [List.flatMap_append,List.flatMap_cons,hrowE];simp
         have hde:dropErr l v=R.2.2:=by
          rw [hE,hLE,firstErr_app,hk,firstErr_app,hkj];simp [firstErr,eR]
         have e:dropV l v=.tup [vCs [],.int .i64 R.2.2]:=by unfold dropV;rw [if_neg (by omega),hde,if_pos eR]
         rw [e]
         simp -implicitDefEqProofs only [a1,a2,a3,a4,a5,a6,a7,a8,a9,a10,ltT hjlt,encC_cut hy,encC_len,inc64 hjlt (by omega:H.length≤4611686018427387904),go_sem,reduceCtorEq,rdA,rdM,rdL,rdT,rdE,rdN,↓gTT,↓gFF,↓gTF,↓gFT]
         repeat' (first|(with_reducible refine And.intro ?_ ?_)|(with_reducible refine gs_t ?_ ?_)|(with_reducible refine gs_f ?_ ?_)|(intro _)|((with_reducible apply wCall_any);(· (simp -implicitDefEqProofs only [go_sem,reduceCtorEq,rdA,rdM,rdL,rdT,rdE,rdN,↓gTT,↓gFF,↓gTF,↓gFT]<;>rfl));(· (exact PR));(· rfl);(· rfl);(· (first|exact Eq.refl true|exact Eq.refl false));(simp -implicitDefEqProofs only [vCE,dR,encC,encC_len,inc64 hjlt (by omega:H.length≤4611686018427387904),go_sem,reduceCtorEq,rdA,rdM,rdL,rdT,rdE,rdN,↓gTT,↓gFF,↓gTF,↓gFT]))|fail)
         all_goals first|omega|trivial|simp
       ·rw [List.take_of_length_le hjge] at a3 hkj
        have hQ2:T++(L.take (i+1)).flatMap (conRow H v)=Q++conRow H v x:=by rw [ht,hQ];simp
        simp -implicitDefEqProofs only [a1,a2,a3,a4,a5,a6,a7,a8,a9,a10,ltF hjge,List.take_of_length_le hjge,inc64 hlt (by omega:L.length≤4611686018427387904),go_sem,reduceCtorEq,rdA,rdM,rdL,rdT,rdE,rdN,↓gTT,↓gFF,↓gTF,↓gFT]
        clear a1 a2 a3 a4 a5 a6 a7 a8 a9 a10 s1 s2 s3 s4 s5 s6
        refine ⟨n-1,by omega,_,subH_refl _,i+1,m',by omega,⟨⟨?_,rfl⟩,rfl,?_⟩,?_⟩
        ·rw [hQ2]
        ·rw [hQ2]
        ·rw [ht,List.flatMap_append,firstErr_app,hk];simp [hkj]
     ·rw [List.take_of_length_le hge] at s3 hk
      have e:dropV l v=.tup [vCs (dropList l v),.int .i64 0]:=by unfold dropV;rw [if_neg (by omega),if_neg (by rw [hE,hk];simp)]
      rw [e,hD]
      simp -implicitDefEqProofs only [s1,s2,s3,s4,s5,s6,ltF hge,List.take_of_length_le hge,encC_len,go_sem,reduceCtorEq,rdA,rdM,rdL,rdT,rdE,rdN,↓gTT,↓gFF,↓gTF,↓gFT]
def inB (n a b:Int):Bool:=decide (a≤n)&&decide (n≤b)
def heavyB (l:List Cons):Bool:=decide (60<l.length)||l.any fun x=>decide (60<x.t.l.length)
theorem smallC_of_light {l:List Cons} (h:heavyB l=false):smallC l:=by
 simp [heavyB] at h
 exact ⟨by omega,fun x hx=>by have:=h.2 x hx;omega⟩
theorem encC_t {l:List Cons} {i:Nat} {x:Cons} (h:l[i]?=some x):((encC l).drop (i*3)).take 2=cT x.t:=by
 have e:((encC l).drop (i*3)).take 2=(((encC l).drop (i*3)).take 3).take 2:=by rw [List.take_take];rfl
 rw [e,encC_cut h];rfl
theorem in_ok (n a b:Int):VPure FT p73 [.int .i64 n,.int .i64 a,.int .i64 b] (.bool (inB n a b)):=by
 refine vpure_of_body (f:=p73) rfl rfl ?_
 simp -implicitDefEqProofs only [go_sem,reduceCtorEq,rdA,rdM,rdL,rdT,rdE,rdN,↓gTT,↓gFF,↓gTF,↓gFT]
 unfold inB
 refine ⟨fun h=>?_,fun h=>?_⟩<;>simp_all
 all_goals (intros;omega)
theorem Kr_ok (c:Int) (l:List Mono) (v:Int) (hl:l.length≤4611686018427387904):VPure FT p82 [.agg [.int .i64 c,.fz l.length none 2 (encM l)],.int .i64 v] (.int .i64 (kOf l v)):=by
 refine vpure_of_body (f:=p82) rfl rfl ?_
 simp -implicitDefEqProofs only [go_sem,reduceCtorEq,rdA,rdM,rdL,rdT,rdE,rdN,↓gTT,↓gFF,↓gTF,↓gFT]
 refine wLoop_by (fun n s=>∃ i:Nat,i+n=l.length∧At s [(p1,.int .i64 v),(p2,.var [.int .i64 c,vMs l]),(p5,.int .i64 i)] 0 0 []∧kOf l v=kOf (l.drop i) v) l.length ?_ ?_
 ·exact ⟨0,by simp,by simp -implicitDefEqProofs only [go_sem,reduceCtorEq,rdA,rdM,rdL,rdT,rdE,rdN,↓gTT,↓gFF,↓gTF,↓gFT],by simp⟩
 ·rintro n ⟨e,nx,w,h⟩ ⟨i,hi,⟨⟨h1,h2,h3,-⟩,rfl,rfl,rfl⟩,hk⟩
  rcases Nat.lt_or_ge i l.length with hlt|hge
  ·obtain ⟨m,hm⟩:=has hlt
   rw [drop_cons hm] at hk
   simp -implicitDefEqProofs only [h1,h2,h3,ltT hlt,encM_g0 hm,encM_g1 hm,encM_len,inc64 hlt hl,go_sem,reduceCtorEq,rdA,rdM,rdL,rdT,rdE,rdN,↓gTT,↓gFF,↓gTF,↓gFT]
   refine ⟨by omega,fun h=>⟨by omega,?_⟩,fun h=>⟨n-1,by omega,i+1,by omega,rfl,?_⟩⟩
   ·rw [hk];simp at h;simp [kOf,h]
   ·rw [hk];simp at h;simp [kOf,h]
  ·simp -implicitDefEqProofs only [h1,h2,h3,ltF hge,go_sem,reduceCtorEq,rdA,rdM,rdL,rdT,rdE,rdN,↓gTT,↓gFF,↓gTF,↓gFT]
   rw [hk,List.drop_eq_nil_of_le hge];rfl
theorem Heavy13_ok (c:Int) (l:List Mono):VPure FT p23 [.agg [.int .i64 c,.fz l.length none 2 (encM l)]] (.bool (decide (60<l.length))):=by
 refine vpure_of_body (f:=p23) rfl rfl ?_
 simp -implicitDefEqProofs only [go_sem,reduceCtorEq,rdA,rdM,rdL,rdT,rdE,rdN,↓gTT,↓gFF,↓gTF,↓gFT]
 all_goals simp
 all_goals omega
theorem Heavy14_ok (l:List Cons):VPure FT p14 [.fz l.length none 3 (encC l)] (.bool (heavyB l)):=by
 refine vpure_of_body (f:=p14) rfl rfl ?_
 simp -implicitDefEqProofs only [go_sem,reduceCtorEq,rdA,rdM,rdL,rdT,rdE,rdN,↓gTT,↓gFF,↓gTF,↓gFT]
 refine gs_t (fun h=>?_) (fun h=>?_)
 ·simp at h;simp [heavyB];left;omega
 ·have h60:l.length≤60:=by simp at h;omega
  have hl:l.length≤4611686018427387904:=by omega
  refine wLoop_by (fun n s=>∃ i:Nat,i+n=l.length∧At s [(p0,.fz l.length none 3 (encC l)),(p3,.int .i64 i)] 0 0 []∧heavyB l=(l.drop i).any fun x=>decide (60<x.t.l.length)) l.length ?_ ?_
  ·exact ⟨0,by simp,by simp -implicitDefEqProofs only [go_sem,reduceCtorEq,rdA,rdM,rdL,rdT,rdE,rdN,↓gTT,↓gFF,↓gTF,↓gFT],by simp [heavyB];omega⟩
  ·rintro n ⟨e,nx,w,h⟩ ⟨i,hi,⟨⟨s1,s2,-⟩,rfl,rfl,rfl⟩,hk⟩
   rcases Nat.lt_or_ge i l.length with hlt|hge
   ·obtain ⟨x,hx⟩:=has hlt
    rw [drop_cons hx] at hk
    simp -implicitDefEqProofs only [s1,s2,ltT hlt,encC_cut hx,encC_g0 hx,encC_g1 hx,encC_len,inc64 hlt hl,go_sem,reduceCtorEq,rdA,rdM,rdL,rdT,rdE,rdN,↓gTT,↓gFF,↓gTF,↓gFT]
    refine ⟨⟨by omega,by omega⟩,by omega,?_⟩
    rw [show List.take 2 (List.drop (i*3) (encC l))=cT x.t from encC_t hx]
    simp only [cT,vMs]
    refine wCall_pp (r:=.bool (decide (60<x.t.l.length))) (by simp [pureL,pureV]) (Heavy13_ok _ _) rfl ?_
    simp -implicitDefEqProofs only [inc64 hlt hl,go_sem,reduceCtorEq,rdA,rdM,rdL,rdT,rdE,rdN,↓gTT,↓gFF,↓gTF,↓gFT]
    refine gs_t (fun h=>?_) (fun h=>?_)
    ·rw [hk];simp at h;simp [h]
    ·refine ⟨n-1,by omega,i+1,by omega,rfl,?_⟩
     rw [hk];simp at h;simp;intro h';omega
   ·simp -implicitDefEqProofs only [s1,s2,ltF hge,go_sem,reduceCtorEq,rdA,rdM,rdL,rdT,rdE,rdN,↓gTT,↓gFF,↓gTF,↓gFT]
    rw [hk,List.drop_eq_nil_of_le hge];rfl
theorem Right_ok (c:Int) (l:List Mono) (hl:l.length≤4611686018427387904):VPure FT p38 [.agg [.int .i64 c,.fz l.length none 2 (encM l)]] (.bool (okT c l)):=by
 refine vpure_of_body (f:=p38) rfl rfl ?_
 simp -implicitDefEqProofs only [go_sem,reduceCtorEq,rdA,rdM,rdL,rdT,rdE,rdN,↓gTT,↓gFF,↓gTF,↓gFT]
 repeat' (first|(with_reducible refine And.intro ?_ ?_)|(with_reducible refine gs_t ?_ ?_)|(with_reducible refine gs_f ?_ ?_)|(intro _)|((with_reducible apply wCall_any);(· (simp -implicitDefEqProofs only [go_sem,reduceCtorEq,rdA,rdM,rdL,rdT,rdE,rdN,↓gTT,↓gFF,↓gTF,↓gFT]<;>rfl));(· (exact in_ok _ _ _));(· rfl);(· rfl);(· (first|exact Eq.refl true|exact Eq.refl false));(simp -implicitDefEqProofs only [go_sem,reduceCtorEq,rdA,rdM,rdL,rdT,rdE,rdN,↓gTT,↓gFF,↓gTF,↓gFT]))|fail)
 ·rename_i h1 h2;simp at h1 h2;unfold okT;rw [show decide (l.length≤40)=false by simp;omega];simp
 ·rename_i h1 h2
  have h1':roomB c 1099511627776=true:=by simpa [inB,roomB] using h1
  have h2':l.length≤40:=by simp at h2;omega
  refine wLoop_by (fun n s=>∃ i:Nat,i+n=l.length∧At s [(p1,.var [.int .i64 c,.fz l.length none 2 (encM l)]),(p3,.int .i64 i)] 0 0 []∧okFrom none l=okFrom (prevOf l i) (l.drop i)) l.length ?_ ?_
  ·exact ⟨0,by simp,by simp -implicitDefEqProofs only [go_sem,reduceCtorEq,rdA,rdM,rdL,rdT,rdE,rdN,↓gTT,↓gFF,↓gTF,↓gFT],by simp [prevOf]⟩
  ·rintro n ⟨e,nx,w,h⟩ ⟨i,hi,⟨⟨s1,s2,-⟩,rfl,rfl,rfl⟩,hk⟩
   rcases Nat.lt_or_ge i l.length with hlt|hge
   ·obtain ⟨m,hm⟩:=has hlt
    rw [drop_cons hm] at hk
    have key:∀ q,prevOf l i=q→okFrom q (m::l.drop (i+1))=(okM m&&(match q with|none=>true|some q=>decide (q<m.v))&&okFrom (some m.v) (l.drop (i+1))):=fun q _=>rfl
    rw [key _ rfl] at hk
    have hp1:prevOf l (i+1)=some m.v:=by simp [prevOf,hm]
    have fin:okM m=true→(match prevOf l i with|none=>true|some q=>decide (q<m.v))=true→∃ m0,m0<n∧∃ i_1,i_1+m0=l.length∧((i+1:Nat):Int)=(i_1:Int)∧okFrom none l=okFrom (prevOf l i_1) (List.drop i_1 l):=by
     intro a b
     refine ⟨n-1,by omega,i+1,by omega,rfl,?_⟩
     rw [hk,a,b,hp1];rfl
    have bad:(okM m=false∨(match prevOf l i with|none=>true|some q=>decide (q<m.v))=false)→false=okT c l:=by
     intro h
     unfold okT;rw [hk]
     rcases h with h|h<;>rw [h]<;>simp
    by_cases hi0:i=0
    ·have hz:decide ((0:Int)<(i:Int))=false:=by simp [hi0]
     have hpz:prevOf l i=none:=by simp [prevOf,hi0]
     rw [hpz] at fin bad
     simp -implicitDefEqProofs only [s1,s2,ltT hlt,encM_cut hm,encM_len,inc64 hlt hl,hz,go_sem,reduceCtorEq,rdA,rdM,rdL,rdT,rdE,rdN,↓gTT,↓gFF,↓gTF,↓gFT]
     clear hk key s1 s2
     repeat' (first|(with_reducible refine And.intro ?_ ?_)|(with_reducible refine gs_t ?_ ?_)|(with_reducible refine gs_f ?_ ?_)|(intro _)|((with_reducible apply wCall_any);(· (simp -implicitDefEqProofs only [go_sem,reduceCtorEq,rdA,rdM,rdL,rdT,rdE,rdN,↓gTT,↓gFF,↓gTF,↓gFT]<;>rfl));(· (exact in_ok _ _ _));(· rfl);(· rfl);(· (first|exact Eq.refl true|exact Eq.refl false));(simp -implicitDefEqProofs only [inc64 hlt hl,hz,go_sem,reduceCtorEq,rdA,rdM,rdL,rdT,rdE,rdN,↓gTT,↓gFF,↓gTF,↓gFT]))|fail)
     all_goals first
      | omega
      | (refine bad (.inl ?_);clear fin bad;first|(simp_all [okM,inB,roomB];done)|(simp_all [okM,inB,roomB];intros;omega))
      | (refine bad (.inr ?_);clear fin bad;first|(simp_all [inB];done)|(simp_all [inB];omega))
      | (refine fin ?_ ?_<;>clear fin bad<;>first|rfl|(simp_all [okM,inB,roomB];done)|(simp_all [okM,inB,roomB];omega)|(simp_all;omega))
    ·obtain ⟨j,hj⟩:∃ j,j+1=i:=⟨i-1,by omega⟩
     obtain ⟨m',hm'⟩:∃ m',l[j]?=some m':=has (by omega)
     have hz:decide ((0:Int)<(i:Int))=true:=by simp;omega
     have hw:IntKind.i64.wrap ((i:Int)-1)=(j:Int):=by rw [i64 (by omega)];omega
     have hpz:prevOf l i=some m'.v:=by
      have:i-1=j:=by omega
      simp [prevOf,hi0,this,hm']
     rw [hpz] at fin bad
     simp -implicitDefEqProofs only [s1,s2,ltT hlt,encM_cut hm,encM_g0 hm',encM_len,inc64 hlt hl,hw,hz,go_sem,reduceCtorEq,rdA,rdM,rdL,rdT,rdE,rdN,↓gTT,↓gFF,↓gTF,↓gFT]
     clear hk key s1 s2
     repeat' (first|(with_reducible refine And.intro ?_ ?_)|(with_reducible refine gs_t ?_ ?_)|(with_reducible refine gs_f ?_ ?_)|(intro _)|((with_reducible apply wCall_any);(· (simp -implicitDefEqProofs only [go_sem,reduceCtorEq,rdA,rdM,rdL,rdT,rdE,rdN,↓gTT,↓gFF,↓gTF,↓gFT]<;>rfl));(· (exact in_ok _ _ _));(· rfl);(· rfl);(· (first|exact Eq.refl true|exact Eq.refl false));(simp -implicitDefEqProofs only [inc64 hlt hl,hz,hw,encM_g0 hm',go_sem,reduceCtorEq,rdA,rdM,rdL,rdT,rdE,rdN,↓gTT,↓gFF,↓gTF,↓gFT]))|fail)
     all_goals first
      | omega
      | (refine bad (.inl ?_);clear fin bad;first|(simp_all [okM,inB,roomB];done)|(simp_all [okM,inB,roomB];intros;omega))
      | (refine bad (.inr ?_);clear fin bad;first|(simp_all [inB];done)|(simp_all [inB];omega))
      | (refine fin ?_ ?_<;>clear fin bad<;>first|rfl|(simp_all [okM,inB,roomB];done)|(simp_all [okM,inB,roomB];omega)|(simp_all;omega))
   ·simp -implicitDefEqProofs only [s1,s2,ltF hge,go_sem,reduceCtorEq,rdA,rdM,rdL,rdT,rdE,rdN,↓gTT,↓gFF,↓gTF,↓gFT]
    unfold okT
    rw [hk,List.drop_eq_nil_of_le hge,h1',show decide (l.length≤40)=true by simpa using h2'];simp [okFrom]
 ·rename_i h1;unfold okT;rw [show roomB c 1099511627776=false by simp [inB] at h1;simp [roomB];omega];simp
theorem rightB_zero {l:List Cons} (h:l.all okC=true):rightB l 0=true:=by unfold rightB;rw [h];rfl
theorem unitOf_cases:∀ (l:List Cons) (i:Nat),(unitOf l i=none∧∀ (j:Nat) (x:Cons),l[j]?=some x→unitX x=none) ∨
 ∃ (j:Nat) (x:Cons) (v:Int),unitOf l i=some (((i+j:Nat):Int),v)∧l[j]?=some x∧unitX x=some v∧∀ (q:Nat) (y:Cons),q<j→l[q]?=some y→unitX y=none
 | [],i=>.inl ⟨rfl,fun j x h=>by simp at h⟩
 | y::l,i=>by
  cases hy:unitX y with
  | some v=>exact .inr ⟨0,y,v,by simp [unitOf,hy],rfl,hy,fun q z h=>absurd h (by omega)⟩
  | none=>
   have e:unitOf (y::l) i=unitOf l ((i+1:Nat):Int):=by simp [unitOf,hy]
   rcases unitOf_cases l (i+1) with ⟨h1,h2⟩|⟨j,x,v,h1,h2,h3,h4⟩
   ·refine .inl ⟨by rw [e,h1],fun j x h=>?_⟩
    cases j with
    | zero=>simp at h;subst h;exact hy
    | succ j=>exact h2 j x (by simpa using h)
   ·refine .inr ⟨j+1,x,v,by rw [e,h1];congr 2;omega,by simpa using h2,h3,fun q z hq hz=>?_⟩
    cases q with
    | zero=>simp at hz;subst hz;exact hy
    | succ q=>exact h4 q z (by omega) (by simpa using hz)
theorem okFrom_cons {p:Option Int} {m:Mono} {l:List Mono}:okFrom p (m::l)=true↔okM m=true∧(∀ q,p=some q→q<m.v)∧okFrom (some m.v) l=true:=by
 cases p<;>simp [okFrom,and_assoc]
theorem okFrom_lt:∀ {l:List Mono} {q:Int},okFrom (some q) l=true→∀ m∈l,q<m.v
 | [],_,_,m,h=>by simp at h
 | x::l,q,h,m,hm=>by
  obtain ⟨_,h2,h3⟩:=okFrom_cons.1 h
  have hq:=h2 q rfl
  rcases List.mem_cons.1 hm with rfl|hm
  ·exact hq
  ·have:=okFrom_lt h3 m hm;omega
theorem kOf_none:∀ {l:List Mono} {v:Int},(∀ m∈l,m.v≠v)→kOf l v=0
 | [],_,_=>rfl
 | m::l,v,h=>by
  rw [kOf,if_neg (h m (List.mem_cons_self ..))]
  exact kOf_none fun x hx=>h x (List.mem_cons_of_mem _ hx)
theorem kOf_low {l:List Mono} {q v:Int} (h:okFrom (some q) l=true) (hv:v≤q):kOf l v=0:=
 kOf_none fun m hm=>by have:=okFrom_lt h m hm;omega
theorem okM_spec {m:Mono}:okM m=true↔0≤m.v∧m.v<40∧m.k≠0∧-1048576≤m.k∧m.k≤1048576:=by
 simp [okM,roomB,and_assoc]
theorem okFrom_ok:∀ {l:List Mono} {p:Option Int},okFrom p l=true→∀ m∈l,okM m=true
 | [],_,_,m,h=>by simp at h
 | x::l,p,h,m,hm=>by
  obtain ⟨h1,_,h3⟩:=okFrom_cons.1 h
  rcases List.mem_cons.1 hm with rfl|hm
  ·exact h1
  ·exact okFrom_ok h3 m hm
theorem kOf_keep (m:Mono) (l:List Mono) (v:Int) (h:m.v=v→m.k=0→kOf l v=0):kOf (keepM m l) v=if m.v=v then m.k else kOf l v:=by
 unfold keepM
 by_cases hk:m.k=0
 ·rw [if_pos hk]
  by_cases hv:m.v=v
  ·rw [if_pos hv,hk];exact h hv hk
  ·rw [if_neg hv]
 ·rw [if_neg hk];rfl
theorem kOf_sum (v:Int):∀ (a b:List Mono) (p q:Option Int),okFrom p a=true→okFrom q b=true→kOf (sumM a b) v=kOf a v+kOf b v:=by
 intro a b
 induction a,b using sumM.induct with
 | case1=>intro p q _ _;simp [sumM,kOf]
 | case2 m x ih=>
  intro p q ha hb
  obtain ⟨h1,_,h3⟩:=okFrom_cons.1 ha
  have i:=ih (some m.v) q h3 hb
  rw [sumM,kOf_keep,kOf,i]
  ·simp [kOf]
  ·intro _ h0;exact absurd h0 (okM_spec.1 h1).2.2.1
 | case3 n y ih=>
  intro p q ha hb
  obtain ⟨h1,_,h3⟩:=okFrom_cons.1 hb
  have i:=ih p (some n.v) ha h3
  rw [sumM,kOf_keep,i]
  ·simp only [kOf];split<;>simp
  ·intro _ h0;exact absurd h0 (okM_spec.1 h1).2.2.1
 | case4 m x n y hlt ih=>
  intro p q ha hb
  obtain ⟨h1,_,h3⟩:=okFrom_cons.1 ha
  have i:=ih (some m.v) q h3 hb
  rw [sumM,if_pos hlt,kOf_keep,i]
  ·by_cases hv:m.v=v
   ·have hz:kOf (n::y) v=0:=by
     obtain ⟨_,_,g3⟩:=okFrom_cons.1 hb
     rw [kOf,if_neg (by omega)];exact kOf_low g3 (by omega)
    rw [if_pos hv,hz,kOf,if_pos hv];omega
   ·rw [if_neg hv];simp only [kOf,if_neg hv]
  ·intro _ h0;exact absurd h0 (okM_spec.1 h1).2.2.1
 | case5 m x n y hlt hlt' ih=>
  intro p q ha hb
  obtain ⟨h1,_,h3⟩:=okFrom_cons.1 hb
  have i:=ih p (some n.v) ha h3
  rw [sumM,if_neg hlt,if_pos hlt',kOf_keep,i]
  ·by_cases hv:n.v=v
   ·have hz:kOf (m::x) v=0:=by
     obtain ⟨_,_,g3⟩:=okFrom_cons.1 ha
     rw [kOf,if_neg (by omega)];exact kOf_low g3 (by omega)
    rw [if_pos hv,hz,kOf,if_pos hv];omega
   ·rw [if_neg hv];simp only [kOf,if_neg hv]
  ·intro _ h0;exact absurd h0 (okM_spec.1 h1).2.2.1
 | case6 m x n y hlt hlt' ih=>
  intro p q ha hb
  obtain ⟨h1,_,h3⟩:=okFrom_cons.1 ha
  obtain ⟨g1,_,g3⟩:=okFrom_cons.1 hb
  have i:=ih (some m.v) (some n.v) h3 g3
  have e:m.v=n.v:=by omega
  have b1:=okM_spec.1 h1
  have b2:=okM_spec.1 g1
  have hw:IntKind.i64.wrap (m.k+n.k)=m.k+n.k:=i64 (by omega)
  have zx:∀ w,w≤m.v→kOf x w=0:=fun w hw=>kOf_low h3 hw
  have zy:∀ w,w≤n.v→kOf y w=0:=fun w hw=>kOf_low g3 hw
  rw [sumM,if_neg hlt,if_neg hlt',kOf_keep]
  ·simp only [hw]
   by_cases hv:m.v=v
   ·rw [if_pos hv];simp only [kOf,if_pos hv,if_pos (show n.v=v by omega)]
   ·rw [if_neg hv,i];simp only [kOf,if_neg hv,if_neg (show ¬ n.v=v by omega)]
  ·intro hv _
   rw [i,zx v (by simp only at hv;omega),zy v (by simp only at hv;omega)];rfl
theorem room_mul {a b most:Int} (ha:a≠0) (hb:b≠0) (hm:0≤most) (h:max a (-a)≤most.tdiv (max b (-b))):-most≤a*b∧a*b≤most:=by
 have hB:0<max b (-b):=by omega
 have h1:max a (-a)*max b (-b)≤most:=by
  have h2:most.tdiv (max b (-b))*max b (-b)≤most:=by
   rw [Int.tdiv_eq_ediv_of_nonneg hm]
   exact Int.ediv_mul_le _ (by omega)
  exact Int.le_trans (Int.mul_le_mul_of_nonneg_right h (by omega)) h2
 have hA:0≤max a (-a):=by omega
 rcases Int.le_total 0 a with h0|h0<;>rcases Int.le_total 0 b with h3|h3
 ·rw [Int.max_eq_left (by omega),Int.max_eq_left (by omega)] at h1
  have:=Int.mul_nonneg h0 h3;omega
 ·rw [Int.max_eq_left (by omega),Int.max_eq_right (by omega),Int.mul_neg] at h1
  have:=Int.mul_nonpos_of_nonneg_of_nonpos h0 h3;omega
 ·rw [Int.max_eq_right (by omega),Int.max_eq_left (by omega),Int.neg_mul] at h1
  have:=Int.mul_nonpos_of_nonpos_of_nonneg h0 h3;omega
 ·rw [Int.max_eq_right (by omega),Int.max_eq_right (by omega),Int.neg_mul_neg] at h1
  have:=Int.mul_nonneg_of_nonpos_of_nonpos h0 h3;omega
theorem times_spec {a b most:Int} (hm:0≤most∧most≤4611686018427387904) (h:(timesP a b most).2=true):(timesP a b most).1=a*b∧-most≤a*b∧a*b≤most:=by
 unfold timesP at h ⊢
 by_cases h0:a=0∨b=0
 ·rw [if_pos h0]
  have:a*b=0:=by rcases h0 with h0|h0<;>simp [h0]
  rw [this];exact ⟨rfl,by omega,by omega⟩
 ·rw [if_neg h0] at h ⊢
  by_cases h1:roomB a most=false∨roomB b most=false
  ·rw [if_pos h1] at h;cases h
  ·rw [if_neg h1] at h ⊢
   simp only [decide_eq_true_eq] at h
   have hr:=room_mul (fun e=>h0 (.inl e)) (fun e=>h0 (.inr e)) hm.1 h
   exact ⟨i64 (by omega),hr⟩
theorem scale_ok:∀ {l:List Mono} {p:Option Int} {k:Int},okFrom p l=true→scaleB k l=true→okFrom p (scaleL k l)=true
 | [],_,_,_,_=>rfl
 | m::l,p,k,h,hs=>by
  obtain ⟨h1,h2,h3⟩:=okFrom_cons.1 h
  have hs1:(timesP m.k k 1048576).2=true:=by simp [scaleB] at hs;exact hs.1
  have hs2:scaleB k l=true:=by simp [scaleB] at hs ⊢;exact hs.2
  have ht:=times_spec (by omega) hs1
  have ih:=scale_ok h3 hs2
  rw [scaleL]
  split
  ·
   cases hl:scaleL k l with
   | nil=>rfl
   | cons x r=>
    rw [hl] at ih
    obtain ⟨g1,g2,g3⟩:=okFrom_cons.1 ih
    have:=g2 _ rfl
    exact okFrom_cons.2 ⟨g1,fun q hq=>by have:=h2 q hq;omega,g3⟩
  ·rename_i hne
   refine okFrom_cons.2 ⟨?_,h2,ih⟩
   have b:=okM_spec.1 h1
   refine okM_spec.2 ⟨b.1,b.2.1,hne,?_,?_⟩<;>simp only [ht.1]<;>omega
theorem kOf_scale (v:Int):∀ {l:List Mono} {p:Option Int} {k:Int},okFrom p l=true→scaleB k l=true→kOf (scaleL k l) v=kOf l v*k
 | [],_,_,_,_=>by simp [scaleL,kOf]
 | m::l,p,k,h,hs=>by
  obtain ⟨h1,h2,h3⟩:=okFrom_cons.1 h
  have hs1:(timesP m.k k 1048576).2=true:=by simp [scaleB] at hs;exact hs.1
  have hs2:scaleB k l=true:=by simp [scaleB] at hs ⊢;exact hs.2
  have ht:=times_spec (by omega) hs1
  have ih:=kOf_scale v h3 hs2
  rw [scaleL,kOf]
  by_cases hv:m.v=v
  ·rw [if_pos hv]
   split
   ·rename_i h0
    rw [ih,kOf_low h3 (by omega),←ht.1,h0,Int.zero_mul]
   ·rw [kOf,if_pos hv,ht.1]
  ·rw [if_neg hv]
   split
   ·exact ih
   ·rw [kOf,if_neg hv];exact ih
theorem okT_spec {c:Int} {l:List Mono}:okT c l=true↔-1099511627776≤c∧c≤1099511627776∧l.length≤40∧okFrom none l=true:=by
 simp [okT,roomB,and_assoc]
theorem scaleR_spec {c:Int} {l:List Mono} {k:Int} (h:okT c l=true):((scaleR c l k).2.2=0∧okT (scaleR c l k).1 (scaleR c l k).2.1=true∧(scaleR c l k).1=c*k∧∀ v,kOf (scaleR c l k).2.1 v=kOf l v*k)∨(scaleR c l k).2.2=12:=by
 unfold scaleR
 rw [if_neg (by simp [h])]
 split
 ·rename_i hs
  rw [Bool.and_eq_true] at hs
  obtain ⟨h1,h2,h3,h4⟩:=okT_spec.1 h
  have ht:=times_spec (by omega) hs.1
  refine .inl ⟨rfl,okT_spec.2 ⟨?_,?_,?_,scale_ok h4 hs.2⟩,ht.1,fun v=>kOf_scale v h4 hs.2⟩
  ·simp only [ht.1];omega
  ·simp only [ht.1];omega
  ·have:=scaleL_len k l;simp only;omega
 ·exact .inr rfl
theorem mem_lows {l:List Cons} {v:Int} {x:Cons} (h:x∈lowsOf l v):x∈l:=(List.mem_filter.1 h).1
theorem mem_highs {l:List Cons} {v:Int} {x:Cons} (h:x∈highsOf l v):x∈l:=(List.mem_filter.1 h).1
theorem flat_len_eq {α β:Type} (f:α→List β) (n:Nat) (h:∀ a,(f a).length=n):∀ l:List α,(l.flatMap f).length=l.length*n
 | []=>by simp
 | a::l=>by rw [List.flatMap_cons,List.length_append,List.length_cons,Nat.succ_mul,flat_len_eq f n h l,h a];omega
theorem dropList_len (l:List Cons) (v:Int):(dropList l v).length=(othersOf l v).length+(lowsOf l v).length*(highsOf l v).length:=by
 rw [dropList,List.length_append,flat_len_eq _ (highsOf l v).length (fun a=>by simp [conRow])]
theorem dself (a:Int):decide (a=a)=true:=by simp
theorem bself (b:Bool):(b == b)=true:=by cases b<;>rfl
theorem btt:(true != true)=false:=rfl
theorem keepT_ok (c:Int) (l:List Mono) (hl:l.length≤4611686018427387904):VPure FT p20 [.agg [.int .i64 c,.fz l.length none 2 (encM l)],.agg [.int .i64 c,.fz l.length none 2 (encM l)]] (.bool true):=by
 refine vpure_of_body (f:=p20) rfl rfl ?_
 simp -implicitDefEqProofs only [dself,go_sem,reduceCtorEq,rdA,rdM,rdL,rdT,rdE,rdN,↓gTT,↓gFF,↓gTF,↓gFT]
 refine wLoop_by (fun n s=>∃ i:Nat,i+n=l.length∧At s [(p2,.var [.int .i64 c,vMs l]),(p3,.var [.int .i64 c,vMs l]),(p5,.int .i64 i)] 0 0 []) l.length ?_ ?_
 ·exact ⟨0,by simp,by simp -implicitDefEqProofs only [go_sem,reduceCtorEq,rdA,rdM,rdL,rdT,rdE,rdN,↓gTT,↓gFF,↓gTF,↓gFT]⟩
 ·rintro n ⟨e,nx,w,h⟩ ⟨i,hi,⟨h1,h2,h3,-⟩,rfl,rfl,rfl⟩
  rcases Nat.lt_or_ge i l.length with hlt|hge
  ·obtain ⟨m,hm⟩:=has hlt
   simp -implicitDefEqProofs only [h1,h2,h3,ltT hlt,encM_cut hm,encM_len,inc64 hlt hl,dself,bself,btt,go_sem,reduceCtorEq,rdA,rdM,rdL,rdT,rdE,rdN,↓gTT,↓gFF,↓gTF,↓gFT]
   exact ⟨⟨by omega,by omega⟩,by omega,⟨by omega,by omega⟩,by omega,n-1,by omega,i+1,by omega,rfl⟩
  ·simp -implicitDefEqProofs only [h1,h2,h3,ltF hge,go_sem,reduceCtorEq,rdA,rdM,rdL,rdT,rdE,rdN,↓gTT,↓gFF,↓gTF,↓gFT]
theorem keepC_ok (l:List Cons) (hs:smallC l):VPure FT p8 [.fz l.length none 3 (encC l),.fz l.length none 3 (encC l)] (.bool true):=by
 have hl:l.length≤4611686018427387904:=by have:=hs.len;omega
 refine vpure_of_body (f:=p8) rfl rfl ?_
 simp -implicitDefEqProofs only [dself,go_sem,reduceCtorEq,rdA,rdM,rdL,rdT,rdE,rdN,↓gTT,↓gFF,↓gTF,↓gFT]
 refine wLoop_by (fun n s=>∃ i:Nat,i+n=l.length∧At s [(p0,.fz l.length none 3 (encC l)),(p1,.fz l.length none 3 (encC l)),(p5,.int .i64 i)] 0 0 []) l.length ?_ ?_
 ·exact ⟨0,by simp,by simp -implicitDefEqProofs only [go_sem,reduceCtorEq,rdA,rdM,rdL,rdT,rdE,rdN,↓gTT,↓gFF,↓gTF,↓gFT]⟩
 ·rintro n ⟨e,nx,w,h⟩ ⟨i,hi,⟨h1,h2,h3,-⟩,rfl,rfl,rfl⟩
  rcases Nat.lt_or_ge i l.length with hlt|hge
  ·obtain ⟨x,hx⟩:=has hlt
   have hxl:=hs.all x (List.mem_of_getElem? hx)
   simp -implicitDefEqProofs only [h1,h2,h3,ltT hlt,encC_t hx,encC_g2 hx,encC_len,inc64 hlt hl,dself,bself,btt,go_sem,reduceCtorEq,rdA,rdM,rdL,rdT,rdE,rdN,↓gTT,↓gFF,↓gTF,↓gFT]
   refine ⟨⟨by omega,by omega⟩,⟨by omega,by omega⟩,⟨by omega,by omega⟩,by omega,⟨by omega,by omega⟩,by omega,?_⟩
   refine wCall_pp (r:=.bool true) (by simp [pureL,pureV]) (keepT_ok _ _ (by omega)) rfl ?_
   simp -implicitDefEqProofs only [inc64 hlt hl,btt,go_sem,reduceCtorEq,rdA,rdM,rdL,rdT,rdE,rdN,↓gTT,↓gFF,↓gTF,↓gFT]
   exact ⟨n-1,by omega,i+1,by omega,rfl⟩
  ·simp -implicitDefEqProofs only [h1,h2,h3,ltF hge,go_sem,reduceCtorEq,rdA,rdM,rdL,rdT,rdE,rdN,↓gTT,↓gFF,↓gTF,↓gFT]
def magI (n:Int):Int:=if n<0 then IntKind.i64.wrap (0-n) else n
theorem mag_ok (n:Int):VPure FT p76 [.int .i64 n] (.int .i64 (magI n)):=by
 refine vpure_of_body (f:=p76) rfl rfl ?_
 simp -implicitDefEqProofs only [go_sem,reduceCtorEq,rdA,rdM,rdL,rdT,rdE,rdN,↓gTT,↓gFF,↓gTF,↓gFT]
 unfold magI
 refine gs_t (fun h=>?_) (fun h=>?_)
 ·simp at h;rw [if_pos h]
 ·simp at h;rw [if_neg (by omega)]
theorem rPick_ok (lo hi:Int):VPure FT p84 [.int .i64 lo,.int .i64 hi] (.tup [.int .i64 (if hi<lo then 0 else if 0<lo then lo else if hi<0 then hi else 0),.bool (decide (lo≤hi))]):=by
 refine vpure_of_body (f:=p84) rfl rfl ?_
 simp -implicitDefEqProofs only [go_sem,reduceCtorEq,rdA,rdM,rdL,rdT,rdE,rdN,↓gTT,↓gFF,↓gTF,↓gFT]
 refine gs_t (fun h=>?_) (fun h=>gs_t (fun h1=>?_) (fun h1=>gs_t (fun h2=>?_) (fun h2=>?_)))<;>simp at*<;> (repeat' split)<;>(try omega)<;>(refine ⟨?_,?_⟩<;>(try omega)<;>(try rfl))
theorem bff:(false != false)=false:=rfl
theorem CloneM_own (l:List Mono) (hl:l.length≤1000000) (hne:l≠[]) (nx:Nat):
 FSem FT p112 [.fz l.length none 2 (encM l)] nx [] (fun r nx' h'=>r=.ow nx l.length 2∧nx'=nx+1∧h'=[(nx,.row (encM l))]):=by
 refine fsem_of_body (f:=p112) rfl rfl ?_
 have hpos:0<l.length:=List.length_pos_iff.2 hne
 simp -implicitDefEqProofs only [go_sem,reduceCtorEq,rdA,rdM,rdL,rdT,rdE,rdN,↓gTT,↓gFF,↓gTF,↓gFT]
 intro b hb
 have hbf:b=false:=by cases b with
  | false=>rfl
  | true=>exact absurd (hb rfl) (by omega)
 subst hbf
 simp -implicitDefEqProofs only [eRetK_r,bff,encM_len,go_sem,reduceCtorEq,rdA,rdM,rdL,rdT,rdE,rdN,↓gTT,↓gFF,↓gTF,↓gFT]
 omega
theorem TwinT_own (c:Int) (l:List Mono) (hl:l.length≤1000000) (hne:l≠[]) (nx:Nat):
 FSem FT p94 [.agg [.int .i64 c,.fz l.length none 2 (encM l)]] nx [] (fun r nx' h'=>r=.agg [.int .i64 c,.ow nx l.length 2]∧nx'=nx+1∧h'=[(nx,.row (encM l))]):=by
 refine fsem_of_body (f:=p94) rfl rfl ?_
 simp -implicitDefEqProofs only [go_sem,reduceCtorEq,rdA,rdM,rdL,rdT,rdE,rdN,↓gTT,↓gFF,↓gTF,↓gFT]
 refine wCall_heap (hin:=[]) (CloneM_own l hl hne nx) (fun k o h=>by cases h) ?_ ?_
 ·rintro r nx' h' ⟨rfl,rfl,rfl⟩
  refine ⟨by simp [closed,keysV,hkeys],?_⟩
  intro k o ho
  simp only [hget] at ho
  split at ho
  ·cases ho;simp [closed,okeys]
  ·cases ho
 ·rintro r nx' h' ⟨rfl,rfl,rfl⟩ _
  simp -implicitDefEqProofs only [eRetK_r,hkeys,hdels,List.append_nil,go_sem,reduceCtorEq,rdA,rdM,rdL,rdT,rdE,rdN,↓gTT,↓gFF,↓gTF,↓gFT]
def delM (v:Int) (l:List Mono):List Mono:=l.filter fun m=>!decide (m.v=v)
theorem Put1_ok (m:Mono) (v:Int):VPure FT p96 [.agg [.int .i64 m.v,.int .i64 m.k],.fp [.int .i64 v] 0] (.bool (decide (m.v=v))):=by
 refine vpure_of_body (f:=p96) rfl rfl ?_
 simp -implicitDefEqProofs only [go_sem,reduceCtorEq,rdA,rdM,rdL,rdT,rdE,rdN,↓gTT,↓gFF,↓gTF,↓gFT]
theorem encM_set (l:List Mono) (m:Mono):∀ i:Nat,i<l.length→spl (encM l) (i*2) [.int .i64 m.v,.int .i64 m.k]=encM (l.set i m):=by
 induction l with
 | nil=>intro i h;simp at h
 | cons a l ih=>
  intro i h
  cases i with
  | zero=>simp [spl,encM]
  | succ i=>
   have:=ih i (by simpa using h)
   rw [List.set_cons_succ]
   simp only [encM]
   rw [←this]
   simp only [spl,List.length_cons,List.length_nil]
   rw [show (i+1)*2=i*2+1+1 by omega,show i*2+1+1+(0+1+1)=(i*2+(0+1+1))+1+1 by omega]
   simp
theorem encM_cutset (l:List Mono) (z:List VV) (i:Nat) (hi:i≤l.length):vsub (spl (encM l) (i*2) z) 2 0 i=encM (l.take i):=by
 have h1:((encM l).take (i*2)).length=i*2:=by rw [encM_take,encM_len,List.length_take];omega
 unfold vsub spl
 rw [Nat.zero_mul,List.drop_zero,Nat.sub_zero,List.append_assoc,List.take_append_of_le_length (by omega),List.take_take,Nat.min_self,encM_take]
theorem delM_app (v:Int) (a b:List Mono):delM v (a++b)=delM v a++delM v b:=by simp [delM]
theorem idxOf_none {α:Type} (p:α→Bool):∀ (l:List α) (i:Int),0≤i→idxOf p l i=-1→∀ x∈l,p x=false
 | [],_,_,_,x,hx=>by cases hx
 | a::l,i,h0,h,x,hx=>by
  unfold idxOf at h
  by_cases hp:p a=true
  ·rw [if_pos hp] at h;omega
  ·rw [if_neg hp] at h
   rcases List.mem_cons.1 hx with rfl|hx
   ·simpa using hp
   ·exact idxOf_none p l (i+1) (by omega) h x hx
theorem idxOf_some {α:Type} (p:α→Bool):∀ (l:List α) (i:Int),0≤i→idxOf p l i≠-1→∃ k:Nat,idxOf p l i=i+k∧k<l.length∧(∀ x∈l.take k,p x=false)∧∃ x,l[k]?=some x∧p x=true
 | [],_,_,h=>absurd rfl h
 | a::l,i,h0,h=>by
  unfold idxOf at h ⊢
  by_cases hp:p a=true
  ·rw [if_pos hp];exact ⟨0,by simp,by simp,by simp,a,rfl,hp⟩
  ·rw [if_neg hp] at h ⊢
   obtain ⟨k,h1,h2,h3,x,h4,h5⟩:=idxOf_some p l (i+1) (by omega) h
   refine ⟨k+1,by rw [h1];omega,by simp;omega,?_,x,by simpa using h4,h5⟩
   intro y hy
   rw [List.take_succ_cons] at hy
   rcases List.mem_cons.1 hy with rfl|hy
   ·simpa using hp
   ·exact h3 y hy
theorem delM_none {v:Int} {l:List Mono} (h:∀ m∈l,decide (m.v=v)=false):delM v l=l:=by
 unfold delM;rw [List.filter_eq_self];intro m hm;rw [h m hm];rfl
theorem DelM_nil (v:Int):VPure FT p95 [.fz 0 none 2 [],.fn p96 [.fp [.int .i64 v] 0]] (.fz 0 none 2 []):=by
 refine vpure_of_body (f:=p95) rfl rfl ?_
 have hI:VPure FT p106 [.fz 0 none 2 [],.fn p96 [.fp [.int .i64 v] 0]] (.int .i64 (-1)):=IndexM_ok p96 [.fp [.int .i64 v] 0] (fun m=>decide (m.v=v)) [] (by simp) rfl (fun m hm=>Put1_ok m v)
 simp -implicitDefEqProofs only [go_sem,reduceCtorEq,rdA,rdM,rdL,rdT,rdE,rdN,↓gTT,↓gFF,↓gTF,↓gFT]
 repeat' (first|(with_reducible refine And.intro ?_ ?_)|(with_reducible refine gs_t ?_ ?_)|(with_reducible refine gs_f ?_ ?_)|(intro _)|((with_reducible apply wCall_any);(· (simp -implicitDefEqProofs only [go_sem,reduceCtorEq,rdA,rdM,rdL,rdT,rdE,rdN,↓gTT,↓gFF,↓gTF,↓gFT]<;>rfl));(· (exact hI));(· rfl);(· rfl);(· (first|exact Eq.refl true|exact Eq.refl false));(simp -implicitDefEqProofs only [show decide ((-1:Int)=-1)=true from rfl,go_sem,reduceCtorEq,rdA,rdM,rdL,rdT,rdE,rdN,↓gTT,↓gFF,↓gTF,↓gFT]))|fail)
set_option maxHeartbeats 1000000 in
theorem DelM_ok (l:List Mono) (v:Int) (hl:l.length≤1000000):
 FSem FT p95 [.ow 1 l.length 2,.fn p96 [.pt 0 1 0]] 2 [(1,.row (encM l)),(0,.obj [.int .i64 v])] (fun r nx' h'=>∃ k',r=.ow k' (delM v l).length 2∧(k'=1∨k'=2)∧k'<nx'∧h'=[(k',.row (encM (delM v l))),(0,.obj [.int .i64 v])]):=by
 refine fsem_of_body (f:=p95) rfl rfl ?_
 have hI:=IndexM_ok p96 [.fp [.int .i64 v] 0] (fun m=>decide (m.v=v)) l (by omega) rfl (fun m hm=>Put1_ok m v)
 simp -implicitDefEqProofs only [go_sem,reduceCtorEq,rdA,rdM,rdL,rdT,rdE,rdN,↓gTT,↓gFF,↓gTF,↓gFT]
 refine wCall_pure (args':=[.fz l.length none 2 (encM l),.fn p96 [.fp [.int .i64 v] 0]]) (by simp -implicitDefEqProofs only [encM_len,go_sem,reduceCtorEq,rdA,rdM,rdL,rdT,rdE,rdN,↓gTT,↓gFF,↓gTF,↓gFT]) hI rfl (.inl rfl) ?_
 simp -implicitDefEqProofs only [go_sem,reduceCtorEq,rdA,rdM,rdL,rdT,rdE,rdN,↓gTT,↓gFF,↓gTF,↓gFT]
 refine gs_t (fun h1=>?_) (fun h1=>?_)
 ·have h0:idxOf (fun m=>decide (m.v=v)) l 0=-1:=by simpa using h1
  simp -implicitDefEqProofs only [eRetK_r,go_sem,reduceCtorEq,rdA,rdM,rdL,rdT,rdE,rdN,↓gTT,↓gFF,↓gTF,↓gFT]
  rw [delM_none (idxOf_none _ l 0 (by omega) h0)]
  exact ⟨1,rfl,.inl rfl,by omega,rfl⟩
 ·have h0:idxOf (fun m=>decide (m.v=v)) l 0≠-1:=by simpa using h1
  obtain ⟨i0,e0,hi0,hbef,m0,hm0,hp0⟩:=idxOf_some _ l 0 (by omega) h0
  simp -implicitDefEqProofs only [e0,Int.zero_add,inc64 hi0 (by omega:l.length≤4611686018427387904),go_sem,reduceCtorEq,rdA,rdM,rdL,rdT,rdE,rdN,↓gTT,↓gFF,↓gTF,↓gFT]
  have hstart:delM v (l.take (i0+1))=l.take i0:=by
   rw [take_snoc hm0,delM_app,delM_none hbef];simp [delM,hp0]
  refine wLoop_by (fun n s=>∃ (i j:Nat) (A:List Mono),j+n=l.length∧i<j∧A.length=l.length∧A.take i=delM v (l.take j)∧A.drop j=l.drop j∧At s [(p0,.ow 1 l.length 2),(p1,.fn p96 [.pt 0 1 0]),(p5,.int .i64 i),(p6,.int .i64 j)] 2 0 [(1,.row (encM A)),(0,.obj [.int .i64 v])]) (l.length-(i0+1)) ?_ ?_
  ·refine ⟨i0,i0+1,l,by omega,by omega,rfl,hstart.symm,rfl,?_⟩
   simp -implicitDefEqProofs only [go_sem,reduceCtorEq,rdA,rdM,rdL,rdT,rdE,rdN,↓gTT,↓gFF,↓gTF,↓gFT]
  ·rintro n ⟨e,nx,w,h⟩ ⟨i,j,A,hn,hij,hA,hA1,hA2,⟨s1,s2,s3,s4,-⟩,rfl,rfl,rfl⟩
   rcases Nat.lt_or_ge j l.length with hlt|hge
   ·obtain ⟨m,hm⟩:=has hlt
    have hmA:A[j]?=some m:=by
     have:=congrArg (·[0]?) hA2
     simpa [hm] using this
    simp -implicitDefEqProofs only [s1,s2,s3,s4,ltT hlt,encM_len,hA,encM_cut hmA,inc64 hlt (by omega:l.length≤4611686018427387904),go_sem,reduceCtorEq,rdA,rdM,rdL,rdT,rdE,rdN,↓gTT,↓gFF,↓gTF,↓gFT]
    refine ⟨⟨by omega,by omega⟩,by omega,?_⟩
    refine wCall_pure (args':=[.agg [.int .i64 m.v,.int .i64 m.k],.fp [.int .i64 v] 0]) (by simp -implicitDefEqProofs only [go_sem,reduceCtorEq,rdA,rdM,rdL,rdT,rdE,rdN,↓gTT,↓gFF,↓gTF,↓gFT]) (Put1_ok m v) rfl (.inl rfl) ?_
    have hiA:i<A.length:=by omega
    have hset:List.take (i*2) (encM A)++[VV.int .i64 m.v,VV.int .i64 m.k]++List.drop (i*2+2) (encM A)=encM (A.set i m):=encM_set A m i hiA
    simp -implicitDefEqProofs only [encM_len,hA,hset,List.length_set,inc64 hlt (by omega:l.length≤4611686018427387904),inc64 (by omega:i<l.length) (by omega:l.length≤4611686018427387904),go_sem,reduceCtorEq,rdA,rdM,rdL,rdT,rdE,rdN,↓gTT,↓gFF,↓gTF,↓gFT]
    refine gs_t (fun h2=>?_) (fun h2=>?_)
    ·have hmv:decide (m.v=v)=false:=by simpa using h2
     refine ⟨⟨by omega,by omega⟩,by omega,n-1,by omega,i+1,j+1,A.set i m,by omega,by omega,by rw [List.length_set];exact hA,?_,?_,⟨rfl,rfl⟩,rfl⟩
     ·rw [take_snoc hm,delM_app,←hA1,List.take_add_one,List.take_set_of_le (by omega),List.getElem?_set_self hiA]
      simp [delM,hmv]
     ·rw [List.drop_set_of_lt (by omega)]
      have:=congrArg (·.drop 1) hA2
      simpa [List.drop_drop,Nat.add_comm] using this
    ·have hmv:decide (m.v=v)=true:=by simpa using h2
     refine ⟨n-1,by omega,i,j+1,A,by omega,by omega,hA,?_,?_,⟨rfl,rfl⟩,rfl⟩
     ·rw [take_snoc hm,delM_app,←hA1];simp [delM,hmv]
     ·have:=congrArg (·.drop 1) hA2
      simpa [List.drop_drop,Nat.add_comm] using this
   ·have hj:j=l.length:=by omega
    obtain ⟨Z,hZ⟩:∃ Z,Z=reps' [VV.int .i64 0,VV.int .i64 0] (l.length-i):=⟨_,rfl⟩
    have hZl:Z.length=(l.length-i)*2:=by rw [hZ];unfold reps';rw [reps_len];rfl
    have hlen:(List.take (i*2) (encM A)++Z++List.drop (i*2+Z.length) (encM A)).length=l.length*2:=by
     rw [List.length_append,List.length_append,List.length_take,List.length_drop,encM_len,hA,hZl];omega
    have hcut:=encM_cutset A Z i (by omega)
    rw [List.take_of_length_le hge] at hA1
    have hil:i=(delM v l).length:=by rw [←hA1,List.length_take];omega
    simp only [spl] at hcut
    simp -implicitDefEqProofs only [s1,s2,s3,s4,ltF hge,encM_len,hA,←hZ,hlen,go_sem,reduceCtorEq,rdA,rdM,rdL,rdT,rdE,rdN,↓gTT,↓gFF,↓gTF,↓gFT]
    refine ⟨⟨by omega,by omega⟩,by omega,⟨by omega,by omega,by omega⟩,?_⟩
    simp -implicitDefEqProofs only [eRetK_r,Int.toNat_zero,Nat.sub_zero,Nat.zero_mul,List.drop_zero,hcut,hA1,go_sem,reduceCtorEq,rdA,rdM,rdL,rdT,rdE,rdN,↓gTT,↓gFF,↓gTF,↓gFT]
    exact ⟨2,by rw [←hil],.inr rfl,by omega,rfl⟩
def putR (c:Int) (a:List Mono) (v:Int) (d:Int) (b:List Mono):Int × List Mono × Int:=
 if okT c a=false∨okT d b=false then (0,[],1)
 else if (scaleR d b (kOf a v)).2.2≠0 then (0,[],(scaleR d b (kOf a v)).2.2)
 else addR c (delM v a) (scaleR d b (kOf a v)).1 (scaleR d b (kOf a v)).2.1
theorem delM_len (v:Int) (a:List Mono):(delM v a).length≤a.length:=List.length_filter_le _ _
set_option maxHeartbeats 1000000 in
theorem Put_ok (c:Int) (a:List Mono) (v:Int) (d:Int) (b:List Mono) (ha:a.length≤400000) (hb:b.length≤400000):
 VPure FT p54 [.agg [.int .i64 c,.fz a.length none 2 (encM a)],.int .i64 v,.agg [.int .i64 d,.fz b.length none 2 (encM b)]] (vTE (putR c a v d b)):=by
 refine vpure_of_body' (f:=p54) rfl rfl ?_
 obtain ⟨A,hA⟩:∃ A,A=scaleR d b (kOf a v):=⟨_,rfl⟩
 have SA:=Scale_ok d b (kOf a v) (by omega)
 have lA:A.2.1.length≤400000:=by rw [hA];exact Nat.le_trans (scaleR_len _ _ _) hb
 have hP:putR c a v d b=if okT c a=false∨okT d b=false then (0,[],1) else if A.2.2≠0 then (0,[],A.2.2) else addR c (delM v a) A.1 A.2.1:=by unfold putR;rw [hA]
 rw [←hA] at SA
 have d10:decide ((1:Int)=0)=false:=rfl
 cases h1:okT c a with
 | false=>
  rw [hP,if_pos (.inl h1)]
  simp -implicitDefEqProofs only [vTE,encM,go_sem,reduceCtorEq,rdA,rdM,rdL,rdT,rdE,rdN,↓gTT,↓gFF,↓gTF,↓gFT]
  repeat' (first|(with_reducible refine And.intro ?_ ?_)|(with_reducible refine gs_t ?_ ?_)|(with_reducible refine gs_f ?_ ?_)|(intro _)|((with_reducible apply wCall_any);(· (simp -implicitDefEqProofs only [go_sem,reduceCtorEq,rdA,rdM,rdL,rdT,rdE,rdN,↓gTT,↓gFF,↓gTF,↓gFT]<;>rfl));(· (exact Check_ok _ _ (by omega)));(· rfl);(· rfl);(· (first|exact Eq.refl true|exact Eq.refl false));(simp -implicitDefEqProofs only [h1,Bool.false_eq_true,if_false,encM,d10,Bool.not_false,go_sem,reduceCtorEq,rdA,rdM,rdL,rdT,rdE,rdN,↓gTT,↓gFF,↓gTF,↓gFT]))|fail)
 | true=>
 cases h2:okT d b with
 | false=>
  rw [hP,if_pos (.inr h2)]
  simp -implicitDefEqProofs only [vTE,encM,go_sem,reduceCtorEq,rdA,rdM,rdL,rdT,rdE,rdN,↓gTT,↓gFF,↓gTF,↓gFT]
  repeat' (first|(with_reducible refine And.intro ?_ ?_)|(with_reducible refine gs_t ?_ ?_)|(with_reducible refine gs_f ?_ ?_)|(intro _)|((with_reducible apply wCall_any);(· (simp -implicitDefEqProofs only [go_sem,reduceCtorEq,rdA,rdM,rdL,rdT,rdE,rdN,↓gTT,↓gFF,↓gTF,↓gFT]<;>rfl));(· (exact Check_ok _ _ (by omega)));(· rfl);(· rfl);(· (first|exact Eq.refl true|exact Eq.refl false));(simp -implicitDefEqProofs only [h1,h2,Bool.false_eq_true,if_false,if_true,encM,d10,s0eq,Bool.not_false,Bool.not_true,go_sem,reduceCtorEq,rdA,rdM,rdL,rdT,rdE,rdN,↓gTT,↓gFF,↓gTF,↓gFT]))|fail)
 | true=>
 have hno:¬ (okT c a=false∨okT d b=false):=by rw [h1,h2];simp
 rw [hP,if_neg hno]
 by_cases ea:A.2.2=0
 case neg=>
  have da:decide (A.2.2=0)=false:=by simpa using ea
  rw [if_pos ea]
  simp -implicitDefEqProofs only [vTE,encM,go_sem,reduceCtorEq,rdA,rdM,rdL,rdT,rdE,rdN,↓gTT,↓gFF,↓gTF,↓gFT]
  repeat' (first|(with_reducible refine And.intro ?_ ?_)|(with_reducible refine gs_t ?_ ?_)|(with_reducible refine gs_f ?_ ?_)|(intro _)|((with_reducible apply wCall_any);(· (simp -implicitDefEqProofs only [go_sem,reduceCtorEq,rdA,rdM,rdL,rdT,rdE,rdN,↓gTT,↓gFF,↓gTF,↓gFT]<;>rfl));(· (first|exact Check_ok _ _ (by omega)|exact K_ok _ _ _ (by omega)|exact SA));(· rfl);(· rfl);(· (first|exact Eq.refl true|exact Eq.refl false));(simp -implicitDefEqProofs only [h1,h2,if_true,encM,s0eq,Bool.not_true,vTE,da,Bool.not_false,go_sem,reduceCtorEq,rdA,rdM,rdL,rdT,rdE,rdN,↓gTT,↓gFF,↓gTF,↓gFT]))|fail)
 have da:decide (A.2.2=0)=true:=by simpa using ea
 rw [if_neg (by omega)]
 have hAdd:=Add_ok c (delM v a) A.1 A.2.1 (by have:=delM_len v a;omega) (by omega)
 by_cases hne:a=[]
 ·subst hne
  have hT:=TwinT_ok c [] (by simp)
  simp only [encM,List.length_nil] at hT
  simp -implicitDefEqProofs only [vTE,encM,List.length_nil,go_sem,reduceCtorEq,rdA,rdM,rdL,rdT,rdE,rdN,↓gTT,↓gFF,↓gTF,↓gFT]
  simp only [show delM v []=[] from rfl,encM,List.length_nil] at hAdd
  repeat' (first|(with_reducible refine And.intro ?_ ?_)|(with_reducible refine gs_t ?_ ?_)|(with_reducible refine gs_f ?_ ?_)|(intro _)|((with_reducible apply wCall_any);(· (simp -implicitDefEqProofs only [go_sem,reduceCtorEq,rdA,rdM,rdL,rdT,rdE,rdN,↓gTT,↓gFF,↓gTF,↓gFT]<;>rfl));(· (first|exact Check_ok _ [] (by simp)|exact Check_ok _ _ (by omega)|exact K_ok _ [] _ (by simp)|exact SA|exact hT|exact DelM_nil v|exact hAdd));(· rfl);(· rfl);(· (first|exact Eq.refl true|exact Eq.refl false));(simp -implicitDefEqProofs only [h1,h2,if_true,encM,s0eq,Bool.not_true,vTE,da,Bool.not_false,List.length_nil,go_sem,reduceCtorEq,rdA,rdM,rdL,rdT,rdE,rdN,↓gTT,↓gFF,↓gTF,↓gFT]))|fail)
  all_goals rfl
 ·simp -implicitDefEqProofs only [vTE,go_sem,reduceCtorEq,rdA,rdM,rdL,rdT,rdE,rdN,↓gTT,↓gFF,↓gTF,↓gFT]
  repeat' (first|(with_reducible refine And.intro ?_ ?_)|(with_reducible refine gs_t ?_ ?_)|(with_reducible refine gs_f ?_ ?_)|(intro _)|((with_reducible apply wCall_any);(· (simp -implicitDefEqProofs only [go_sem,reduceCtorEq,rdA,rdM,rdL,rdT,rdE,rdN,↓gTT,↓gFF,↓gTF,↓gFT]<;>rfl));(· (first|exact Check_ok _ _ (by omega)|exact K_ok _ _ _ (by omega)|exact SA));(· rfl);(· rfl);(· (first|exact Eq.refl true|exact Eq.refl false));(simp -implicitDefEqProofs only [h1,h2,if_true,s0eq,Bool.not_true,vTE,da,Bool.not_false,go_sem,reduceCtorEq,rdA,rdM,rdL,rdT,rdE,rdN,↓gTT,↓gFF,↓gTF,↓gFT]))|fail)
  refine wCall_heap (hin:=[]) (TwinT_own c a (by omega) hne 1) (fun k o h=>by cases h) ?_ ?_
  ·rintro r nx' h' ⟨rfl,rfl,rfl⟩
   refine ⟨by simp [closed,keysV,keysL,hkeys],?_⟩
   intro k o ho
   simp only [hget] at ho
   split at ho
   ·cases ho;simp [closed,okeys]
   ·cases ho
  ·rintro r nx' h' ⟨rfl,rfl,rfl⟩ _
   simp -implicitDefEqProofs only [hkeys,hdels,List.nil_append,List.cons_append,go_sem,reduceCtorEq,rdA,rdM,rdL,rdT,rdE,rdN,↓gTT,↓gFF,↓gTF,↓gFT]
   refine wCall_heap (hin:=[(1,.row (encM a)),(0,.obj [.int .i64 v])]) (DelM_ok a v (by omega)) (fun k o h=>⟨h,Nat.zero_le _⟩) ?_ ?_
   ·rintro r nx' h' ⟨k',rfl,hk',hlt,rfl⟩
    refine ⟨by simp [closed,keysV,keysL,hkeys],?_⟩
    intro k o ho
    simp only [hget] at ho
    split at ho
    ·cases ho;simp [closed,okeys]
    ·split at ho
     ·cases ho;simp [closed,okeys,keysL,keysV]
     ·cases ho
   ·rintro r nx' h' ⟨k',rfl,hk',hlt,rfl⟩ _
    have hk0:(k'=0)=False:=by simp;omega
    simp -implicitDefEqProofs only [hkeys,hdels,hdel,List.append_nil,go_sem,reduceCtorEq,rdA,rdM,rdL,rdT,rdE,rdN,↓gTT,↓gFF,↓gTF,↓gFT]
    refine wCall_freeze (args':=[.agg [.int .i64 c,.fz (delM v a).length none 2 (encM (delM v a))],.agg [.int .i64 A.1,.fz A.2.1.length none 2 (encM A.2.1)]]) (by simp -implicitDefEqProofs only [encM_len,go_sem,reduceCtorEq,rdA,rdM,rdL,rdT,rdE,rdN,↓gTT,↓gFF,↓gTF,↓gFT]) ?_
    simp -implicitDefEqProofs only [go_sem,reduceCtorEq,rdA,rdM,rdL,rdT,rdE,rdN,↓gTT,↓gFF,↓gTF,↓gFT]
    refine wCall_pp (by simp [pureL,pureV]) hAdd (by simp [pureV,pureL,vTE]) ?_
    simp -implicitDefEqProofs only [vTE,go_sem,reduceCtorEq,rdA,rdM,rdL,rdT,rdE,rdN,↓gTT,↓gFF,↓gTF,↓gFT]
def swapX (v d:Int) (b:List Mono) (x:Cons):Int × List Mono × Int:=putR x.t.c x.t.l v d b
def swapC (v d:Int) (b:List Mono) (x:Cons):Cons:=⟨⟨(swapX v d b x).1,(swapX v d b x).2.1⟩,x.eq⟩
def swapE (l:List Cons) (v d:Int) (b:List Mono):Int:=
 if rightB l v=false∨okT d b=false then 1 else if l.any (fun x=>decide ((swapX v d b x).2.2≠0))=true then 12 else 0
def swapL (l:List Cons) (v d:Int) (b:List Mono):List Cons:=l.map (swapC v d b)
def swapV (l:List Cons) (v d:Int) (b:List Mono):VV:=
 if swapE l v d b≠0 then .tup [vCs [],.int .i64 (swapE l v d b)] else .tup [vCs (swapL l v d b),.int .i64 0]
theorem addR_len (c:Int) (a:List Mono) (d:Int) (b:List Mono):(addR c a d b).2.1.length≤a.length+b.length:=by
 unfold addR
 repeat' split
 all_goals first|(simp;done)|exact sumM_len _ _
theorem putR_len (c:Int) (a:List Mono) (v d:Int) (b:List Mono):(putR c a v d b).2.1.length≤a.length+b.length:=by
 unfold putR
 split
 ·simp
 ·split
  ·simp
  ·have h1:=addR_len c (delM v a) (scaleR d b (kOf a v)).1 (scaleR d b (kOf a v)).2.1
   have h2:=delM_len v a
   have h3:=scaleR_len d b (kOf a v)
   omega
set_option maxHeartbeats 1000000 in
theorem Swap_ok (l:List Cons) (v d:Int) (b:List Mono) (hl:smallC l) (hb:b.length≤400000):
 VPure FT p56 [.fz l.length none 3 (encC l),.int .i64 v,.agg [.int .i64 d,.fz b.length none 2 (encM b)]] (swapV l v d b):=by
 refine vpure_of_body' (f:=p56) rfl rfl ?_
 have d10:decide ((1:Int)=0)=false:=rfl
 have hll:=hl.len
 cases hr:rightB l v with
 | false=>
  have e:swapV l v d b=.tup [vCs [],.int .i64 1]:=by
   have:swapE l v d b=1:=by unfold swapE;rw [if_pos (.inl hr)]
   unfold swapV;rw [this];rfl
  simp -implicitDefEqProofs only [e,vCs,encC,go_sem,reduceCtorEq,rdA,rdM,rdL,rdT,rdE,rdN,↓gTT,↓gFF,↓gTF,↓gFT]
  repeat' (first|(with_reducible refine And.intro ?_ ?_)|(with_reducible refine gs_t ?_ ?_)|(with_reducible refine gs_f ?_ ?_)|(intro _)|((with_reducible apply wCall_any);(· (simp -implicitDefEqProofs only [go_sem,reduceCtorEq,rdA,rdM,rdL,rdT,rdE,rdN,↓gTT,↓gFF,↓gTF,↓gFT]<;>rfl));(· (exact right_ok l v hl));(· rfl);(· rfl);(· (first|exact Eq.refl true|exact Eq.refl false));(simp -implicitDefEqProofs only [hr,Bool.not_false,encC,go_sem,reduceCtorEq,rdA,rdM,rdL,rdT,rdE,rdN,↓gTT,↓gFF,↓gTF,↓gFT]))|fail)
 | true=>
 cases ho:okT d b with
 | false=>
  have e:swapV l v d b=.tup [vCs [],.int .i64 1]:=by
   have:swapE l v d b=1:=by unfold swapE;rw [if_pos (.inr ho)]
   unfold swapV;rw [this];rfl
  simp -implicitDefEqProofs only [e,vCs,encC,go_sem,reduceCtorEq,rdA,rdM,rdL,rdT,rdE,rdN,↓gTT,↓gFF,↓gTF,↓gFT]
  repeat' (first|(with_reducible refine And.intro ?_ ?_)|(with_reducible refine gs_t ?_ ?_)|(with_reducible refine gs_f ?_ ?_)|(intro _)|((with_reducible apply wCall_any);(· (simp -implicitDefEqProofs only [go_sem,reduceCtorEq,rdA,rdM,rdL,rdT,rdE,rdN,↓gTT,↓gFF,↓gTF,↓gFT]<;>rfl));(· (first|exact right_ok l v hl|exact Check_ok _ _ (by omega)));(· rfl);(· rfl);(· (first|exact Eq.refl true|exact Eq.refl false));(simp -implicitDefEqProofs only [hr,ho,Bool.not_false,Bool.not_true,encC,d10,Bool.false_eq_true,if_false,go_sem,reduceCtorEq,rdA,rdM,rdL,rdT,rdE,rdN,↓gTT,↓gFF,↓gTF,↓gFT]))|fail)
 | true=>
  have hno:¬ (rightB l v=false∨okT d b=false):=by rw [hr,ho];simp
  have hall:∀ x∈l,okC x=true:=by
   simp only [rightB,Bool.and_eq_true] at hr;exact List.all_eq_true.1 hr.2
  simp -implicitDefEqProofs only [go_sem,reduceCtorEq,rdA,rdM,rdL,rdT,rdE,rdN,↓gTT,↓gFF,↓gTF,↓gFT]
  repeat' (first|(with_reducible refine And.intro ?_ ?_)|(with_reducible refine gs_t ?_ ?_)|(with_reducible refine gs_f ?_ ?_)|(intro _)|((with_reducible apply wCall_any);(· (simp -implicitDefEqProofs only [go_sem,reduceCtorEq,rdA,rdM,rdL,rdT,rdE,rdN,↓gTT,↓gFF,↓gTF,↓gFT]<;>rfl));(· (first|exact right_ok l v hl|exact Check_ok _ _ (by omega)));(· rfl);(· rfl);(· (first|exact Eq.refl true|exact Eq.refl false));(simp -implicitDefEqProofs only [hr,ho,Bool.not_false,Bool.not_true,s0eq,if_true,go_sem,reduceCtorEq,rdA,rdM,rdL,rdT,rdE,rdN,↓gTT,↓gFF,↓gTF,↓gFT]))|fail)
  refine wLoop_own p8 3 (by simp -implicitDefEqProofs only [go_sem,reduceCtorEq,rdA,rdM,rdL,rdT,rdE,rdN,↓gTT,↓gFF,↓gTF,↓gFT]) ?_
  simp -implicitDefEqProofs only [go_sem,reduceCtorEq,rdA,rdM,rdL,rdT,rdE,rdN,↓gTT,↓gFF,↓gTF,↓gFT]
  refine wLoop_dr (fun n s=>∃ i m:Nat,i+n=l.length∧At s [(p1,.int .i64 v),(p5,.var [.int .i64 d,.fz b.length none 2 (encM b)]),(p8,.ow 0 (l.take i).length 3),(p22,.fz l.length none 3 (encC l)),(p23,.int .i64 l.length),(p24,.int .i64 i)] (m+1) 0 [(0,.row (encC (swapL (l.take i) v d b)))]∧
   (l.take i).any (fun x=>decide ((swapX v d b x).2.2≠0))=false) l.length ?_ ?_
  ·exact ⟨0,0,by simp,by simp -implicitDefEqProofs only [go_sem,reduceCtorEq,rdA,rdM,rdL,rdT,rdE,rdN,↓gTT,↓gFF,↓gTF,↓gFT];simp [encC,swapL],by simp⟩
  ·rintro n ⟨e,nx,w,h⟩ ⟨i,m,hi,⟨⟨s1,s2,s3,s4,s5,s6,-⟩,rfl,rfl,rfl⟩,hk⟩
   rcases Nat.lt_or_ge i l.length with hlt|hge
   ·obtain ⟨x,hx⟩:=has hlt
    have hxm:=List.mem_of_getElem? hx
    obtain ⟨_,hx40,_⟩:=okC_parts (hall x hxm)
    have hb2:(l.take i).length≤i:=List.length_take_le _ _
    have hb3:(l.take i).length=(swapL (l.take i) v d b).length:=by unfold swapL;rw [List.length_map]
    have ht:=take_snoc hx
    obtain ⟨A,hA⟩:∃ A,A=swapX v d b x:=⟨_,rfl⟩
    have PA:=Put_ok x.t.c x.t.l v d b (by omega) hb
    have lA:A.2.1.length≤400040:=by rw [hA];have:=putR_len x.t.c x.t.l v d b;unfold swapX;omega
    have hPA:putR x.t.c x.t.l v d b=A:=by rw [hA];rfl
    rw [hPA] at PA
    rw [hb3] at s3
    simp -implicitDefEqProofs only [s1,s2,s3,s4,s5,s6,ltT hlt,encC_cut hx,encC_len,inc64 hlt (by omega:l.length≤4611686018427387904),go_sem,reduceCtorEq,rdA,rdM,rdL,rdT,rdE,rdN,↓gTT,↓gFF,↓gTF,↓gFT]
    by_cases eA:A.2.2=0
    ·have dA:decide (A.2.2=0)=true:=by simpa using eA
     repeat' (first|(with_reducible refine And.intro ?_ ?_)|(with_reducible refine gs_t ?_ ?_)|(with_reducible refine gs_f ?_ ?_)|(intro _)|((with_reducible apply wCall_any);(· (simp -implicitDefEqProofs only [go_sem,reduceCtorEq,rdA,rdM,rdL,rdT,rdE,rdN,↓gTT,↓gFF,↓gTF,↓gFT]<;>rfl));(· (exact PA));(· rfl);(· rfl);(· (first|exact Eq.refl true|exact Eq.refl false));(simp -implicitDefEqProofs only [vTE,dA,Bool.not_true,encC_len,inc64 hlt (by omega:l.length≤4611686018427387904),go_sem,reduceCtorEq,rdA,rdM,rdL,rdT,rdE,rdN,↓gTT,↓gFF,↓gTF,↓gFT]))|fail)
     all_goals (clear s1 s2 s3 s4 s5 s6;try omega)
     refine ⟨n-1,by omega,_,subH_tail (by simp [hget]),i+1,m+1,by omega,⟨⟨?_,rfl⟩,rfl,?_⟩,?_⟩
     ·rw [ht];simp [swapL]
     ·rw [ht];simp [swapL,encC_app,encC,vMs,swapC,←hA]
     ·rw [ht];simp only [List.any_append,hk,List.any_cons,List.any_nil,←hA,eA];rfl
    ·have dA:decide (A.2.2=0)=false:=by simpa using eA
     have e:swapV l v d b=.tup [vCs [],.int .i64 12]:=by
      have:swapE l v d b=12:=by
       unfold swapE;rw [if_neg hno,if_pos (List.any_eq_true.2 ⟨x,hxm,by rw [←hA];simpa using eA⟩)]
      unfold swapV;rw [this];rfl
     simp only [e,vCs,encC]
     repeat' (first|(with_reducible refine And.intro ?_ ?_)|(with_reducible refine gs_t ?_ ?_)|(with_reducible refine gs_f ?_ ?_)|(intro _)|((with_reducible apply wCall_any);(· (simp -implicitDefEqProofs only [go_sem,reduceCtorEq,rdA,rdM,rdL,rdT,rdE,rdN,↓gTT,↓gFF,↓gTF,↓gFT]<;>rfl));(· (exact PA));(· rfl);(· rfl);(· (first|exact Eq.refl true|exact Eq.refl false));(simp -implicitDefEqProofs only [vTE,dA,Bool.not_false,encC_len,encC,go_sem,reduceCtorEq,rdA,rdM,rdL,rdT,rdE,rdN,↓gTT,↓gFF,↓gTF,↓gFT]))|fail)
     all_goals (clear s1 s2 s3 s4 s5 s6;try omega)
   ·rw [List.take_of_length_le hge] at s3 hk
    have e:swapV l v d b=.tup [vCs (swapL l v d b),.int .i64 0]:=by
     have:swapE l v d b=0:=by unfold swapE;rw [if_neg hno,hk];rfl
     unfold swapV;rw [this];rfl
    have hlL:(swapL l v d b).length=l.length:=by simp [swapL]
    simp -implicitDefEqProofs only [s1,s2,s3,s4,s5,s6,ltF hge,List.take_of_length_le hge,e,vCs,encC_len,hlL,go_sem,reduceCtorEq,rdA,rdM,rdL,rdT,rdE,rdN,↓gTT,↓gFF,↓gTF,↓gFT]
theorem nb10:decide ((1:Int)=0)=false:=rfl
def linV (vals:List Int):List Mono→Int
 | []=>0
 | m::l=>m.k*valOf vals m.v+linV vals l
theorem linV_app (vals:List Int):∀ a b:List Mono,linV vals (a++b)=linV vals a+linV vals b
 | [],b=>by simp [linV]
 | m::a,b=>by simp only [List.cons_append,linV,linV_app vals a b];omega
theorem linV_bound {vals:List Int} (h:vals.any outB=false):∀ {l:List Mono},(∀ m∈l,okM m=true)→-(l.length*2251799813685248:Int)≤linV vals l∧linV vals l≤l.length*2251799813685248
 | [],_=>by simp [linV]
 | m::l,hm=>by
  have h1:=linV_bound h (l:=l) fun x hx=>hm x (List.mem_cons_of_mem _ hx)
  have h2:=term_bound h (hm m List.mem_cons_self)
  simp only [linV,List.length_cons]
  omega
def toldE (c:Int) (l:List Mono) (vals:List Int):Int:=
 if okT c l=false then 1 else if l.any (fun m=>decide ((vals.length:Int)≤m.v))=true then 5 else if vals.any outB=true then 1 else 0
theorem told_parts {c:Int} {l:List Mono} {vals:List Int} (h:toldE c l vals=0):okT c l=true∧(∀ m∈l,0≤m.v∧m.v<vals.length)∧vals.any outB=false∧∀ m∈l,okM m=true:=by
 unfold toldE at h
 split at h
 ·omega
 ·rename_i h1
  split at h
  ·omega
  ·rename_i h2
   split at h
   ·omega
   ·rename_i h3
    have ho:okT c l=true:=by simpa using h1
    have hall:=(okC_parts (x:=⟨⟨c,l⟩,false⟩) ho).2.2
    refine ⟨ho,fun m hm=>?_,by simpa using h3,hall⟩
    have h4:=(okM_spec.1 (hall m hm)).1
    have h5:=List.any_eq_false.1 (by simpa using h2:l.any (fun m=>decide ((vals.length:Int)≤m.v))=false) m hm
    simp at h5;omega
theorem rValue_ok (c:Int) (l:List Mono) (vals:List Int) (h0:toldE c l vals=0) (hv:vals.length≤1000000):VPure FT p80 [.agg [.int .i64 c,.fz l.length none 2 (encM l)],.fz vals.length none 1 (encI vals)] (.int .i64 (c+linV vals l)):=by
 refine vpure_of_body (f:=p80) rfl rfl ?_
 obtain ⟨hok,hrg,h3,hms⟩:=told_parts h0
 obtain ⟨⟨hc1,hc2⟩,h40,_⟩:=okC_parts (x:=⟨⟨c,l⟩,false⟩) hok
 simp only at hc1 hc2 h40
 simp -implicitDefEqProofs only [go_sem,reduceCtorEq,rdA,rdM,rdL,rdT,rdE,rdN,↓gTT,↓gFF,↓gTF,↓gFT]
 refine wLoop_by (fun n s=>∃ i:Nat,i+n=l.length∧At s [(p1,.fz vals.length none 1 (encI vals)),(p2,.var [.int .i64 c,.fz l.length none 2 (encM l)]),(p5,.int .i64 (c+linV vals (l.take i))),(p6,.int .i64 i)] 0 0 []) l.length ?_ ?_
 ·exact ⟨0,by simp,by simp -implicitDefEqProofs only [go_sem,reduceCtorEq,rdA,rdM,rdL,rdT,rdE,rdN,↓gTT,↓gFF,↓gTF,↓gFT];simp [linV]⟩
 ·rintro n ⟨e',nx,w,h⟩ ⟨i,hi,⟨a1,a2,a3,a4,-⟩,rfl,rfl,rfl⟩
  rcases Nat.lt_or_ge i l.length with hlt|hge
  ·obtain ⟨m,hm⟩:=has hlt
   have hmm:=List.mem_of_getElem? hm
   obtain ⟨r1,r2⟩:=hrg m hmm
   obtain ⟨y,hy⟩:∃ y,vals[m.v.toNat]?=some y:=has (by omega)
   have hval:valOf vals m.v=y:=by unfold valOf;rw [hy];rfl
   have hb1:=linV_bound h3 (l:=l.take i) fun x hx=>hms x (List.mem_of_mem_take hx)
   have hb2:=term_bound h3 (hms m hmm)
   have hlen:(l.take i).length≤40:=by rw [List.length_take];omega
   rw [hval] at hb2
   have hw1:IntKind.i64.wrap (m.k*y)=m.k*y:=i64 (by omega)
   have hw2:IntKind.i64.wrap (c+linV vals (l.take i)+m.k*y)=c+linV vals (l.take i)+m.k*y:=i64 (by omega)
   simp -implicitDefEqProofs only [a1,a2,a3,a4,ltT hlt,encM_g0 hm,encM_g1 hm,encM_len,inc64 hlt (by omega:l.length≤4611686018427387904),Nat.mul_one,encI_g hy,hw1,hw2,go_sem,reduceCtorEq,rdA,rdM,rdL,rdT,rdE,rdN,↓gTT,↓gFF,↓gTF,↓gFT]
   refine ⟨⟨by omega,by omega⟩,⟨by omega,by omega⟩,⟨by omega,by omega⟩,n-1,by omega,i+1,by omega,?_,rfl⟩
   rw [take_snoc hm,linV_app];simp only [linV,hval,Int.add_zero];rw [Int.add_assoc]
  ·simp -implicitDefEqProofs only [a1,a2,a3,a4,ltF hge,List.take_of_length_le hge,go_sem,reduceCtorEq,rdA,rdM,rdL,rdT,rdE,rdN,↓gTT,↓gFF,↓gTF,↓gFT]
def equalR (x:Cons) (v:Int):Int × List Mono × Int:=
 if rightB [x] v=false then (0,[],1) else if (!x.eq||!oneB (kOf x.t.l v))=true then (0,[],11)
 else scaleR (putR x.t.c x.t.l v 0 []).1 (putR x.t.c x.t.l v 0 []).2.1 (-(kOf x.t.l v))
theorem Equal_ok (x:Cons) (v:Int) (hx:x.t.l.length≤400000):VPure FT p28 [.agg (cC x),.int .i64 v] (vTE (equalR x v)):=by
 refine vpure_of_body' (f:=p28) rfl rfl ?_
 have hR:=right_ok [x] v ⟨by simp,by intro y hy;simp at hy;subst hy;omega⟩
 simp only [encC,List.append_nil,List.length_cons,List.length_nil,Nat.zero_add] at hR
 cases h1:rightB [x] v with
 | false=>
  have e:equalR x v=(0,[],1):=by unfold equalR;rw [if_pos h1]
  rw [h1] at hR
  rw [e]
  simp -implicitDefEqProofs only [vTE,encM,go_sem,reduceCtorEq,rdA,rdM,rdL,rdT,rdE,rdN,↓gTT,↓gFF,↓gTF,↓gFT]
  repeat' (first|(with_reducible refine And.intro ?_ ?_)|(with_reducible refine gs_t ?_ ?_)|(with_reducible refine gs_f ?_ ?_)|(intro _)|((with_reducible apply wCall_any);(· (simp -implicitDefEqProofs only [go_sem,reduceCtorEq,rdA,rdM,rdL,rdT,rdE,rdN,↓gTT,↓gFF,↓gTF,↓gFT]<;>rfl));(· (first|exact K_ok _ _ _ (by omega)|exact hR));(· rfl);(· rfl);(· (first|exact Eq.refl true|exact Eq.refl false));(simp -implicitDefEqProofs only [Bool.not_false,encM,go_sem,reduceCtorEq,rdA,rdM,rdL,rdT,rdE,rdN,↓gTT,↓gFF,↓gTF,↓gFT]))|fail)
 | true=>
 rw [h1] at hR
 cases h2:(!x.eq||!oneB (kOf x.t.l v)) with
 | true=>
  have e:equalR x v=(0,[],11):=by unfold equalR;rw [if_neg (by rw [h1];simp),if_pos h2]
  rw [e]
  simp -implicitDefEqProofs only [vTE,encM,go_sem,reduceCtorEq,rdA,rdM,rdL,rdT,rdE,rdN,↓gTT,↓gFF,↓gTF,↓gFT]
  repeat' (first|(with_reducible refine And.intro ?_ ?_)|(with_reducible refine gs_t ?_ ?_)|(with_reducible refine gs_f ?_ ?_)|(intro _)|((with_reducible apply wCall_any);(· (simp -implicitDefEqProofs only [go_sem,reduceCtorEq,rdA,rdM,rdL,rdT,rdE,rdN,↓gTT,↓gFF,↓gTF,↓gFT]<;>rfl));(· (first|exact K_ok _ _ _ (by omega)|exact hR|exact one_ok _));(· rfl);(· rfl);(· (first|exact Eq.refl true|exact Eq.refl false));(simp -implicitDefEqProofs only [Bool.not_true,encM,go_sem,reduceCtorEq,rdA,rdM,rdL,rdT,rdE,rdN,↓gTT,↓gFF,↓gTF,↓gFT]))|fail)
  all_goals first|trivial|(rename_i a b;rw [a,b] at h2;cases h2)
 | false=>
  have hok:okC x=true:=by
   simp only [rightB,Bool.and_eq_true] at h1
   exact List.all_eq_true.1 h1.2 x (by simp)
  have hkb:=kOf_bound v (okC_parts hok).2.2
  have hw:IntKind.i64.wrap (-(kOf x.t.l v))=-(kOf x.t.l v):=i64 (by omega)
  obtain ⟨P,hP⟩:∃ P,P=putR x.t.c x.t.l v 0 []:=⟨_,rfl⟩
  have e:equalR x v=scaleR P.1 P.2.1 (-(kOf x.t.l v)):=by unfold equalR;rw [if_neg (by rw [h1];simp),if_neg (by rw [h2];simp),hP]
  have hPut:=Put_ok x.t.c x.t.l v 0 [] hx (by simp)
  have hPl:P.2.1.length≤400000:=by rw [hP];have:=putR_len x.t.c x.t.l v 0 [];simp at this;omega
  rw [←hP] at hPut
  simp only [encM,List.length_nil] at hPut
  have hS:=Scale_ok P.1 P.2.1 (-(kOf x.t.l v)) (by omega)
  have e1:x.eq=true:=by simp at h2;exact h2.1
  have e2:oneB (kOf x.t.l v)=true:=by simp at h2;exact h2.2
  rw [e]
  simp -implicitDefEqProofs only [vTE,e1,go_sem,reduceCtorEq,rdA,rdM,rdL,rdT,rdE,rdN,↓gTT,↓gFF,↓gTF,↓gFT]
  simp only [e1] at hR
  repeat' (first|(with_reducible refine And.intro ?_ ?_)|(with_reducible refine gs_t ?_ ?_)|(with_reducible refine gs_f ?_ ?_)|(intro _)|((with_reducible apply wCall_any);(· (simp -implicitDefEqProofs only [go_sem,reduceCtorEq,rdA,rdM,rdL,rdT,rdE,rdN,↓gTT,↓gFF,↓gTF,↓gFT]<;>rfl));(· (first|exact K_ok _ _ _ (by omega)|exact hR|exact one_ok _));(· rfl);(· rfl);(· (first|exact Eq.refl true|exact Eq.refl false));(simp -implicitDefEqProofs only [Bool.not_true,e1,e2,go_sem,reduceCtorEq,rdA,rdM,rdL,rdT,rdE,rdN,↓gTT,↓gFF,↓gTF,↓gFT]))|fail)
  refine wCall_wk (args':=[.agg [.int .i64 x.t.c,.fz x.t.l.length none 2 (encM x.t.l)],.int .i64 v,.agg [.int .i64 0,.fz 0 none 2 []]]) (by simp [wkL,wk]) ?_
  repeat' (first|(with_reducible refine And.intro ?_ ?_)|(with_reducible refine gs_t ?_ ?_)|(with_reducible refine gs_f ?_ ?_)|(intro _)|((with_reducible apply wCall_any);(· (simp -implicitDefEqProofs only [go_sem,reduceCtorEq,rdA,rdM,rdL,rdT,rdE,rdN,↓gTT,↓gFF,↓gTF,↓gFT]<;>rfl));(· (first|exact hPut|exact hS));(· rfl);(· rfl);(· (first|exact Eq.refl true|exact Eq.refl false));(simp -implicitDefEqProofs only [vTE,hw,go_sem,reduceCtorEq,rdA,rdM,rdL,rdT,rdE,rdN,↓gTT,↓gFF,↓gTF,↓gFT]))|fail)
def sumW (f:Int→Int):Nat→Int
 | 0=>0
 | n+1=>sumW f n+f n
theorem sumW_add (f g:Int→Int):∀ n,sumW (fun w=>f w+g w) n=sumW f n+sumW g n
 | 0=>rfl
 | n+1=>by simp only [sumW,sumW_add f g n];omega
theorem sumW_mul (f:Int→Int) (c:Int):∀ n,sumW (fun w=>f w*c) n=sumW f n*c
 | 0=>by simp [sumW]
 | n+1=>by simp only [sumW,sumW_mul f c n,Int.add_mul]
theorem sumW_congr {f g:Int→Int}:∀ n:Nat,(∀ w:Int,0≤w→w<n→f w=g w)→sumW f n=sumW g n
 | 0,_=>rfl
 | n+1,h=>by rw [sumW,sumW,sumW_congr n fun w h0 hw=>h w h0 (by omega),h n (by omega) (by omega)]
theorem sumW_one (v:Int) (x:Int):∀ n:Nat,0≤v→sumW (fun w=>if w=v then x else 0) n=if v<n then x else 0
 | 0,h=>by simp [sumW];omega
 | n+1,h=>by
  rw [sumW,sumW_one v x n h]
  by_cases h1:v<n
  ·rw [if_pos h1,if_neg (by omega),if_pos (by omega)];omega
  ·by_cases h2:(n:Int)=v
   ·rw [if_neg h1,if_pos h2,if_pos (by omega)];omega
   ·rw [if_neg h1,if_neg h2,if_neg (by omega)];rfl
theorem linV_eq (vals:List Int):∀ {l:List Mono} {p:Option Int},okFrom p l=true→linV vals l=sumW (fun w=>kOf l w*valOf vals w) 40
 | [],_,_=>by rw [sumW_congr (g:=fun _=>0*0) 40 (fun w _ _=>by simp [kOf])];rfl
 | m::l,p,h=>by
  obtain ⟨h1,h2,h3⟩:=okFrom_cons.1 h
  have hm:=okM_spec.1 h1
  rw [linV,linV_eq vals h3]
  have e:sumW (fun w=>kOf (m::l) w*valOf vals w) 40=sumW (fun w=>kOf l w*valOf vals w+(if w=m.v then m.k*valOf vals m.v else 0)) 40:=by
   refine sumW_congr 40 fun w _ _=>?_
   by_cases hw:m.v=w
   ·subst hw
    rw [kOf,if_pos rfl,kOf_low h3 (Int.le_refl _),if_pos rfl];omega
   ·rw [kOf,if_neg hw,if_neg (fun h=>hw h.symm)];omega
  rw [e,sumW_add,sumW_one _ _ _ hm.1,if_pos (by omega)];omega
def valF (c:Int) (f:Int→Int) (vals:List Int):Int:=c+sumW (fun w=>f w*valOf vals w) 40
theorem val_eq {c:Int} {l:List Mono} (h:okT c l=true) (vals:List Int):c+linV vals l=valF c (kOf l) vals:=by
 unfold valF;rw [linV_eq vals (okT_spec.1 h).2.2.2]
theorem kOf_del (v w:Int):∀ l:List Mono,kOf (delM v l) w=if w=v then 0 else kOf l w
 | []=>by simp [delM,kOf]
 | m::l=>by
  have ih:=kOf_del v w l
  unfold delM at ih ⊢
  by_cases hm:m.v=v
  ·rw [List.filter_cons_of_neg (by simp [hm]),ih,kOf]
   by_cases hw:w=v
   ·rw [if_pos hw,if_pos hw]
   ·rw [if_neg hw,if_neg hw,if_neg (by omega)]
  ·rw [List.filter_cons_of_pos (by simp [hm]),kOf,ih,kOf]
   by_cases hw:m.v=w
   ·rw [if_pos hw,if_pos hw,if_neg (by omega)]
   ·rw [if_neg hw,if_neg hw]
theorem okFrom_mono:∀ {l:List Mono} {p q:Option Int},okFrom p l=true→(∀ a,q=some a→∀ m∈l,a<m.v)→okFrom q l=true
 | [],_,_,_,_=>rfl
 | m::l,p,q,h,hq=>by
  obtain ⟨h1,h2,h3⟩:=okFrom_cons.1 h
  exact okFrom_cons.2 ⟨h1,fun a ha=>hq a ha m List.mem_cons_self,h3⟩
theorem okFrom_del (v:Int):∀ {l:List Mono} {p:Option Int},okFrom p l=true→okFrom p (delM v l)=true
 | [],_,_=>rfl
 | m::l,p,h=>by
  obtain ⟨h1,h2,h3⟩:=okFrom_cons.1 h
  have ih:=okFrom_del v h3
  unfold delM at ih ⊢
  by_cases hm:m.v=v
  ·rw [List.filter_cons_of_neg (by simp [hm])]
   refine okFrom_mono ih fun a ha x hx=>?_
   have h4:=okFrom_lt h3 x (List.mem_filter.1 hx).1
   have h5:=h2 a ha
   omega
  ·rw [List.filter_cons_of_pos (by simp [hm])];exact okFrom_cons.2 ⟨h1,h2,ih⟩
theorem okT_del (v:Int) {c:Int} {l:List Mono} (h:okT c l=true):okT c (delM v l)=true:=by
 obtain ⟨h1,h2,h3,h4⟩:=okT_spec.1 h
 exact okT_spec.2 ⟨h1,h2,Nat.le_trans (delM_len v l) h3,okFrom_del v h4⟩
theorem addR_spec {c d:Int} {a b:List Mono} (h1:okT c a=true) (h2:okT d b=true):
 ((addR c a d b).2.2=0∧okT (addR c a d b).1 (addR c a d b).2.1=true∧(addR c a d b).1=c+d∧∀ w,kOf (addR c a d b).2.1 w=kOf a w+kOf b w)∨(addR c a d b).2.2=12:=by
 obtain ⟨a1,a2,a3,a4⟩:=okT_spec.1 h1
 obtain ⟨b1,b2,b3,b4⟩:=okT_spec.1 h2
 unfold addR
 rw [if_neg (by simp [h1,h2])]
 split
 ·rename_i ho
  refine .inl ⟨rfl,ho,i64 (by omega),fun w=>kOf_sum w _ _ none none a4 b4⟩
 ·exact .inr rfl
theorem putR_spec {c d v:Int} {a b:List Mono} (h1:okT c a=true) (h2:okT d b=true):
 ((putR c a v d b).2.2=0∧okT (putR c a v d b).1 (putR c a v d b).2.1=true∧(putR c a v d b).1=c+d*kOf a v∧∀ w,kOf (putR c a v d b).2.1 w=(if w=v then 0 else kOf a w)+kOf b w*kOf a v)∨(putR c a v d b).2.2=12:=by
 unfold putR
 rw [if_neg (by simp [h1,h2])]
 rcases scaleR_spec (k:=kOf a v) h2 with ⟨s1,s2,s3,s4⟩|s1
 ·rw [if_neg (by simp [s1])]
  rcases addR_spec (okT_del v h1) s2 with ⟨r1,r2,r3,r4⟩|r1
  ·refine .inl ⟨r1,r2,by rw [r3,s3],fun w=>?_⟩
   rw [r4,kOf_del,s4]
  ·exact .inr r1
 ·rw [if_pos (by simp [s1])];exact .inr s1
theorem sumM_nil:∀ {l:List Mono} {p:Option Int},okFrom p l=true→sumM l []=l
 | [],_,_=>by simp [sumM]
 | m::l,p,h=>by
  obtain ⟨h1,h2,h3⟩:=okFrom_cons.1 h
  rw [sumM,sumM_nil h3,keepM,if_neg (okM_spec.1 h1).2.2.1]
theorem putR_nil {c v:Int} {a:List Mono} (h:okT c a=true):putR c a v 0 []=(c,delM v a,0):=by
 obtain ⟨a1,a2,a3,a4⟩:=okT_spec.1 h
 have h0:okT 0 []=true:=rfl
 have hs:scaleR 0 [] (kOf a v)=(0,[],0):=by
  unfold scaleR
  rw [if_neg (by simp [h0])]
  have:timesP 0 (kOf a v) 1099511627776=(0,true):=by unfold timesP;rw [if_pos (.inl rfl)]
  rw [this];rfl
 unfold putR
 rw [if_neg (by simp [h,h0]),hs,if_neg (by simp)]
 have hd:=okT_del v h
 have hw:IntKind.i64.wrap (c+0)=c:=by rw [i64 (by omega)];omega
 unfold addR
 rw [if_neg (by simp [hd,h0]),sumM_nil (okT_spec.1 hd).2.2.2,hw,if_pos hd]
theorem times_unit {a k most:Int} (hm:1≤most∧most≤4611686018427387904) (ha:-most≤a∧a≤most) (hk:k=1∨k=-1):(timesP a k most).2=true:=by
 unfold timesP
 split
 ·rfl
 ·rename_i h
  have h1:roomB a most=true:=by simp [roomB];omega
  have h2:roomB k most=true:=by simp [roomB];omega
  rw [if_neg (by rw [h1,h2];simp)]
  have:max k (-k)=1:=by omega
  rw [this,Int.tdiv_one]
  simp;omega
theorem equalR_spec {x:Cons} {v:Int} (hx:okC x=true) (hv:0≤v∧v<40) (he:x.eq=true) (hk:oneB (kOf x.t.l v)=true):
 (equalR x v).2.2=0∧okT (equalR x v).1 (equalR x v).2.1=true∧(equalR x v).1=x.t.c*(-(kOf x.t.l v))∧∀ w,kOf (equalR x v).2.1 w=(if w=v then 0 else kOf x.t.l w)*(-(kOf x.t.l v)):=by
 have hr:rightB [x] v=true:=by simp [rightB,hx,hv.1,hv.2]
 have hk':kOf x.t.l v=1∨kOf x.t.l v=-1:=by simpa [oneB] using hk
 have ho:okT x.t.c x.t.l=true:=hx
 unfold equalR
 rw [if_neg (by simp [hr]),if_neg (by simp [he,hk]),putR_nil ho]
 have hd:=okT_del v ho
 obtain ⟨a1,a2,a3,a4⟩:=okT_spec.1 hd
 rcases scaleR_spec (k:=-(kOf x.t.l v)) hd with ⟨s1,s2,s3,s4⟩|s1
 ·refine ⟨s1,s2,s3,fun w=>?_⟩
  rw [s4,kOf_del]
 ·exfalso
  have:(scaleR x.t.c (delM v x.t.l) (-(kOf x.t.l v))).2.2=0:=by
   unfold scaleR
   rw [if_neg (by simp [hd]),if_pos]
   rw [Bool.and_eq_true]
   refine ⟨times_unit (by omega) ⟨a1,a2⟩ (by omega),?_⟩
   unfold scaleB
   rw [List.all_eq_true]
   intro m hm
   have:=okM_spec.1 (okFrom_ok a4 m hm)
   exact times_unit (by omega) (by omega) (by omega)
  rw [this] at s1;omega
theorem magI_eq {n:Int} (h:-4611686018427387904≤n∧n≤4611686018427387904):magI n=max n (-n):=by
 unfold magI
 split
 ·rw [i64 (by omega)];omega
 ·omega
theorem in_tdiv {a m k:Int} (hm:0≤m) (hk:0<k):inB a ((-m).tdiv k) (m.tdiv k)=decide (max a (-a)≤m.tdiv k):=by
 unfold inB
 rw [Int.neg_tdiv]
 by_cases h:max a (-a)≤m.tdiv k
 ·rw [decide_eq_true h];simp;omega
 ·rw [decide_eq_false h];simp;omega
theorem inB_room (a m:Int):inB a (-m) m=roomB a m:=rfl
theorem rroom_ok (a k most:Int) (hm:0<most∧most≤4611686018427387904):VPure FT p81 [.int .i64 a,.int .i64 k,.int .i64 most] (.bool (timesP a k most).2):=by
 refine vpure_of_body (f:=p81) rfl rfl ?_
 by_cases ha:a=0
 ·have d1:decide (a=0)=true:=by simpa using ha
  have e:timesP a k most=(0,true):=by unfold timesP;rw [if_pos (.inl ha)]
  simp -implicitDefEqProofs only [d1,e,go_sem,reduceCtorEq,rdA,rdM,rdL,rdT,rdE,rdN,↓gTT,↓gFF,↓gTF,↓gFT]
 have d1:decide (a=0)=false:=by simpa using ha
 by_cases hk:k=0
 ·have d2:decide (k=0)=true:=by simpa using hk
  have e:timesP a k most=(0,true):=by unfold timesP;rw [if_pos (.inr hk)]
  simp -implicitDefEqProofs only [d1,d2,e,go_sem,reduceCtorEq,rdA,rdM,rdL,rdT,rdE,rdN,↓gTT,↓gFF,↓gTF,↓gFT]
 have d2:decide (k=0)=false:=by simpa using hk
 have hab:¬ (a=0∨k=0):=by omega
 have w0:IntKind.i64.wrap (-most)=-most:=i64 (by omega)
 cases hra:roomB a most with
 | false=>
  have e:(timesP a k most).2=false:=by unfold timesP;rw [if_neg hab,if_pos (.inl hra)]
  have hin:inB a (-most) most=false:=by rw [inB_room,hra]
  simp -implicitDefEqProofs only [d1,d2,e,w0,go_sem,reduceCtorEq,rdA,rdM,rdL,rdT,rdE,rdN,↓gTT,↓gFF,↓gTF,↓gFT]
  repeat' (first|(with_reducible refine And.intro ?_ ?_)|(with_reducible refine gs_t ?_ ?_)|(with_reducible refine gs_f ?_ ?_)|(intro _)|((with_reducible apply wCall_any);(· (simp -implicitDefEqProofs only [go_sem,reduceCtorEq,rdA,rdM,rdL,rdT,rdE,rdN,↓gTT,↓gFF,↓gTF,↓gFT]<;>rfl));(· (exact in_ok _ _ _));(· rfl);(· rfl);(· (first|exact Eq.refl true|exact Eq.refl false));(simp -implicitDefEqProofs only [hin,w0,go_sem,reduceCtorEq,rdA,rdM,rdL,rdT,rdE,rdN,↓gTT,↓gFF,↓gTF,↓gFT]))|fail)
 | true=>
  have hin:inB a (-most) most=true:=by rw [inB_room,hra]
  cases hrb:roomB k most with
  | false=>
   have e:(timesP a k most).2=false:=by unfold timesP;rw [if_neg hab,if_pos (.inr hrb)]
   have hin2:inB k (-most) most=false:=by rw [inB_room,hrb]
   simp -implicitDefEqProofs only [d1,d2,e,w0,go_sem,reduceCtorEq,rdA,rdM,rdL,rdT,rdE,rdN,↓gTT,↓gFF,↓gTF,↓gFT]
   repeat' (first|(with_reducible refine And.intro ?_ ?_)|(with_reducible refine gs_t ?_ ?_)|(with_reducible refine gs_f ?_ ?_)|(intro _)|((with_reducible apply wCall_any);(· (simp -implicitDefEqProofs only [go_sem,reduceCtorEq,rdA,rdM,rdL,rdT,rdE,rdN,↓gTT,↓gFF,↓gTF,↓gFT]<;>rfl));(· (exact in_ok _ _ _));(· rfl);(· rfl);(· (first|exact Eq.refl true|exact Eq.refl false));(simp -implicitDefEqProofs only [hin,hin2,w0,go_sem,reduceCtorEq,rdA,rdM,rdL,rdT,rdE,rdN,↓gTT,↓gFF,↓gTF,↓gFT]))|fail)
  | true=>
   have hin2:inB k (-most) most=true:=by rw [inB_room,hrb]
   have rb:=hrb
   simp only [roomB,Bool.and_eq_true,decide_eq_true_eq] at rb
   have hmag:magI k=max k (-k):=magI_eq (by omega)
   have hkp:0<max k (-k):=by omega
   have b1:=tdiv_bound' most (max k (-k)) hkp (by omega)
   have w1:IntKind.i64.wrap ((-most).tdiv (max k (-k)))=(-most).tdiv (max k (-k)):=by rw [Int.neg_tdiv];exact i64 (by omega)
   have w2:IntKind.i64.wrap (most.tdiv (max k (-k)))=most.tdiv (max k (-k)):=i64 (by omega)
   have hin3:=in_tdiv (a:=a) (m:=most) (k:=max k (-k)) (by omega) hkp
   have e:(timesP a k most).2=decide (max a (-a)≤most.tdiv (max k (-k))):=by unfold timesP;rw [if_neg hab,if_neg (by rw [hra,hrb];simp)]
   have hM:=mag_ok k
   rw [hmag] at hM
   simp -implicitDefEqProofs only [d1,d2,e,w0,go_sem,reduceCtorEq,rdA,rdM,rdL,rdT,rdE,rdN,↓gTT,↓gFF,↓gTF,↓gFT]
   repeat' (first|(with_reducible refine And.intro ?_ ?_)|(with_reducible refine gs_t ?_ ?_)|(with_reducible refine gs_f ?_ ?_)|(intro _)|((with_reducible apply wCall_any);(· (simp -implicitDefEqProofs only [go_sem,reduceCtorEq,rdA,rdM,rdL,rdT,rdE,rdN,↓gTT,↓gFF,↓gTF,↓gFT]<;>rfl));(· (first|exact in_ok _ _ _|exact hM));(· rfl);(· rfl);(· (first|exact Eq.refl true|exact Eq.refl false));(simp -implicitDefEqProofs only [hin,hin2,hin3,w0,w1,w2,go_sem,reduceCtorEq,rdA,rdM,rdL,rdT,rdE,rdN,↓gTT,↓gFF,↓gTF,↓gFT]))|fail)
   all_goals omega
def vTB (r:Int × List Mono × Int):VV:=.tup [.agg [.int .i64 r.1,.fz r.2.1.length none 2 (encM r.2.1)],.bool (decide (r.2.2=0))]
def rscaleL (k:Int) (l:List Mono):List Mono:=l.map fun m=>⟨m.v,IntKind.i64.wrap (m.k*k)⟩
theorem rscale_eq {k:Int} (hk:k≠0):∀ {l:List Mono} {p:Option Int},okFrom p l=true→scaleB k l=true→scaleL k l=rscaleL k l
 | [],_,_,_=>rfl
 | m::l,p,h,hs=>by
  obtain ⟨h1,h2,h3⟩:=okFrom_cons.1 h
  have hs1:(timesP m.k k 1048576).2=true:=by simp [scaleB] at hs;exact hs.1
  have hs2:scaleB k l=true:=by simp [scaleB] at hs ⊢;exact hs.2
  have hm:=okM_spec.1 h1
  have ht:=times_spec (by omega) hs1
  have hw:IntKind.i64.wrap (m.k*k)=m.k*k:=i64 (by omega)
  have hne:m.k*k≠0:=Int.mul_ne_zero hm.2.2.1 hk
  rw [scaleL,if_neg (by rw [ht.1];exact hne),rscale_eq hk h3 hs2,ht.1]
  unfold rscaleL
  rw [List.map_cons,hw]
theorem scaleL_zero:∀ l:List Mono,scaleL 0 l=[]
 | []=>rfl
 | m::l=>by
  have:timesP m.k 0 1048576=(0,true):=by unfold timesP;rw [if_pos (.inr rfl)]
  rw [scaleL,this,if_pos rfl,scaleL_zero l]
theorem scaleB_zero (l:List Mono):scaleB 0 l=true:=by
 unfold scaleB
 rw [List.all_eq_true]
 intro m _
 unfold timesP;rw [if_pos (.inr rfl)]
set_option maxHeartbeats 1000000 in
theorem rScale_ok (c:Int) (l:List Mono) (k:Int) (ho:okT c l=true):VPure FT p42 [.agg [.int .i64 c,.fz l.length none 2 (encM l)],.int .i64 k] (vTB (scaleR c l k)):=by
 refine vpure_of_body' (f:=p42) rfl rfl ?_
 obtain ⟨o1,o2,o3,o4⟩:=okT_spec.1 ho
 by_cases hk:k=0
 ·subst hk
  have e:scaleR c l 0=(0,[],0):=by
   have:timesP c 0 1099511627776=(0,true):=by unfold timesP;rw [if_pos (.inr rfl)]
   unfold scaleR;rw [if_neg (by simp [ho]),this,scaleB_zero,scaleL_zero];rfl
  rw [e]
  simp -implicitDefEqProofs only [vTB,encM,List.length_nil,s0eq,go_sem,reduceCtorEq,rdA,rdM,rdL,rdT,rdE,rdN,↓gTT,↓gFF,↓gTF,↓gFT]
 have dk:decide (k=0)=false:=by simpa using hk
 have hS:scaleR c l k=if ((timesP c k 1099511627776).2&&scaleB k l)=true then ((timesP c k 1099511627776).1,scaleL k l,0) else (0,[],12):=by unfold scaleR;rw [if_neg (by simp [ho])]
 have d12:decide ((12:Int)=0)=false:=rfl
 cases hc:(timesP c k 1099511627776).2 with
 | false=>
  rw [hS,hc,Bool.false_and,if_neg (by simp)]
  simp -implicitDefEqProofs only [vTB,encM,List.length_nil,d12,dk,go_sem,reduceCtorEq,rdA,rdM,rdL,rdT,rdE,rdN,↓gTT,↓gFF,↓gTF,↓gFT]
  repeat' (first|(with_reducible refine And.intro ?_ ?_)|(with_reducible refine gs_t ?_ ?_)|(with_reducible refine gs_f ?_ ?_)|(intro _)|((with_reducible apply wCall_any);(· (simp -implicitDefEqProofs only [go_sem,reduceCtorEq,rdA,rdM,rdL,rdT,rdE,rdN,↓gTT,↓gFF,↓gTF,↓gFT]<;>rfl));(· (exact rroom_ok _ _ _ (by omega)));(· rfl);(· rfl);(· (first|exact Eq.refl true|exact Eq.refl false));(simp -implicitDefEqProofs only [hc,Bool.not_false,go_sem,reduceCtorEq,rdA,rdM,rdL,rdT,rdE,rdN,↓gTT,↓gFF,↓gTF,↓gFT]))|fail)
 | true=>
  rw [hc,Bool.true_and] at hS
  have htc:=times_spec (by omega) hc
  have hw0:IntKind.i64.wrap (c*k)=c*k:=i64 (by omega)
  simp -implicitDefEqProofs only [dk,go_sem,reduceCtorEq,rdA,rdM,rdL,rdT,rdE,rdN,↓gTT,↓gFF,↓gTF,↓gFT]
  repeat' (first|(with_reducible refine And.intro ?_ ?_)|(with_reducible refine gs_t ?_ ?_)|(with_reducible refine gs_f ?_ ?_)|(intro _)|((with_reducible apply wCall_any);(· (simp -implicitDefEqProofs only [go_sem,reduceCtorEq,rdA,rdM,rdL,rdT,rdE,rdN,↓gTT,↓gFF,↓gTF,↓gFT]<;>rfl));(· (exact rroom_ok _ _ _ (by omega)));(· rfl);(· rfl);(· (first|exact Eq.refl true|exact Eq.refl false));(simp -implicitDefEqProofs only [hc,Bool.not_true,hw0,go_sem,reduceCtorEq,rdA,rdM,rdL,rdT,rdE,rdN,↓gTT,↓gFF,↓gTF,↓gFT]))|fail)
  refine wLoop_ownV p6 1 2 (by simp -implicitDefEqProofs only [go_sem,reduceCtorEq,rdA,rdM,rdL,rdT,rdE,rdN,↓gTT,↓gFF,↓gTF,↓gFT];rfl) (by rfl) ?_
  simp -implicitDefEqProofs only [go_sem,reduceCtorEq,rdA,rdM,rdL,rdT,rdE,rdN,↓gTT,↓gFF,↓gTF,↓gFT]
  refine wLoop_dr (fun n s=>∃ i m:Nat,i+n=l.length∧At s [(p1,.int .i64 k),(p2,.var [.int .i64 c,.fz l.length none 2 (encM l)]),(p4,.var [.int .i64 0,.nils]),(p6,.var [.int .i64 (c*k),.ow 0 (rscaleL k (l.take i)).length 2]),(p7,.int .i64 i)] (m+1) 0 [(0,.row (encM (rscaleL k (l.take i))))]∧
   scaleB k (l.take i)=true) l.length ?_ ?_
  ·exact ⟨0,0,by simp,by simp -implicitDefEqProofs only [go_sem,reduceCtorEq,rdA,rdM,rdL,rdT,rdE,rdN,↓gTT,↓gFF,↓gTF,↓gFT];simp [rscaleL,encM],by simp [scaleB]⟩
  ·rintro n ⟨e,nx,w,h⟩ ⟨i,mm,hi,⟨⟨s1,s2,s3,s4,s5,-⟩,rfl,rfl,rfl⟩,hb⟩
   rcases Nat.lt_or_ge i l.length with hlt|hge
   ·obtain ⟨m,hm⟩:=has hlt
    have hmm:=List.mem_of_getElem? hm
    have ht:=take_snoc hm
    have hrl:(rscaleL k (l.take i)).length=i:=by unfold rscaleL;rw [List.length_map,List.length_take];omega
    rw [hrl] at s4
    simp -implicitDefEqProofs only [s1,s2,s3,s4,s5,ltT hlt,encM_g0 hm,encM_g1 hm,encM_len,hrl,inc64 hlt (by omega:l.length≤4611686018427387904),go_sem,reduceCtorEq,rdA,rdM,rdL,rdT,rdE,rdN,↓gTT,↓gFF,↓gTF,↓gFT]
    refine ⟨⟨by omega,by omega⟩,?_⟩
    refine wCall_pp (r:=.bool (timesP m.k k 1048576).2) rfl (rroom_ok m.k k 1048576 (by omega)) rfl ?_
    cases hmk:(timesP m.k k 1048576).2 with
    | false=>
     have hfin:scaleB k l=false:=by
      unfold scaleB;rw [List.all_eq_false];exact ⟨m,hmm,by simp [hmk]⟩
     rw [hS,hfin,if_neg (by simp)]
     simp -implicitDefEqProofs only [vTB,encM,List.length_nil,d12,Bool.not_false,go_sem,reduceCtorEq,rdA,rdM,rdL,rdT,rdE,rdN,↓gTT,↓gFF,↓gTF,↓gFT]
    | true=>
     simp -implicitDefEqProofs only [Bool.not_true,encM_g0 hm,encM_g1 hm,encM_len,hrl,inc64 hlt (by omega:l.length≤4611686018427387904),go_sem,reduceCtorEq,rdA,rdM,rdL,rdT,rdE,rdN,↓gTT,↓gFF,↓gTF,↓gFT]
     have hrl2:(rscaleL k (l.take (i+1))).length=i+1:=by unfold rscaleL;rw [List.length_map,List.length_take];omega
     refine ⟨⟨by omega,by omega⟩,⟨by omega,by omega⟩,by omega,n-1,by omega,_,subH_tail (by simp [hget]),i+1,mm+1,by omega,⟨⟨?_,rfl⟩,rfl,?_⟩,?_⟩
     ·rw [hrl2]
     ·rw [ht];simp [rscaleL,encM_app,encM]
     ·rw [ht];unfold scaleB at hb ⊢;rw [List.all_append,hb];simp [hmk]
   ·rw [List.take_of_length_le hge] at hb s4
    rw [hS,if_pos hb,htc.1,rscale_eq hk o4 hb]
    have hrl:(rscaleL k l).length=l.length:=by unfold rscaleL;rw [List.length_map]
    simp -implicitDefEqProofs only [s1,s2,s3,s4,s5,ltF hge,List.take_of_length_le hge,vTB,hrl,encM_len,s0eq,go_sem,reduceCtorEq,rdA,rdM,rdL,rdT,rdE,rdN,↓gTT,↓gFF,↓gTF,↓gFT]
theorem without_ok (c:Int) (l:List Mono) (v:Int) (hl:l.length≤400000):VPure FT p109 [.agg [.int .i64 c,.fz l.length none 2 (encM l)],.int .i64 v] (.agg [.int .i64 c,.fz (delM v l).length none 2 (encM (delM v l))]):=by
 refine vpure_of_body' (f:=p109) rfl rfl ?_
 simp -implicitDefEqProofs only [go_sem,reduceCtorEq,rdA,rdM,rdL,rdT,rdE,rdN,↓gTT,↓gFF,↓gTF,↓gFT]
 refine wLoop_ownV p5 1 2 (by simp -implicitDefEqProofs only [go_sem,reduceCtorEq,rdA,rdM,rdL,rdT,rdE,rdN,↓gTT,↓gFF,↓gTF,↓gFT];rfl) (by rfl) ?_
 simp -implicitDefEqProofs only [go_sem,reduceCtorEq,rdA,rdM,rdL,rdT,rdE,rdN,↓gTT,↓gFF,↓gTF,↓gFT]
 refine wLoop_dr (fun n s=>∃ i m:Nat,i+n=l.length∧At s [(p1,.int .i64 v),(p2,.var [.int .i64 c,.fz l.length none 2 (encM l)]),(p4,.var [.int .i64 0,.nils]),(p5,.var [.int .i64 c,.ow 0 (delM v (l.take i)).length 2]),(p6,.int .i64 i)] (m+1) 0 [(0,.row (encM (delM v (l.take i))))]) l.length ?_ ?_
 ·exact ⟨0,0,by simp,by simp -implicitDefEqProofs only [go_sem,reduceCtorEq,rdA,rdM,rdL,rdT,rdE,rdN,↓gTT,↓gFF,↓gTF,↓gFT];simp [delM,encM]⟩
 ·rintro n ⟨e,nx,w,h⟩ ⟨i,mm,hi,⟨s1,s2,s3,s4,s5,-⟩,rfl,rfl,rfl⟩
  rcases Nat.lt_or_ge i l.length with hlt|hge
  ·obtain ⟨m,hm⟩:=has hlt
   have ht:=take_snoc hm
   have hdl:(delM v (l.take i)).length≤400000:=Nat.le_trans (delM_len _ _) (Nat.le_trans (List.length_take_le _ _) (by omega))
   simp -implicitDefEqProofs only [s1,s2,s3,s4,s5,ltT hlt,encM_g0 hm,encM_cut hm,encM_len,inc64 hlt (by omega:l.length≤4611686018427387904),go_sem,reduceCtorEq,rdA,rdM,rdL,rdT,rdE,rdN,↓gTT,↓gFF,↓gTF,↓gFT]
   refine ⟨⟨by omega,by omega⟩,gs_t (fun h=>?_) (fun h=>?_)⟩
   ·have hd:delM v (l.take (i+1))=delM v (l.take i)++[m]:=by rw [ht,delM_app];simp [delM];simpa using h
    refine ⟨⟨by omega,by omega⟩,by omega,by omega,n-1,by omega,_,subH_tail (by simp [hget]),i+1,mm+1,by omega,⟨?_,rfl⟩,rfl,?_⟩
    ·rw [hd];simp [encM_app,encM]
    ·rw [hd];simp [encM_app,encM]
   ·have hd:delM v (l.take (i+1))=delM v (l.take i):=by rw [ht,delM_app];simp [delM];simpa using h
    refine ⟨n-1,by omega,_,subH_refl _,i+1,mm,by omega,⟨?_,rfl⟩,rfl,?_⟩<;>rw [hd]
  ·rw [List.take_of_length_le hge] at s4
   simp -implicitDefEqProofs only [s1,s2,s3,s4,s5,ltF hge,List.take_of_length_le hge,encM_len,go_sem,reduceCtorEq,rdA,rdM,rdL,rdT,rdE,rdN,↓gTT,↓gFF,↓gTF,↓gFT]
theorem leT {i n:Nat} (h:n≤i):decide ((n:Int)≤(i:Int))=true:=by simpa using h
theorem leF {i n:Nat} (h:i<n):decide ((n:Int)≤(i:Int))=false:=by simpa using h
theorem kne {c:Int} {l:List Mono} (h:okT c l=true) {i:Nat} {m:Mono} (hm:l[i]?=some m):m.k≠0:=(okM_spec.1 (okFrom_ok (okT_spec.1 h).2.2.2 _ (List.mem_of_getElem? hm))).2.2.1
theorem sum_xn (x:Mono) (X:List Mono) (h:x.k≠0):sumM (x::X) []=x::sumM X []:=by rw [sumM,keepM,if_neg h]
theorem sum_ny (x:Mono) (X:List Mono) (h:x.k≠0):sumM [] (x::X)=x::sumM [] X:=by rw [sumM,keepM,if_neg h]
theorem sum_xy1 {x y:Mono} (X Y:List Mono) (h:x.k≠0) (hl:x.v<y.v):sumM (x::X) (y::Y)=x::sumM X (y::Y):=by rw [sumM,if_pos hl,keepM,if_neg h]
theorem sum_xy2 {x y:Mono} (X Y:List Mono) (h:y.k≠0) (hl:y.v<x.v):sumM (x::X) (y::Y)=y::sumM (x::X) Y:=by rw [sumM,if_neg (by omega),if_pos hl,keepM,if_neg h]
theorem sum_xy3 {x y:Mono} (X Y:List Mono) (h1:¬ x.v<y.v) (h2:¬ y.v<x.v):sumM (x::X) (y::Y)=keepM ⟨x.v,IntKind.i64.wrap (x.k+y.k)⟩ (sumM X Y):=by rw [sumM,if_neg h1,if_neg h2]
theorem d12:decide ((12:Int)=0)=false:=rfl
set_option maxHeartbeats 2000000 in
theorem rAdd_ok (c:Int) (a:List Mono) (d:Int) (b:List Mono) (ha:okT c a=true) (hb:okT d b=true):
 VPure FT p111 [.agg [.int .i64 c,.fz a.length none 2 (encM a)],.agg [.int .i64 d,.fz b.length none 2 (encM b)]] (vTB (addR c a d b)):=by
 refine vpure_of_body' (f:=p111) rfl rfl ?_
 have hal:=(okT_spec.1 ha).2.2.1
 have hbl:=(okT_spec.1 hb).2.2.1
 have hA:addR c a d b=if okT (IntKind.i64.wrap (c+d)) (sumM a b)=true then (IntKind.i64.wrap (c+d),sumM a b,0) else (0,[],12):=by unfold addR;rw [if_neg (by rw [ha,hb];simp)]
 rw [hA]
 simp -implicitDefEqProofs only [go_sem,reduceCtorEq,rdA,rdM,rdL,rdT,rdE,rdN,↓gTT,↓gFF,↓gTF,↓gFT]
 refine wLoop_ownV p6 1 2 (by simp -implicitDefEqProofs only [go_sem,reduceCtorEq,rdA,rdM,rdL,rdT,rdE,rdN,↓gTT,↓gFF,↓gTF,↓gFT];rfl) (by rfl) ?_
 simp -implicitDefEqProofs only [go_sem,reduceCtorEq,rdA,rdM,rdL,rdT,rdE,rdN,↓gTT,↓gFF,↓gTF,↓gFT]
 refine wLoop_dr (fun n s=>∃ (i k mm:Nat) (O:List Mono),i≤a.length∧k≤b.length∧(a.length-i)+(b.length-k)=n∧O.length+n≤a.length+b.length∧At s [(p2,.var [.int .i64 c,.fz a.length none 2 (encM a)]),(p3,.var [.int .i64 d,.fz b.length none 2 (encM b)]),(p4,.var [.int .i64 0,.nils]),(p6,.var [.int .i64 (IntKind.i64.wrap (c+d)),.ow 0 O.length 2]),(p7,.int .i64 i),(p8,.int .i64 k)] (mm+1) 0 [(0,.row (encM O))]∧sumM a b=O++sumM (a.drop i) (b.drop k)) (a.length+b.length) ?_ ?_
 ·exact ⟨0,0,0,[],by omega,by omega,by omega,by simp,by simp -implicitDefEqProofs only [go_sem,reduceCtorEq,rdA,rdM,rdL,rdT,rdE,rdN,↓gTT,↓gFF,↓gTF,↓gFT];simp [encM],by simp⟩
 ·rintro n ⟨e,nx,w,h⟩ ⟨i,k,mm,O,hi,hk,hn,hO,⟨⟨s1,s2,s3,s4,s5,s6,-⟩,rfl,rfl,rfl⟩,hs⟩
  have hd0:a.drop a.length=[]:=by simp
  have hd1:b.drop b.length=[]:=by simp
  rcases Nat.lt_or_ge i a.length with hia|hia
  ·obtain ⟨x,hx⟩:=has hia
   have hxk:=kne ha hx
   have wi:=inc64 hia (by omega:a.length≤4611686018427387904)
   rw [drop_cons hx] at hs
   rcases Nat.lt_or_ge k b.length with hkb|hkb
   ·obtain ⟨y,hy⟩:=has hkb
    have hyk:=kne hb hy
    have wk:=inc64 hkb (by omega:b.length≤4611686018427387904)
    rw [drop_cons hy] at hs
    by_cases h1:x.v<y.v
    ·have d1:decide (x.v<y.v)=true:=by simpa using h1
     rw [sum_xy1 _ _ hxk h1,←drop_cons hy] at hs
     simp -implicitDefEqProofs only [s1,s2,s3,s4,s5,s6,ltT hia,ltT hkb,leF hia,leF hkb,d1,wi,wk,encM_g0 hx,encM_cut hx,encM_g1 hx,encM_g0 hy,encM_cut hy,encM_g1 hy,encM_len,go_sem,reduceCtorEq,rdA,rdM,rdL,rdT,rdE,rdN,↓gTT,↓gFF,↓gTF,↓gFT]
     repeat' (first|(with_reducible refine And.intro ?_ ?_)|(with_reducible refine gs_t ?_ ?_)|(with_reducible refine gs_f ?_ ?_)|(intro _)|fail)
     all_goals first|omega|skip
     exact ⟨n-1,by omega,_,subH_tail (by simp [hget]),i+1,k,mm+1,O++[x],by omega,by omega,by omega,by simp;omega,⟨⟨by simp,rfl,rfl⟩,rfl,by simp [encM_app,encM]⟩,by rw [hs];simp⟩
    ·have d1:decide (x.v<y.v)=false:=by simpa using h1
     by_cases h2:y.v<x.v
     ·have d2:decide (y.v<x.v)=true:=by simpa using h2
      rw [sum_xy2 _ _ hyk h2,←drop_cons hx] at hs
      simp -implicitDefEqProofs only [s1,s2,s3,s4,s5,s6,ltT hia,ltT hkb,leF hia,leF hkb,d1,d2,wi,wk,encM_g0 hx,encM_cut hx,encM_g1 hx,encM_g0 hy,encM_cut hy,encM_g1 hy,encM_len,go_sem,reduceCtorEq,rdA,rdM,rdL,rdT,rdE,rdN,↓gTT,↓gFF,↓gTF,↓gFT]
      repeat' (first|(with_reducible refine And.intro ?_ ?_)|(with_reducible refine gs_t ?_ ?_)|(with_reducible refine gs_f ?_ ?_)|(intro _)|fail)
      all_goals first|omega|skip
      exact ⟨n-1,by omega,_,subH_tail (by simp [hget]),i,k+1,mm+1,O++[y],by omega,by omega,by omega,by simp;omega,⟨⟨by simp,rfl,rfl⟩,rfl,by simp [encM_app,encM]⟩,by rw [hs];simp⟩
     ·have d2:decide (y.v<x.v)=false:=by simpa using h2
      rw [sum_xy3 _ _ h1 h2] at hs
      by_cases h3:IntKind.i64.wrap (x.k+y.k)=0
      ·have d3:decide (IntKind.i64.wrap (x.k+y.k)=0)=true:=by simpa using h3
       rw [keepM,if_pos h3] at hs
       simp -implicitDefEqProofs only [s1,s2,s3,s4,s5,s6,ltT hia,ltT hkb,leF hia,leF hkb,d1,d2,d3,wi,wk,encM_g0 hx,encM_cut hx,encM_g1 hx,encM_g0 hy,encM_cut hy,encM_g1 hy,encM_len,go_sem,reduceCtorEq,rdA,rdM,rdL,rdT,rdE,rdN,↓gTT,↓gFF,↓gTF,↓gFT]
       repeat' (first|(with_reducible refine And.intro ?_ ?_)|(with_reducible refine gs_t ?_ ?_)|(with_reducible refine gs_f ?_ ?_)|(intro _)|fail)
       all_goals first|omega|skip
       exact ⟨n-2,by omega,_,subH_refl _,i+1,k+1,mm,O,by omega,by omega,by omega,by omega,⟨⟨rfl,rfl,rfl⟩,rfl,rfl⟩,hs⟩
      ·have d3:decide (IntKind.i64.wrap (x.k+y.k)=0)=false:=by simpa using h3
       rw [keepM,if_neg h3] at hs
       simp -implicitDefEqProofs only [s1,s2,s3,s4,s5,s6,ltT hia,ltT hkb,leF hia,leF hkb,d1,d2,d3,wi,wk,encM_g0 hx,encM_cut hx,encM_g1 hx,encM_g0 hy,encM_cut hy,encM_g1 hy,encM_len,go_sem,reduceCtorEq,rdA,rdM,rdL,rdT,rdE,rdN,↓gTT,↓gFF,↓gTF,↓gFT]
       repeat' (first|(with_reducible refine And.intro ?_ ?_)|(with_reducible refine gs_t ?_ ?_)|(with_reducible refine gs_f ?_ ?_)|(intro _)|fail)
       all_goals first|omega|skip
       exact ⟨n-2,by omega,_,subH_tail (by simp [hget]),i+1,k+1,mm+1,O++[⟨x.v,IntKind.i64.wrap (x.k+y.k)⟩],by omega,by omega,by omega,by simp;omega,⟨⟨by simp,rfl,rfl⟩,rfl,by simp [encM_app,encM]⟩,by rw [hs];simp⟩
   ·have hk':k=b.length:=by omega
    subst hk'
    rw [hd1,sum_xn _ _ hxk] at hs
    simp -implicitDefEqProofs only [s1,s2,s3,s4,s5,s6,ltT hia,leF hia,ltF (Nat.le_refl b.length),leT (Nat.le_refl b.length),wi,encM_g0 hx,encM_cut hx,encM_g1 hx,encM_len,go_sem,reduceCtorEq,rdA,rdM,rdL,rdT,rdE,rdN,↓gTT,↓gFF,↓gTF,↓gFT]
    repeat' (first|(with_reducible refine And.intro ?_ ?_)|(with_reducible refine gs_t ?_ ?_)|(with_reducible refine gs_f ?_ ?_)|(intro _)|fail)
    all_goals first|omega|skip
    exact ⟨n-1,by omega,_,subH_tail (by simp [hget]),i+1,b.length,mm+1,O++[x],by omega,by omega,by omega,by simp;omega,⟨⟨by simp,rfl,rfl⟩,rfl,by simp [encM_app,encM]⟩,by rw [hs];simp⟩
  ·have hi':i=a.length:=by omega
   subst hi'
   rcases Nat.lt_or_ge k b.length with hkb|hkb
   ·obtain ⟨y,hy⟩:=has hkb
    have hyk:=kne hb hy
    have wk:=inc64 hkb (by omega:b.length≤4611686018427387904)
    rw [drop_cons hy,hd0,sum_ny _ _ hyk] at hs
    simp -implicitDefEqProofs only [s1,s2,s3,s4,s5,s6,ltT hkb,leF hkb,ltF (Nat.le_refl a.length),leT (Nat.le_refl a.length),wk,encM_g0 hy,encM_cut hy,encM_g1 hy,encM_len,go_sem,reduceCtorEq,rdA,rdM,rdL,rdT,rdE,rdN,↓gTT,↓gFF,↓gTF,↓gFT]
    repeat' (first|(with_reducible refine And.intro ?_ ?_)|(with_reducible refine gs_t ?_ ?_)|(with_reducible refine gs_f ?_ ?_)|(intro _)|fail)
    all_goals first|omega|skip
    exact ⟨n-1,by omega,_,subH_tail (by simp [hget]),a.length,k+1,mm+1,O++[y],by omega,by omega,by omega,by simp;omega,⟨⟨by simp,rfl,rfl⟩,rfl,by simp [encM_app,encM]⟩,by rw [hs];simp⟩
   ·have hk':k=b.length:=by omega
    subst hk'
    have hnil:sumM [] []=[]:=by simp [sumM]
    rw [hd0,hd1,hnil,List.append_nil] at hs
    subst hs
    have hlen:=sumM_len a b
    simp -implicitDefEqProofs only [s1,s2,s3,s4,s5,s6,ltF (Nat.le_refl a.length),ltF (Nat.le_refl b.length),encM_len,go_sem,reduceCtorEq,rdA,rdM,rdL,rdT,rdE,rdN,↓gTT,↓gFF,↓gTF,↓gFT]
    cases hok:okT (IntKind.i64.wrap (c+d)) (sumM a b) with
    | true=>
     simp only [if_true,vTB]
     refine wCall_pure (args':=[.agg [.int .i64 (IntKind.i64.wrap (c+d)),.fz (sumM a b).length none 2 (encM (sumM a b))]]) (by simp -implicitDefEqProofs only [encM_len,go_sem,reduceCtorEq,rdA,rdM,rdL,rdT,rdE,rdN,↓gTT,↓gFF,↓gTF,↓gFT]) (Right_ok _ _ (by omega)) rfl (.inl rfl) ?_
     simp -implicitDefEqProofs only [hok,Bool.not_true,s0eq,encM_len,go_sem,reduceCtorEq,rdA,rdM,rdL,rdT,rdE,rdN,↓gTT,↓gFF,↓gTF,↓gFT]
    | false=>
     simp only [Bool.false_eq_true,if_false,vTB,encM,List.length_nil]
     refine wCall_pure (args':=[.agg [.int .i64 (IntKind.i64.wrap (c+d)),.fz (sumM a b).length none 2 (encM (sumM a b))]]) (by simp -implicitDefEqProofs only [encM_len,go_sem,reduceCtorEq,rdA,rdM,rdL,rdT,rdE,rdN,↓gTT,↓gFF,↓gTF,↓gFT]) (Right_ok _ _ (by omega)) rfl (.inl rfl) ?_
     simp -implicitDefEqProofs only [hok,Bool.not_false,d12,encM_len,go_sem,reduceCtorEq,rdA,rdM,rdL,rdT,rdE,rdN,↓gTT,↓gFF,↓gTF,↓gFT]
theorem scaleR_err {c:Int} {l:List Mono} {k:Int} (h:okT c l=true) (he:(scaleR c l k).2.2≠0):scaleR c l k=(0,[],12):=by
 unfold scaleR at he ⊢
 rw [if_neg (by simp [h])] at he ⊢
 split at he
 ·exact absurd rfl he
 ·rename_i h1;rw [if_neg h1]
theorem rPut_ok (c:Int) (a:List Mono) (v d:Int) (b:List Mono) (ha:okT c a=true) (hb:okT d b=true):
 VPure FT p110 [.agg [.int .i64 c,.fz a.length none 2 (encM a)],.int .i64 v,.agg [.int .i64 d,.fz b.length none 2 (encM b)]] (vTB (putR c a v d b)):=by
 refine vpure_of_body' (f:=p110) rfl rfl ?_
 have hal:=(okT_spec.1 ha).2.2.1
 have hS:=rScale_ok d b (kOf a v) hb
 unfold putR
 rw [if_neg (by rw [ha,hb];simp)]
 by_cases he:(scaleR d b (kOf a v)).2.2=0
 ·rw [if_neg (by omega)]
  rcases scaleR_spec (k:=kOf a v) hb with ⟨s1,s2,s3,s4⟩|s1
  ·have hA:=rAdd_ok c (delM v a) (scaleR d b (kOf a v)).1 (scaleR d b (kOf a v)).2.1 (okT_del v ha) s2
   have da:decide ((scaleR d b (kOf a v)).2.2=0)=true:=by simpa using he
   simp -implicitDefEqProofs only [vTB,go_sem,reduceCtorEq,rdA,rdM,rdL,rdT,rdE,rdN,↓gTT,↓gFF,↓gTF,↓gFT]
   repeat' (first|(with_reducible refine And.intro ?_ ?_)|(with_reducible refine gs_t ?_ ?_)|(with_reducible refine gs_f ?_ ?_)|(intro _)|((with_reducible apply wCall_any);(· (simp -implicitDefEqProofs only [go_sem,reduceCtorEq,rdA,rdM,rdL,rdT,rdE,rdN,↓gTT,↓gFF,↓gTF,↓gFT]<;>rfl));(· (first|exact Kr_ok _ _ _ (by omega)|exact hS|exact without_ok _ _ _ (by omega)|exact hA));(· rfl);(· rfl);(· (first|exact Eq.refl true|exact Eq.refl false));(simp -implicitDefEqProofs only [vTB,da,Bool.not_true,go_sem,reduceCtorEq,rdA,rdM,rdL,rdT,rdE,rdN,↓gTT,↓gFF,↓gTF,↓gFT]))|fail)
  ·omega
 ·rw [if_pos he,scaleR_err hb he]
  rw [scaleR_err hb he] at hS
  simp -implicitDefEqProofs only [vTB,encM,List.length_nil,go_sem,reduceCtorEq,rdA,rdM,rdL,rdT,rdE,rdN,↓gTT,↓gFF,↓gTF,↓gFT]
  repeat' (first|(with_reducible refine And.intro ?_ ?_)|(with_reducible refine gs_t ?_ ?_)|(with_reducible refine gs_f ?_ ?_)|(intro _)|((with_reducible apply wCall_any);(· (simp -implicitDefEqProofs only [go_sem,reduceCtorEq,rdA,rdM,rdL,rdT,rdE,rdN,↓gTT,↓gFF,↓gTF,↓gFT]<;>rfl));(· (first|exact Kr_ok _ _ _ (by omega)|exact hS));(· rfl);(· rfl);(· (first|exact Eq.refl true|exact Eq.refl false));(simp -implicitDefEqProofs only [vTB,d12,Bool.not_false,encM,List.length_nil,go_sem,reduceCtorEq,rdA,rdM,rdL,rdT,rdE,rdN,↓gTT,↓gFF,↓gTF,↓gFT]))|fail)
def rSwapV (l:List Cons) (v d:Int) (b:List Mono):VV:=.tup [vCs (if swapE l v d b=0 then swapL l v d b else []),.bool (decide (swapE l v d b=0))]
theorem rSwap_ok (l:List Cons) (v d:Int) (b:List Mono) (hr:rightB l v=true) (hl:smallC l) (hb:okT d b=true):
 VPure FT p79 [.fz l.length none 3 (encC l),.int .i64 v,.agg [.int .i64 d,.fz b.length none 2 (encM b)]] (rSwapV l v d b):=by
 refine vpure_of_body' (f:=p79) rfl rfl ?_
 have hok:∀ x∈l,okC x=true:=by
  have:=hr;simp only [rightB,Bool.and_eq_true,List.all_eq_true] at this;exact this.2
 have hE:swapE l v d b=if l.any (fun x=>decide ((swapX v d b x).2.2≠0))=true then 12 else 0:=by
  unfold swapE;rw [if_neg (by rw [hr,hb];simp)]
 simp -implicitDefEqProofs only [go_sem,reduceCtorEq,rdA,rdM,rdL,rdT,rdE,rdN,↓gTT,↓gFF,↓gTF,↓gFT]
 refine wLoop_own p8 3 (by simp -implicitDefEqProofs only [go_sem,reduceCtorEq,rdA,rdM,rdL,rdT,rdE,rdN,↓gTT,↓gFF,↓gTF,↓gFT]) ?_
 simp -implicitDefEqProofs only [go_sem,reduceCtorEq,rdA,rdM,rdL,rdT,rdE,rdN,↓gTT,↓gFF,↓gTF,↓gFT]
 have hll:=hl.len
 refine wLoop_dr (fun n s=>∃ i m:Nat,i+n=l.length∧At s [(p0,.fz l.length none 3 (encC l)),(p1,.int .i64 v),(p5,.var [.int .i64 d,.fz b.length none 2 (encM b)]),(p8,.ow 0 (l.take i).length 3),(p9,.int .i64 i)] (m+1) 0 [(0,.row (encC (swapL (l.take i) v d b)))]∧
  (l.take i).any (fun x=>decide ((swapX v d b x).2.2≠0))=false) l.length ?_ ?_
 ·exact ⟨0,0,by simp,by simp -implicitDefEqProofs only [go_sem,reduceCtorEq,rdA,rdM,rdL,rdT,rdE,rdN,↓gTT,↓gFF,↓gTF,↓gFT];simp [encC,swapL],by simp⟩
 ·rintro n ⟨e,nx,w,h⟩ ⟨i,m,hi,⟨⟨s1,s2,s3,s4,s5,-⟩,rfl,rfl,rfl⟩,hk⟩
  rcases Nat.lt_or_ge i l.length with hlt|hge
  ·obtain ⟨x,hx⟩:=has hlt
   have hxm:=List.mem_of_getElem? hx
   have hb2:(l.take i).length≤i:=List.length_take_le _ _
   have hb3:(l.take i).length=(swapL (l.take i) v d b).length:=by unfold swapL;rw [List.length_map]
   have ht:=take_snoc hx
   have hP:VPure FT p110 [.agg (cT x.t),.int .i64 v,.agg [.int .i64 d,.fz b.length none 2 (encM b)]] (vTB (swapX v d b x)):=rPut_ok x.t.c x.t.l v d b (hok x hxm) hb
   obtain ⟨A,hA⟩:∃ A,A=swapX v d b x:=⟨_,rfl⟩
   rw [←hA] at hP
   rw [hb3] at s4
   simp -implicitDefEqProofs only [s1,s2,s3,s4,s5,ltT hlt,encC_cut hx,encC_t hx,encC_g2 hx,encC_len,inc64 hlt (by omega:l.length≤4611686018427387904),go_sem,reduceCtorEq,rdA,rdM,rdL,rdT,rdE,rdN,↓gTT,↓gFF,↓gTF,↓gFT]
   by_cases eA:A.2.2=0
   ·have dA:decide (A.2.2=0)=true:=by simpa using eA
    repeat' (first|(with_reducible refine And.intro ?_ ?_)|(with_reducible refine gs_t ?_ ?_)|(with_reducible refine gs_f ?_ ?_)|(intro _)|((with_reducible apply wCall_any);(· (simp -implicitDefEqProofs only [go_sem,reduceCtorEq,rdA,rdM,rdL,rdT,rdE,rdN,↓gTT,↓gFF,↓gTF,↓gFT]<;>rfl));(· (exact hP));(· rfl);(· rfl);(· (first|exact Eq.refl true|exact Eq.refl false));(simp -implicitDefEqProofs only [vTB,dA,Bool.not_true,encC_len,encC_cut hx,encC_t hx,encC_g2 hx,inc64 hlt (by omega:l.length≤4611686018427387904),go_sem,reduceCtorEq,rdA,rdM,rdL,rdT,rdE,rdN,↓gTT,↓gFF,↓gTF,↓gFT]))|fail)
    all_goals (clear s1 s2 s3 s4 s5;try omega)
    refine ⟨n-1,by omega,_,subH_tail (by simp [hget]),i+1,m+1,by omega,⟨⟨?_,rfl⟩,rfl,?_⟩,?_⟩
    ·rw [ht];simp [swapL]
    ·rw [ht];simp [swapL,encC_app,encC,vMs,swapC,←hA]
    ·rw [ht];simp only [List.any_append,hk,List.any_cons,List.any_nil,←hA,eA];rfl
   ·have dA:decide (A.2.2=0)=false:=by simpa using eA
    have e:rSwapV l v d b=.tup [vCs [],.bool false]:=by
     have:swapE l v d b=12:=by
      rw [hE,if_pos (List.any_eq_true.2 ⟨x,hxm,by rw [←hA];simpa using eA⟩)]
     unfold rSwapV;rw [this];rfl
    simp only [e,vCs,encC]
    repeat' (first|(with_reducible refine And.intro ?_ ?_)|(with_reducible refine gs_t ?_ ?_)|(with_reducible refine gs_f ?_ ?_)|(intro _)|((with_reducible apply wCall_any);(· (simp -implicitDefEqProofs only [go_sem,reduceCtorEq,rdA,rdM,rdL,rdT,rdE,rdN,↓gTT,↓gFF,↓gTF,↓gFT]<;>rfl));(· (exact hP));(· rfl);(· rfl);(· (first|exact Eq.refl true|exact Eq.refl false));(simp -implicitDefEqProofs only [vTB,dA,Bool.not_false,encC_len,encC,go_sem,reduceCtorEq,rdA,rdM,rdL,rdT,rdE,rdN,↓gTT,↓gFF,↓gTF,↓gFT]))|fail)
    all_goals (clear s1 s2 s3 s4 s5;try omega)
  ·rw [List.take_of_length_le hge] at s4 hk
   have e:rSwapV l v d b=.tup [vCs (swapL l v d b),.bool true]:=by
    have:swapE l v d b=0:=by rw [hE,hk];rfl
    unfold rSwapV;rw [this];rfl
   have hlL:(swapL l v d b).length=l.length:=by simp [swapL]
   simp -implicitDefEqProofs only [s1,s2,s3,s4,s5,ltF hge,List.take_of_length_le hge,e,vCs,encC_len,hlL,go_sem,reduceCtorEq,rdA,rdM,rdL,rdT,rdE,rdN,↓gTT,↓gFF,↓gTF,↓gFT]
def rUnitV (l:List Cons):VV:=match unitOf l 0 with|some (i,v)=>.tup [.int .i64 i,.int .i64 v]|none=>.tup [.int .i64 (-1),.int .i64 0]
theorem mag_one {k:Int} (h:-1048576≤k∧k≤1048576):decide (magI k=1)=oneB k:=by
 rw [magI_eq (by omega)]
 unfold oneB
 by_cases h1:k=1
 ·subst h1;rfl
 ·by_cases h2:k=-1
  ·subst h2;rfl
  ·rw [decide_eq_false h1,decide_eq_false h2,decide_eq_false (by omega)];rfl
theorem rUnit_ok (l:List Cons) (hs:smallC l) (hok:l.all okC=true):VPure FT p40 [.fz l.length none 3 (encC l)] (rUnitV l):=by
 have hll:=hs.len
 refine vpure_of_body (f:=p40) rfl rfl ?_
 simp -implicitDefEqProofs only [go_sem,reduceCtorEq,rdA,rdM,rdL,rdT,rdE,rdN,↓gTT,↓gFF,↓gTF,↓gFT]
 refine wLoop_by (fun n s=>∃ i:Nat,i+n=l.length∧At s [(p0,.fz l.length none 3 (encC l)),(p4,.int .i64 i)] 0 0 []∧unitOf l 0=unitOf (l.drop i) i) l.length ?_ ?_
 ·exact ⟨0,by simp,by simp -implicitDefEqProofs only [go_sem,reduceCtorEq,rdA,rdM,rdL,rdT,rdE,rdN,↓gTT,↓gFF,↓gTF,↓gFT],by simp⟩
 ·rintro n ⟨e,nx,w,h⟩ ⟨i,hi,⟨⟨s1,s2,-⟩,rfl,rfl,rfl⟩,hk⟩
  rcases Nat.lt_or_ge i l.length with hlt|hge
  ·obtain ⟨x,hx⟩:=has hlt
   have hxl:=hs.all x (List.mem_of_getElem? hx)
   have hxo:=List.all_eq_true.1 hok x (List.mem_of_getElem? hx)
   have hmo:=(okC_parts hxo).2.2
   rw [drop_cons hx] at hk
   simp -implicitDefEqProofs only [s1,s2,ltT hlt,encC_len,go_sem,reduceCtorEq,rdA,rdM,rdL,rdT,rdE,rdN,↓gTT,↓gFF,↓gTF,↓gFT]
   refine wLoop_by (fun n s=>∃ j:Nat,j+n=x.t.l.length∧At s [(p0,.fz l.length none 3 (encC l)),(p4,.int .i64 i),(p5,.int .i64 j)] 0 0 []∧
    unitX x=if x.eq=true then unitM (x.t.l.drop j) else none) x.t.l.length ?_ ?_
   ·exact ⟨0,by simp,by simp -implicitDefEqProofs only [go_sem,reduceCtorEq,rdA,rdM,rdL,rdT,rdE,rdN,↓gTT,↓gFF,↓gTF,↓gFT],by simp [unitX]⟩
   ·rintro n' ⟨e',nx,w,h⟩ ⟨j,hj,⟨⟨a1,a2,a3,-⟩,rfl,rfl,rfl⟩,hkj⟩
    cases hxe:x.eq with
    | false=>
     simp -implicitDefEqProofs only [a1,a2,a3,ltT hlt,encC_g2 hx,encC_g1 hx,hxe,encC_len,inc64 hlt (by omega:l.length≤4611686018427387904),go_sem,reduceCtorEq,rdA,rdM,rdL,rdT,rdE,rdN,↓gTT,↓gFF,↓gTF,↓gFT]
     refine ⟨⟨by omega,by omega⟩,n-1,by omega,i+1,by omega,rfl,?_⟩
     rw [hk];simp [unitOf,unitX,hxe]
    | true=>
     rcases Nat.lt_or_ge j x.t.l.length with hjlt|hjge
     ·obtain ⟨m,hm⟩:=has hjlt
      rw [drop_cons hm] at hkj
      simp -implicitDefEqProofs only [a1,a2,a3,ltT hlt,ltT hjlt,encC_g2 hx,encC_g1 hx,encM_g0 hm,encM_g1 hm,encM_len,hxe,encC_len,inc64 hlt (by omega:l.length≤4611686018427387904),inc64 hjlt (by omega:x.t.l.length≤4611686018427387904),go_sem,reduceCtorEq,rdA,rdM,rdL,rdT,rdE,rdN,↓gTT,↓gFF,↓gTF,↓gFT]
      refine ⟨⟨by omega,by omega⟩,⟨by omega,by omega⟩,⟨by omega,by omega⟩,⟨by omega,by omega⟩,?_⟩
      refine wCall_pp (r:=.int .i64 (magI m.k)) rfl (mag_ok _) rfl ?_
      have hm1:decide (magI m.k=1)=oneB m.k:=mag_one (by have:=okM_spec.1 (hmo m (List.mem_of_getElem? hm));omega)
      simp -implicitDefEqProofs only [hm1,encM_g0 hm,encC_g1 hx,inc64 hjlt (by omega:x.t.l.length≤4611686018427387904),go_sem,reduceCtorEq,rdA,rdM,rdL,rdT,rdE,rdN,↓gTT,↓gFF,↓gTF,↓gFT]
      refine gs_t (fun h1=>?_) (fun h1=>?_)
      ·have hu:unitOf l 0=some ((i:Int),m.v):=by rw [hk];simp [unitOf,hkj,hxe,unitM,h1]
       unfold rUnitV
       rw [hu]
       refine ⟨⟨by omega,by omega⟩,⟨by omega,by omega⟩,rfl⟩
      ·refine ⟨n'-1,by omega,j+1,by omega,rfl,?_⟩
       rw [hkj,hxe];simp [unitM,h1]
     ·simp -implicitDefEqProofs only [a1,a2,a3,ltT hlt,ltF hjge,encC_g2 hx,encC_g1 hx,encM_len,hxe,encC_len,inc64 hlt (by omega:l.length≤4611686018427387904),go_sem,reduceCtorEq,rdA,rdM,rdL,rdT,rdE,rdN,↓gTT,↓gFF,↓gTF,↓gFT]
      refine ⟨⟨by omega,by omega⟩,⟨by omega,by omega⟩,n-1,by omega,i+1,by omega,rfl,?_⟩
      rw [hk]
      have:unitX x=none:=by rw [hkj,List.drop_eq_nil_of_le hjge];simp [unitM]
      simp [unitOf,this]
  ·simp -implicitDefEqProofs only [s1,s2,ltF hge,go_sem,reduceCtorEq,rdA,rdM,rdL,rdT,rdE,rdN,↓gTT,↓gFF,↓gTF,↓gFT]
   unfold rUnitV
   rw [hk,List.drop_eq_nil_of_le hge];rfl
def lowB (l:List Cons) (v:Int):Bool:=l.all fun x=>decide (0≤kOf x.t.l v)||decide (kOf x.t.l v=-1)
def highB (l:List Cons) (v:Int):Bool:=l.all fun x=>decide (kOf x.t.l v≤0)||decide (kOf x.t.l v=1)
theorem exact_eq (l:List Cons) (v:Int):exactB l v=(lowB l v||highB l v):=by
 unfold exactB lowB highB lowsOf highsOf
 rw [List.all_filter,List.all_filter]
 congr 1
 ·congr 1;funext x
  by_cases h:kOf x.t.l v<0
  ·rw [decide_eq_true h,decide_eq_false (p:=0≤kOf x.t.l v) (by omega)];simp
  ·rw [decide_eq_false h,decide_eq_true (p:=0≤kOf x.t.l v) (by omega)];simp
 ·congr 1;funext x
  by_cases h:0<kOf x.t.l v
  ·rw [decide_eq_true h,decide_eq_false (p:=kOf x.t.l v≤0) (by omega)];simp
  ·rw [decide_eq_false h,decide_eq_true (p:=kOf x.t.l v≤0) (by omega)];simp
theorem rExact_ok (l:List Cons) (v:Int) (hs:smallC l):VPure FT p44 [.fz l.length none 3 (encC l),.int .i64 v] (.bool (exactB l v)):=by
 have hll:=hs.len
 refine vpure_of_body (f:=p44) rfl rfl ?_
 rw [exact_eq]
 simp -implicitDefEqProofs only [go_sem,reduceCtorEq,rdA,rdM,rdL,rdT,rdE,rdN,↓gTT,↓gFF,↓gTF,↓gFT]
 refine wLoop_by (fun n s=>∃ i:Nat,i+n=l.length∧At s [(p0,.fz l.length none 3 (encC l)),(p1,.int .i64 v),(p5,.bool (lowB (l.take i) v)),(p6,.bool (highB (l.take i) v)),(p7,.int .i64 i)] 0 0 []) l.length ?_ ?_
 ·exact ⟨0,by simp,by simp -implicitDefEqProofs only [go_sem,reduceCtorEq,rdA,rdM,rdL,rdT,rdE,rdN,↓gTT,↓gFF,↓gTF,↓gFT];simp [lowB,highB]⟩
 ·rintro n ⟨e,nx,w,h⟩ ⟨i,hi,⟨s1,s2,s3,s4,s5,-⟩,rfl,rfl,rfl⟩
  rcases Nat.lt_or_ge i l.length with hlt|hge
  ·obtain ⟨x,hx⟩:=has hlt
   have hxl:=hs.all x (List.mem_of_getElem? hx)
   have ht:=take_snoc hx
   have hl1:lowB (l.take (i+1)) v=(lowB (l.take i) v&&(decide (0≤kOf x.t.l v)||decide (kOf x.t.l v=-1))):=by rw [ht];simp [lowB,List.all_append]
   have hl2:highB (l.take (i+1)) v=(highB (l.take i) v&&(decide (kOf x.t.l v≤0)||decide (kOf x.t.l v=1))):=by rw [ht];simp [highB,List.all_append]
   simp -implicitDefEqProofs only [s1,s2,s3,s4,s5,ltT hlt,encC_t hx,encC_len,inc64 hlt (by omega:l.length≤4611686018427387904),go_sem,reduceCtorEq,rdA,rdM,rdL,rdT,rdE,rdN,↓gTT,↓gFF,↓gTF,↓gFT]
   refine ⟨⟨by omega,by omega⟩,by omega,?_⟩
   refine wCall_pp (r:=.int .i64 (kOf x.t.l v)) (by simp [pureL,pureV]) (Kr_ok _ _ _ (by omega)) rfl ?_
   have fin:∀ L H:Bool,L=lowB (l.take (i+1)) v→H=highB (l.take (i+1)) v→∃ m,m<n∧∃ i_1,i_1+m=l.length∧VV.bool L=VV.bool (lowB (l.take i_1) v)∧VV.bool H=VV.bool (highB (l.take i_1) v)∧((i+1:Nat):Int)=(i_1:Int):=fun L H h1 h2=>⟨n-1,by omega,i+1,by omega,by rw [h1],by rw [h2],rfl⟩
   cases hL:lowB (l.take i) v<;>cases hH:highB (l.take i) v<;>simp -implicitDefEqProofs only [hL,hH,inc64 hlt (by omega:l.length≤4611686018427387904),go_sem,reduceCtorEq,rdA,rdM,rdL,rdT,rdE,rdN,↓gTT,↓gFF,↓gTF,↓gFT]
   all_goals repeat' (first|(with_reducible refine And.intro ?_ ?_)|(with_reducible refine gs_t ?_ ?_)|(with_reducible refine gs_f ?_ ?_)|(intro _)|fail)
   all_goals (refine ⟨n-1,by omega,i+1,by omega,?_,?_,rfl⟩<;>simp_all)
  ·rw [List.take_of_length_le hge] at s3 s4
   simp -implicitDefEqProofs only [s1,s2,s3,s4,s5,ltF hge,encC_len,go_sem,reduceCtorEq,rdA,rdM,rdL,rdT,rdE,rdN,↓gTT,↓gFF,↓gTF,↓gFT]
   cases lowB l v<;>simp [gSplit]
def mayFar (l:List Cons) (v n:Int):Bool:=l.any fun x=>decide (kOf x.t.l v≠0)&&x.t.l.any (farB v n)
theorem TwinK_ok (c:Int) (l:List Mono) (hl:l.length≤1000000):VPure FT p15 [.agg [.int .i64 c,.fz l.length none 2 (encM l)]] (.agg [.int .i64 c,.fz l.length none 2 (encM l)]):=by
 refine vpure_of_body' (f:=p15) rfl rfl ?_
 simp -implicitDefEqProofs only [encM_len,go_sem,reduceCtorEq,rdA,rdM,rdL,rdT,rdE,rdN,↓gTT,↓gFF,↓gTF,↓gFT]
 omega
theorem TwinC_ok (l:List Cons) (hs:smallC l):VPure FT p5 [.fz l.length none 3 (encC l)] (.fz l.length none 3 (encC l)):=by
 have hll:=hs.len
 refine vpure_of_body' (f:=p5) rfl rfl ?_
 simp -implicitDefEqProofs only [go_sem,reduceCtorEq,rdA,rdM,rdL,rdT,rdE,rdN,↓gTT,↓gFF,↓gTF,↓gFT]
 refine wLoop_own p3 3 (by simp -implicitDefEqProofs only [go_sem,reduceCtorEq,rdA,rdM,rdL,rdT,rdE,rdN,↓gTT,↓gFF,↓gTF,↓gFT]) ?_
 simp -implicitDefEqProofs only [go_sem,reduceCtorEq,rdA,rdM,rdL,rdT,rdE,rdN,↓gTT,↓gFF,↓gTF,↓gFT]
 refine wLoop_dr (fun n s=>∃ i m:Nat,i+n=l.length∧At s [(p0,.fz l.length none 3 (encC l)),(p3,.ow 0 (l.take i).length 3),(p4,.int .i64 i)] (m+1) 0 [(0,.row (encC (l.take i)))]) l.length ?_ ?_
 ·exact ⟨0,0,by simp,by simp -implicitDefEqProofs only [go_sem,reduceCtorEq,rdA,rdM,rdL,rdT,rdE,rdN,↓gTT,↓gFF,↓gTF,↓gFT];simp [encC]⟩
 ·rintro n ⟨e,nx,w,h⟩ ⟨i,m,hi,⟨s1,s2,s3,-⟩,rfl,rfl,rfl⟩
  rcases Nat.lt_or_ge i l.length with hlt|hge
  ·obtain ⟨x,hx⟩:=has hlt
   have hxl:=hs.all x (List.mem_of_getElem? hx)
   have hb2:(l.take i).length≤i:=List.length_take_le _ _
   have ht:=take_snoc hx
   simp -implicitDefEqProofs only [s1,s2,s3,ltT hlt,encC_t hx,encC_g2 hx,encC_len,inc64 hlt (by omega:l.length≤4611686018427387904),go_sem,reduceCtorEq,rdA,rdM,rdL,rdT,rdE,rdN,↓gTT,↓gFF,↓gTF,↓gFT]
   repeat' (first|(with_reducible refine And.intro ?_ ?_)|(with_reducible refine gs_t ?_ ?_)|(with_reducible refine gs_f ?_ ?_)|(intro _)|((with_reducible apply wCall_any);(· (simp -implicitDefEqProofs only [go_sem,reduceCtorEq,rdA,rdM,rdL,rdT,rdE,rdN,↓gTT,↓gFF,↓gTF,↓gFT]<;>rfl));(· (exact TwinK_ok _ _ hxl));(· rfl);(· rfl);(· (first|exact Eq.refl true|exact Eq.refl false));(simp -implicitDefEqProofs only [encC_len,encC_g2 hx,inc64 hlt (by omega:l.length≤4611686018427387904),go_sem,reduceCtorEq,rdA,rdM,rdL,rdT,rdE,rdN,↓gTT,↓gFF,↓gTF,↓gFT]))|fail)
   all_goals (clear s1 s2 s3;try omega)
   refine ⟨n-1,by omega,_,subH_tail (by simp [hget]),i+1,m+1,by omega,⟨?_,rfl⟩,rfl,?_⟩<;>rw [ht]<;>simp [encC_app,encC,vMs]
  ·rw [List.take_of_length_le hge] at s2
   simp -implicitDefEqProofs only [s1,s2,s3,ltF hge,List.take_of_length_le hge,encC_len,go_sem,reduceCtorEq,rdA,rdM,rdL,rdT,rdE,rdN,↓gTT,↓gFF,↓gTF,↓gFT]
theorem lows_snoc {l:List Cons} {i:Nat} {x:Cons} (v:Int) (h:l[i]?=some x):lowsOf (l.take (i+1)) v=if kOf x.t.l v<0 then lowsOf (l.take i) v++[x] else lowsOf (l.take i) v:=by
 unfold lowsOf;rw [take_snoc h,List.filter_append]
 by_cases hk:kOf x.t.l v<0<;>simp [hk]
theorem highs_snoc {l:List Cons} {i:Nat} {x:Cons} (v:Int) (h:l[i]?=some x):highsOf (l.take (i+1)) v=if 0<kOf x.t.l v then highsOf (l.take i) v++[x] else highsOf (l.take i) v:=by
 unfold highsOf;rw [take_snoc h,List.filter_append]
 by_cases hk:0<kOf x.t.l v<;>simp [hk]
theorem others_snoc {l:List Cons} {i:Nat} {x:Cons} (v:Int) (h:l[i]?=some x):othersOf (l.take (i+1)) v=if kOf x.t.l v=0 then othersOf (l.take i) v++[x] else othersOf (l.take i) v:=by
 unfold othersOf;rw [take_snoc h,List.filter_append]
 by_cases hk:kOf x.t.l v=0<;>simp [hk]
theorem firstErr_zero:∀ {l:List Int},firstErr l=0↔∀ e∈l,e=0
 | []=>by simp [firstErr]
 | e::l=>by
  rw [firstErr]
  by_cases h:e=0
  ·rw [if_neg (by omega),firstErr_zero];simp [h]
  ·rw [if_pos h];simp [h]
theorem dropErr_zero {l:List Cons} {v:Int}:dropErr l v=0↔∀ a∈lowsOf l v,∀ b∈highsOf l v,(pairR a b v).2.2=0:=by
 unfold dropErr
 rw [firstErr_zero]
 constructor
 ·intro h a ha b hb
  exact h _ (List.mem_flatMap.2 ⟨a,ha,List.mem_map.2 ⟨b,hb,rfl⟩⟩)
 ·intro h e he
  obtain ⟨a,ha,he⟩:=List.mem_flatMap.1 he
  obtain ⟨b,hb,rfl⟩:=List.mem_map.1 he
  exact h a ha b hb
theorem take1 {l:List Cons} {i:Nat} {x:Cons} (h:l[i]?=some x):vsub (encC l) 3 i (i+1)=cC x:=by
 have:=encC_cut h
 unfold vsub
 rw [show (i+1-i)*3=3 by omega]
 exact this
def rDropV (l:List Cons) (v:Int):VV:=.tup [vCs (if dropErr l v=0 then dropList l v else []),.bool (decide (dropErr l v=0))]
set_option maxHeartbeats 1000000 in
theorem rDrop_ok (l:List Cons) (v:Int) (hs:smallC l) (hok:l.all okC=true):VPure FT p83 [.fz l.length none 3 (encC l),.int .i64 v] (rDropV l v):=by
 have hll:=hs.len
 have okm:∀ x∈l,okC x=true:=fun x hx=>List.all_eq_true.1 hok x hx
 refine vpure_of_body' (f:=p83) rfl rfl ?_
 simp -implicitDefEqProofs only [go_sem,reduceCtorEq,rdA,rdM,rdL,rdT,rdE,rdN,↓gTT,↓gFF,↓gTF,↓gFT]
 refine wLoop_own p6 3 (by simp -implicitDefEqProofs only [go_sem,reduceCtorEq,rdA,rdM,rdL,rdT,rdE,rdN,↓gTT,↓gFF,↓gTF,↓gFT]) ?_
 simp -implicitDefEqProofs only [go_sem,reduceCtorEq,rdA,rdM,rdL,rdT,rdE,rdN,↓gTT,↓gFF,↓gTF,↓gFT]
 refine wLoop_dr (fun n s=>∃ i m:Nat,i+n=l.length∧At s [(p0,.fz l.length none 3 (encC l)),(p1,.int .i64 v),(p6,.ow 0 (othersOf (l.take i) v).length 3),(p7,.int .i64 i)] (m+1) 0 [(0,.row (encC (othersOf (l.take i) v)))]) l.length ?_ ?_
 ·exact ⟨0,0,by simp,by simp -implicitDefEqProofs only [go_sem,reduceCtorEq,rdA,rdM,rdL,rdT,rdE,rdN,↓gTT,↓gFF,↓gTF,↓gFT];simp [encC,othersOf]⟩
 ·rintro n ⟨e,nx,w,h⟩ ⟨i,m,hi,⟨s1,s2,s3,s4,-⟩,rfl,rfl,rfl⟩
  rcases Nat.lt_or_ge i l.length with hlt|hge
  ·obtain ⟨x,hx⟩:=has hlt
   have hxl:=hs.all x (List.mem_of_getElem? hx)
   have hb2:(othersOf (l.take i) v).length≤i:=Nat.le_trans (List.length_filter_le _ _) (List.length_take_le _ _)
   have hsn:=others_snoc v hx
   simp -implicitDefEqProofs only [s1,s2,s3,s4,ltT hlt,encC_t hx,encC_len,inc64 hlt (by omega:l.length≤4611686018427387904),go_sem,reduceCtorEq,rdA,rdM,rdL,rdT,rdE,rdN,↓gTT,↓gFF,↓gTF,↓gFT]
   refine ⟨⟨by omega,by omega⟩,by omega,?_⟩
   refine wCall_pp (r:=.int .i64 (kOf x.t.l v)) (by simp [pureL,pureV]) (Kr_ok _ _ _ (by omega)) rfl ?_
   by_cases hk0:kOf x.t.l v=0
   ·have d0:decide (kOf x.t.l v=0)=true:=by simpa using hk0
    rw [if_pos hk0] at hsn
    have hT:VPure FT p5 [.fz 1 none 3 [.int .i64 x.t.c,.fz x.t.l.length none 2 (encM x.t.l),.bool x.eq]] (.fz 1 none 3 [.int .i64 x.t.c,.fz x.t.l.length none 2 (encM x.t.l),.bool x.eq]):=TwinC_ok [x] ⟨by simp,by simpa using hxl⟩
    have hsub:i+1-i=1:=by omega
    simp -implicitDefEqProofs only [d0,inc64 hlt (by omega:l.length≤4611686018427387904),take1 hx,hsub,go_sem,reduceCtorEq,rdA,rdM,rdL,rdT,rdE,rdN,↓gTT,↓gFF,↓gTF,↓gFT]
    repeat' (first|(with_reducible refine And.intro ?_ ?_)|(with_reducible refine gs_t ?_ ?_)|(with_reducible refine gs_f ?_ ?_)|(intro _)|((with_reducible apply wCall_any);(· (simp -implicitDefEqProofs only [go_sem,reduceCtorEq,rdA,rdM,rdL,rdT,rdE,rdN,↓gTT,↓gFF,↓gTF,↓gFT]<;>rfl));(· (exact hT));(· rfl);(· rfl);(· (first|exact Eq.refl true|exact Eq.refl false));(simp -implicitDefEqProofs only [encC_len,inc64 hlt (by omega:l.length≤4611686018427387904),go_sem,reduceCtorEq,rdA,rdM,rdL,rdT,rdE,rdN,↓gTT,↓gFF,↓gTF,↓gFT]))|fail)
    all_goals (clear s1 s2 s3 s4;try omega)
    refine ⟨n-1,by omega,_,subH_refl _,i+1,m,by omega,⟨?_,rfl⟩,rfl,?_⟩<;>rw [hsn]<;>simp [encC_app,encC,vMs]
   ·have d0:decide (kOf x.t.l v=0)=false:=by simpa using hk0
    rw [if_neg hk0] at hsn
    simp -implicitDefEqProofs only [d0,inc64 hlt (by omega:l.length≤4611686018427387904),go_sem,reduceCtorEq,rdA,rdM,rdL,rdT,rdE,rdN,↓gTT,↓gFF,↓gTF,↓gFT]
    refine ⟨n-1,by omega,_,subH_refl _,i+1,m,by omega,⟨?_,rfl⟩,rfl,?_⟩<;>rw [hsn]
  ·rw [List.take_of_length_le hge] at s3
   simp -implicitDefEqProofs only [s1,s2,s3,s4,ltF hge,List.take_of_length_le hge,encC_len,go_sem,reduceCtorEq,rdA,rdM,rdL,rdT,rdE,rdN,↓gTT,↓gFF,↓gTF,↓gFT]
   clear s1 s2 s3 s4
   obtain ⟨H,hH⟩:∃ H,H=highsOf l v:=⟨_,rfl⟩
   obtain ⟨T,hT⟩:∃ T,T=othersOf l v:=⟨_,rfl⟩
   have bH:H.length≤100000:=by rw [hH];exact Nat.le_trans (List.length_filter_le _ _) hll
   have bT:T.length≤100000:=by rw [hT];exact Nat.le_trans (List.length_filter_le _ _) hll
   have hD:dropList l v=T++(lowsOf l v).flatMap (conRow H v):=by unfold dropList;rw [hH,hT]
   rw [←hT]
   refine wLoop_dr (fun n s=>∃ i m:Nat,i+n=l.length∧At s [(p0,.fz l.length none 3 (encC l)),(p1,.int .i64 v),(p6,.ow 0 (T++(lowsOf (l.take i) v).flatMap (conRow H v)).length 3),(p8,.int .i64 i)] (m+1) 0 [(0,.row (encC (T++(lowsOf (l.take i) v).flatMap (conRow H v))))]∧∀ a∈lowsOf (l.take i) v,∀ b∈H,(pairR a b v).2.2=0) l.length ?_ ?_
   ·exact ⟨0,m,by simp,by simp -implicitDefEqProofs only [go_sem,reduceCtorEq,rdA,rdM,rdL,rdT,rdE,rdN,↓gTT,↓gFF,↓gTF,↓gFT];simp [lowsOf],by simp [lowsOf]⟩
   ·rintro n ⟨e,nx,w,h⟩ ⟨i,m,hi,⟨⟨s1,s2,s3,s4,-⟩,rfl,rfl,rfl⟩,hz⟩
    rcases Nat.lt_or_ge i l.length with hlt|hge
    ·obtain ⟨x,hx⟩:=has hlt
     have hxm:=List.mem_of_getElem? hx
     have hxl:=hs.all x hxm
     have hxo:=okm x hxm
     obtain ⟨_,x40,xok⟩:=okC_parts hxo
     have kb:=kOf_bound v xok
     have hsn:=lows_snoc v hx
     simp -implicitDefEqProofs only [s1,s2,s3,s4,ltT hlt,encC_t hx,encC_len,inc64 hlt (by omega:l.length≤4611686018427387904),go_sem,reduceCtorEq,rdA,rdM,rdL,rdT,rdE,rdN,↓gTT,↓gFF,↓gTF,↓gFT]
     refine ⟨⟨by omega,by omega⟩,by omega,?_⟩
     refine wCall_pp (r:=.int .i64 (kOf x.t.l v)) (by simp [pureL,pureV]) (Kr_ok _ _ _ (by omega)) rfl ?_
     by_cases hk0:kOf x.t.l v<0
     ·have d0:decide (0≤kOf x.t.l v)=false:=by simp;omega
      have w1:IntKind.i64.wrap (0-kOf x.t.l v)=-(kOf x.t.l v):=by rw [i64 (by omega)];omega
      rw [if_pos hk0] at hsn
      obtain ⟨Q,hQ⟩:∃ Q,Q=T++(lowsOf (l.take i) v).flatMap (conRow H v):=⟨_,rfl⟩
      have hQl:Q.length≤100000+100000*100000:=by
       rw [hQ,List.length_append]
       have h1:=flat_len (conRow H v) H.length (fun a=>by unfold conRow;simp) (lowsOf (l.take i) v)
       have h3:(lowsOf (l.take i) v).length≤100000:=Nat.le_trans (List.length_filter_le _ _) (Nat.le_trans (List.length_take_le _ _) (by omega))
       have h2:(lowsOf (l.take i) v).length*H.length≤100000*100000:=Nat.mul_le_mul h3 bH
       omega
      rw [←hQ]
      simp -implicitDefEqProofs only [d0,inc64 hlt (by omega:l.length≤4611686018427387904),go_sem,reduceCtorEq,rdA,rdM,rdL,rdT,rdE,rdN,↓gTT,↓gFF,↓gTF,↓gFT]
      refine wLoop_dr (fun n' s=>∃ j m':Nat,j+n'=l.length∧At s [(p0,.fz l.length none 3 (encC l)),(p1,.int .i64 v),(p6,.ow 0 (Q++conRow (highsOf (l.take j) v) v x).length 3),(p8,.int .i64 i),(p9,.int .i64 (kOf x.t.l v)),(p10,.int .i64 j)] (m'+1) 0 [(0,.row (encC (Q++conRow (highsOf (l.take j) v) v x)))]∧∀ b∈highsOf (l.take j) v,(pairR x b v).2.2=0) l.length ?_ ?_
      ·exact ⟨0,m,by simp,by simp -implicitDefEqProofs only [go_sem,reduceCtorEq,rdA,rdM,rdL,rdT,rdE,rdN,↓gTT,↓gFF,↓gTF,↓gFT];simp [conRow,highsOf],by simp [highsOf]⟩
      ·rintro n' ⟨e',nx,w,h⟩ ⟨j,m',hj,⟨⟨a1,a2,a3,a4,a5,a6,-⟩,rfl,rfl,rfl⟩,hzj⟩
       rcases Nat.lt_or_ge j l.length with hjlt|hjge
       ·obtain ⟨y,hy⟩:=has hjlt
        have hym:=List.mem_of_getElem? hy
        have hyl:=hs.all y hym
        have hyo:=okm y hym
        have hsnj:=highs_snoc v hy
        simp -implicitDefEqProofs only [a1,a2,a3,a4,a5,a6,ltT hjlt,encC_t hy,encC_len,inc64 hjlt (by omega:l.length≤4611686018427387904),go_sem,reduceCtorEq,rdA,rdM,rdL,rdT,rdE,rdN,↓gTT,↓gFF,↓gTF,↓gFT]
        refine ⟨⟨by omega,by omega⟩,by omega,?_⟩
        refine wCall_pp (r:=.int .i64 (kOf y.t.l v)) (by simp [pureL,pureV]) (Kr_ok _ _ _ (by omega)) rfl ?_
        by_cases hky:0<kOf y.t.l v
        ·have dy:decide (kOf y.t.l v≤0)=false:=by simp;omega
         rw [if_pos hky] at hsnj
         have hcr:(conRow (highsOf (l.take j) v) v x).length≤j:=by unfold conRow;rw [List.length_map];exact Nat.le_trans (List.length_filter_le _ _) (List.length_take_le _ _)
         have hrow:conRow (highsOf (l.take (j+1)) v) v x=conRow (highsOf (l.take j) v) v x++[mkC (pairR x y v)]:=by unfold conRow;rw [hsnj,List.map_append];rfl
         obtain ⟨A,hA⟩:∃ A,A=scaleR y.t.c y.t.l (-(kOf x.t.l v)):=⟨_,rfl⟩
         obtain ⟨B,hB⟩:∃ B,B=scaleR x.t.c x.t.l (kOf y.t.l v):=⟨_,rfl⟩
         have SA:=rScale_ok y.t.c y.t.l (-(kOf x.t.l v)) hyo
         have SB:=rScale_ok x.t.c x.t.l (kOf y.t.l v) hxo
         have cA:=scaleR_spec (k:=-(kOf x.t.l v)) hyo
         have cB:=scaleR_spec (k:=kOf y.t.l v) hxo
         have hP:pairR x y v=if A.2.2≠0∨B.2.2≠0 then (0,[],12) else addR A.1 A.2.1 B.1 B.2.1:=by unfold pairR;rw [hA,hB]
         have hbad:(pairR x y v).2.2≠0→rDropV l v=.tup [.fz 0 none 3 [],.bool false]:=fun hne=>by
          have:dropErr l v≠0:=fun h0=>hne (dropErr_zero.1 h0 x (by unfold lowsOf;simp [hxm,hk0]) y (by unfold highsOf;simp [hym,hky]))
          unfold rDropV;rw [if_neg this,decide_eq_false this];rfl
         rw [←hA] at SA cA
         rw [←hB] at SB cB
         simp -implicitDefEqProofs only [dy,w1,encC_t hy,encC_t hx,encC_len,inc64 hjlt (by omega:l.length≤4611686018427387904),go_sem,reduceCtorEq,rdA,rdM,rdL,rdT,rdE,rdN,↓gTT,↓gFF,↓gTF,↓gFT]
         clear a1 a2 a3 a4 a5 a6 s1 s2 s3 s4
         by_cases eA:A.2.2=0
         ·have dA:decide (A.2.2=0)=true:=by simpa using eA
          by_cases eB:B.2.2=0
          ·have dB:decide (B.2.2=0)=true:=by simpa using eB
           rw [if_neg (by omega)] at hP
           obtain ⟨R,hR⟩:∃ R,R=pairR x y v:=⟨_,rfl⟩
           have PR:=rAdd_ok A.1 A.2.1 B.1 B.2.1 (cA.resolve_right (by omega)).2.1 (cB.resolve_right (by omega)).2.1
           rw [←hP,←hR] at PR
           rw [←hR] at hrow hbad
           by_cases eR:R.2.2=0
           ·have dR:decide (R.2.2=0)=true:=by simpa using eR
            repeat' (first|(with_reducible refine And.intro ?_ ?_)|(with_reducible refine gs_t ?_ ?_)|(with_reducible refine gs_f ?_ ?_)|(intro _)|((with_reducible apply wCall_any);(· (simp -implicitDefEqProofs only [go_sem,reduceCtorEq,rdA,rdM,rdL,rdT,rdE,rdN,↓gTT,↓gFF,↓gTF,↓gFT]<;>rfl));(· (first|exact SA|exact SB|exact PR));(· rfl);(· rfl);(· (first|exact Eq.refl true|exact Eq.refl false));(simp -implicitDefEqProofs only [vTB,dA,dB,dR,Bool.not_true,encC_t hx,encC_len,inc64 hjlt (by omega:l.length≤4611686018427387904),go_sem,reduceCtorEq,rdA,rdM,rdL,rdT,rdE,rdN,↓gTT,↓gFF,↓gTF,↓gFT]))|fail)
            all_goals first|omega|(rw [List.length_append];omega)|skip
            refine ⟨n'-1,by omega,_,subH_tail (by simp [hget]),j+1,m'+1,by omega,⟨⟨?_,rfl⟩,rfl,?_⟩,?_⟩
            ·rw [hrow];simp;omega
            ·rw [hrow];simp [encC_app,encC,mkC,vMs]
            ·rw [hsnj];intro b hb
             rcases List.mem_append.1 hb with hb|hb
             ·exact hzj b hb
             ·rw [List.mem_singleton.1 hb,←hR];exact eR
           ·have dR:decide (R.2.2=0)=false:=by simpa using eR
            rw [hbad eR]
            repeat' (first|(with_reducible refine And.intro ?_ ?_)|(with_reducible refine gs_t ?_ ?_)|(with_reducible refine gs_f ?_ ?_)|(intro _)|((with_reducible apply wCall_any);(· (simp -implicitDefEqProofs only [go_sem,reduceCtorEq,rdA,rdM,rdL,rdT,rdE,rdN,↓gTT,↓gFF,↓gTF,↓gFT]<;>rfl));(· (first|exact SA|exact SB|exact PR));(· rfl);(· rfl);(· (first|exact Eq.refl true|exact Eq.refl false));(simp -implicitDefEqProofs only [vTB,dA,dB,dR,Bool.not_true,Bool.not_false,encC_t hx,encC_len,encC,go_sem,reduceCtorEq,rdA,rdM,rdL,rdT,rdE,rdN,↓gTT,↓gFF,↓gTF,↓gFT]))|fail)
            all_goals first|omega|trivial|simp
          ·have dB:decide (B.2.2=0)=false:=by simpa using eB
           rw [if_pos (.inr eB)] at hP
           rw [hbad (by rw [hP];decide)]
           repeat' (first|(with_reducible refine And.intro ?_ ?_)|(with_reducible refine gs_t ?_ ?_)|(with_reducible refine gs_f ?_ ?_)|(intro _)|((with_reducible apply wCall_any);(· (simp -implicitDefEqProofs only [go_sem,reduceCtorEq,rdA,rdM,rdL,rdT,rdE,rdN,↓gTT,↓gFF,↓gTF,↓gFT]<;>rfl));(· (first|exact SA|exact SB));(· rfl);(· rfl);(· (first|exact Eq.refl true|exact Eq.refl false));(simp -implicitDefEqProofs only [vTB,dA,dB,Bool.not_true,Bool.not_false,encC_t hx,encC_len,encC,go_sem,reduceCtorEq,rdA,rdM,rdL,rdT,rdE,rdN,↓gTT,↓gFF,↓gTF,↓gFT]))|fail)
           all_goals first|omega|trivial|simp
         ·have dA:decide (A.2.2=0)=false:=by simpa using eA
          rw [if_pos (.inl eA)] at hP
          rw [hbad (by rw [hP];decide)]
          repeat' (first|(with_reducible refine And.intro ?_ ?_)|(with_reducible refine gs_t ?_ ?_)|(with_reducible refine gs_f ?_ ?_)|(intro _)|((with_reducible apply wCall_any);(· (simp -implicitDefEqProofs only [go_sem,reduceCtorEq,rdA,rdM,rdL,rdT,rdE,rdN,↓gTT,↓gFF,↓gTF,↓gFT]<;>rfl));(· (first|exact SA|exact SB));(· rfl);(· rfl);(· (first|exact Eq.refl true|exact Eq.refl false));(simp -implicitDefEqProofs only [vTB,dA,Bool.not_true,Bool.not_false,encC_t hx,encC_len,encC,go_sem,reduceCtorEq,rdA,rdM,rdL,rdT,rdE,rdN,↓gTT,↓gFF,↓gTF,↓gFT]))|fail)
          all_goals first|omega|trivial|simp
        ·have dy:decide (kOf y.t.l v≤0)=true:=by simp;omega
         rw [if_neg hky] at hsnj
         simp -implicitDefEqProofs only [dy,inc64 hjlt (by omega:l.length≤4611686018427387904),go_sem,reduceCtorEq,rdA,rdM,rdL,rdT,rdE,rdN,↓gTT,↓gFF,↓gTF,↓gFT]
         refine ⟨n'-1,by omega,_,subH_refl _,j+1,m',by omega,⟨⟨?_,rfl⟩,rfl,?_⟩,?_⟩<;>rw [hsnj]
         exact hzj
       ·rw [List.take_of_length_le hjge,←hH] at a3 hzj
        simp -implicitDefEqProofs only [a1,a2,a3,a4,a5,a6,ltF hjge,List.take_of_length_le hjge,←hH,inc64 hlt (by omega:l.length≤4611686018427387904),go_sem,reduceCtorEq,rdA,rdM,rdL,rdT,rdE,rdN,↓gTT,↓gFF,↓gTF,↓gFT]
        clear a1 a2 a3 a4 a5 a6 s1 s2 s3 s4
        have hQ2:T++(lowsOf (l.take (i+1)) v).flatMap (conRow H v)=Q++conRow H v x:=by rw [hsn,hQ];simp
        refine ⟨n-1,by omega,_,subH_refl _,i+1,m',by omega,⟨⟨?_,rfl⟩,rfl,?_⟩,?_⟩
        ·rw [hQ2]
        ·rw [hQ2]
        ·rw [hsn];intro a ha b hb
         rcases List.mem_append.1 ha with ha|ha
         ·exact hz a ha b hb
         ·rw [List.mem_singleton.1 ha];exact hzj b hb
     ·have d0:decide (0≤kOf x.t.l v)=true:=by simp;omega
      rw [if_neg hk0] at hsn
      simp -implicitDefEqProofs only [d0,inc64 hlt (by omega:l.length≤4611686018427387904),go_sem,reduceCtorEq,rdA,rdM,rdL,rdT,rdE,rdN,↓gTT,↓gFF,↓gTF,↓gFT]
      refine ⟨n-1,by omega,_,subH_refl _,i+1,m,by omega,⟨⟨?_,rfl⟩,rfl,?_⟩,?_⟩<;>rw [hsn]
      exact hz
    ·rw [List.take_of_length_le hge] at s3 hz
     have hde:dropErr l v=0:=dropErr_zero.2 (by rw [←hH];exact hz)
     have e:rDropV l v=.tup [vCs (dropList l v),.bool true]:=by unfold rDropV;rw [if_pos hde,hde];rfl
     rw [e,hD]
     simp -implicitDefEqProofs only [s1,s2,s3,s4,ltF hge,List.take_of_length_le hge,encC_len,go_sem,reduceCtorEq,rdA,rdM,rdL,rdT,rdE,rdN,↓gTT,↓gFF,↓gTF,↓gFT]
theorem up_ok (a b:Int) (hb:0<b) (ha:-1152921504606846976≤a∧a≤1152921504606846976):VPure FT p108 [.int .i64 a,.int .i64 b] (.int .i64 (-(-a / b))):=by
 refine vpure_of_body (f:=p108) rfl rfl ?_
 have hq:=tdiv_bound a b hb ha
 have hfix:=tdiv_fix (-a) b hb
 rw [Int.neg_tmod,Int.neg_tdiv] at hfix
 have w1:IntKind.i64.wrap (a.tdiv b)=a.tdiv b:=i64 (by omega)
 have w2:IntKind.i64.wrap (a.tdiv b+1)=a.tdiv b+1:=i64 (by omega)
 have hb0:decide (b=0)=false:=by simp;omega
 by_cases h:0<a.tmod b
 ·rw [if_pos (by omega)] at hfix
  have d:decide (0<a.tmod b)=true:=by simpa using h
  simp -implicitDefEqProofs only [w1,w2,d,hb0,go_sem,reduceCtorEq,rdA,rdM,rdL,rdT,rdE,rdN,↓gTT,↓gFF,↓gTF,↓gFT]
  exact ⟨by omega,by omega,by omega⟩
 ·rw [if_neg (by omega)] at hfix
  have d:decide (0<a.tmod b)=false:=by simpa using h
  simp -implicitDefEqProofs only [w1,w2,d,hb0,go_sem,reduceCtorEq,rdA,rdM,rdL,rdT,rdE,rdN,↓gTT,↓gFF,↓gTF,↓gFT]
  exact ⟨by omega,by omega,by omega⟩
theorem rdown_ok (a b:Int) (hb:0<b) (ha:-1152921504606846976≤a∧a≤1152921504606846976):VPure FT p87 [.int .i64 a,.int .i64 b] (.int .i64 (a / b)):=by
 refine vpure_of_body (f:=p87) rfl rfl ?_
 have hU:=up_ok (-a) b hb (by omega)
 rw [Int.neg_neg] at hU
 have hq:=ediv_bound hb ha (by omega)
 have w1:IntKind.i64.wrap (0-a)=-a:=by rw [i64 (by omega)];omega
 have w2:IntKind.i64.wrap (0 - -(a / b))=a / b:=by rw [i64 (by omega)];omega
 simp -implicitDefEqProofs only [w1,go_sem,reduceCtorEq,rdA,rdM,rdL,rdT,rdE,rdN,↓gTT,↓gFF,↓gTF,↓gFT]
 repeat' (first|(with_reducible refine And.intro ?_ ?_)|(with_reducible refine gs_t ?_ ?_)|(with_reducible refine gs_f ?_ ?_)|(intro _)|((with_reducible apply wCall_any);(· (simp -implicitDefEqProofs only [go_sem,reduceCtorEq,rdA,rdM,rdL,rdT,rdE,rdN,↓gTT,↓gFF,↓gTF,↓gFT]<;>rfl));(· (exact hU));(· rfl);(· rfl);(· (first|exact Eq.refl true|exact Eq.refl false));(simp -implicitDefEqProofs only [w2,go_sem,reduceCtorEq,rdA,rdM,rdL,rdT,rdE,rdN,↓gTT,↓gFF,↓gTF,↓gFT]))|fail)
theorem rest_eq (v:Int) (vals:List Int):∀ l:List Mono,linV vals (delM v l)=restOf v vals l
 | []=>rfl
 | m::l=>by
  have ih:=rest_eq v vals l
  unfold delM at ih ⊢
  by_cases h:m.v=v
  ·rw [List.filter_cons_of_neg (by simp [h]),ih,restOf,if_pos h];omega
  ·rw [List.filter_cons_of_pos (by simp [h]),linV,ih,restOf,if_neg h]
def loF (l:List Cons) (v:Int) (vals:List Int):Int:=(lowsOf l v).foldl (fun a x=>max a (-(-(x.t.c+restOf v vals x.t.l) / -(kOf x.t.l v)))) (-2147483648)
def hiF (l:List Cons) (v:Int) (vals:List Int):Int:=(highsOf l v).foldl (fun a x=>min a (-(x.t.c+restOf v vals x.t.l) / kOf x.t.l v)) 2147483647
theorem span_lo (v:Int) (vals:List Int):∀ (l:List Cons) (a b:Int),(∀ x∈l,kOf x.t.l v<0)→l.foldl (spanStep v vals) (a,b)=(l.foldl (fun a x=>max a (-(-(x.t.c+restOf v vals x.t.l) / -(kOf x.t.l v)))) a,b)
 | [],_,_,_=>rfl
 | x::l,a,b,h=>by
  have hx:=h x List.mem_cons_self
  rw [List.foldl_cons,List.foldl_cons,spanStep,if_pos hx,span_lo v vals l _ _ fun y hy=>h y (List.mem_cons_of_mem _ hy)]
theorem span_hi (v:Int) (vals:List Int):∀ (l:List Cons) (a b:Int),(∀ x∈l,0<kOf x.t.l v)→l.foldl (spanStep v vals) (a,b)=(a,l.foldl (fun a x=>min a (-(x.t.c+restOf v vals x.t.l) / kOf x.t.l v)) b)
 | [],_,_,_=>rfl
 | x::l,a,b,h=>by
  have hx:=h x List.mem_cons_self
  rw [List.foldl_cons,List.foldl_cons,spanStep,if_neg (by omega),span_hi v vals l _ _ fun y hy=>h y (List.mem_cons_of_mem _ hy)]
theorem span_split (l:List Cons) (v:Int) (vals:List Int):spanFold l v vals=(loF l v vals,hiF l v vals):=by
 unfold spanFold spanC
 rw [List.foldl_append,span_lo v vals (lowsOf l v) _ _ (by intro x hx;simpa using (List.mem_filter.1 hx).2),span_hi v vals (highsOf l v) _ _ (by intro x hx;simpa using (List.mem_filter.1 hx).2)]
 rfl
theorem loF_snoc {l:List Cons} {i:Nat} {x:Cons} (v:Int) (vals:List Int) (h:l[i]?=some x):loF (l.take (i+1)) v vals=if kOf x.t.l v<0 then max (loF (l.take i) v vals) (-(-(x.t.c+restOf v vals x.t.l) / -(kOf x.t.l v))) else loF (l.take i) v vals:=by
 unfold loF;rw [lows_snoc v h]
 by_cases hk:kOf x.t.l v<0
 ·rw [if_pos hk,if_pos hk,List.foldl_append];rfl
 ·rw [if_neg hk,if_neg hk]
theorem hiF_snoc {l:List Cons} {i:Nat} {x:Cons} (v:Int) (vals:List Int) (h:l[i]?=some x):hiF (l.take (i+1)) v vals=if 0<kOf x.t.l v then min (hiF (l.take i) v vals) (-(x.t.c+restOf v vals x.t.l) / kOf x.t.l v) else hiF (l.take i) v vals:=by
 unfold hiF;rw [highs_snoc v h]
 by_cases hk:0<kOf x.t.l v
 ·rw [if_pos hk,if_pos hk,List.foldl_append];rfl
 ·rw [if_neg hk,if_neg hk]
theorem far_told {l:List Cons} {x:Cons} {v:Int} {vals:List Int} (hf:mayFar l v vals.length=false) (hx:x∈l) (hk:kOf x.t.l v≠0) (ho:okC x=true) (hv:vals.any outB=false):toldE x.t.c (delM v x.t.l) vals=0:=by
 unfold mayFar at hf
 rw [List.any_eq_false] at hf
 have h1:=hf x hx
 simp only [hk,Bool.and_eq_true,decide_eq_true_eq,ne_eq,not_false_eq_true,true_and,Bool.not_eq_true] at h1
 rw [List.any_eq_false] at h1
 have hd:okT x.t.c (delM v x.t.l)=true:=okT_del v ho
 have ha:(delM v x.t.l).any (fun m=>decide ((vals.length:Int)≤m.v))=false:=by
  rw [List.any_eq_false]
  intro m hm
  have h2:=List.mem_filter.1 hm
  have h3:=h1 m h2.1
  simp only [farB] at h3
  have h4:=h2.2
  simp at h3 h4 ⊢
  exact h3 h4
 unfold toldE
 rw [if_neg (by simp [hd]),if_neg (by simp [ha]),if_neg (by simp [hv])]
def rSpanV (l:List Cons) (v:Int) (vals:List Int):VV:=.tup [.int .i64 (min (loF l v vals) 2147483647),.int .i64 (max (hiF l v vals) (-2147483648))]
set_option maxHeartbeats 1000000 in
theorem rSpan_ok (l:List Cons) (v:Int) (vals:List Int) (hs:smallC l) (hok:l.all okC=true) (hvl:vals.length≤1000000) (hf:mayFar l v vals.length=false) (hv:vals.any outB=false):
 VPure FT p85 [.fz l.length none 3 (encC l),.int .i64 v,.fz vals.length none 1 (encI vals)] (rSpanV l v vals):=by
 have hll:=hs.len
 refine vpure_of_body' (f:=p85) rfl rfl ?_
 simp -implicitDefEqProofs only [go_sem,reduceCtorEq,rdA,rdM,rdL,rdT,rdE,rdN,↓gTT,↓gFF,↓gTF,↓gFT]
 refine wLoop_by (fun n s=>∃ i:Nat,i+n=l.length∧At s [(p0,.fz l.length none 3 (encC l)),(p1,.int .i64 v),(p2,.fz vals.length none 1 (encI vals)),(p8,.int .i64 (min (loF (l.take i) v vals) 2147483647)),(p9,.int .i64 (max (hiF (l.take i) v vals) (-2147483648))),(p10,.int .i64 i)] 0 0 []) l.length ?_ ?_
 ·refine ⟨0,by simp,?_⟩
  have h1:min (loF (l.take 0) v vals) 2147483647=-2147483648:=rfl
  have h2:max (hiF (l.take 0) v vals) (-2147483648)=2147483647:=rfl
  rw [h1,h2]
  simp -implicitDefEqProofs only [go_sem,reduceCtorEq,rdA,rdM,rdL,rdT,rdE,rdN,↓gTT,↓gFF,↓gTF,↓gFT]
 ·rintro n ⟨e,nx,w,h⟩ ⟨i,hi,⟨s1,s2,s3,s4,s5,s6,-⟩,rfl,rfl,rfl⟩
  rcases Nat.lt_or_ge i l.length with hlt|hge
  ·obtain ⟨x,hx⟩:=has hlt
   have hxm:=List.mem_of_getElem? hx
   have hxl:=hs.all x hxm
   have hxo:=List.all_eq_true.1 hok x hxm
   obtain ⟨hc,x40,xok⟩:=okC_parts hxo
   have kb:=kOf_bound v xok
   have rb:=restOf_bound v hv xok
   have hlo:=loF_snoc v vals hx
   have hhi:=hiF_snoc v vals hx
   simp -implicitDefEqProofs only [s1,s2,s3,s4,s5,s6,ltT hlt,encC_t hx,encC_len,inc64 hlt (by omega:l.length≤4611686018427387904),go_sem,reduceCtorEq,rdA,rdM,rdL,rdT,rdE,rdN,↓gTT,↓gFF,↓gTF,↓gFT]
   refine ⟨⟨by omega,by omega⟩,by omega,?_⟩
   refine wCall_pp (r:=.int .i64 (kOf x.t.l v)) (by simp [pureL,pureV]) (Kr_ok _ _ _ (by omega)) rfl ?_
   by_cases hk0:kOf x.t.l v=0
   ·have d0:decide (kOf x.t.l v=0)=true:=by simpa using hk0
    rw [if_neg (by omega)] at hlo hhi
    simp -implicitDefEqProofs only [d0,inc64 hlt (by omega:l.length≤4611686018427387904),go_sem,reduceCtorEq,rdA,rdM,rdL,rdT,rdE,rdN,↓gTT,↓gFF,↓gTF,↓gFT]
    exact ⟨n-1,by omega,i+1,by omega,by rw [hlo],by rw [hhi],rfl⟩
   ·have d0:decide (kOf x.t.l v=0)=false:=by simpa using hk0
    have hT:=far_told hf hxm hk0 hxo hv
    have hVal:=rValue_ok x.t.c (delM v x.t.l) vals hT hvl
    rw [rest_eq] at hVal
    obtain ⟨N,hN⟩:∃ N,N=x.t.c+restOf v vals x.t.l:=⟨_,rfl⟩
    have hNb:-1152921504606846976≤N∧N≤1152921504606846976:=by omega
    rw [←hN] at hVal hlo hhi
    have hW:=without_ok x.t.c x.t.l v (by omega)
    simp -implicitDefEqProofs only [d0,encC_t hx,encC_len,inc64 hlt (by omega:l.length≤4611686018427387904),go_sem,reduceCtorEq,rdA,rdM,rdL,rdT,rdE,rdN,↓gTT,↓gFF,↓gTF,↓gFT]
    refine ⟨⟨by omega,by omega⟩,by omega,?_⟩
    refine wCall_pp (r:=.agg [.int .i64 x.t.c,.fz (delM v x.t.l).length none 2 (encM (delM v x.t.l))]) (by simp [pureL,pureV]) hW (by simp [pureV,pureL]) ?_
    simp -implicitDefEqProofs only [go_sem,reduceCtorEq,rdA,rdM,rdL,rdT,rdE,rdN,↓gTT,↓gFF,↓gTF,↓gFT]
    refine wCall_pp (r:=.int .i64 N) (by simp [pureL,pureV]) hVal rfl ?_
    by_cases hkp:0<kOf x.t.l v
    ·have dp:decide (0<kOf x.t.l v)=true:=by simpa using hkp
     rw [if_neg (by omega)] at hlo
     rw [if_pos hkp] at hhi
     have w1:IntKind.i64.wrap (0-N)=-N:=by rw [i64 (by omega)];omega
     have hD:=rdown_ok (-N) (kOf x.t.l v) hkp (by omega)
     simp -implicitDefEqProofs only [dp,w1,go_sem,reduceCtorEq,rdA,rdM,rdL,rdT,rdE,rdN,↓gTT,↓gFF,↓gTF,↓gFT]
     refine wCall_pp (r:=.int .i64 (-N / kOf x.t.l v)) rfl hD rfl ?_
     simp -implicitDefEqProofs only [inc64 hlt (by omega:l.length≤4611686018427387904),go_sem,reduceCtorEq,rdA,rdM,rdL,rdT,rdE,rdN,↓gTT,↓gFF,↓gTF,↓gFT]
     exact ⟨n-1,by omega,i+1,by omega,by rw [hlo],by rw [hhi];omega,rfl⟩
    ·have dp:decide (0<kOf x.t.l v)=false:=by simpa using hkp
     rw [if_pos (by omega)] at hlo
     rw [if_neg hkp] at hhi
     have w1:IntKind.i64.wrap (0-kOf x.t.l v)=-(kOf x.t.l v):=by rw [i64 (by omega)];omega
     have hU:=up_ok N (-(kOf x.t.l v)) (by omega) (by omega)
     simp -implicitDefEqProofs only [dp,w1,go_sem,reduceCtorEq,rdA,rdM,rdL,rdT,rdE,rdN,↓gTT,↓gFF,↓gTF,↓gFT]
     refine wCall_pp (r:=.int .i64 (-(-N / -(kOf x.t.l v)))) rfl hU rfl ?_
     simp -implicitDefEqProofs only [inc64 hlt (by omega:l.length≤4611686018427387904),go_sem,reduceCtorEq,rdA,rdM,rdL,rdT,rdE,rdN,↓gTT,↓gFF,↓gTF,↓gFT]
     exact ⟨n-1,by omega,i+1,by omega,by rw [hlo];omega,by rw [hhi],rfl⟩
  ·rw [List.take_of_length_le hge] at s4 s5
   simp -implicitDefEqProofs only [s1,s2,s3,s4,s5,s6,ltF hge,rSpanV,go_sem,reduceCtorEq,rdA,rdM,rdL,rdT,rdE,rdN,↓gTT,↓gFF,↓gTF,↓gFT]
theorem right_parts {l:List Cons} {v:Int} (h:rightB l v=true):(0≤v∧v<40)∧∀ x∈l,okC x=true:=by
 simp only [rightB,Bool.and_eq_true,decide_eq_true_eq,List.all_eq_true] at h
 exact ⟨h.1,h.2⟩
theorem equalR_eq {x:Cons} {v:Int} (hr:rightB [x] v=true) (he:x.eq=true) (hk:oneB (kOf x.t.l v)=true):equalR x v=scaleR x.t.c (delM v x.t.l) (-(kOf x.t.l v)):=by
 have ho:okT x.t.c x.t.l=true:=(right_parts hr).2 x (by simp)
 unfold equalR
 rw [if_neg (by simp [hr]),if_neg (by simp [he,hk]),putR_nil ho]
theorem rEqual_ok (x:Cons) (v:Int) (hr:rightB [x] v=true) (he:x.eq=true) (hk:oneB (kOf x.t.l v)=true):
 VPure FT p78 [.agg (cC x),.int .i64 v] (.agg [.int .i64 (equalR x v).1,.fz (equalR x v).2.1.length none 2 (encM (equalR x v).2.1)]):=by
 have ho:okT x.t.c x.t.l=true:=(right_parts hr).2 x (by simp)
 have hxo:okC x=true:=ho
 obtain ⟨hc,x40,xok⟩:=okC_parts hxo
 have kb:=kOf_bound v xok
 have w1:IntKind.i64.wrap (0-kOf x.t.l v)=-(kOf x.t.l v):=by rw [i64 (by omega)];omega
 rw [equalR_eq hr he hk]
 have hS:=rScale_ok x.t.c (delM v x.t.l) (-(kOf x.t.l v)) (okT_del v ho)
 refine vpure_of_body' (f:=p78) rfl rfl ?_
 simp -implicitDefEqProofs only [go_sem,reduceCtorEq,rdA,rdM,rdL,rdT,rdE,rdN,↓gTT,↓gFF,↓gTF,↓gFT]
 repeat' (first|(with_reducible refine And.intro ?_ ?_)|(with_reducible refine gs_t ?_ ?_)|(with_reducible refine gs_f ?_ ?_)|(intro _)|((with_reducible apply wCall_any);(· (simp -implicitDefEqProofs only [go_sem,reduceCtorEq,rdA,rdM,rdL,rdT,rdE,rdN,↓gTT,↓gFF,↓gTF,↓gFT]<;>rfl));(· (first|exact without_ok _ _ _ (by omega)|exact Kr_ok _ _ _ (by omega)|exact hS));(· rfl);(· rfl);(· (first|exact Eq.refl true|exact Eq.refl false));(simp -implicitDefEqProofs only [w1,vTB,go_sem,reduceCtorEq,rdA,rdM,rdL,rdT,rdE,rdN,↓gTT,↓gFF,↓gTF,↓gFT]))|fail)
theorem Val1_ok (m:Mono) (vals:List Int):VPure FT p99 [.agg [.int .i64 m.v,.int .i64 m.k],.fp [.fz vals.length none 1 (encI vals)] 0] (.bool (decide ((vals.length:Int)≤m.v))):=by
 refine vpure_of_body (f:=p99) rfl rfl ?_
 simp -implicitDefEqProofs only [go_sem,reduceCtorEq,rdA,rdM,rdL,rdT,rdE,rdN,↓gTT,↓gFF,↓gTF,↓gFT]
theorem Val2_ok (n:Int):VPure FT p100 [.int .i64 n] (.bool (outB n)):=by
 refine vpure_of_body (f:=p100) rfl rfl ?_
 simp -implicitDefEqProofs only [go_sem,reduceCtorEq,rdA,rdM,rdL,rdT,rdE,rdN,↓gTT,↓gFF,↓gTF,↓gFT]
 unfold outB
 refine gs_f (fun h=>?_) (fun h=>?_)<;>simp only [h]<;>simp
set_option maxHeartbeats 1000000 in
theorem Value_ok (c:Int) (l:List Mono) (vals:List Int) (hl:l.length≤1000000) (hv:vals.length≤1000000):
 VPure FT p57 [.agg [.int .i64 c,.fz l.length none 2 (encM l)],.fz vals.length none 1 (encI vals)] (.tup [.int .i64 (if toldE c l vals=0 then c+linV vals l else 0),.int .i64 (toldE c l vals)]):=by
 refine vpure_of_body (f:=p57) rfl rfl ?_
 have hF:=ContainsM_ok p99 [.fp [.fz vals.length none 1 (encI vals)] 0] (fun m=>decide ((vals.length:Int)≤m.v)) l (by omega) rfl (fun m _=>Val1_ok m vals)
 have hO:=ContainsI_ok p100 [] outB vals (by omega) rfl (fun x _=>Val2_ok x)
 cases h1:okT c l with
 | false=>
  have e:toldE c l vals=1:=by unfold toldE;rw [if_pos h1]
  rw [e]
  simp -implicitDefEqProofs only [go_sem,reduceCtorEq,rdA,rdM,rdL,rdT,rdE,rdN,↓gTT,↓gFF,↓gTF,↓gFT]
  repeat' (first|(with_reducible refine And.intro ?_ ?_)|(with_reducible refine gs_t ?_ ?_)|(with_reducible refine gs_f ?_ ?_)|(intro _)|((with_reducible apply wCall_any);(· (simp -implicitDefEqProofs only [go_sem,reduceCtorEq,rdA,rdM,rdL,rdT,rdE,rdN,↓gTT,↓gFF,↓gTF,↓gFT]<;>rfl));(· (exact Check_ok _ _ (by omega)));(· rfl);(· rfl);(· (first|exact Eq.refl true|exact Eq.refl false));(simp -implicitDefEqProofs only [h1,Bool.false_eq_true,if_false,nb10,Bool.not_false,go_sem,reduceCtorEq,rdA,rdM,rdL,rdT,rdE,rdN,↓gTT,↓gFF,↓gTF,↓gFT]))|fail)
  all_goals rfl
 | true=>
 cases h2:l.any (fun m=>decide ((vals.length:Int)≤m.v)) with
 | true=>
  have e:toldE c l vals=5:=by unfold toldE;rw [if_neg (by simp [h1]),if_pos h2]
  rw [e]
  rw [h2] at hF
  simp -implicitDefEqProofs only [go_sem,reduceCtorEq,rdA,rdM,rdL,rdT,rdE,rdN,↓gTT,↓gFF,↓gTF,↓gFT]
  repeat' (first|(with_reducible refine And.intro ?_ ?_)|(with_reducible refine gs_t ?_ ?_)|(with_reducible refine gs_f ?_ ?_)|(intro _)|((with_reducible apply wCall_any);(· (simp -implicitDefEqProofs only [go_sem,reduceCtorEq,rdA,rdM,rdL,rdT,rdE,rdN,↓gTT,↓gFF,↓gTF,↓gFT]<;>rfl));(· (first|exact Check_ok _ _ (by omega)|exact hF));(· rfl);(· rfl);(· (first|exact Eq.refl true|exact Eq.refl false));(simp -implicitDefEqProofs only [h1,if_true,s0eq,Bool.not_true,go_sem,reduceCtorEq,rdA,rdM,rdL,rdT,rdE,rdN,↓gTT,↓gFF,↓gTF,↓gFT]))|fail)
  all_goals rfl
 | false=>
 rw [h2] at hF
 cases h3:vals.any outB with
 | true=>
  have e:toldE c l vals=1:=by unfold toldE;rw [if_neg (by simp [h1]),if_neg (by rw [h2];simp),if_pos h3]
  rw [e]
  rw [h3] at hO
  simp -implicitDefEqProofs only [go_sem,reduceCtorEq,rdA,rdM,rdL,rdT,rdE,rdN,↓gTT,↓gFF,↓gTF,↓gFT]
  repeat' (first|(with_reducible refine And.intro ?_ ?_)|(with_reducible refine gs_t ?_ ?_)|(with_reducible refine gs_f ?_ ?_)|(intro _)|((with_reducible apply wCall_any);(· (simp -implicitDefEqProofs only [go_sem,reduceCtorEq,rdA,rdM,rdL,rdT,rdE,rdN,↓gTT,↓gFF,↓gTF,↓gFT]<;>rfl));(· (first|exact Check_ok _ _ (by omega)|exact hF|exact hO));(· rfl);(· rfl);(· (first|exact Eq.refl true|exact Eq.refl false));(simp -implicitDefEqProofs only [h1,if_true,s0eq,Bool.not_true,go_sem,reduceCtorEq,rdA,rdM,rdL,rdT,rdE,rdN,↓gTT,↓gFF,↓gTF,↓gFT]))|fail)
  all_goals rfl
 | false=>
 have e:toldE c l vals=0:=by unfold toldE;rw [if_neg (by simp [h1]),if_neg (by rw [h2];simp),if_neg (by rw [h3];simp)]
 rw [e]
 rw [h3] at hO
 simp -implicitDefEqProofs only [go_sem,reduceCtorEq,rdA,rdM,rdL,rdT,rdE,rdN,↓gTT,↓gFF,↓gTF,↓gFT]
 repeat' (first|(with_reducible refine And.intro ?_ ?_)|(with_reducible refine gs_t ?_ ?_)|(with_reducible refine gs_f ?_ ?_)|(intro _)|((with_reducible apply wCall_any);(· (simp -implicitDefEqProofs only [go_sem,reduceCtorEq,rdA,rdM,rdL,rdT,rdE,rdN,↓gTT,↓gFF,↓gTF,↓gFT]<;>rfl));(· (first|exact Check_ok _ _ (by omega)|exact hF|exact hO));(· rfl);(· rfl);(· (first|exact Eq.refl true|exact Eq.refl false));(simp -implicitDefEqProofs only [h1,if_true,s0eq,Bool.not_true,go_sem,reduceCtorEq,rdA,rdM,rdL,rdT,rdE,rdN,↓gTT,↓gFF,↓gTF,↓gFT]))|fail)
 obtain ⟨hok,hrg,_,hms⟩:=told_parts e
 obtain ⟨⟨hc1,hc2⟩,h40,_⟩:=okC_parts (x:=⟨⟨c,l⟩,false⟩) hok
 refine wLoop_by (fun n s=>∃ i:Nat,i+n=l.length∧At s [(p3,.pt 0 1 0),(p6,.int .i64 (c+linV vals (l.take i))),(p24,.fz l.length none 2 (encM l)),(p25,.int .i64 l.length),(p26,.int .i64 i)] 1 0 [(0,.obj [.fz vals.length none 1 (encI vals)])]) l.length ?_ ?_
 ·exact ⟨0,by simp,by simp -implicitDefEqProofs only [go_sem,reduceCtorEq,rdA,rdM,rdL,rdT,rdE,rdN,↓gTT,↓gFF,↓gTF,↓gFT];simp [linV]⟩
 ·rintro n ⟨e',nx,w,h⟩ ⟨i,hi,⟨a1,a2,a3,a4,a5,-⟩,rfl,rfl,rfl⟩
  rcases Nat.lt_or_ge i l.length with hlt|hge
  ·obtain ⟨m,hm⟩:=has hlt
   have hmm:=List.mem_of_getElem? hm
   obtain ⟨r1,r2⟩:=hrg m hmm
   obtain ⟨y,hy⟩:∃ y,vals[m.v.toNat]?=some y:=has (by omega)
   have hval:valOf vals m.v=y:=by unfold valOf;rw [hy];rfl
   have hb1:=linV_bound h3 (l:=l.take i) fun x hx=>hms x (List.mem_of_mem_take hx)
   have hb2:=term_bound h3 (hms m hmm)
   have hlen:(l.take i).length≤40:=by rw [List.length_take];simp only at h40;omega
   rw [hval] at hb2
   simp only at hc1 hc2
   have hw1:IntKind.i64.wrap (m.k*y)=m.k*y:=i64 (by omega)
   have hw2:IntKind.i64.wrap (c+linV vals (l.take i)+m.k*y)=c+linV vals (l.take i)+m.k*y:=i64 (by omega)
   simp -implicitDefEqProofs only [a1,a2,a3,a4,a5,ltT hlt,encM_cut hm,encM_len,inc64 hlt (by omega:l.length≤4611686018427387904),Nat.mul_one,encI_g hy,hw1,hw2,go_sem,reduceCtorEq,rdA,rdM,rdL,rdT,rdE,rdN,↓gTT,↓gFF,↓gTF,↓gFT]
   refine ⟨⟨by omega,by omega⟩,by omega,⟨by omega,by omega⟩,n-1,by omega,i+1,by omega,?_,rfl⟩
   rw [take_snoc hm,linV_app];simp only [linV,hval,Int.add_zero];rw [Int.add_assoc]
  ·simp -implicitDefEqProofs only [a1,a2,a3,a4,a5,ltF hge,List.take_of_length_le hge,go_sem,reduceCtorEq,rdA,rdM,rdL,rdT,rdE,rdN,↓gTT,↓gFF,↓gTF,↓gFT]
def holdsB (x:Cons) (vals:List Int):Bool:=decide (x.t.c+linV vals x.t.l=0)||(decide (x.t.c+linV vals x.t.l<0)&&!x.eq)
def holdB (vals:List Int) (x:Cons):Bool:=decide (toldE x.t.c x.t.l vals=0)&&holdsB x vals
end Go.Proofs.YthdlkpmhjbaplaaGreat.Dx
namespace Go.Proofs.YthdlkpmhjbaplaaGreat.Dx
open Go
theorem insI_len (x:Int):∀ l:List Int,(insI x l).length=l.length+1
 | []=>rfl
 | y::t=>by
  unfold insI
  cases h:ilt y x with
  | true=>simp [insI_len x t]
  | false=>rfl
theorem sortI_len:∀ l:List Int,(sortI l).length=l.length
 | []=>rfl
 | x::l=>by unfold sortI;rw [insI_len,sortI_len l];rfl
theorem XRs.encI {Z:P→Prop} {h:Hp} {M:Option MM}:∀ l:List Int,XRs Z h M (Dx.encI l) (l.map (DV.int .i64))
 | []=>.nil
 | x::l=>.cons (.int _ _) (XRs.encI l)
theorem ints_of {Z:P→Prop} {h:Hp} {M:Option MM}:∀ {l:List Int} {ds:List DV},XRs Z h M (Dx.encI l) ds→intsOf ds=some l
 | [],ds,hx=>by cases hx;rfl
 | x::l,ds,hx=>by
  cases hx with
  | cons hv hl=>
   have:=hv.int_inv
   subst this
   simp only [intsOf,ints_of hl]
section
variable {F:Tr Fd} {f:P}
theorem call_prim {n:Nat} (hf:Tr.get? f F=some (.prim n)) {ds:List DV} {wm:Option P} {dnx dnx':P} {dh dh':Hp} {x:DV} (hp:primV n wm ds dnx dh=some (x,dnx',dh')):
 ∃ fuel,∀ m,fuel≤m→∀ (e0:Env) (k:Kv),callK F (exec F m) wm f ds e0 dnx dh k=k e0 x dnx' dh':=by
 refine ⟨0,fun m _ e0 k=>?_⟩
 unfold callK
 rw [hf]
 show primO e0 k (primV n wm ds dnx dh)=_
 rw [hp];rfl
theorem prim_sort (hf:Tr.get? f F=some (.prim 0)) {k nx:Nat} {xs:List Int} (hn:xs.length≤1000000):
 FSem F f [.ow k xs.length 1] nx [(k,.row (Dx.encI xs))] (fun r nx' h'=>r=.tup []∧nx'=nx∧h'=[(k,.row (Dx.encI (sortI xs)))]):=by
 intro c dnx dh g ds hc hR hx
 have R:RS c ⟨.nl,nx,0,[(k,.row (Dx.encI xs))]⟩ ⟨.nl,dnx,dh⟩ g:=⟨EnvR.nl,hR⟩
 cases hx with
 | cons hv hl=>
  cases hl
  rename_i d
  have hlive:live [(k,VOb.row (Dx.encI xs))] k (xs.length*1)=some (.row (Dx.encI xs)):=by simp [live,hget,VOb.cells,encI_len]
  obtain ⟨h1,h2,h3,B,h5⟩:=ow_blk R hlive hv
  rcases h5 with ⟨rfl,h0⟩|⟨b,o,cp,rfl⟩
  ·have hxs:xs=[]:=List.eq_nil_of_length_eq_zero h0
   subst hxs
   exact ⟨.tup [],nx,_,.tup [],dnx,dh,g,call_prim hf rfl,hR,.tup .nil,Evo.refl _ _ _ _ _,rfl,rfl,rfl⟩
  ·have href:refAt (DV.sl b o xs.length cp 1)=some (b,o):=rfl
   obtain ⟨cells,hg,hle,hcx⟩:=B.read href
   have hmay:mayB c.wm b=true:=by
    unfold mayB
    cases hw:c.wm with
    | none=>rfl
    | some m=>simpa using (hR.own k _ _ b o h1 h3 href).2.2 (Nat.zero_le _) m hw
   have hlen:(Dx.encI xs).length=xs.length:=encI_len xs
   simp only [VOb.cells,hlen] at hle hcx
   have hi:=ints_of hcx
   have hsl:=sortI_len xs
   have hprim:primV 0 c.wm [.sl b o xs.length cp 1] dnx dh=some (.tup [],dnx,Tr.set b dh (some (.cells (cells.take o++(sortI xs).map (DV.int .i64)++cells.drop (o+xs.length))))):=by
    unfold primV
    have e1:(Nat.beq 1 1&&mayB c.wm b&&Nat.ble xs.length 1000000)=true:=by rw [hmay];simp;exact hn
    have e2:Nat.ble (o+xs.length) cells.length=true:=by rw [Nat.ble_eq];exact hle
    simp only [e1,hg,e2,hi]
   have hml:((sortI xs).map (DV.int .i64)).length=xs.length:=by rw [List.length_map,hsl]
   have hdl:(cells.take o++(sortI xs).map (DV.int .i64)++cells.drop (o+xs.length)).length=cells.length:=by
    simp only [List.length_append,List.length_take,List.length_drop,hml];omega
   obtain ⟨R1,E1⟩:=hR.renew (ob':=.row (Dx.encI (sortI xs))) (r':=.sl b o xs.length cp 1) (dnx':=dnx) (dh':=Tr.set b dh (some (.cells (cells.take o++(sortI xs).map (DV.int .i64)++cells.drop (o+xs.length))))) h1 h3
    (by simp [VOb.cells,encI_len,hsl]) (fun _=>rfl)
    (fun a ha hne=>Tr.get_set_ne (hne b o href) _ _)
    (fun a ha=>by
     have hb:=hR.lt h1 h3 href
     rw [Tr.get_set_ne (by rintro rfl;omega)];exact hR.top a ha)
    (Nat.le_refl _) (fun b' q' h=>.inr ⟨q',h⟩)
    (fun ho hm=>by
     refine .inr (.inl ⟨b,o,xs.length,cp,1,_,rfl,Tr.get_set_self _ _ _,by simp [VOb.cells,encI_len,hsl],by rw [hdl];omega,fun c h=>?_,?_⟩)
     ·rcases B with ⟨e,_⟩|⟨b1,q1,n1,cp1,sz1,cells1,e,a1,a2,a3,a4,a5⟩|⟨b1,q1,cells1,e,_⟩
      ·cases e
      ·cases e;rw [hg] at a1;cases a1;rw [hdl];exact a4 c h
      ·cases e
     ·simp only [VOb.cells,encI_len,hsl]
      rw [List.append_assoc,List.drop_append,List.length_take]
      have e1:(cells.take o).drop o=[]:=List.drop_eq_nil_of_le (by rw [List.length_take];omega)
      rw [e1,List.nil_append,show o-min o cells.length=0 by omega,List.drop_zero,List.take_left' hml]
      exact XRs.encI _)
   have hset:hset [(k,VOb.row (Dx.encI xs))] k (.row (Dx.encI (sortI xs)))=[(k,.row (Dx.encI (sortI xs)))]:=by simp [Dx.hset]
   rw [hset] at R1 E1
   exact ⟨.tup [],nx,_,.tup [],dnx,_,_,call_prim hf hprim,R1,.tup .nil,E1,rfl,rfl,rfl⟩
theorem delZ_one:delZ 1=[.int .i64 0,.nils,.bool false]:=rfl
theorem prim_del (hf:Tr.get? f F=some (.prim 1)) {k nx n i:Nat} {l:List VV} (hl:l.length=n*3) (hi:i<n) (hn:n≤1000000):
 FSem F f [.ow k n 3,.int .i64 i,.int .i64 ((i+1:Nat):Int)] nx [(k,.row l)] (fun r nx' h'=>r=.ow nx (n-1) 3∧nx'=nx+1∧h'=[(nx,.row (l.take (i*3)++l.drop ((i+1)*3)))]):=by
 intro c dnx dh g ds hc hR hx
 have R:RS c ⟨.nl,nx,0,[(k,.row l)]⟩ ⟨.nl,dnx,dh⟩ g:=⟨EnvR.nl,hR⟩
 cases hx with
 | cons hv hx=>
  cases hx with
  | cons hv1 hx=>
   cases hx with
   | cons hv2 hx=>
    cases hx
    have q1:=hv1.int_inv
    have q2:=hv2.int_inv
    subst q1;subst q2
    have hlive:live [(k,VOb.row l)] k (n*3)=some (.row l):=by simp [live,hget,VOb.cells,hl]
    obtain ⟨h1,h2,h3,B,h5⟩:=ow_blk R hlive hv
    rcases h5 with ⟨rfl,h0⟩|⟨b,o,cp,rfl⟩
    ·omega
    have href:refAt (DV.sl b o n cp 3)=some (b,o):=rfl
    obtain ⟨cells,hg,hle,hcx⟩:=B.read href
    have hmay:mayB c.wm b=true:=by
     unfold mayB
     cases hw:c.wm with
     | none=>rfl
     | some m=>simpa using (hR.own k _ _ b o h1 h3 href).2.2 (Nat.zero_le _) m hw
    simp only [VOb.cells,hl] at hle hcx
    obtain ⟨nc,hnc⟩:∃ nc,nc=cells.take (o+i*3)++((cells.drop (o+(i+1)*3)).take ((n-(i+1))*3)++delZ 1)++cells.drop (o+n*3):=⟨_,rfl⟩
    have hprim:primV 1 c.wm [.sl b o n cp 3,.int .i64 i,.int .i64 ((i+1:Nat):Int)] dnx dh=some (.sl b o (n-1) none 3,dnx,Tr.set b dh (some (.cells nc))):=by
     unfold primV
     have i1:ilt (i:Int) 0=false:=by rw [ilt_eq];simp
     have i2:ilt (i:Int) ((i+1:Nat):Int)=true:=by rw [ilt_eq];simp;omega
     have i3:ilt (Int.ofNat n) ((i+1:Nat):Int)=false:=by rw [ilt_eq];simp;omega
     have e1:(Nat.beq 3 3&&mayB c.wm b&&Nat.ble n 1000000&&(!ilt (i:Int) 0&&ilt (i:Int) ((i+1:Nat):Int)&&!ilt (Int.ofNat n) ((i+1:Nat):Int)))=true:=by rw [hmay,i1,i2,i3];simp;exact hn
     have e2:Nat.ble (o+n*3) cells.length=true:=by rw [Nat.ble_eq];exact hle
     simp only [e1,hg,e2,Int.toNat_natCast,show i+1-i=1 by omega,hnc]
    have hncl:nc.length=cells.length:=by
     rw [hnc];simp only [List.length_append,List.length_take,List.length_drop,delZ_one,List.length_cons,List.length_nil];omega
    have hcut:(nc.drop o).take ((n-1)*3)=((cells.drop o).take (n*3)).take (i*3)++((cells.drop o).take (n*3)).drop ((i+1)*3):=by
     apply List.ext_getElem?
     intro q
     rw [hnc]
     simp only [List.getElem?_take,List.getElem?_drop,List.getElem?_append,List.length_append,List.length_take,List.length_drop,delZ_one,List.length_cons,List.length_nil]
     by_cases hq:q<(n-1)*3
     ·rw [if_pos hq]
      by_cases hq1:q<i*3
      ·repeat' split
       all_goals first|omega|rfl|skip
      ·repeat' split
       all_goals first|omega|(congr 1;omega)|skip
     ·rw [if_neg hq]
      repeat' split
      all_goals first|omega|rfl|skip
    obtain ⟨R0,E0⟩:=hR.move (ob':=.row (l.take ((n-1)*3))) (r':=.sl b o (n-1) none 3) h1 h3 (Nat.zero_le _) (fun b' q' h=>⟨q',by cases h;exact href⟩) (fun hm=>
     .inr (.inl ⟨b,o,n-1,none,3,cells,rfl,hg,by simp only [VOb.cells,List.length_take];omega,by omega,(fun c h=>by cases h),by
      have:=hcx.take ((n-1)*3)
      rw [List.take_take,show min ((n-1)*3) (n*3)=(n-1)*3 by omega] at this
      have hlt:(l.take ((n-1)*3)).length=(n-1)*3:=by rw [List.length_take];omega
      simp only [VOb.cells,hlt]
      exact this⟩))
    have hd:(nx,VOb.row (l.take ((n-1)*3)))::hdel [(k,VOb.row l)] k=[(nx,VOb.row (l.take ((n-1)*3)))]:=by simp [hdel]
    rw [hd] at R0 E0
    have hk0:hget [(nx,VOb.row (l.take ((n-1)*3)))] nx=some (.row (l.take ((n-1)*3))):=by simp [hget]
    have hr0:(⟨g.Z,upd g.μ nx (.sl b o (n-1) none 3)⟩:Gh).μ nx=some (.sl b o (n-1) none 3):=upd_self _ _ _
    have hrow:(l.take (i*3)++l.drop ((i+1)*3)).length=(n-1)*3:=by simp only [List.length_append,List.length_take,List.length_drop];omega
    obtain ⟨R1,E1⟩:=R0.renew (ob':=.row (l.take (i*3)++l.drop ((i+1)*3))) (r':=.sl b o (n-1) none 3) (dnx':=dnx) (dh':=Tr.set b dh (some (.cells nc))) hk0 hr0
     (by simp only [VOb.cells,hrow,List.length_take];omega) (fun _=>rfl)
     (fun a ha hne=>Tr.get_set_ne (hne b o rfl) _ _)
     (fun a ha=>by
      have hb:=hR.lt h1 h3 href
      rw [Tr.get_set_ne (by rintro rfl;omega)];exact hR.top a ha)
     (Nat.le_refl _) (fun b' q' h=>.inr ⟨q',h⟩)
     (fun ho hm=>by
      refine .inr (.inl ⟨b,o,n-1,none,3,nc,rfl,Tr.get_set_self _ _ _,by simp only [VOb.cells,hrow],by rw [hncl];omega,(fun c h=>by cases h),?_⟩)
      simp only [VOb.cells,hrow]
      rw [hcut]
      exact XRs.mono (M:=none) (M':=none) (fun _ h=>h) ho trivial ((hcx.take (i*3)).append (hcx.drop ((i+1)*3))))
    have hset:hset [(nx,VOb.row (l.take ((n-1)*3)))] nx (.row (l.take (i*3)++l.drop ((i+1)*3)))=[(nx,.row (l.take (i*3)++l.drop ((i+1)*3)))]:=by simp [Dx.hset]
    rw [hset] at R1 E1
    refine ⟨.ow nx (n-1) 3,nx+1,_,_,dnx,_,_,call_prim hf hprim,R1,?_,E0.trans E1,rfl,rfl,rfl⟩
    refine .ow (by simp [slV]) (by omega) fun m r e=>?_
    obtain ⟨ob,e1,e2,e3⟩:=mof_some e
    simp only [hget,if_pos] at e1
    cases e1
    simp only [upd_self,Option.some.injEq] at e2
    subst e2
    simp only [VOb.cells,hrow] at e3
    exact ⟨by omega,fun _=>⟨rfl,.inr ⟨_,_,_,rfl⟩⟩⟩
end
end Go.Proofs.YthdlkpmhjbaplaaGreat.Dx
namespace Go.Proofs.YthdlkpmhjbaplaaGreat.Dx
open Go
open Nat renaming reduceAdd → rdA, reduceMul → rdM, reduceLeDiff → rdL, reduceLT → rdT, reduceEqDiff → rdE
open Int renaming reduceNegSucc → rdN
attribute [local irreducible] wCall wLoop
attribute [local go_sem] decide_true decide_false Bool.and_true Bool.true_and Bool.and_self Bool.false_and Bool.and_false vMs vCs vIs Slots At Tr.get_z Tr.get_l Tr.get_r Tr.get_e Tr.set_z_e Tr.set_z_n Tr.set_l_e Tr.set_l_n Tr.set_r_e Tr.set_r_n eOs_n eOs_c eDs_n eDs_c ekOs ekDs ekPut ekBack ekSeq_n ekSeq_x ekSeq_r ekBlk_n ekBlk_x ekBlk_r eO_mk eO_gd eO_loc eO_locb eD_mk eD_loc eD_locb eD_gd eDr eC_skip eC_reg eC_drw eC_seq eC_cond eC_block eC_loop eC_exit eC_ret eRetW_n eRetW_r wk wkL eRet_n eRet_r ekLd_n ekLd_x ekLd_r ekLp_n ekLp_x ekLp_r wI wBin wBd vev vov vovs vplace vouter ofDV ofDVs vcells spl vfills vput vuse vuseP vback vbackP wOf vbare isVarV vkeep hget hset hdels hdel hkeys live vw vwL keysV keysL pureV pureL vsrc veqs vmx vmn vT cT vC cC VOb.cells vres vrsL vrs1 vone List.length_cons List.length_nil List.getElem?_cons_zero List.getElem?_cons_succ List.take_succ_cons List.take_zero List.drop_succ_cons List.drop_zero List.drop_nil List.take_nil List.nil_append List.cons_append List.append_nil Option.some.injEq Nat.zero_add Nat.add_zero if_true if_false ite_true ite_false true_and and_true false_and and_false true_implies implies_true false_implies Bool.true_eq_false Bool.false_eq_true Bool.not_true Bool.not_false eq_self_iff_true Int.toNat_natCast Int.ofNat_eq_natCast Int.ofNat_zero Int.ofNat_one Int.cast_ofNat_Int VV.int.injEq VV.bool.injEq cond_true cond_false
theorem gcd_tmod (a b:Int):Int.gcd b (a.tmod b)=Int.gcd a b:=by
 rw [Int.gcd_comm a b]
 rw [Int.gcd,Int.gcd,Int.natAbs_tmod,Nat.gcd_comm b.natAbs,←Nat.gcd_rec]
theorem tmod_abs {x y:Int} (h:y≠0):(x.tmod y).natAbs<y.natAbs:=by
 rw [Int.natAbs_tmod];exact Nat.mod_lt _ (by omega)
theorem divisor_ok (a b:Int) (ha:-1152921504606846976≤a∧a≤1152921504606846976) (hb:-1152921504606846976≤b∧b≤1152921504606846976):VPure FT p89 [.int .i64 a,.int .i64 b] (.int .i64 (Int.gcd a b)):=by
 refine vpure_of_body (f:=p89) rfl rfl ?_
 simp -implicitDefEqProofs only [go_sem,reduceCtorEq,rdA,rdM,rdL,rdT,rdE,rdN,↓gTT,↓gFF,↓gTF,↓gFT]
 refine wLoop_by (fun n s=>∃ x y:Int,y.natAbs=n∧At s [(p0,.int .i64 x),(p1,.int .i64 y)] 0 0 []∧Int.gcd x y=Int.gcd a b∧(-1152921504606846976≤x∧x≤1152921504606846976)∧-1152921504606846976≤y∧y≤1152921504606846976) b.natAbs ?_ ?_
 ·exact ⟨a,b,rfl,by simp -implicitDefEqProofs only [go_sem,reduceCtorEq,rdA,rdM,rdL,rdT,rdE,rdN,↓gTT,↓gFF,↓gTF,↓gFT],rfl,ha,hb⟩
 ·rintro n ⟨e,nx,w,h⟩ ⟨x,y,hn,⟨⟨s1,s2,-⟩,rfl,rfl,rfl⟩,hg,h1,h2⟩
  by_cases hy:y=0
  ·have d0:decide (y=0)=true:=by simpa using hy
   have w1:IntKind.i64.wrap (-x)=-x:=i64 (by omega)
   simp -implicitDefEqProofs only [s1,s2,d0,w1,Bool.not_true,go_sem,reduceCtorEq,rdA,rdM,rdL,rdT,rdE,rdN,↓gTT,↓gFF,↓gTF,↓gFT]
   subst hy
   rw [←hg,Int.gcd_zero_right]
   omega
  ·have d0:decide (y=0)=false:=by simpa using hy
   have hm:=tmod_abs (x:=x) hy
   simp -implicitDefEqProofs only [s1,s2,d0,Bool.not_false,go_sem,reduceCtorEq,rdA,rdM,rdL,rdT,rdE,rdN,↓gTT,↓gFF,↓gTF,↓gFT]
   refine ⟨hy,(x.tmod y).natAbs,by omega,y,_,rfl,⟨rfl,rfl⟩,?_,h2,by omega⟩
   rw [gcd_tmod];exact hg
theorem nup_ok (a b:Int) (hb:0<b) (ha:-1152921504606846976≤a∧a≤1152921504606846976):VPure FT p90 [.int .i64 a,.int .i64 b] (.int .i64 (-(-a / b))):=by
 refine vpure_of_body (f:=p90) rfl rfl ?_
 have hq:=tdiv_bound a b hb ha
 have hfix:=tdiv_fix (-a) b hb
 rw [Int.neg_tmod,Int.neg_tdiv] at hfix
 have w1:IntKind.i64.wrap (a.tdiv b)=a.tdiv b:=i64 (by omega)
 have w2:IntKind.i64.wrap (a.tdiv b+1)=a.tdiv b+1:=i64 (by omega)
 have hb0:decide (b=0)=false:=by simp;omega
 by_cases h:0<a.tmod b
 ·rw [if_pos (by omega)] at hfix
  have d:decide (0<a.tmod b)=true:=by simpa using h
  simp -implicitDefEqProofs only [w1,w2,d,hb0,go_sem,reduceCtorEq,rdA,rdM,rdL,rdT,rdE,rdN,↓gTT,↓gFF,↓gTF,↓gFT]
  exact ⟨by omega,by omega,by omega⟩
 ·rw [if_neg (by omega)] at hfix
  have d:decide (0<a.tmod b)=false:=by simpa using h
  simp -implicitDefEqProofs only [w1,w2,d,hb0,go_sem,reduceCtorEq,rdA,rdM,rdL,rdT,rdE,rdN,↓gTT,↓gFF,↓gTF,↓gFT]
  exact ⟨by omega,by omega,by omega⟩
def alwaysB (x:Cons):Bool:=decide (x.t.c=0)||(decide (x.t.c<0)&&!x.eq)
theorem always_ok (x:Cons):VPure FT p88 [.agg (cC x)] (.int .i64 (if alwaysB x=true then 2 else 1)):=by
 refine vpure_of_body (f:=p88) rfl rfl ?_
 unfold alwaysB
 by_cases h1:x.t.c=0
 ·have d1:decide (x.t.c=0)=true:=by simpa using h1
  simp -implicitDefEqProofs only [d1,Bool.true_or,go_sem,reduceCtorEq,rdA,rdM,rdL,rdT,rdE,rdN,↓gTT,↓gFF,↓gTF,↓gFT]
 ·have d1:decide (x.t.c=0)=false:=by simpa using h1
  by_cases h2:x.t.c<0
  ·have d2:decide (x.t.c<0)=true:=by simpa using h2
   cases he:x.eq<;>simp -implicitDefEqProofs only [d1,d2,he,Bool.false_or,go_sem,reduceCtorEq,rdA,rdM,rdL,rdT,rdE,rdN,↓gTT,↓gFF,↓gTF,↓gFT]
  ·have d2:decide (x.t.c<0)=false:=by simpa using h2
   simp -implicitDefEqProofs only [d1,d2,Bool.false_or,go_sem,reduceCtorEq,rdA,rdM,rdL,rdT,rdE,rdN,↓gTT,↓gFF,↓gTF,↓gFT]
def monoB:List Mono→List Mono→Bool
 | [],[]=>true
 | a::l,b::m=>(decide (a.v=b.v)&&decide (a.k=b.k))&&monoB l m
 | _,_=>false
theorem monoB_len:∀ {a b:List Mono},a.length≠b.length→monoB a b=false
 | [],[],h=>absurd rfl h
 | _::_,[],_=>rfl
 | [],_::_,_=>rfl
 | a::l,b::m,h=>by rw [monoB,monoB_len (by simpa using h),Bool.and_false]
theorem monoB_eq:∀ {a b:List Mono},monoB a b=true→a=b
 | [],[],_=>rfl
 | _::_,[],h=>by cases h
 | [],_::_,h=>by cases h
 | a::l,b::m,h=>by
  simp only [monoB,Bool.and_eq_true,decide_eq_true_eq] at h
  obtain ⟨⟨h1,h2⟩,h3⟩:=h
  rw [monoB_eq h3]
  cases a;cases b;simp_all
theorem EqualM_ok (a b:List Mono) (ha:a.length≤1000000) (hb:b.length≤1000000):VPure FT p92 [.fz a.length none 2 (encM a),.fz b.length none 2 (encM b)] (.bool (monoB a b)):=by
 refine vpure_of_body (f:=p92) rfl rfl ?_
 by_cases hl:a.length=b.length
 case neg=>
  have d:decide ((a.length:Int)=(b.length:Int))=false:=by simp;omega
  rw [monoB_len hl]
  simp -implicitDefEqProofs only [d,Bool.not_false,go_sem,reduceCtorEq,rdA,rdM,rdL,rdT,rdE,rdN,↓gTT,↓gFF,↓gTF,↓gFT]
 have d:decide ((a.length:Int)=(b.length:Int))=true:=by simp;omega
 simp -implicitDefEqProofs only [d,Bool.not_true,go_sem,reduceCtorEq,rdA,rdM,rdL,rdT,rdE,rdN,↓gTT,↓gFF,↓gTF,↓gFT]
 refine wLoop_by (fun n s=>∃ i:Nat,i+n=a.length∧At s [(p0,.fz a.length none 2 (encM a)),(p1,.fz b.length none 2 (encM b)),(p12,.int .i64 a.length),(p13,.int .i64 i)] 0 0 []∧monoB a b=monoB (a.drop i) (b.drop i)) a.length ?_ ?_
 ·exact ⟨0,by simp,by simp -implicitDefEqProofs only [go_sem,reduceCtorEq,rdA,rdM,rdL,rdT,rdE,rdN,↓gTT,↓gFF,↓gTF,↓gFT],by simp⟩
 ·rintro n ⟨e,nx,w,h⟩ ⟨i,hi,⟨⟨s1,s2,s3,s4,-⟩,rfl,rfl,rfl⟩,hk⟩
  rcases Nat.lt_or_ge i a.length with hlt|hge
  ·obtain ⟨x,hx⟩:=has hlt
   obtain ⟨y,hy⟩:=has (show i<b.length by omega)
   rw [drop_cons hx,drop_cons hy] at hk
   simp -implicitDefEqProofs only [s1,s2,s3,s4,ltT hlt,encM_cut hx,encM_cut hy,encM_len,inc64 hlt (by omega:a.length≤4611686018427387904),go_sem,reduceCtorEq,rdA,rdM,rdL,rdT,rdE,rdN,↓gTT,↓gFF,↓gTF,↓gFT]
   refine ⟨⟨by omega,by omega⟩,by omega,⟨by omega,by omega⟩,by omega,gs_t (fun h=>?_) (fun h=>?_)⟩
   ·rw [hk];simp only [monoB]
    cases hq:(decide (x.v=y.v)&&decide (x.k=y.k)) with
    | true=>rw [hq] at h;cases h
    | false=>rfl
   ·refine ⟨n-1,by omega,i+1,by omega,rfl,?_⟩
    rw [hk];simp only [monoB]
    cases hq:(decide (x.v=y.v)&&decide (x.k=y.k)) with
    | true=>rfl
    | false=>rw [hq] at h;cases h
  ·simp -implicitDefEqProofs only [s1,s2,s3,s4,ltF hge,go_sem,reduceCtorEq,rdA,rdM,rdL,rdT,rdE,rdN,↓gTT,↓gFF,↓gTF,↓gFT]
   rw [hk,List.drop_eq_nil_of_le hge,List.drop_eq_nil_of_le (by omega)];rfl
theorem Same_ok (c:Int) (a:List Mono) (d:Int) (b:List Mono) (ha:a.length≤1000000) (hb:b.length≤1000000):
 VPure FT p50 [.agg [.int .i64 c,.fz a.length none 2 (encM a)],.agg [.int .i64 d,.fz b.length none 2 (encM b)]] (.bool (decide (c=d)&&monoB a b)):=by
 refine vpure_of_body (f:=p50) rfl rfl ?_
 have hE:=EqualM_ok a b ha hb
 by_cases h:c=d
 ·have d1:decide (c=d)=true:=by simpa using h
  rw [d1,Bool.true_and]
  simp -implicitDefEqProofs only [d1,go_sem,reduceCtorEq,rdA,rdM,rdL,rdT,rdE,rdN,↓gTT,↓gFF,↓gTF,↓gFT]
  repeat' (first|(with_reducible refine And.intro ?_ ?_)|(with_reducible refine gs_t ?_ ?_)|(with_reducible refine gs_f ?_ ?_)|(intro _)|((with_reducible apply wCall_any);(· (simp -implicitDefEqProofs only [go_sem,reduceCtorEq,rdA,rdM,rdL,rdT,rdE,rdN,↓gTT,↓gFF,↓gTF,↓gFT]<;>rfl));(· (exact hE));(· rfl);(· rfl);(· (first|exact Eq.refl true|exact Eq.refl false));(simp -implicitDefEqProofs only [go_sem,reduceCtorEq,rdA,rdM,rdL,rdT,rdE,rdN,↓gTT,↓gFF,↓gTF,↓gFT]))|fail)
 ·have d1:decide (c=d)=false:=by simpa using h
  rw [d1,Bool.false_and]
  simp -implicitDefEqProofs only [d1,go_sem,reduceCtorEq,rdA,rdM,rdL,rdT,rdE,rdN,↓gTT,↓gFF,↓gTF,↓gFT]
def consB (x s:Cons):Bool:=(x.eq == s.eq)&&(decide (x.t.c=s.t.c)&&monoB x.t.l s.t.l)
theorem consB_eq {x s:Cons} (h:consB x s=true):x=s:=by
 simp only [consB,Bool.and_eq_true,decide_eq_true_eq,beq_iff_eq] at h
 obtain ⟨h1,h2,h3⟩:=h
 have h4:=monoB_eq h3
 cases x;cases s;rename_i t e t' e';cases t;cases t';simp_all
theorem All1_ok (x s:Cons) (hx:x.t.l.length≤1000000) (hs:s.t.l.length≤1000000):VPure FT p49 [.agg (cC x),.fp (cC s) 0] (.bool (consB x s)):=by
 refine vpure_of_body (f:=p49) rfl rfl ?_
 have hS:=Same_ok x.t.c x.t.l s.t.c s.t.l hx hs
 have hq:(false != (x.eq == s.eq))=(x.eq == s.eq):=by cases x.eq<;>cases s.eq<;>rfl
 unfold consB
 cases hb:(x.eq == s.eq) with
 | true=>
  rw [hb] at hq
  rw [Bool.true_and]
  simp -implicitDefEqProofs only [hb,hq,go_sem,reduceCtorEq,rdA,rdM,rdL,rdT,rdE,rdN,↓gTT,↓gFF,↓gTF,↓gFT]
  repeat' (first|(with_reducible refine And.intro ?_ ?_)|(with_reducible refine gs_t ?_ ?_)|(with_reducible refine gs_f ?_ ?_)|(intro _)|((with_reducible apply wCall_any);(· (simp -implicitDefEqProofs only [go_sem,reduceCtorEq,rdA,rdM,rdL,rdT,rdE,rdN,↓gTT,↓gFF,↓gTF,↓gFT]<;>rfl));(· (exact hS));(· rfl);(· rfl);(· (first|exact Eq.refl true|exact Eq.refl false));(simp -implicitDefEqProofs only [go_sem,reduceCtorEq,rdA,rdM,rdL,rdT,rdE,rdN,↓gTT,↓gFF,↓gTF,↓gFT]))|fail)
 | false=>
  rw [hb] at hq
  rw [Bool.false_and]
  simp -implicitDefEqProofs only [hb,hq,go_sem,reduceCtorEq,rdA,rdM,rdL,rdT,rdE,rdN,↓gTT,↓gFF,↓gTF,↓gFT]
def gcdL (l:List Mono):Nat:=l.foldl (fun g m=>Int.gcd g m.k) 0
def headK:List Mono→Int
 | []=>0
 | m::_=>m.k
def sgC (x:Cons):Int:=if (x.eq&&decide (headK x.t.l<0))=true then -1 else 1
def shM (g s:Int) (m:Mono):Mono:=⟨m.v,(s*m.k).tdiv g⟩
def oneCx (x:Cons):Cons:=⟨⟨sgC x*(-(-x.t.c / (gcdL x.t.l:Int))),x.t.l.map (shM (gcdL x.t.l) (sgC x))⟩,x.eq⟩
def oneW (x:Cons):Int:=if x.t.l.isEmpty=true then (if alwaysB x=true then 2 else 1) else if (x.eq&&decide (x.t.c.tmod (gcdL x.t.l)≠0))=true then 1 else 0
def nilC:Cons:=⟨⟨0,[]⟩,false⟩
def oneV (x:Cons):VV:=.tup [.agg (cC (if oneW x=0 then oneCx x else nilC)),.int .i64 (oneW x),.int .i64 0]
theorem gcdL_snoc (l:List Mono) (m:Mono):gcdL (l++[m])=Int.gcd (gcdL l) m.k:=by unfold gcdL;rw [List.foldl_append];rfl
theorem gcdL_bound:∀ {l:List Mono},(∀ m∈l,okM m=true)→gcdL l≤1048576:=by
 intro l
 have key:∀ (l:List Mono) (g:Nat),g≤1048576→(∀ m∈l,okM m=true)→l.foldl (fun g m=>Int.gcd g m.k) g≤1048576:=by
  intro l
  induction l with
  | nil=>intro g hg _;exact hg
  | cons m l ih=>
   intro g hg h
   rw [List.foldl_cons]
   refine ih _ ?_ fun x hx=>h x (List.mem_cons_of_mem _ hx)
   have hm:=okM_spec.1 (h m List.mem_cons_self)
   have:Int.gcd g m.k≤m.k.natAbs:=Nat.gcd_le_right _ (by omega)
   omega
 exact key l 0 (by omega)
theorem gcdL_pos:∀ {l:List Mono},l≠[]→(∀ m∈l,okM m=true)→0<gcdL l:=by
 intro l hne h
 rcases List.eq_nil_or_concat l with rfl|⟨l',m,rfl⟩
 ·exact absurd rfl hne
 ·rw [List.concat_eq_append] at h ⊢
  rw [gcdL_snoc]
  have hm:=okM_spec.1 (h m (by simp))
  exact Nat.gcd_pos_of_pos_right _ (by omega)
theorem dT0:decide ((2:Int)=0)=false:=rfl
set_option maxHeartbeats 1000000 in
theorem One_ok (x:Cons) (ho:okC x=true):VPure FT p47 [.agg (cC x)] (oneV x):=by
 refine vpure_of_body' (f:=p47) rfl rfl ?_
 obtain ⟨hc,x40,xok⟩:=okC_parts ho
 have hok:okT x.t.c x.t.l=true:=ho
 have hCk:=Check_ok x.t.c x.t.l (by omega)
 rw [hok,if_pos rfl] at hCk
 by_cases hxl:x.t.l=[]
 ·have hA:=always_ok x
  have hW:oneW x=if alwaysB x=true then 2 else 1:=by unfold oneW;rw [hxl];rfl
  have hne:oneW x≠0:=by rw [hW];split<;>decide
  have d0:decide ((x.t.l.length:Int)=0)=true:=by rw [hxl];rfl
  have e:oneV x=.tup [.agg [.int .i64 0,.fz 0 none 2 [],.bool false],.int .i64 (oneW x),.int .i64 0]:=by unfold oneV;rw [if_neg hne];rfl
  rw [←hW] at hA
  rw [e]
  simp -implicitDefEqProofs only [go_sem,reduceCtorEq,rdA,rdM,rdL,rdT,rdE,rdN,↓gTT,↓gFF,↓gTF,↓gFT]
  repeat' (first|(with_reducible refine And.intro ?_ ?_)|(with_reducible refine gs_t ?_ ?_)|(with_reducible refine gs_f ?_ ?_)|(intro _)|((with_reducible apply wCall_any);(· (simp -implicitDefEqProofs only [go_sem,reduceCtorEq,rdA,rdM,rdL,rdT,rdE,rdN,↓gTT,↓gFF,↓gTF,↓gFT]<;>rfl));(· (first|exact hCk|exact hA));(· rfl);(· rfl);(· (first|exact Eq.refl true|exact Eq.refl false));(simp -implicitDefEqProofs only [s0eq,d0,Bool.not_true,go_sem,reduceCtorEq,rdA,rdM,rdL,rdT,rdE,rdN,↓gTT,↓gFF,↓gTF,↓gFT]))|fail)
 ·have hne:x.t.l≠[]:=hxl
  have hlen:0<x.t.l.length:=List.length_pos_iff.2 hne
  have d0:decide ((x.t.l.length:Int)=0)=false:=by simp;omega
  have gp:=gcdL_pos hne xok
  have gb:=gcdL_bound xok
  simp -implicitDefEqProofs only [go_sem,reduceCtorEq,rdA,rdM,rdL,rdT,rdE,rdN,↓gTT,↓gFF,↓gTF,↓gFT]
  repeat' (first|(with_reducible refine And.intro ?_ ?_)|(with_reducible refine gs_t ?_ ?_)|(with_reducible refine gs_f ?_ ?_)|(intro _)|((with_reducible apply wCall_any);(· (simp -implicitDefEqProofs only [go_sem,reduceCtorEq,rdA,rdM,rdL,rdT,rdE,rdN,↓gTT,↓gFF,↓gTF,↓gFT]<;>rfl));(· (exact hCk));(· rfl);(· rfl);(· (first|exact Eq.refl true|exact Eq.refl false));(simp -implicitDefEqProofs only [s0eq,Bool.not_true,d0,go_sem,reduceCtorEq,rdA,rdM,rdL,rdT,rdE,rdN,↓gTT,↓gFF,↓gTF,↓gFT]))|fail)
  refine wLoop_by (fun n s=>∃ i:Nat,i+n=x.t.l.length∧At s [(p1,.var (cC x)),(p2,.var [.int .i64 0,.nils,.bool false]),(p5,.int .i64 (gcdL (x.t.l.take i))),(p30,.fz x.t.l.length none 2 (encM x.t.l)),(p31,.int .i64 x.t.l.length),(p32,.int .i64 i)] 0 0 []) x.t.l.length ?_ ?_
  ·exact ⟨0,by simp,by simp -implicitDefEqProofs only [go_sem,reduceCtorEq,rdA,rdM,rdL,rdT,rdE,rdN,↓gTT,↓gFF,↓gTF,↓gFT];simp [gcdL]⟩
  ·rintro n ⟨e,nx,w,h⟩ ⟨i,hi,⟨s1,s2,s3,s4,s5,s6,-⟩,rfl,rfl,rfl⟩
   rcases Nat.lt_or_ge i x.t.l.length with hlt|hge
   ·obtain ⟨m,hm⟩:=has hlt
    have hmm:=okM_spec.1 (xok m (List.mem_of_getElem? hm))
    have gbt:=gcdL_bound (l:=x.t.l.take i) fun y hy=>xok y (List.mem_of_mem_take hy)
    have hdv:=divisor_ok (gcdL (x.t.l.take i)) m.k (by omega) (by omega)
    simp -implicitDefEqProofs only [s1,s2,s3,s4,s5,s6,ltT hlt,encM_cut hm,encM_g1 hm,encM_len,inc64 hlt (by omega:x.t.l.length≤4611686018427387904),go_sem,reduceCtorEq,rdA,rdM,rdL,rdT,rdE,rdN,↓gTT,↓gFF,↓gTF,↓gFT]
    repeat' (first|(with_reducible refine And.intro ?_ ?_)|(with_reducible refine gs_t ?_ ?_)|(with_reducible refine gs_f ?_ ?_)|(intro _)|((with_reducible apply wCall_any);(· (simp -implicitDefEqProofs only [go_sem,reduceCtorEq,rdA,rdM,rdL,rdT,rdE,rdN,↓gTT,↓gFF,↓gTF,↓gFT]<;>rfl));(· (exact hdv));(· rfl);(· rfl);(· (first|exact Eq.refl true|exact Eq.refl false));(simp -implicitDefEqProofs only [inc64 hlt (by omega:x.t.l.length≤4611686018427387904),go_sem,reduceCtorEq,rdA,rdM,rdL,rdT,rdE,rdN,↓gTT,↓gFF,↓gTF,↓gFT]))|fail)
    all_goals first|omega|skip
    refine ⟨n-1,by omega,i+1,by omega,?_,rfl⟩
    rw [take_snoc hm,gcdL_snoc]
   ·rw [List.take_of_length_le hge] at s3
    simp -implicitDefEqProofs only [s1,s2,s3,s4,s5,s6,ltF hge,go_sem,reduceCtorEq,rdA,rdM,rdL,rdT,rdE,rdN,↓gTT,↓gFF,↓gTF,↓gFT]
    have d1:decide ((gcdL x.t.l:Int)=0)=false:=by simp;omega
    have hup:=nup_ok x.t.c (gcdL x.t.l) (by omega) (by omega)
    have hub:=ediv_bound (a:=-x.t.c) (b:=(gcdL x.t.l:Int)) (B:=1099511627776) (by omega) (by omega) (by omega)
    obtain ⟨m0,hm0⟩:=has hlen
    have hk0:headK x.t.l=m0.k:=by
     cases hx:x.t.l with
     | nil=>exact absurd hx hne
     | cons a t=>rw [hx] at hm0;simp at hm0;rw [←hm0];rfl
    have hg0:(encM x.t.l)[Int.toNat 0*2+1]?=some (.int .i64 m0.k):=encM_g1 hm0
    cases hex:x.eq with
    | false=>
     have hsg:sgC x=1:=by unfold sgC;rw [hex];rfl
     have hW:oneW x=0:=by unfold oneW;rw [hex,if_neg (by simp [hne])];rfl
     have e:oneV x=.tup [.agg (cC (oneCx x)),.int .i64 0,.int .i64 0]:=by unfold oneV;rw [hW];rfl
     rw [e]
     simp -implicitDefEqProofs only [hex,go_sem,reduceCtorEq,rdA,rdM,rdL,rdT,rdE,rdN,↓gTT,↓gFF,↓gTF,↓gFT]
     have hw1:IntKind.i64.wrap (1*(-(-x.t.c / (gcdL x.t.l:Int))))=sgC x*(-(-x.t.c / (gcdL x.t.l:Int))):=by rw [hsg];exact i64 (by omega)
     refine wCall_pp (r:=.int .i64 (-(-x.t.c / (gcdL x.t.l:Int)))) rfl hup rfl ?_
     simp -implicitDefEqProofs only [hw1,go_sem,reduceCtorEq,rdA,rdM,rdL,rdT,rdE,rdN,↓gTT,↓gFF,↓gTF,↓gFT]
     refine wLoop_ownV p2 1 2 (by simp -implicitDefEqProofs only [go_sem,reduceCtorEq,rdA,rdM,rdL,rdT,rdE,rdN,↓gTT,↓gFF,↓gTF,↓gFT];rfl) (by rfl) ?_
     simp -implicitDefEqProofs only [go_sem,reduceCtorEq,rdA,rdM,rdL,rdT,rdE,rdN,↓gTT,↓gFF,↓gTF,↓gFT]
     refine wLoop_dr (fun n s=>∃ i mm:Nat,i+n=x.t.l.length∧At s [(p2,.var [.int .i64 (sgC x*(-(-x.t.c / (gcdL x.t.l:Int)))),.ow 0 ((x.t.l.take i).map (shM (gcdL x.t.l) (sgC x))).length 2,.bool x.eq]),(p5,.int .i64 (gcdL x.t.l)),(p8,.int .i64 1),(p76,.fz x.t.l.length none 2 (encM x.t.l)),(p77,.int .i64 x.t.l.length),(p78,.int .i64 i)] (mm+1) 0 [(0,.row (encM ((x.t.l.take i).map (shM (gcdL x.t.l) (sgC x)))))]) x.t.l.length ?_ ?_
     ·exact ⟨0,0,by simp,by simp -implicitDefEqProofs only [go_sem,reduceCtorEq,rdA,rdM,rdL,rdT,rdE,rdN,↓gTT,↓gFF,↓gTF,↓gFT];simp [encM,hex]⟩
     ·rintro n ⟨e,nx,w,h⟩ ⟨i,mm,hi,⟨s1,s2,s3,s4,s5,s6,-⟩,rfl,rfl,rfl⟩
      rcases Nat.lt_or_ge i x.t.l.length with hlt|hge
      ·obtain ⟨m,hm⟩:=has hlt
       have hmm:=okM_spec.1 (xok m (List.mem_of_getElem? hm))
       have ht:=take_snoc hm
       have hml:((x.t.l.take i).map (shM (gcdL x.t.l) (sgC x))).length=i:=by rw [List.length_map,List.length_take];omega
       have w1:IntKind.i64.wrap (1*m.k)=sgC x*m.k:=by rw [hsg];exact i64 (by omega)
       have hb:=tdiv_bound (sgC x*m.k) (gcdL x.t.l) (by omega) (by rw [hsg];omega)
       have w2:IntKind.i64.wrap ((sgC x*m.k).tdiv (gcdL x.t.l))=(sgC x*m.k).tdiv (gcdL x.t.l):=i64 (by omega)
       rw [hml] at s1
       simp -implicitDefEqProofs only [s1,s2,s3,s4,s5,s6,ltT hlt,encM_cut hm,encM_len,hml,w1,w2,inc64 hlt (by omega:x.t.l.length≤4611686018427387904),go_sem,reduceCtorEq,rdA,rdM,rdL,rdT,rdE,rdN,↓gTT,↓gFF,↓gTF,↓gFT]
       refine ⟨⟨by omega,by omega⟩,by omega,by omega,by omega,n-1,by omega,_,subH_tail (by simp [hget]),i+1,mm+1,by omega,⟨?_,rfl⟩,rfl,?_⟩
       ·rw [ht];simp;omega
       ·rw [ht];simp [encM_app,encM,shM]
      ·rw [List.take_of_length_le hge] at s1
       simp -implicitDefEqProofs only [s1,s2,s3,s4,s5,s6,ltF hge,List.take_of_length_le hge,encM_len,go_sem,reduceCtorEq,rdA,rdM,rdL,rdT,rdE,rdN,↓gTT,↓gFF,↓gTF,↓gFT]
       refine ⟨rfl,rfl,rfl⟩
    | true=>
     by_cases htm:x.t.c.tmod (gcdL x.t.l)=0
     case neg=>
      have d2:decide (x.t.c.tmod (gcdL x.t.l)=0)=false:=by simpa using htm
      have hW:oneW x=1:=by unfold oneW;rw [hex,if_neg (by simp [hne]),if_pos (by simp [htm])]
      have e:oneV x=.tup [.agg [.int .i64 0,.fz 0 none 2 [],.bool false],.int .i64 1,.int .i64 0]:=by unfold oneV;rw [hW];rfl
      rw [e]
      simp -implicitDefEqProofs only [hex,d2,Bool.not_false,go_sem,reduceCtorEq,rdA,rdM,rdL,rdT,rdE,rdN,↓gTT,↓gFF,↓gTF,↓gFT]
      omega
     have d2:decide (x.t.c.tmod (gcdL x.t.l)=0)=true:=by simpa using htm
     have hW:oneW x=0:=by unfold oneW;rw [hex,if_neg (by simp [hne]),if_neg (by simp [htm])]
     have e:oneV x=.tup [.agg (cC (oneCx x)),.int .i64 0,.int .i64 0]:=by unfold oneV;rw [hW];rfl
     rw [e]
     by_cases hneg:m0.k<0
     ·have d3:decide (m0.k<0)=true:=by simpa using hneg
      have hsg:sgC x=-1:=by unfold sgC;rw [hex,hk0,if_pos (by simp [hneg])]
      simp -implicitDefEqProofs only [hex,d2,d3,hg0,Bool.not_true,go_sem,reduceCtorEq,rdA,rdM,rdL,rdT,rdE,rdN,↓gTT,↓gFF,↓gTF,↓gFT]
      refine ⟨by omega,⟨by omega,by omega⟩,?_⟩
      have hw1:IntKind.i64.wrap (-1*(-(-x.t.c / (gcdL x.t.l:Int))))=sgC x*(-(-x.t.c / (gcdL x.t.l:Int))):=by rw [hsg];exact i64 (by omega)
      refine wCall_pp (r:=.int .i64 (-(-x.t.c / (gcdL x.t.l:Int)))) rfl hup rfl ?_
      simp -implicitDefEqProofs only [hw1,go_sem,reduceCtorEq,rdA,rdM,rdL,rdT,rdE,rdN,↓gTT,↓gFF,↓gTF,↓gFT]
      refine wLoop_ownV p2 1 2 (by simp -implicitDefEqProofs only [go_sem,reduceCtorEq,rdA,rdM,rdL,rdT,rdE,rdN,↓gTT,↓gFF,↓gTF,↓gFT];rfl) (by rfl) ?_
      simp -implicitDefEqProofs only [go_sem,reduceCtorEq,rdA,rdM,rdL,rdT,rdE,rdN,↓gTT,↓gFF,↓gTF,↓gFT]
      refine wLoop_dr (fun n s=>∃ i mm:Nat,i+n=x.t.l.length∧At s [(p2,.var [.int .i64 (sgC x*(-(-x.t.c / (gcdL x.t.l:Int)))),.ow 0 ((x.t.l.take i).map (shM (gcdL x.t.l) (sgC x))).length 2,.bool x.eq]),(p5,.int .i64 (gcdL x.t.l)),(p8,.int .i64 (-1)),(p76,.fz x.t.l.length none 2 (encM x.t.l)),(p77,.int .i64 x.t.l.length),(p78,.int .i64 i)] (mm+1) 0 [(0,.row (encM ((x.t.l.take i).map (shM (gcdL x.t.l) (sgC x)))))]) x.t.l.length ?_ ?_
      ·exact ⟨0,0,by simp,by simp -implicitDefEqProofs only [go_sem,reduceCtorEq,rdA,rdM,rdL,rdT,rdE,rdN,↓gTT,↓gFF,↓gTF,↓gFT];simp [encM,hex]⟩
      ·rintro n ⟨e,nx,w,h⟩ ⟨i,mm,hi,⟨s1,s2,s3,s4,s5,s6,-⟩,rfl,rfl,rfl⟩
       rcases Nat.lt_or_ge i x.t.l.length with hlt|hge
       ·obtain ⟨m,hm⟩:=has hlt
        have hmm:=okM_spec.1 (xok m (List.mem_of_getElem? hm))
        have ht:=take_snoc hm
        have hml:((x.t.l.take i).map (shM (gcdL x.t.l) (sgC x))).length=i:=by rw [List.length_map,List.length_take];omega
        have w1:IntKind.i64.wrap (-1*m.k)=sgC x*m.k:=by rw [hsg];exact i64 (by omega)
        have hb:=tdiv_bound (sgC x*m.k) (gcdL x.t.l) (by omega) (by rw [hsg];omega)
        have w2:IntKind.i64.wrap ((sgC x*m.k).tdiv (gcdL x.t.l))=(sgC x*m.k).tdiv (gcdL x.t.l):=i64 (by omega)
        rw [hml] at s1
        simp -implicitDefEqProofs only [s1,s2,s3,s4,s5,s6,ltT hlt,encM_cut hm,encM_len,hml,w1,w2,inc64 hlt (by omega:x.t.l.length≤4611686018427387904),go_sem,reduceCtorEq,rdA,rdM,rdL,rdT,rdE,rdN,↓gTT,↓gFF,↓gTF,↓gFT]
        refine ⟨⟨by omega,by omega⟩,by omega,by omega,by omega,n-1,by omega,_,subH_tail (by simp [hget]),i+1,mm+1,by omega,⟨?_,rfl⟩,rfl,?_⟩
        ·rw [ht];simp;omega
        ·rw [ht];simp [encM_app,encM,shM]
       ·rw [List.take_of_length_le hge] at s1
        simp -implicitDefEqProofs only [s1,s2,s3,s4,s5,s6,ltF hge,List.take_of_length_le hge,encM_len,go_sem,reduceCtorEq,rdA,rdM,rdL,rdT,rdE,rdN,↓gTT,↓gFF,↓gTF,↓gFT]
        refine ⟨rfl,rfl,rfl⟩
     ·have d3:decide (m0.k<0)=false:=by simpa using hneg
      have hsg:sgC x=1:=by unfold sgC;rw [hex,hk0,if_neg (by simp;omega)]
      simp -implicitDefEqProofs only [hex,d2,d3,hg0,Bool.not_true,go_sem,reduceCtorEq,rdA,rdM,rdL,rdT,rdE,rdN,↓gTT,↓gFF,↓gTF,↓gFT]
      refine ⟨by omega,⟨by omega,by omega⟩,?_⟩
      have hw1:IntKind.i64.wrap (1*(-(-x.t.c / (gcdL x.t.l:Int))))=sgC x*(-(-x.t.c / (gcdL x.t.l:Int))):=by rw [hsg];exact i64 (by omega)
      refine wCall_pp (r:=.int .i64 (-(-x.t.c / (gcdL x.t.l:Int)))) rfl hup rfl ?_
      simp -implicitDefEqProofs only [hw1,go_sem,reduceCtorEq,rdA,rdM,rdL,rdT,rdE,rdN,↓gTT,↓gFF,↓gTF,↓gFT]
      refine wLoop_ownV p2 1 2 (by simp -implicitDefEqProofs only [go_sem,reduceCtorEq,rdA,rdM,rdL,rdT,rdE,rdN,↓gTT,↓gFF,↓gTF,↓gFT];rfl) (by rfl) ?_
      simp -implicitDefEqProofs only [go_sem,reduceCtorEq,rdA,rdM,rdL,rdT,rdE,rdN,↓gTT,↓gFF,↓gTF,↓gFT]
      refine wLoop_dr (fun n s=>∃ i mm:Nat,i+n=x.t.l.length∧At s [(p2,.var [.int .i64 (sgC x*(-(-x.t.c / (gcdL x.t.l:Int)))),.ow 0 ((x.t.l.take i).map (shM (gcdL x.t.l) (sgC x))).length 2,.bool x.eq]),(p5,.int .i64 (gcdL x.t.l)),(p8,.int .i64 1),(p76,.fz x.t.l.length none 2 (encM x.t.l)),(p77,.int .i64 x.t.l.length),(p78,.int .i64 i)] (mm+1) 0 [(0,.row (encM ((x.t.l.take i).map (shM (gcdL x.t.l) (sgC x)))))]) x.t.l.length ?_ ?_
      ·exact ⟨0,0,by simp,by simp -implicitDefEqProofs only [go_sem,reduceCtorEq,rdA,rdM,rdL,rdT,rdE,rdN,↓gTT,↓gFF,↓gTF,↓gFT];simp [encM,hex]⟩
      ·rintro n ⟨e,nx,w,h⟩ ⟨i,mm,hi,⟨s1,s2,s3,s4,s5,s6,-⟩,rfl,rfl,rfl⟩
       rcases Nat.lt_or_ge i x.t.l.length with hlt|hge
       ·obtain ⟨m,hm⟩:=has hlt
        have hmm:=okM_spec.1 (xok m (List.mem_of_getElem? hm))
        have ht:=take_snoc hm
        have hml:((x.t.l.take i).map (shM (gcdL x.t.l) (sgC x))).length=i:=by rw [List.length_map,List.length_take];omega
        have w1:IntKind.i64.wrap (1*m.k)=sgC x*m.k:=by rw [hsg];exact i64 (by omega)
        have hb:=tdiv_bound (sgC x*m.k) (gcdL x.t.l) (by omega) (by rw [hsg];omega)
        have w2:IntKind.i64.wrap ((sgC x*m.k).tdiv (gcdL x.t.l))=(sgC x*m.k).tdiv (gcdL x.t.l):=i64 (by omega)
        rw [hml] at s1
        simp -implicitDefEqProofs only [s1,s2,s3,s4,s5,s6,ltT hlt,encM_cut hm,encM_len,hml,w1,w2,inc64 hlt (by omega:x.t.l.length≤4611686018427387904),go_sem,reduceCtorEq,rdA,rdM,rdL,rdT,rdE,rdN,↓gTT,↓gFF,↓gTF,↓gFT]
        refine ⟨⟨by omega,by omega⟩,by omega,by omega,by omega,n-1,by omega,_,subH_tail (by simp [hget]),i+1,mm+1,by omega,⟨?_,rfl⟩,rfl,?_⟩
        ·rw [ht];simp;omega
        ·rw [ht];simp [encM_app,encM,shM]
       ·rw [List.take_of_length_le hge] at s1
        simp -implicitDefEqProofs only [s1,s2,s3,s4,s5,s6,ltF hge,List.take_of_length_le hge,encM_len,go_sem,reduceCtorEq,rdA,rdM,rdL,rdT,rdE,rdN,↓gTT,↓gFF,↓gTF,↓gFT]
        refine ⟨rfl,rfl,rfl⟩
def addSx (S:List Cons) (x:Cons):List Cons:=if oneW x=0 then (if S.any (fun y=>consB y (oneCx x))=true then S else S++[oneCx x]) else S
def allS (l:List Cons):List Cons:=l.foldl addSx []
def neverB (l:List Cons):Bool:=l.any fun x=>decide (oneW x=1)
def allW (l:List Cons):Int:=if neverB l=true then 1 else if (allS l).isEmpty=true then 2 else 0
def allL (l:List Cons):List Cons:=if allW l=0 then allS l else []
def allV (l:List Cons):VV:=.tup [vCs (allL l),.int .i64 (allW l),.int .i64 0]
theorem allS_snoc (l:List Cons) (x:Cons):allS (l++[x])=addSx (allS l) x:=by unfold allS;rw [List.foldl_append];rfl
theorem oneW_cases (x:Cons):oneW x=0∨oneW x=1∨oneW x=2:=by
 unfold oneW;repeat' split
 all_goals simp
theorem addS_len (S:List Cons) (x:Cons):(addSx S x).length≤S.length+1:=by
 unfold addSx;repeat' split
 all_goals simp
theorem allS_len:∀ l:List Cons,(allS l).length≤l.length:=by
 intro l
 have key:∀ (l S:List Cons),(l.foldl addSx S).length≤S.length+l.length:=by
  intro l
  induction l with
  | nil=>intro S;simp
  | cons x l ih=>intro S;rw [List.foldl_cons];have:=ih (addSx S x);have:=addS_len S x;simp only [List.length_cons];omega
 have:=key l [];simpa [allS] using this
theorem oneC_len (x:Cons):(oneCx x).t.l.length=x.t.l.length:=by simp [oneCx]
theorem allS_small:∀ (l:List Cons),(∀ x∈l,x.t.l.length≤40)→∀ y∈allS l,y.t.l.length≤40:=by
 intro l
 have key:∀ (l S:List Cons),(∀ x∈l,x.t.l.length≤40)→(∀ x∈S,x.t.l.length≤40)→∀ y∈l.foldl addSx S,y.t.l.length≤40:=by
  intro l
  induction l with
  | nil=>intro S _ h;exact h
  | cons x l ih=>
   intro S h1 h2
   rw [List.foldl_cons]
   refine ih _ (fun y hy=>h1 y (List.mem_cons_of_mem _ hy)) fun y hy=>?_
   unfold addSx at hy
   split at hy
   ·split at hy
    ·exact h2 y hy
    ·rcases List.mem_append.1 hy with hy|hy
     ·exact h2 y hy
     ·rw [List.mem_singleton.1 hy,oneC_len];exact h1 x List.mem_cons_self
   ·exact h2 y hy
 exact fun h=>key l [] h (by simp)
theorem d01:decide ((0:Int)=1)=false:=rfl
theorem dE21:decide ((2:Int)=1)=false:=rfl
theorem dE1e:decide ((1:Int)=1)=true:=rfl
theorem subH_tail2 {h:VHp} {k j:Nat} {o p:VOb} (hk:hget h k=none) (hj:hget ((k,o)::h) j=none):subH h ((j,p)::(k,o)::h):=subH_trans (subH_tail hk) (subH_tail hj)
set_option maxHeartbeats 1000000 in
theorem All_ok (l:List Cons) (hs:smallC l) (hok:l.all okC=true):VPure FT p25 [.fz l.length none 3 (encC l)] (allV l):=by
 have hll:=hs.len
 have h40:∀ x∈l,x.t.l.length≤40:=fun x hx=>(okC_parts (List.all_eq_true.1 hok x hx)).2.1
 refine vpure_of_body' (f:=p25) rfl rfl ?_
 simp -implicitDefEqProofs only [go_sem,reduceCtorEq,rdA,rdM,rdL,rdT,rdE,rdN,↓gTT,↓gFF,↓gTF,↓gFT]
 refine wLoop_own p2 3 (by simp -implicitDefEqProofs only [go_sem,reduceCtorEq,rdA,rdM,rdL,rdT,rdE,rdN,↓gTT,↓gFF,↓gTF,↓gFT]) ?_
 simp -implicitDefEqProofs only [go_sem,reduceCtorEq,rdA,rdM,rdL,rdT,rdE,rdN,↓gTT,↓gFF,↓gTF,↓gFT]
 refine wLoop_dr (fun n s=>∃ i m:Nat,i+n=l.length∧At s [(p2,.ow 0 (allS (l.take i)).length 3),(p5,.bool (neverB (l.take i))),(p11,.fz l.length none 3 (encC l)),(p12,.int .i64 l.length),(p13,.int .i64 i)] (m+1) 0 [(0,.row (encC (allS (l.take i))))]) l.length ?_ ?_
 ·exact ⟨0,0,by simp,by simp -implicitDefEqProofs only [go_sem,reduceCtorEq,rdA,rdM,rdL,rdT,rdE,rdN,↓gTT,↓gFF,↓gTF,↓gFT];simp [encC,allS,neverB]⟩
 ·rintro n ⟨e,nx,w,h⟩ ⟨i,m,hi,⟨s1,s2,s3,s4,s5,-⟩,rfl,rfl,rfl⟩
  rcases Nat.lt_or_ge i l.length with hlt|hge
  ·obtain ⟨x,hx⟩:=has hlt
   have hxm:=List.mem_of_getElem? hx
   have hxo:=List.all_eq_true.1 hok x hxm
   have ht:=take_snoc hx
   have hO:=One_ok x hxo
   have hal:=allS_len (l.take i)
   have hal2:(l.take i).length≤i:=List.length_take_le _ _
   have hsm:smallC (allS (l.take i)):=⟨by omega,fun y hy=>by have:=allS_small (l.take i) (fun z hz=>h40 z (List.mem_of_mem_take hz)) y hy;omega⟩
   have hnv:neverB (l.take (i+1))=(neverB (l.take i)||decide (oneW x=1)):=by rw [ht];simp [neverB,List.any_append]
   have has:allS (l.take (i+1))=addSx (allS (l.take i)) x:=by rw [ht,allS_snoc]
   have hC:=ContainsC_ok p49 [.fp (cC (oneCx x)) 0] (fun y=>consB y (oneCx x)) (allS (l.take i)) (by have:=hsm.len;omega) rfl (fun y hy=>All1_ok y (oneCx x) (hsm.all y hy) (by rw [oneC_len];have:=h40 x hxm;omega))
   simp -implicitDefEqProofs only [s1,s2,s3,s4,s5,ltT hlt,encC_cut hx,encC_len,inc64 hlt (by omega:l.length≤4611686018427387904),go_sem,reduceCtorEq,rdA,rdM,rdL,rdT,rdE,rdN,↓gTT,↓gFF,↓gTF,↓gFT]
   refine ⟨⟨by omega,by omega⟩,by omega,?_⟩
   rcases oneW_cases x with hw|hw|hw
   ·have e:oneV x=.tup [.agg (cC (oneCx x)),.int .i64 0,.int .i64 0]:=by unfold oneV;rw [hw];rfl
    rw [e] at hO
    have hn2:neverB (l.take (i+1))=neverB (l.take i):=by rw [hnv,hw];simp
    refine wCall_pp (r:=.tup [.agg (cC (oneCx x)),.int .i64 0,.int .i64 0]) (by simp [pureL,pureV]) hO rfl ?_
    cases hnb:neverB (l.take i)<;>simp -implicitDefEqProofs only [s0eq,hnb,d01,Bool.not_true,go_sem,reduceCtorEq,rdA,rdM,rdL,rdT,rdE,rdN,↓gTT,↓gFF,↓gTF,↓gFT]
    all_goals
     refine wCall_pure (args':=[.fz (allS (l.take i)).length none 3 (encC (allS (l.take i))),.fn p49 [.fp (cC (oneCx x)) 0]]) (by simp -implicitDefEqProofs only [encC_len,go_sem,reduceCtorEq,rdA,rdM,rdL,rdT,rdE,rdN,↓gTT,↓gFF,↓gTF,↓gFT]) hC rfl (.inl rfl) ?_
     cases hin:(allS (l.take i)).any (fun y=>consB y (oneCx x)) with
     | true=>
      have ha2:addSx (allS (l.take i)) x=allS (l.take i):=by unfold addSx;rw [if_pos hw,if_pos hin]
      simp -implicitDefEqProofs only [Bool.not_true,encC_len,inc64 hlt (by omega:l.length≤4611686018427387904),go_sem,reduceCtorEq,rdA,rdM,rdL,rdT,rdE,rdN,↓gTT,↓gFF,↓gTF,↓gFT]
      refine ⟨n-1,by omega,_,subH_tail (by simp [hget]),i+1,m+1,by omega,⟨by rw [has,ha2],by rw [hn2,hnb],rfl⟩,rfl,by rw [has,ha2]⟩
     | false=>
      have ha2:addSx (allS (l.take i)) x=allS (l.take i)++[oneCx x]:=by unfold addSx;rw [if_pos hw,if_neg (by rw [hin];simp)]
      simp -implicitDefEqProofs only [Bool.not_false,encC_len,inc64 hlt (by omega:l.length≤4611686018427387904),go_sem,reduceCtorEq,rdA,rdM,rdL,rdT,rdE,rdN,↓gTT,↓gFF,↓gTF,↓gFT]
      refine ⟨by omega,n-1,by omega,[(0,.row (encC (allS (l.take i))++cC (oneCx x)))],subH_tail2 (by simp [hget]) (by simp [hget]),i+1,m+2,by omega,⟨by rw [has,ha2];simp,by rw [hn2,hnb],rfl⟩,rfl,by rw [has,ha2];simp [encC_app,encC];rfl⟩
   ·have e:oneV x=.tup [.agg [.int .i64 0,.fz 0 none 2 [],.bool false],.int .i64 1,.int .i64 0]:=by unfold oneV;rw [hw];rfl
    rw [e] at hO
    have hn2:neverB (l.take (i+1))=true:=by rw [hnv,hw];simp
    have ha2:addSx (allS (l.take i)) x=allS (l.take i):=by unfold addSx;rw [if_neg (by omega)]
    refine wCall_pp (r:=.tup [.agg [.int .i64 0,.fz 0 none 2 [],.bool false],.int .i64 1,.int .i64 0]) (by simp [pureL,pureV]) hO (by simp [pureL,pureV]) ?_
    cases hnb:neverB (l.take i)<;>simp -implicitDefEqProofs only [s0eq,hnb,nb10,dE1e,Bool.not_true,inc64 hlt (by omega:l.length≤4611686018427387904),go_sem,reduceCtorEq,rdA,rdM,rdL,rdT,rdE,rdN,↓gTT,↓gFF,↓gTF,↓gFT]
    all_goals
     refine ⟨n-1,by omega,_,subH_tail (by simp [hget]),i+1,m+1,by omega,⟨by rw [has,ha2],by rw [hn2],rfl⟩,rfl,by rw [has,ha2]⟩
   ·have e:oneV x=.tup [.agg [.int .i64 0,.fz 0 none 2 [],.bool false],.int .i64 2,.int .i64 0]:=by unfold oneV;rw [hw];rfl
    rw [e] at hO
    have hn2:neverB (l.take (i+1))=neverB (l.take i):=by rw [hnv,hw];simp
    have ha2:addSx (allS (l.take i)) x=allS (l.take i):=by unfold addSx;rw [if_neg (by omega)]
    refine wCall_pp (r:=.tup [.agg [.int .i64 0,.fz 0 none 2 [],.bool false],.int .i64 2,.int .i64 0]) (by simp [pureL,pureV]) hO (by simp [pureL,pureV]) ?_
    cases hnb:neverB (l.take i)<;>simp -implicitDefEqProofs only [s0eq,hnb,dT0,dE21,Bool.not_true,inc64 hlt (by omega:l.length≤4611686018427387904),go_sem,reduceCtorEq,rdA,rdM,rdL,rdT,rdE,rdN,↓gTT,↓gFF,↓gTF,↓gFT]
    all_goals
     refine ⟨n-1,by omega,_,subH_tail (by simp [hget]),i+1,m+1,by omega,⟨by rw [has,ha2],by rw [hn2,hnb],rfl⟩,rfl,by rw [has,ha2]⟩
  ·rw [List.take_of_length_le hge] at s1 s2
   simp -implicitDefEqProofs only [s1,s2,s3,s4,s5,ltF hge,List.take_of_length_le hge,encC_len,go_sem,reduceCtorEq,rdA,rdM,rdL,rdT,rdE,rdN,↓gTT,↓gFF,↓gTF,↓gFT]
   cases hnb:neverB l with
   | true=>
    have hw:allW l=1:=by unfold allW;rw [if_pos hnb]
    have e:allV l=.tup [.fz 0 none 3 [],.int .i64 1,.int .i64 0]:=by unfold allV allL;rw [hw,if_neg (by decide)];rfl
    rw [e]
    simp -implicitDefEqProofs only [hnb,go_sem,reduceCtorEq,rdA,rdM,rdL,rdT,rdE,rdN,↓gTT,↓gFF,↓gTF,↓gFT]
   | false=>
    cases hE:(allS l).isEmpty with
    | true=>
     have hw:allW l=2:=by unfold allW;rw [if_neg (by rw [hnb];simp),if_pos hE]
     have e:allV l=.tup [.fz 0 none 3 [],.int .i64 2,.int .i64 0]:=by unfold allV allL;rw [hw,if_neg (by decide)];rfl
     have h0:decide (((allS l).length:Int)=0)=true:=by rw [List.isEmpty_iff.1 hE];rfl
     rw [e]
     simp -implicitDefEqProofs only [hnb,h0,go_sem,reduceCtorEq,rdA,rdM,rdL,rdT,rdE,rdN,↓gTT,↓gFF,↓gTF,↓gFT]
    | false=>
     have hw:allW l=0:=by unfold allW;rw [if_neg (by rw [hnb];simp),if_neg (by rw [hE];simp)]
     have e:allV l=.tup [vCs (allS l),.int .i64 0,.int .i64 0]:=by unfold allV allL;rw [hw,if_pos rfl]
     have h0:decide (((allS l).length:Int)=0)=false:=by
      have:allS l≠[]:=fun h=>by rw [h] at hE;cases hE
      have:=List.length_pos_iff.2 this
      simp;omega
     rw [e]
     simp -implicitDefEqProofs only [hnb,h0,vCs,encC_len,go_sem,reduceCtorEq,rdA,rdM,rdL,rdT,rdE,rdN,↓gTT,↓gFF,↓gTF,↓gFT]
theorem CloneC_own (l:List Cons) (hl:l.length≤1000000) (hne:l≠[]) (nx:Nat):
 FSem FT p18 [.fz l.length none 3 (encC l)] nx [] (fun r nx' h'=>r=.ow nx l.length 3∧nx'=nx+1∧h'=[(nx,.row (encC l))]):=by
 refine fsem_of_body (f:=p18) rfl rfl ?_
 have hpos:0<l.length:=List.length_pos_iff.2 hne
 simp -implicitDefEqProofs only [go_sem,reduceCtorEq,rdA,rdM,rdL,rdT,rdE,rdN,↓gTT,↓gFF,↓gTF,↓gFT]
 intro b hb
 have hbf:b=false:=by cases b with
  | false=>rfl
  | true=>exact absurd (hb rfl) (by omega)
 subst hbf
 simp -implicitDefEqProofs only [eRetK_r,bff,encC_len,go_sem,reduceCtorEq,rdA,rdM,rdL,rdT,rdE,rdN,↓gTT,↓gFF,↓gTF,↓gFT]
 omega
theorem bft:(false != true)=true:=rfl
theorem CloneC_nil (nx:Nat):
 FSem FT p18 [.fz 0 none 3 []] nx [] (fun r nx' h'=>(r=.nils∧nx'=nx∧h'=[])∨(r=.ow nx 0 3∧nx'=nx+1∧h'=[(nx,.row [])])):=by
 refine fsem_of_body (f:=p18) rfl rfl ?_
 simp -implicitDefEqProofs only [go_sem,reduceCtorEq,rdA,rdM,rdL,rdT,rdE,rdN,↓gTT,↓gFF,↓gTF,↓gFT]
 intro b
 cases b with
 | true=>simp -implicitDefEqProofs only [eRetK_r,bft,go_sem,reduceCtorEq,rdA,rdM,rdL,rdT,rdE,rdN,↓gTT,↓gFF,↓gTF,↓gFT];simp
 | false=>simp -implicitDefEqProofs only [eRetK_r,bff,go_sem,reduceCtorEq,rdA,rdM,rdL,rdT,rdE,rdN,↓gTT,↓gFF,↓gTF,↓gFT];simp
theorem encC_len1 (S:List Cons) (a b c:VV):(encC S++[a,b,c]).length=(S.length+1)*3:=by rw [List.length_append,encC_len];simp;omega
def uneqX (x:Cons):List Cons:=if x.eq=true then [⟨x.t,false⟩,⟨⟨(scaleR x.t.c x.t.l (-1)).1,(scaleR x.t.c x.t.l (-1)).2.1⟩,false⟩] else [⟨x.t,false⟩]
def uneq (l:List Cons):List Cons:=l.flatMap uneqX
theorem uneqX_len (x:Cons):(uneqX x).length≤2:=by unfold uneqX;split<;>simp
theorem uneq_len:∀ l:List Cons,(uneq l).length≤l.length*2:=flat_len uneqX 2 uneqX_len
theorem unequal_ok (l:List Cons) (hs:smallC l):VPure FT p31 [.fz l.length none 3 (encC l)] (vCs (uneq l)):=by
 have hll:=hs.len
 refine vpure_of_body' (f:=p31) rfl rfl ?_
 simp -implicitDefEqProofs only [go_sem,reduceCtorEq,rdA,rdM,rdL,rdT,rdE,rdN,↓gTT,↓gFF,↓gTF,↓gFT]
 refine wLoop_own p3 3 (by simp -implicitDefEqProofs only [go_sem,reduceCtorEq,rdA,rdM,rdL,rdT,rdE,rdN,↓gTT,↓gFF,↓gTF,↓gFT]) ?_
 simp -implicitDefEqProofs only [go_sem,reduceCtorEq,rdA,rdM,rdL,rdT,rdE,rdN,↓gTT,↓gFF,↓gTF,↓gFT]
 refine wLoop_dr (fun n s=>∃ i m:Nat,i+n=l.length∧At s [(p3,.ow 0 (uneq (l.take i)).length 3),(p8,.fz l.length none 3 (encC l)),(p9,.int .i64 l.length),(p10,.int .i64 i)] (m+1) 0 [(0,.row (encC (uneq (l.take i))))]) l.length ?_ ?_
 ·exact ⟨0,0,by simp,by simp -implicitDefEqProofs only [go_sem,reduceCtorEq,rdA,rdM,rdL,rdT,rdE,rdN,↓gTT,↓gFF,↓gTF,↓gFT];simp [encC,uneq]⟩
 ·rintro n ⟨e,nx,w,h⟩ ⟨i,m,hi,⟨s1,s2,s3,s4,-⟩,rfl,rfl,rfl⟩
  rcases Nat.lt_or_ge i l.length with hlt|hge
  ·obtain ⟨x,hx⟩:=has hlt
   have hxl:=hs.all x (List.mem_of_getElem? hx)
   have ht:uneq (l.take (i+1))=uneq (l.take i)++uneqX x:=by rw [take_snoc hx];simp [uneq]
   have hul:=uneq_len (l.take i)
   have hul2:(l.take i).length≤i:=List.length_take_le _ _
   have hS:=Scale_ok x.t.c x.t.l (-1) hxl
   cases hxe:x.eq with
   | false=>
    have hX:uneqX x=[⟨x.t,false⟩]:=by unfold uneqX;rw [hxe];rfl
    simp -implicitDefEqProofs only [s1,s2,s3,s4,ltT hlt,encC_cut hx,encC_len,hxe,inc64 hlt (by omega:l.length≤4611686018427387904),go_sem,reduceCtorEq,rdA,rdM,rdL,rdT,rdE,rdN,↓gTT,↓gFF,↓gTF,↓gFT]
    refine ⟨⟨by omega,by omega⟩,by omega,by omega,n-1,by omega,_,subH_tail (by simp [hget]),i+1,m+1,by omega,⟨?_,rfl⟩,rfl,?_⟩
    ·rw [ht,hX];simp
    ·rw [ht,hX];simp [encC_app,encC,vMs]
   | true=>
    have hX:uneqX x=[⟨x.t,false⟩,⟨⟨(scaleR x.t.c x.t.l (-1)).1,(scaleR x.t.c x.t.l (-1)).2.1⟩,false⟩]:=by unfold uneqX;rw [hxe];rfl
    simp -implicitDefEqProofs only [s1,s2,s3,s4,ltT hlt,encC_cut hx,encC_len,hxe,inc64 hlt (by omega:l.length≤4611686018427387904),go_sem,reduceCtorEq,rdA,rdM,rdL,rdT,rdE,rdN,↓gTT,↓gFF,↓gTF,↓gFT]
    repeat' (first|(with_reducible refine And.intro ?_ ?_)|(with_reducible refine gs_t ?_ ?_)|(with_reducible refine gs_f ?_ ?_)|(intro _)|((with_reducible apply wCall_any);(· (simp -implicitDefEqProofs only [go_sem,reduceCtorEq,rdA,rdM,rdL,rdT,rdE,rdN,↓gTT,↓gFF,↓gTF,↓gFT]<;>rfl));(· (exact hS));(· rfl);(· rfl);(· (first|exact Eq.refl true|exact Eq.refl false));(simp -implicitDefEqProofs only [vTE,encC_len,encC_len1,inc64 hlt (by omega:l.length≤4611686018427387904),go_sem,reduceCtorEq,rdA,rdM,rdL,rdT,rdE,rdN,↓gTT,↓gFF,↓gTF,↓gFT]))|fail)
    all_goals (clear s1 s2 s3 s4;try omega)
    refine ⟨n-1,by omega,[(0,.row (encC (uneq (l.take i))++[.int .i64 x.t.c,.fz x.t.l.length none 2 (encM x.t.l),.bool false]++[.int .i64 (scaleR x.t.c x.t.l (-1)).1,.fz (scaleR x.t.c x.t.l (-1)).2.1.length none 2 (encM (scaleR x.t.c x.t.l (-1)).2.1),.bool false]))],subH_tail2 (by simp [hget]) (by simp [hget]),i+1,m+2,by omega,⟨?_,rfl⟩,rfl,?_⟩
    ·rw [ht,hX];simp
    ·rw [ht,hX];simp [encC_app,encC,vMs]
  ·rw [List.take_of_length_le hge] at s1
   simp -implicitDefEqProofs only [s1,s2,s3,s4,ltF hge,List.take_of_length_le hge,vCs,encC_len,go_sem,reduceCtorEq,rdA,rdM,rdL,rdT,rdE,rdN,↓gTT,↓gFF,↓gTF,↓gFT]
theorem Pairs_ok (l:List Cons) (v:Int) (hs:smallC l):VPure FT p34 [.fz l.length none 3 (encC l),.int .i64 v] (.int .i64 ((lowsOf l v).length*(highsOf l v).length)):=by
 have hll:=hs.len
 refine vpure_of_body (f:=p34) rfl rfl ?_
 have hP:=parts_ok l v hs
 have h1:(lowsOf l v).length≤100000:=Nat.le_trans (List.length_filter_le _ _) hll
 have h2:(highsOf l v).length≤100000:=Nat.le_trans (List.length_filter_le _ _) hll
 have h3:(lowsOf l v).length*(highsOf l v).length≤100000*100000:=Nat.mul_le_mul h1 h2
 have hw:IntKind.i64.wrap (((lowsOf l v).length:Int)*((highsOf l v).length:Int))=((lowsOf l v).length:Int)*((highsOf l v).length:Int):=by
  rw [←Int.natCast_mul];exact i64 (by omega)
 simp -implicitDefEqProofs only [go_sem,reduceCtorEq,rdA,rdM,rdL,rdT,rdE,rdN,↓gTT,↓gFF,↓gTF,↓gFT]
 repeat' (first|(with_reducible refine And.intro ?_ ?_)|(with_reducible refine gs_t ?_ ?_)|(with_reducible refine gs_f ?_ ?_)|(intro _)|((with_reducible apply wCall_any);(· (simp -implicitDefEqProofs only [go_sem,reduceCtorEq,rdA,rdM,rdL,rdT,rdE,rdN,↓gTT,↓gFF,↓gTF,↓gFT]<;>rfl));(· (exact hP));(· rfl);(· rfl);(· (first|exact Eq.refl true|exact Eq.refl false));(simp -implicitDefEqProofs only [vCs,hw,go_sem,reduceCtorEq,rdA,rdM,rdL,rdT,rdE,rdN,↓gTT,↓gFF,↓gTF,↓gFT]))|fail)
def boxX (v:Nat):List Cons:=[⟨⟨-2147483647,[⟨v,1⟩]⟩,false⟩,⟨⟨-2147483648,[⟨v,-1⟩]⟩,false⟩]
def boxL:Nat→List Cons
 | 0=>[]
 | n+1=>boxL n++boxX n
theorem boxL_len:∀ n,(boxL n).length=n*2
 | 0=>rfl
 | n+1=>by rw [boxL,List.length_append,boxL_len n];simp [boxX];omega
theorem box_ok (n:Nat) (hn:n≤1000000):VPure FT p19 [.int .i64 n] (vCs (boxL n)):=by
 refine vpure_of_body' (f:=p19) rfl rfl ?_
 simp -implicitDefEqProofs only [go_sem,reduceCtorEq,rdA,rdM,rdL,rdT,rdE,rdN,↓gTT,↓gFF,↓gTF,↓gFT]
 refine wLoop_own p3 3 (by simp -implicitDefEqProofs only [go_sem,reduceCtorEq,rdA,rdM,rdL,rdT,rdE,rdN,↓gTT,↓gFF,↓gTF,↓gFT]) ?_
 simp -implicitDefEqProofs only [go_sem,reduceCtorEq,rdA,rdM,rdL,rdT,rdE,rdN,↓gTT,↓gFF,↓gTF,↓gFT]
 refine wLoop_dr (fun k s=>∃ i m:Nat,i+k=n∧At s [(p3,.ow 0 (boxL i).length 3),(p5,.int .i64 n),(p6,.int .i64 i)] (m+1) 0 [(0,.row (encC (boxL i)))]) n ?_ ?_
 ·exact ⟨0,0,by simp,by simp -implicitDefEqProofs only [go_sem,reduceCtorEq,rdA,rdM,rdL,rdT,rdE,rdN,↓gTT,↓gFF,↓gTF,↓gFT];simp [encC,boxL]⟩
 ·rintro k ⟨e,nx,w,h⟩ ⟨i,m,hi,⟨s1,s2,s3,-⟩,rfl,rfl,rfl⟩
  rcases Nat.lt_or_ge i n with hlt|hge
  ·have hbl:=boxL_len i
   have k1:(m=m+1)=False:=by simp
   have k2:(m+1=m)=False:=by simp
   have k3:(0=m+1)=False:=by simp
   have k4:(m=m+2)=False:=by simp
   have k5:(m+2=m)=False:=by simp
   simp -implicitDefEqProofs only [s1,s2,s3,ltT hlt,encC_len,k1,k2,k3,k4,k5,inc64 hlt (by omega:n≤4611686018427387904),go_sem,reduceCtorEq,rdA,rdM,rdL,rdT,rdE,rdN,↓gTT,↓gFF,↓gTF,↓gFT]
   refine ⟨by omega,k-1,by omega,[(0,.row (encC (boxL i)++encC (boxX i)))],?_,i+1,m+3,by omega,⟨by rw [boxL];simp [boxX],rfl⟩,rfl,by rw [boxL,encC_app]⟩
   exact subH_tail (by simp [hget])
  ·have hin:i=n:=by omega
   subst hin
   simp -implicitDefEqProofs only [s1,s2,s3,ltF hge,vCs,encC_len,go_sem,reduceCtorEq,rdA,rdM,rdL,rdT,rdE,rdN,↓gTT,↓gFF,↓gTF,↓gFT]
def compF (acc:List Int) (x:Int):List Int:=if acc.getLast?=some x then acc else acc++[x]
def compI (l:List Int):List Int:=l.foldl compF []
theorem compI_snoc (l:List Int) (x:Int):compI (l++[x])=compF (compI l) x:=by unfold compI;rw [List.foldl_append];rfl
theorem compF_last (acc:List Int) (x:Int):(compF acc x).getLast?=some x:=by
 unfold compF;split
 ·assumption
 ·simp
theorem compI_last {l:List Int} {i:Nat} {x:Int} (h:l[i]?=some x):(compI (l.take (i+1))).getLast?=some x:=by rw [take_snoc h,compI_snoc,compF_last]
theorem compI_step {l:List Int} {i:Nat} {x y:Int} (hx:l[i]?=some x) (hy:l[i+1]?=some y):compI (l.take (i+2))=if x=y then compI (l.take (i+1)) else compI (l.take (i+1))++[y]:=by
 rw [take_snoc hy,compI_snoc,compF,compI_last hx]
 by_cases h:x=y
 ·rw [if_pos (by rw [h]),if_pos h]
 ·rw [if_neg (by intro e;cases e;exact h rfl),if_neg h]
theorem encI_set2:∀ (l:List Int) (i:Nat) (x:Int),i<l.length→List.take i (encI l)++[VV.int .i64 x]++List.drop (i+1) (encI l)=encI (l.set i x)
 | [],i,x,h=>by simp at h
 | y::l,0,x,_=>rfl
 | y::l,i+1,x,h=>by
  have ih:=encI_set2 l i x (by simpa using h)
  simp only [encI,List.take_succ_cons,List.drop_succ_cons,List.set_cons_succ,List.cons_append]
  rw [ih]
theorem Compact_ok (xs:List Int) (hl:xs.length≤1000000) (k nx:Nat) (hkn:k<nx):
 FSem FT p59 [.ow k xs.length 1] nx [(k,.row (encI xs))] (fun r nx' h'=>∃ k',r=.ow k' (compI xs).length 1∧k'<nx'∧(k'=k∨nx≤k')∧h'=[(k',.row (encI (compI xs)))]):=by
 refine fsem_of_body (f:=p59) rfl rfl ?_
 by_cases h2:xs.length<2
 ·have d2:decide ((xs.length:Int)<2)=true:=by simp;omega
  have hc:compI xs=xs:=by
   match xs,h2 with
   | [],_=>rfl
   | [x],_=>rfl
  simp -implicitDefEqProofs only [eRetK_r,d2,encI_len,Nat.mul_one,go_sem,reduceCtorEq,rdA,rdM,rdL,rdT,rdE,rdN,↓gTT,↓gFF,↓gTF,↓gFT]
  rw [hc];exact ⟨k,rfl,hkn,.inl rfl,rfl⟩
 have d2:decide ((xs.length:Int)<2)=false:=by simp;omega
 simp -implicitDefEqProofs only [eRetK_r,d2,encI_len,Nat.mul_one,go_sem,reduceCtorEq,rdA,rdM,rdL,rdT,rdE,rdN,↓gTT,↓gFF,↓gTF,↓gFT]
 refine wLoop_by (fun n s=>∃ i:Nat,1≤i∧i+n=xs.length∧At s [(p0,.ow k xs.length 1),(p3,.int .i64 i)] nx 0 [(k,.row (encI xs))]∧compI (xs.take i)=xs.take i) (xs.length-1) ?_ ?_
 ·refine ⟨1,by omega,by omega,by simp -implicitDefEqProofs only [go_sem,reduceCtorEq,rdA,rdM,rdL,rdT,rdE,rdN,↓gTT,↓gFF,↓gTF,↓gFT],?_⟩
  match xs,h2 with
  | [],h=>simp at h
  | x::t,_=>rfl
 ·rintro n ⟨e,nx',w,h⟩ ⟨i,hi1,hi,⟨⟨s1,s2,-⟩,rfl,rfl,rfl⟩,hcp⟩
  obtain ⟨i,rfl⟩:∃ j,i=j+1:=⟨i-1,by omega⟩
  rcases Nat.lt_or_ge (i+1) xs.length with hlt|hge
  ·obtain ⟨y,hy⟩:=has hlt
   obtain ⟨x,hx⟩:=has (show i<xs.length by omega)
   have hst:=compI_step hx hy
   by_cases hxy:y=x
   ·have dd:decide (y=x)=true:=by simpa using hxy
    rw [if_pos hxy.symm] at hst
    simp -implicitDefEqProofs only [s1,s2,ltT hlt,encI_g hx,encI_g hy,encI_len,dd,sub64 hlt (by omega:xs.length≤4611686018427387904),inc64 hlt (by omega:xs.length≤4611686018427387904),Nat.mul_one,go_sem,reduceCtorEq,rdA,rdM,rdL,rdT,rdE,rdN,↓gTT,↓gFF,↓gTF,↓gFT]
    refine ⟨⟨by omega,by omega⟩,⟨by omega,by omega⟩,by omega,⟨by omega,by omega⟩,?_⟩
    have hsub:xs.length-((i+1:Nat):Int).toNat=xs.length-(i+1):=by rw [Int.toNat_natCast]
    refine wLoop_by (fun n' s=>∃ (q kk:Nat) (ys:List Int),1≤q∧q+n'=xs.length-(i+1)∧ys.length=xs.length∧kk≤i+q∧At s [(p0,.ow k xs.length 1),(p3,.int .i64 kk),(p4,.os k xs.length (i+1) (xs.length-(i+1)) 1),(p5,.int .i64 q)] nx' 0 [(k,.row (encI ys))]∧ys.take kk=compI (xs.take (i+1+q))∧kk=(compI (xs.take (i+1+q))).length∧ys.drop (i+q)=xs.drop (i+q)) (xs.length-(i+1)-1) ?_ ?_
    ·refine ⟨1,i+1,xs,by omega,by omega,rfl,by omega,?_,?_,?_,rfl⟩
     ·simp -implicitDefEqProofs only [go_sem,reduceCtorEq,rdA,rdM,rdL,rdT,rdE,rdN,↓gTT,↓gFF,↓gTF,↓gFT]
     ·rw [show i+1+1=i+2 by omega,hst,hcp]
     ·rw [show i+1+1=i+2 by omega,hst,hcp,List.length_take];omega
    ·rintro n' ⟨e',nx2,w2,h2'⟩ ⟨q,kk,ys,hq1,hq,hyl,hkk,⟨⟨a1,a2,a3,a4,-⟩,rfl,rfl,rfl⟩,hy1,hy2,hy3⟩
     obtain ⟨q,rfl⟩:∃ j,q=j+1:=⟨q-1,by omega⟩
     rcases Nat.lt_or_ge (q+1) (xs.length-(i+1)) with hql|hqg
     ·obtain ⟨a,ha⟩:=has (show i+(q+1)<xs.length by omega)
      obtain ⟨b,hb⟩:=has (show i+(q+1)+1<xs.length by omega)
      have hst2:=compI_step ha hb
      have hya:ys[i+1+q]?=some a:=by
       have:=congrArg (fun l=>l[0]?) hy3
       simp only [List.getElem?_drop,Nat.add_zero] at this
       rw [show i+1+q=i+(q+1) by omega,this,ha]
      have hyb:ys[i+1+(q+1)]?=some b:=by
       have:=congrArg (fun l=>l[1]?) hy3
       simp only [List.getElem?_drop] at this
       rw [show i+1+(q+1)=i+(q+1)+1 by omega,this,hb]
      by_cases hab:b=a
      ·have dd2:decide (b=a)=true:=by simpa using hab
       simp -implicitDefEqProofs only [a1,a2,a3,a4,ltT hql,encI_g hya,encI_g hyb,encI_len,hyl,dd2,sub64 hql (by omega:xs.length-(i+1)≤4611686018427387904),inc64 hql (by omega:xs.length-(i+1)≤4611686018427387904),Nat.mul_one,Bool.not_true,go_sem,reduceCtorEq,rdA,rdM,rdL,rdT,rdE,rdN,↓gTT,↓gFF,↓gTF,↓gFT]
       rw [if_pos hab.symm] at hst2
       refine ⟨⟨by omega,by omega⟩,⟨by omega,by omega⟩,n'-1,by omega,q+2,kk,ys,by omega,by omega,hyl,by omega,⟨⟨rfl,rfl⟩,rfl⟩,?_,?_,?_⟩
       ·rw [hy1,show i+1+(q+2)=i+(q+1)+2 by omega,hst2];congr 2;omega
       ·rw [show i+1+(q+2)=i+(q+1)+2 by omega,hst2,show i+(q+1)+1=i+1+(q+1) by omega];exact hy2
       ·have:=congrArg (List.drop 1) hy3
        rw [List.drop_drop,List.drop_drop] at this
        exact this
      ·have dd2:decide (b=a)=false:=by simpa using hab
       have hkkl:kk<xs.length:=by omega
       simp -implicitDefEqProofs only [a1,a2,a3,a4,ltT hql,encI_g hya,encI_g hyb,encI_len,hyl,dd2,sub64 hql (by omega:xs.length-(i+1)≤4611686018427387904),inc64 hql (by omega:xs.length-(i+1)≤4611686018427387904),inc64 hkkl (by omega:xs.length≤4611686018427387904),Nat.mul_one,Bool.not_false,go_sem,reduceCtorEq,rdA,rdM,rdL,rdT,rdE,rdN,↓gTT,↓gFF,↓gTF,↓gFT]
       rw [if_neg (fun h=>hab h.symm)] at hst2
       have e2:i+1+(q+2)=i+(q+1)+2:=by omega
       have e1:i+(q+1)+1=i+1+(q+1):=by omega
       refine ⟨⟨by omega,by omega⟩,⟨by omega,by omega⟩,⟨by omega,by omega⟩,⟨by omega,by omega⟩,by omega,by omega,n'-1,by omega,q+2,kk+1,ys.set kk b,by omega,by omega,by rw [List.length_set,hyl],by omega,⟨⟨rfl,rfl⟩,?_⟩,?_,?_,?_⟩
       ·rw [encI_set2 _ _ _ (by omega)]
       ·have hk1:(ys.set kk b)[kk]?=some b:=by rw [List.getElem?_set_self (by omega)]
        rw [take_snoc hk1,List.take_set_of_le (Nat.le_refl kk),hy1,e2,hst2,e1]
       ·rw [e2,hst2,e1,List.length_append,←hy2];rfl
       ·have:=congrArg (List.drop 1) hy3
        rw [List.drop_drop,List.drop_drop] at this
        rw [List.drop_set_of_lt (by omega)]
        exact this
     ·simp -implicitDefEqProofs only [a1,a2,a3,a4,ltF hqg,eRetK_r,encI_len,hyl,Nat.mul_one,go_sem,reduceCtorEq,rdA,rdM,rdL,rdT,rdE,rdN,↓gTT,↓gFF,↓gTF,↓gFT]
      have e3:i+1+(q+1)=xs.length:=by omega
      rw [e3,List.take_of_length_le (Nat.le_refl _)] at hy1 hy2
      have hrl:(reps' [VV.int .i64 0] (xs.length-kk)).length=xs.length-kk:=by unfold reps';rw [reps_len];simp
      have hrow:(List.take kk (encI ys)++reps' [VV.int .i64 0] (xs.length-kk)++List.drop (kk+(reps' [VV.int .i64 0] (xs.length-kk)).length) (encI ys)).length=xs.length:=by
       rw [hrl];simp only [List.length_append,List.length_take,List.length_drop,encI_len,hyl,hrl];omega
      rw [if_pos hrow]
      refine ⟨by omega,⟨by omega,by omega⟩,by omega,by omega,by omega,⟨by omega,by omega,by omega⟩,nx2,?_,by omega,.inr (by omega),?_⟩
      ·rw [←hy2];simp
      ·have:vsub (List.take kk (encI ys)++reps' [VV.int .i64 0] (xs.length-kk)++List.drop (kk+(reps' [VV.int .i64 0] (xs.length-kk)).length) (encI ys)) 1 (Int.toNat 0) kk=encI (compI xs):=by
        unfold vsub
        rw [show Int.toNat 0*1=0 from rfl,List.drop_zero,show (kk-Int.toNat 0)*1=kk by simp,List.append_assoc,List.take_left' (by rw [List.length_take,encI_len];omega),encI_take,hy1]
       rw [this]
   ·have dd:decide (y=x)=false:=by simpa using hxy
    rw [if_neg (fun h=>hxy h.symm)] at hst
    simp -implicitDefEqProofs only [s1,s2,ltT hlt,encI_g hx,encI_g hy,encI_len,dd,sub64 hlt (by omega:xs.length≤4611686018427387904),inc64 hlt (by omega:xs.length≤4611686018427387904),Nat.mul_one,go_sem,reduceCtorEq,rdA,rdM,rdL,rdT,rdE,rdN,↓gTT,↓gFF,↓gTF,↓gFT]
    exact ⟨⟨by omega,by omega⟩,⟨by omega,by omega⟩,n-1,by omega,i+2,by omega,by omega,rfl,by rw [hst,hcp,←take_snoc hy]⟩
  ·rw [List.take_of_length_le hge] at hcp
   simp -implicitDefEqProofs only [s1,s2,ltF hge,eRetK_r,encI_len,Nat.mul_one,go_sem,reduceCtorEq,rdA,rdM,rdL,rdT,rdE,rdN,↓gTT,↓gFF,↓gTF,↓gFT]
   rw [hcp];exact ⟨k,rfl,hkn,.inl rfl,rfl⟩
def exP (l:List Cons) (v:Int):Bool:=if mayE l v=0 then exactB l v else false
theorem first1_ok (l:List Cons) (v:Int) (hs:smallC l):VPure FT p61 [.int .i64 v,.fp [.fz l.length none 3 (encC l)] 0] (.bool (exP l v)):=by
 refine vpure_of_body (f:=p61) rfl rfl ?_
 have hE:=Exact_ok l v hs
 simp -implicitDefEqProofs only [go_sem,reduceCtorEq,rdA,rdM,rdL,rdT,rdE,rdN,↓gTT,↓gFF,↓gTF,↓gFT]
 repeat' (first|(with_reducible refine And.intro ?_ ?_)|(with_reducible refine gs_t ?_ ?_)|(with_reducible refine gs_f ?_ ?_)|(intro _)|((with_reducible apply wCall_any);(· (simp -implicitDefEqProofs only [go_sem,reduceCtorEq,rdA,rdM,rdL,rdT,rdE,rdN,↓gTT,↓gFF,↓gTF,↓gFT]<;>rfl));(· (exact hE));(· rfl);(· rfl);(· (first|exact Eq.refl true|exact Eq.refl false));(simp -implicitDefEqProofs only [go_sem,reduceCtorEq,rdA,rdM,rdL,rdT,rdE,rdN,↓gTT,↓gFF,↓gTF,↓gFT]))|fail)
 rfl
def mvars (x:Cons):List Int:=x.t.l.map (·.v)
def varsOf (l:List Cons):List Int:=l.flatMap mvars
def firstL (l:List Cons):List Int:=compI (sortI (varsOf l))
def firstI (l:List Cons):Int:=idxOf (exP l) (firstL l) 0
def leastV (l:List Cons):Int:=(firstL l)[0]?.getD 0
def exactV (l:List Cons):Int:=if firstI l<0 then -1 else (firstL l)[(firstI l).toNat]?.getD 0
theorem compI_ne:∀ {l:List Int},l≠[]→compI l≠[]:=by
 intro l hne h
 rcases List.eq_nil_or_concat l with rfl|⟨l',m,rfl⟩
 ·exact hne rfl
 ·rw [List.concat_eq_append,compI_snoc] at h
  have:=compF_last (compI l') m
  rw [h] at this;cases this
theorem sortI_ne {l:List Int} (h:l≠[]):sortI l≠[]:=fun e=>h (List.eq_nil_of_length_eq_zero (by rw [←sortI_len,e];rfl))
theorem compI_len:∀ l:List Int,(compI l).length≤l.length:=by
 intro l
 have key:∀ (l acc:List Int),(l.foldl compF acc).length≤acc.length+l.length:=by
  intro l
  induction l with
  | nil=>intro acc;simp
  | cons x l ih=>
   intro acc;rw [List.foldl_cons]
   have h1:=ih (compF acc x)
   have h2:(compF acc x).length≤acc.length+1:=by unfold compF;split<;>simp
   simp only [List.length_cons];omega
 have:=key l [];simpa [compI] using this
theorem first_ok (l:List Cons) (hs:smallC l) (hn:(varsOf l).length≤1000000) (hne:varsOf l≠[]):VPure FT p32 [.fz l.length none 3 (encC l)] (.tup [.int .i64 (leastV l),.int .i64 (exactV l)]):=by
 have hll:=hs.len
 refine vpure_of_body (f:=p32) rfl rfl ?_
 simp -implicitDefEqProofs only [go_sem,reduceCtorEq,rdA,rdM,rdL,rdT,rdE,rdN,↓gTT,↓gFF,↓gTF,↓gFT]
 refine wLoop_own p4 1 (by simp -implicitDefEqProofs only [go_sem,reduceCtorEq,rdA,rdM,rdL,rdT,rdE,rdN,↓gTT,↓gFF,↓gTF,↓gFT]) ?_
 simp -implicitDefEqProofs only [go_sem,reduceCtorEq,rdA,rdM,rdL,rdT,rdE,rdN,↓gTT,↓gFF,↓gTF,↓gFT]
 refine wLoop_dr (fun n s=>∃ i m:Nat,i+n=l.length∧At s [(p1,.pt 0 1 0),(p4,.ow 1 (varsOf (l.take i)).length 1),(p10,.fz l.length none 3 (encC l)),(p11,.int .i64 l.length),(p12,.int .i64 i)] (m+2) 0 [(1,.row (encI (varsOf (l.take i)))),(0,.obj [.fz l.length none 3 (encC l)])]) l.length ?_ ?_
 ·refine ⟨0,0,by simp,?_⟩
  simp -implicitDefEqProofs only [go_sem,reduceCtorEq,rdA,rdM,rdL,rdT,rdE,rdN,↓gTT,↓gFF,↓gTF,↓gFT];simp [varsOf,encI]
 ·rintro n ⟨e,nx,w,h⟩ ⟨i,m,hi,⟨s1,s2,s3,s4,s5,-⟩,rfl,rfl,rfl⟩
  rcases Nat.lt_or_ge i l.length with hlt|hge
  ·obtain ⟨x,hx⟩:=has hlt
   have hxl:=hs.all x (List.mem_of_getElem? hx)
   have ht:varsOf (l.take (i+1))=varsOf (l.take i)++mvars x:=by rw [take_snoc hx];simp [varsOf]
   simp -implicitDefEqProofs only [s1,s2,s3,s4,s5,ltT hlt,encC_cut hx,encC_len,inc64 hlt (by omega:l.length≤4611686018427387904),go_sem,reduceCtorEq,rdA,rdM,rdL,rdT,rdE,rdN,↓gTT,↓gFF,↓gTF,↓gFT]
   refine ⟨⟨by omega,by omega⟩,by omega,?_⟩
   obtain ⟨V,hV⟩:∃ V,V=varsOf (l.take i):=⟨_,rfl⟩
   have hVl:V.length+x.t.l.length≤(varsOf l).length:=by
    have h1:varsOf l=varsOf (l.take (i+1))++varsOf (l.drop (i+1)):=by rw [varsOf,varsOf,varsOf,←List.flatMap_append,List.take_append_drop]
    rw [h1,ht,←hV];simp [mvars]
   rw [←hV]
   refine wLoop_dr (fun n' s=>∃ j m':Nat,j+n'=x.t.l.length∧At s [(p1,.pt 0 1 0),(p4,.ow 1 (V++(x.t.l.take j).map (·.v)).length 1),(p10,.fz l.length none 3 (encC l)),(p11,.int .i64 l.length),(p12,.int .i64 i),(p18,.fz x.t.l.length none 2 (encM x.t.l)),(p19,.int .i64 x.t.l.length),(p20,.int .i64 j)] (m'+2) 0 [(1,.row (encI (V++(x.t.l.take j).map (·.v)))),(0,.obj [.fz l.length none 3 (encC l)])]) x.t.l.length ?_ ?_
   ·exact ⟨0,m,by simp,by simp -implicitDefEqProofs only [go_sem,reduceCtorEq,rdA,rdM,rdL,rdT,rdE,rdN,↓gTT,↓gFF,↓gTF,↓gFT];simp⟩
   ·rintro n' ⟨e',nx,w,h⟩ ⟨j,m',hj,⟨a1,a2,a3,a4,a5,a6,a7,a8,-⟩,rfl,rfl,rfl⟩
    rcases Nat.lt_or_ge j x.t.l.length with hjlt|hjge
    ·obtain ⟨y,hy⟩:=has hjlt
     have hty:=take_snoc hy
     have hml:(V++(x.t.l.take j).map (·.v)).length=V.length+j:=by simp;omega
     rw [hml] at a2
     simp -implicitDefEqProofs only [a1,a2,a3,a4,a5,a6,a7,a8,ltT hjlt,encM_cut hy,encM_len,encI_len,hml,Nat.mul_one,inc64 hjlt (by omega:x.t.l.length≤4611686018427387904),go_sem,reduceCtorEq,rdA,rdM,rdL,rdT,rdE,rdN,↓gTT,↓gFF,↓gTF,↓gFT]
     refine ⟨⟨by omega,by omega⟩,by omega,by omega,n'-1,by omega,_,subH_tail (by simp [hget]),j+1,m'+1,by omega,⟨by rw [hty];simp;omega,rfl⟩,rfl,by rw [hty];simp [encI_app,encI]⟩
    ·rw [List.take_of_length_le hjge] at a2
     simp -implicitDefEqProofs only [a1,a2,a3,a4,a5,a6,a7,a8,ltF hjge,List.take_of_length_le hjge,inc64 hlt (by omega:l.length≤4611686018427387904),go_sem,reduceCtorEq,rdA,rdM,rdL,rdT,rdE,rdN,↓gTT,↓gFF,↓gTF,↓gFT]
     refine ⟨n-1,by omega,_,subH_refl _,i+1,m',by omega,⟨by rw [ht,←hV];rfl,rfl⟩,rfl,by rw [ht,←hV];rfl⟩
  ·rw [List.take_of_length_le hge] at s2
   simp -implicitDefEqProofs only [s1,s2,s3,s4,s5,ltF hge,List.take_of_length_le hge,encC_len,go_sem,reduceCtorEq,rdA,rdM,rdL,rdT,rdE,rdN,↓gTT,↓gFF,↓gTF,↓gFT]
   clear s1 s2 s3 s4 s5
   have hsl:(sortI (varsOf l)).length=(varsOf l).length:=sortI_len _
   refine wCall_heap (hin:=[(1,.row (encI (varsOf l)))]) (prim_sort (F:=FT) (f:=p58) rfl hn) (fun k o h=>by
    simp only [hget] at h ⊢
    split at h
    ·rename_i h1;subst h1;cases h;exact ⟨by simp,by omega⟩
    ·cases h) ?_ ?_
   ·rintro r nx' h' ⟨rfl,rfl,rfl⟩
    refine ⟨by simp [closed,keysV,keysL,hkeys],?_⟩
    intro k o ho
    simp only [hget] at ho
    split at ho
    ·cases ho;simp [closed,okeys]
    ·cases ho
   ·rintro r nx' h' ⟨rfl,rfl,rfl⟩ _
    simp -implicitDefEqProofs only [hkeys,hdels,hdel,go_sem,reduceCtorEq,rdA,rdM,rdL,rdT,rdE,rdN,↓gTT,↓gFF,↓gTF,↓gFT]
    have hC:=Compact_ok (sortI (varsOf l)) (by omega) 1 (m+2) (by omega)
    rw [hsl] at hC
    refine wCall_heap (hin:=[(1,.row (encI (sortI (varsOf l))))]) hC (fun k o h=>by
     simp only [hget] at h ⊢
     split at h
     ·rename_i h1;subst h1;cases h;exact ⟨by simp,by omega⟩
     ·cases h) ?_ ?_
    ·rintro r nx' h' ⟨k',rfl,hk',hk1,rfl⟩
     refine ⟨by simp [closed,keysV,keysL,hkeys],?_⟩
     intro k o ho
     simp only [hget] at ho
     split at ho
     ·cases ho;simp [closed,okeys]
     ·cases ho
    ·rintro r nx' h' ⟨k',rfl,hk',hk1,rfl⟩ _
     have hk0:(0=k')=False:=by simp;omega
     have hfl:compI (sortI (varsOf l))=firstL l:=rfl
     have hfln:(firstL l).length≤1000000:=by rw [←hfl];have:=compI_len (sortI (varsOf l));omega
     have hI:=IndexI_ok p61 [.fp [.fz l.length none 3 (encC l)] 0] (exP l) (firstL l) (by omega) rfl (fun v _=>first1_ok l v hs)
     have hfi:idxOf (exP l) (firstL l) 0=firstI l:=rfl
     rw [hfi] at hI
     rw [hfl]
     simp -implicitDefEqProofs only [hkeys,hdels,hdel,hk0,go_sem,reduceCtorEq,rdA,rdM,rdL,rdT,rdE,rdN,↓gTT,↓gFF,↓gTF,↓gFT]
     refine wCall_pure (args':=[.fz (firstL l).length none 1 (encI (firstL l)),.fn p61 [.fp [.fz l.length none 3 (encC l)] 0]]) (by simp -implicitDefEqProofs only [encI_len,hk0,Nat.mul_one,go_sem,reduceCtorEq,rdA,rdM,rdL,rdT,rdE,rdN,↓gTT,↓gFF,↓gTF,↓gFT]) hI rfl (.inl rfl) ?_
     have hpos:0<(firstL l).length:=List.length_pos_iff.2 (compI_ne (sortI_ne hne))
     obtain ⟨a,ha⟩:=has hpos
     have hl0:leastV l=a:=by unfold leastV;rw [ha];rfl
     have hg0:(encI (firstL l))[Int.toNat 0]?=some (.int .i64 a):=encI_g ha
     by_cases hneg:firstI l<0
     ·have dn:decide (firstI l<0)=true:=by simpa using hneg
      have he:exactV l=-1:=by unfold exactV;rw [if_pos hneg]
      simp -implicitDefEqProofs only [dn,hl0,he,hg0,encI_len,hk0,Nat.mul_one,go_sem,reduceCtorEq,rdA,rdM,rdL,rdT,rdE,rdN,↓gTT,↓gFF,↓gTF,↓gFT]
      exact ⟨by omega,by omega⟩
     ·have dn:decide (firstI l<0)=false:=by simpa using hneg
      obtain ⟨q,hq1,hq2,-⟩:=idxOf_some (exP l) (firstL l) 0 (by omega) (by rw [hfi];omega)
      rw [hfi,Int.zero_add] at hq1
      obtain ⟨b,hb⟩:=has hq2
      have he:exactV l=b:=by unfold exactV;rw [if_neg hneg,hq1,Int.toNat_natCast,hb];rfl
      have hgb:(encI (firstL l))[q]?=some (.int .i64 b):=encI_g hb
      have dq:decide ((q:Int)<0)=false:=by simp
      simp -implicitDefEqProofs only [dn,dq,hl0,he,hq1,hg0,hgb,encI_len,hk0,Nat.mul_one,go_sem,reduceCtorEq,rdA,rdM,rdL,rdT,rdE,rdN,↓gTT,↓gFF,↓gTF,↓gFT]
      exact ⟨⟨by omega,by omega⟩,by omega,by omega⟩
abbrev Ans:=Int × Nat × List Int
def valueR (c:Int) (b:List Mono) (vals:List Int):Int:=if toldE c b vals=0 then c+linV vals b else 0
def spanLo (l:List Cons) (v:Int) (vals:List Int):Int:=if spanE l v vals=0 then min (spanFold l v vals).1 2147483647 else 0
def spanHi (l:List Cons) (v:Int) (vals:List Int):Int:=if spanE l v vals=0 then max (spanFold l v vals).2 (-2147483648) else 0
def pickR (lo hi:Int):Int:=if hi<lo then 0 else min (max 0 lo) hi
def aloneB (v:Int) (x:Cons):Bool:=match x.t.l with|[m]=>decide (m.v=v)|_=>false
def aloneL (l:List Cons) (v:Int):List Cons:=l.filter (aloneB v)
def belowC (v m:Int):Cons:=⟨⟨-m,[⟨v,1⟩]⟩,false⟩
def aboveC (v m:Int):Cons:=⟨⟨m+1,[⟨v,-1⟩]⟩,false⟩
def swapD (rec:Nat→List Int→List Cons→Ans) (left:Nat) (vals:List Int) (l:List Cons) (v c:Int) (b:List Mono):Ans:=
 if swapE l v c b≠0 then (4,left,vals)
 else if (rec left vals (swapL l v c b)).1=2 then (2,(rec left vals (swapL l v c b)).2.1,(rec left vals (swapL l v c b)).2.2.set v.toNat (valueR c b (rec left vals (swapL l v c b)).2.2))
 else rec left vals (swapL l v c b)
def halfR (lo hi:Int):Int:=(lo+hi) / 2
def splitD (rec:Nat→List Int→List Cons→Ans) (left:Nat) (vals:List Int) (l:List Cons) (v:Int):Ans:=
 if spanHi (aloneL l v) v []<spanLo (aloneL l v) v [] then (1,left,vals)
 else if left<1 then (3,left,vals)
 else if spanLo (aloneL l v) v []=spanHi (aloneL l v) v [] then swapD rec (left-1) vals l v (spanLo (aloneL l v) v []) []
 else if (rec (left-1) vals (l++[belowC v (halfR (spanLo (aloneL l v) v []) (spanHi (aloneL l v) v []))])).1=1
  then rec (rec (left-1) vals (l++[belowC v (halfR (spanLo (aloneL l v) v []) (spanHi (aloneL l v) v []))])).2.1 (rec (left-1) vals (l++[belowC v (halfR (spanLo (aloneL l v) v []) (spanHi (aloneL l v) v []))])).2.2 (l++[aboveC v (halfR (spanLo (aloneL l v) v []) (spanHi (aloneL l v) v []))])
  else rec (left-1) vals (l++[belowC v (halfR (spanLo (aloneL l v) v []) (spanHi (aloneL l v) v []))])
def dropD (rec:Nat→List Int→List Cons→Ans) (left:Nat) (vals:List Int) (l:List Cons) (v:Int):Ans:=
 if left<max ((lowsOf l v).length*(highsOf l v).length) 1 then (3,left,vals)
 else if dropErr l v≠0 then (4,left-max ((lowsOf l v).length*(highsOf l v).length) 1,vals)
 else if (rec (left-max ((lowsOf l v).length*(highsOf l v).length) 1) vals (dropList l v)).1=2
  then (2,(rec (left-max ((lowsOf l v).length*(highsOf l v).length) 1) vals (dropList l v)).2.1,
   (rec (left-max ((lowsOf l v).length*(highsOf l v).length) 1) vals (dropList l v)).2.2.set v.toNat
    (pickR (spanLo l v (rec (left-max ((lowsOf l v).length*(highsOf l v).length) 1) vals (dropList l v)).2.2) (spanHi l v (rec (left-max ((lowsOf l v).length*(highsOf l v).length) 1) vals (dropList l v)).2.2)))
  else rec (left-max ((lowsOf l v).length*(highsOf l v).length) 1) vals (dropList l v)
def noUnitD (rec:Nat→List Int→List Cons→Ans) (left:Nat) (vals:List Int) (l:List Cons):Ans:=
 if 240<l.length then (3,left,vals) else if exactV l<0 then splitD rec left vals l (leastV l) else dropD rec left vals l (exactV l)
def unitD (rec:Nat→List Int→List Cons→Ans) (left:Nat) (vals:List Int) (l:List Cons) (i v:Int):Ans:=
 if left<1 then (3,left,vals) else swapD rec (left-1) vals (l.eraseIdx i.toNat) v (equalR ((l[i.toNat]?).getD nilC) v).1 (equalR ((l[i.toNat]?).getD nilC) v).2.1
def stepD (rec:Nat→List Int→List Cons→Ans) (left:Nat) (vals:List Int) (l:List Cons):Ans:=
 if allW l≠0 then (allW l,left,vals)
 else if 240<(allS l).length then (3,left,vals)
 else match unitOf (allS l) 0 with
  | some (i,v)=>unitD rec left vals (allS l) i v
  | none=>noUnitD rec left vals (uneq (allS l))
def ansD:Nat→Nat→List Int→List Cons→Ans
 | 0,left,vals,_=>(3,left,vals)
 | d+1,left,vals,l=>stepD (ansD d) left vals l
def lookH (j kk:Nat) (left:Nat) (vals:List Int):VHp:=[(j,.obj [.int .i64 left,.ow kk vals.length 1]),(kk,.row (encI vals))]
theorem burn_ok (j kk left c:Nat) (vals:List Int) (nx:Nat) (hj:(j=kk)=False) (hl:left≤1000000) (hc:c≤1000000000000):
 FSem FT p27 [.pt j 2 0,.int .i64 c] nx (lookH j kk left vals) (fun r nx' h'=>nx'=nx∧r=.bool (decide (c≤left))∧h'=lookH j kk (if c≤left then left-c else left) vals):=by
 refine fsem_of_body (f:=p27) rfl rfl ?_
 by_cases h:c≤left
 ·have d:decide ((left:Int)<(c:Int))=false:=by simp;omega
  have w1:IntKind.i64.wrap ((left:Int)-(c:Int))=((left-c:Nat):Int):=by rw [i64 (by omega)];omega
  rw [if_pos h,decide_eq_true h]
  simp -implicitDefEqProofs only [eRetK_r,lookH,d,w1,hj,go_sem,reduceCtorEq,rdA,rdM,rdL,rdT,rdE,rdN,↓gTT,↓gFF,↓gTF,↓gFT]
  exact Nat.zero_le _
 ·have d:decide ((left:Int)<(c:Int))=true:=by simp;omega
  rw [if_neg h,decide_eq_false h]
  simp -implicitDefEqProofs only [eRetK_r,lookH,d,hj,go_sem,reduceCtorEq,rdA,rdM,rdL,rdT,rdE,rdN,↓gTT,↓gFF,↓gTF,↓gFT]
def LookSem (f:P) (args:List VV) (j kk nx left:Nat) (vals:List Int) (a:Ans):Prop:=
 FSem FT f (.pt j 2 0::args) nx (lookH j kk left vals) (fun r _ h'=>r=.int .i64 a.1∧h'=lookH j kk a.2.1 a.2.2)
theorem lookH_closed (j kk left:Nat) (vals:List Int) (hj:(j=kk)=False) (n:Int):closed (lookH j kk left vals) (keysV (.int .i64 n))∧closedH (lookH j kk left vals):=by
 refine ⟨by simp [closed,keysV],?_⟩
 intro k o ho
 simp only [lookH,hget] at ho
 split at ho
 ·cases ho;simp [closed,okeys,keysL,keysV,lookH,hkeys]
 ·split at ho
  ·cases ho;simp [closed,okeys]
  ·cases ho
theorem wCall_look {f:P} {args:List VV} {s:VSt} {K:VSt→VV→Prop} {j kk left:Nat} {vals:List Int} {a:Ans} (hj:(j=kk)=False) (hsem:LookSem f args j kk s.nx left vals a) (hw:s.w=0) (hh:s.h=lookH j kk left vals)
 (hK:∀ nx',s.nx≤nx'→K ⟨s.e,nx',0,lookH j kk a.2.1 a.2.2⟩ (.int .i64 a.1)):wCall FT f (.pt j 2 0::args) s K:=by
 refine wCall_heap (hin:=lookH j kk left vals) hsem (fun k o h=>⟨by rw [hh];exact h,by omega⟩) ?_ ?_
 ·rintro r nx' h' ⟨rfl,rfl⟩
  exact lookH_closed j kk _ _ hj _
 ·rintro r nx' h' ⟨rfl,rfl⟩ hn
  have hk:hdels s.h (hkeys (lookH j kk left vals))=[]:=by
   have h2:(kk=j)=False:=by simp at hj ⊢;omega
   rw [hh];simp [lookH,hkeys,hdels,hdel,h2,hj]
  rw [hk,List.append_nil,hw]
  exact hK nx' hn
theorem swap_sem {rec:Nat→List Int→List Cons→Ans} {j kk nx left:Nat} {vals:List Int} {l:List Cons} {v c:Int} {b:List Mono} (hj:(j=kk)=False) (hjn:j<nx) (hkn:kk<nx) (hs:smallC l) (hb:b.length≤400000)
 (hv:0≤v∧v<vals.length) (hvl:vals.length≤1000000)
 (hrec:swapE l v c b=0→LookSem p17 [.fz (swapL l v c b).length none 3 (encC (swapL l v c b))] j kk nx left vals (rec left vals (swapL l v c b))∧(rec left vals (swapL l v c b)).2.2.length=vals.length):
 LookSem p29 [.fz l.length none 3 (encC l),.int .i64 v,.agg [.int .i64 c,.fz b.length none 2 (encM b)]] j kk nx left vals (swapD rec left vals l v c b):=by
 refine fsem_of_body (f:=p29) rfl rfl ?_
 have hS:=Swap_ok l v c b hs hb
 by_cases hE:swapE l v c b=0
 case neg=>
  have d:decide (swapE l v c b=0)=false:=by simpa using hE
  have e:swapV l v c b=.tup [.fz 0 none 3 [],.int .i64 (swapE l v c b)]:=by unfold swapV;rw [if_pos hE];rfl
  have e2:swapD rec left vals l v c b=(4,left,vals):=by unfold swapD;rw [if_pos hE]
  rw [e] at hS
  rw [e2]
  simp -implicitDefEqProofs only [eRetK_r,go_sem,reduceCtorEq,rdA,rdM,rdL,rdT,rdE,rdN,↓gTT,↓gFF,↓gTF,↓gFT]
  repeat' (first|(with_reducible refine And.intro ?_ ?_)|(with_reducible refine gs_t ?_ ?_)|(with_reducible refine gs_f ?_ ?_)|(intro _)|((with_reducible apply wCall_any);(· (simp -implicitDefEqProofs only [go_sem,reduceCtorEq,rdA,rdM,rdL,rdT,rdE,rdN,↓gTT,↓gFF,↓gTF,↓gFT]<;>rfl));(· (exact hS));(· rfl);(· rfl);(· (first|exact Eq.refl true|exact Eq.refl false));(simp -implicitDefEqProofs only [d,Bool.not_false,eRetK_r,go_sem,reduceCtorEq,rdA,rdM,rdL,rdT,rdE,rdN,↓gTT,↓gFF,↓gTF,↓gFT]))|fail)
 have d:decide (swapE l v c b=0)=true:=by simpa using hE
 have e:swapV l v c b=.tup [.fz (swapL l v c b).length none 3 (encC (swapL l v c b)),.int .i64 0]:=by unfold swapV;rw [if_neg (by omega)];rfl
 obtain ⟨hR,hRl⟩:=hrec hE
 obtain ⟨A,hA⟩:∃ A,A=rec left vals (swapL l v c b):=⟨_,rfl⟩
 have e2:swapD rec left vals l v c b=if A.1=2 then (2,A.2.1,A.2.2.set v.toNat (valueR c b A.2.2)) else A:=by unfold swapD;rw [if_neg (by omega),hA]
 rw [←hA] at hR hRl
 rw [e] at hS
 rw [e2]
 simp -implicitDefEqProofs only [eRetK_r,go_sem,reduceCtorEq,rdA,rdM,rdL,rdT,rdE,rdN,↓gTT,↓gFF,↓gTF,↓gFT]
 repeat' (first|(with_reducible refine And.intro ?_ ?_)|(with_reducible refine gs_t ?_ ?_)|(with_reducible refine gs_f ?_ ?_)|(intro _)|((with_reducible apply wCall_any);(· (simp -implicitDefEqProofs only [go_sem,reduceCtorEq,rdA,rdM,rdL,rdT,rdE,rdN,↓gTT,↓gFF,↓gTF,↓gFT]<;>rfl));(· (exact hS));(· rfl);(· rfl);(· (first|exact Eq.refl true|exact Eq.refl false));(simp -implicitDefEqProofs only [s0eq,Bool.not_true,go_sem,reduceCtorEq,rdA,rdM,rdL,rdT,rdE,rdN,↓gTT,↓gFF,↓gTF,↓gFT]))|fail)
 refine wCall_look hj hR rfl rfl fun nx' hn=>?_
 by_cases h2:A.1=2
 ·have d2:decide (A.1=2)=true:=by simpa using h2
  rw [if_pos h2]
  have hjk:(kk=j)=False:=by simp at hj ⊢;omega
  have hVal:=Value_ok c b A.2.2 (by omega) (by omega)
  obtain ⟨q,rfl⟩:∃ q:Nat,v=q:=⟨v.toNat,by omega⟩
  have hql:q<A.2.2.length:=by omega
  simp -implicitDefEqProofs only [lookH,hj,d2,go_sem,reduceCtorEq,rdA,rdM,rdL,rdT,rdE,rdN,↓gTT,↓gFF,↓gTF,↓gFT]
  refine wCall_pure (args':=[.agg [.int .i64 c,.fz b.length none 2 (encM b)],.fz A.2.2.length none 1 (encI A.2.2)]) (by simp -implicitDefEqProofs only [encI_len,hj,hjk,Nat.mul_one,go_sem,reduceCtorEq,rdA,rdM,rdL,rdT,rdE,rdN,↓gTT,↓gFF,↓gTF,↓gFT]) hVal rfl (.inl rfl) ?_
  simp -implicitDefEqProofs only [encI_len,hj,hjk,Nat.mul_one,eRetK_r,go_sem,reduceCtorEq,rdA,rdM,rdL,rdT,rdE,rdN,↓gTT,↓gFF,↓gTF,↓gFT]
  refine ⟨⟨by omega,by omega⟩,by omega,by omega,h2,?_⟩
  rw [encI_set2 _ _ _ hql];simp [valueR]
 ·have d2:decide (A.1=2)=false:=by simpa using h2
  rw [if_neg h2]
  simp -implicitDefEqProofs only [lookH,hj,d2,eRetK_r,go_sem,reduceCtorEq,rdA,rdM,rdL,rdT,rdE,rdN,↓gTT,↓gFF,↓gTF,↓gFT]
end Go.Proofs.YthdlkpmhjbaplaaGreat.Dx
namespace Go.Proofs.YthdlkpmhjbaplaaGreat.Dx
open Go
theorem wCall_frz2 {F:Tr Fd} {f:P} {a v v':VV} {s:VSt} {K:VSt→VV→Prop} (hv:vw s.h v=some v')
 (H:wCall F f [a,v'] ⟨s.e,s.nx,s.w,hdels s.h (keysV v)⟩ K):wCall F f [a,v] s K:=by
 intro c d g ds R hx
 obtain ⟨R1,E1⟩:=R.hp.freeze (keysV v) (zOf s.h g (keysV v)) fun b=>Iff.rfl
 cases hx with
 | cons ha hx=>
  cases hx with
  | cons hb hx=>
   cases hx
   have hb1:=(vw_sound R.hp hb hv (ks:=keysV v) fun k h=>h).none_any (M:=mm s.nx (hdels s.h (keysV v)) ⟨zOf s.h g (keysV v),g.μ⟩)
   obtain ⟨s',x,d',y,g',hrun,R',hw,hxr,E,hK⟩:=H c d ⟨zOf s.h g (keysV v),g.μ⟩ _ ⟨E1.env R.env,R1⟩ (.cons (E1.xr ha) (.cons hb1 .nil))
   exact ⟨s',x,d',y,g',hrun,R',hw,hxr,E1.trans E,hK⟩
theorem wCall_frzR {F:Tr Fd} {f:P} {a v v':VV} {rest:List VV} {s:VSt} {K:VSt→VV→Prop} (hv:vw s.h v=some v')
 (H:wCall F f (a::v'::rest) ⟨s.e,s.nx,s.w,hdels s.h (keysV v)⟩ K):wCall F f (a::v::rest) s K:=by
 intro c d g ds R hx
 obtain ⟨R1,E1⟩:=R.hp.freeze (keysV v) (zOf s.h g (keysV v)) fun b=>Iff.rfl
 cases hx with
 | cons ha hx=>
  cases hx with
  | cons hb hx=>
   have hb1:=(vw_sound R.hp hb hv (ks:=keysV v) fun k h=>h).none_any (M:=mm s.nx (hdels s.h (keysV v)) ⟨zOf s.h g (keysV v),g.μ⟩)
   obtain ⟨s',x,d',y,g',hrun,R',hw,hxr,E,hK⟩:=H c d ⟨zOf s.h g (keysV v),g.μ⟩ _ ⟨E1.env R.env,R1⟩ (.cons (E1.xr ha) (.cons hb1 (E1.xrs hx)))
   exact ⟨s',x,d',y,g',hrun,R',hw,hxr,E1.trans E,hK⟩
end Go.Proofs.YthdlkpmhjbaplaaGreat.Dx
