/- SolveExact: what a solver says of any constraints, its model, the fuel that is left, the box, or why nothing, are the page's. No condition. -/
import Derived.Test.YthdlkpmhjbaplaaGreatQwF
import Derived.Test.YthdlkpmhjbaplaaGreatRows
import Derived.WalkKit
import Derived.ProofKit
import Derived.OpenShut
set_option linter.unusedVariables false
set_option linter.unnecessarySimpa false
namespace Go.Proofs.YthdlkpmhjbaplaaGreat.solveExact
open Go.ChangeShapes Go.WideShapes Go.ChangeAt Go.RowKit
theorem own:ownKnob Tryz.prog.godebug=none:=by kernel_rfl
set_option maxRecDepth 100000 in
theorem lifted (os:Os) (started:os.Started) (H:Type) (enc:TypeId × Value→H):
 ReturnsInHanded {} Tryz.checked os 3 .any (Rows.solveExactSpec.pre6 enc Tryz.prog Tryz.f3 Rows.solveExactRow.domain false) (Rows.solveExactSpec.post enc Tryz.prog Tryz.f3 false true false false):=by
 refine returnsInHanded_of_change_shaped (C:=Tryz.checked) own started (by kernel_rfl) Tryz.func3
  (ChangeSpec.witness6 (enc:=enc) (C:=Tryz.checked) false ⟨#[],#[.int .i64 0,.slice none 0 0,.int .i64 0],[]⟩ 8 (by kernel_rfl) (by kernel_rfl) (by kernel_rfl) (by kernel_rfl)) ?_
 intro W base args ds gs before hval0 hW hcnd _ hsh _
 have hval:∀ (j:Nat) t v,Tryz.f3.params[j]?=some t→args[j]?=some v→Value.okWide Tryz.prog W .any base t v:=hval0
 have hpos:=Dx.heap_pos hsh
 have hW':=hW
 have hlt:=hW.lt
 obtain ⟨p,q,hA0,hV,rfl,hfz,hnd⟩:=hW
 have hA:DataW.TrodAll enc Tryz.prog W 0 (fun _=>true) true Tryz.f3.params.toList args.toList ds p:=hA0
 have hAk:=hA
 rw [Tryz.params3] at hA hval
 obtain ⟨v0,vs0,d0,ds0,p0,q0,hargs,rfl,rfl,h0,r0⟩:=trodAll_cons hA
 obtain ⟨v1,vs1,d1,ds1,p1,q1,rfl,rfl,rfl,h1,r1⟩:=trodAll_cons r0
 obtain ⟨v2,vs2,d2,ds2,p2,q2,rfl,rfl,rfl,h2,r2⟩:=trodAll_cons r1
 obtain ⟨rfl,rfl,rfl⟩:=trodAll_nil r2
 obtain rfl:args=#[v0,v1,v2]:=by cases args;simp_all
 obtain ⟨rfl,rfl⟩:=trodVars_none hV
 obtain ⟨x0,rfl,rfl,rfl,w0⟩:=open_int Tryz.underlying3 (hval 0 3 v0 rfl rfl) h0
 obtain ⟨x1,_,X1⟩:=Dx.arg_slice (α:=List Dx.Cons) (V:=fun l=>Dx.vCs l) Tryz.underlying22 (Dx.rd22 hpos) (hval 1 22 v1 rfl rfl) h1
 obtain ⟨x2,rfl,rfl,rfl,w2⟩:=open_int Tryz.underlying3 (hval 2 3 v2 rfl rfl) h2
 obtain ⟨s,dd,hs,_,hv,hx⟩:=Dx.ArgsL.cons (Dx.arg_int (n:=x0)) (Dx.ArgsL.cons (v:=Dx.vCs x1) X1 (Dx.ArgsL.cons (Dx.arg_int (n:=x2)) Dx.ArgsL.nil)) Dx.Lay.nil (Dx.Lay.nil_ok W)
 clear hA0 hval0
 refine (Dx.law_calls Dx.fOk Dx.mixed (Dx.ExactS_ok x0 x1 x2) hs hv hx).mono fun e W' ⟨he,hg,hsame⟩=>?_
 subst he
 exact ⟨_,rfl,Dx.post_of_old (pv:=[]) hW' (fun _ _ _=>(trodAll_cons_mk (shut_bool Tryz.underlying4 _) trodAll_mk0))
  (fun sp hsp=>Dx.stays Dx.kids Dx.slices_full (by rw [Tryz.params3];decide) hAk (fun x hx=>Dx.sameAt_of hsame (hlt x (by simpa using hx))) (fun x hx=>hsp x (by simpa using hx))) (fun _ _=>rfl) rfl
  hg (ok_one (by kernel_rfl) rfl (okWide_bool_mk Tryz.underlying4 _))⟩
theorem over:Rows.solveExactRow.holds Tryz.pinned (OpenSpec.ofChange Rows.solveExactSpec):=
 OpenClaim.holds_of_wide 3 Tryz.f3 rfl rfl rfl rfl rfl rfl rfl ⟨rfl,rfl,rfl,rfl,rfl⟩ rfl rfl rfl rfl rfl (by kernel_rfl) Tryz.func3 (by kernel_rfl)
  (of_decide_eq_true (by kernel_rfl)) (by unfold Func.isWrapper;first|(rw [if_pos (by decide +kernel)];kernel_rfl)|(rw [if_neg (by decide +kernel)];exact ⟨rfl,rfl⟩))
  (fun os started H enc _=>lifted os started H enc)
theorem proved:Rows.SolveExactSaid:=
 over
#print axioms proved
end Go.Proofs.YthdlkpmhjbaplaaGreat.solveExact
