/- What the small machine's code must have in common with Go's; its calls. No statement of this seat is proved here. -/
import Derived.Test.YthdlkpmhjbaplaaDxAD
import Derived.Orders
set_option autoImplicit false
noncomputable section
namespace Go.Proofs.Ythdlkpmhjbaplaa.Dx
open Go

def memN (n : Nat) : List Nat → Bool
  | [] => false
  | m :: l => Nat.beq m n || memN n l
def memP (p : P) : List P → Bool
  | [] => false
  | q :: l => Nat.beq q.n p.n || memP p l
theorem memP_iff (p : P) : ∀ l : List P, memP p l = true ↔ p ∈ l
  | [] => by simp [memP]
  | q :: l => by
    simp only [memP, Bool.or_eq_true, Nat.beq_eq, memP_iff p l, List.mem_cons]
    constructor
    · rintro (h | h)
      · exact .inl (P.n_inj h).symm
      · exact .inr h
    · rintro (h | h)
      · exact .inl (by rw [h])
      · exact .inr h
/-- The temporaries that hold variables of the frame. -/
def vars (Ls : List Nat) (p : P) : Prop := memN p.n Ls = true

def okDst (Ls : List Nat) (N : Nat) : Option P → Option Nat → Bool
  | none, none => true
  | some d, some t => Nat.beq d.n t && Nat.ble (Nat.succ t) N && !memN t Ls
  | _, _ => false
def okGuard (os : List Oper) : Option (P × Bool) → Option (Nat × Bool) → Bool
  | none, none => true
  | some (p, b), some (j, b') => (match os[j]? with | some o => (match o.dst with | some t => Nat.beq p.n t | none => false) | none => false) && beqB b b'
  | _, _ => false
def chkCall (i : Ins) (op : Go.Op) : Bool :=
  match op with
  | .call ⟨.value x, args, _⟩ => match i with
    | .call f xs => chkOpd (.c (.fn f [])) x && chkOpds xs args.toList
    | .callv f xs => chkOpd f x && chkOpds xs args.toList
    | _ => false
  | _ => false
def okLoc (Ls : List Nat) (N : Nat) (p : P) (o : Oper) : Bool :=
  (match o.dst with | some t => Nat.beq p.n t && Nat.ble (Nat.succ t) N && memN t Ls | none => false) && (match o.guard with | none => true | some _ => false)
def chkOp (Pr : Program) (Ls : List Nat) (N : Nat) (os : List Oper) (o : Op) (o' : Oper) : Bool :=
  match o with
  | .mk dst g i => okDst Ls N dst o'.dst && okGuard os g o'.guard && (chkIns Pr i o'.op || chkCall i o'.op)
  | .loc p z => okLoc Ls N p o' && chkMem Pr (.al z) o'.op
  | .locb p x => okLoc Ls N p o' && chkMem Pr (.bx x) o'.op
def chkOps (Pr : Program) (Ls : List Nat) (N : Nat) (os : List Oper) : List Op → List Oper → Bool
  | [], [] => true
  | o :: l, o' :: l' => chkOp Pr Ls N os o o' && chkOps Pr Ls N os l l'
  | _, _ => false

/-! an order that is left open -/

def edges (o : Oper) : List Nat := (o.after.toList.filter fun e => Region.binds .any e).map (·.on)
/-- what stands ahead of an operation, as bits -/
def maskOf (acc : List Nat) : List Nat → Nat
  | [] => 0
  | i :: l => Nat.lor (Nat.lor (Nat.shiftLeft 1 i) (acc.getD i 0)) (maskOf acc l)
def maskAll : List Oper → List Nat → List Nat
  | [], acc => acc
  | o :: l, acc => maskAll l (acc ++ [maskOf acc (edges o)])
def isLoad : Ins → Bool
  | .ld _ | .lda _ _ => true
  | _ => false
/-- it moves nothing -/
def stillO : Op → Bool
  | .mk _ _ i => isPure i || isLoad i
  | _ => false
/-- it makes a variable -/
def isVarO : Op → Bool
  | .mk _ _ _ => false
  | _ => true
/-- it looks at no memory -/
def blindO : Op → Bool
  | .mk _ _ i => isPure i
  | _ => false
def isW : Dop → Bool
  | .mk _ _ _ r o => !r && !stillO o && !isVarO o
def isM : Dop → Bool
  | .mk _ _ _ _ o => !blindO o
def usesD : Dop → List P
  | .mk _ u _ _ _ => u
def backD : Dop → List P
  | .mk _ _ b _ _ => b
def anyP (l m : List P) : Bool := l.any fun p => memP p m
/-- may the two not be exchanged? -/
def clash (x y : Dop) : Bool := (isW x && isM y) || (isM x && isW y) || anyP (backD x) (usesD y) || anyP (usesD x) (backD y) || anyP (backD x) (backD y)
def ordRow (y : Dop) (m : Nat) : List Dop → Nat → Bool
  | [], _ => true
  | x :: l, i => (!clash x y || Nat.testBit m i) && ordRow y m l (Nat.succ i)
def ordAll (ms : List Nat) (all : List Dop) : List Dop → Nat → Bool
  | [], _ => true
  | y :: l, k => ordRow y (ms.getD k 0) (all.take k) 0 && ordAll ms all l (Nat.succ k)
def dstO : Op → List P
  | .mk (some d) _ _ => [d]
  | .mk none _ _ => []
  | .loc p _ => [p]
  | .locb p _ => [p]
def allIn (f : P → Bool) : List P → Bool
  | [] => true
  | p :: l => f p && allIn f l
def okDop (Ls : List Nat) : Dop → Bool
  | .mk c u b _ o => c && (!isVarO o || allIn (fun p => memP p u) (dstO o)) && allIn (fun p => memP p b) (dstO o) && allIn (fun p => memP p u || memP p (dstO o)) b && (stillO o || isVarO o || allIn (fun p => !memN p.n Ls || memP p b) u)
def opD : Dop → Op
  | .mk _ _ _ _ o => o
def edgesOk : List Oper → Nat → Bool
  | [], _ => true
  | o :: l, k => (edges o).all (fun i => Nat.ble (Nat.succ i) k) && edgesOk l (Nat.succ k)
def chkDrw (Pr : Program) (Ls : List Nat) (N : Nat) (ds : List Dop) (os : List Oper) : Bool :=
  chkOps Pr Ls N os (ds.map opD) os && ds.all (okDop Ls) && edgesOk os 0 && ordAll (maskAll os []) ds ds 0

def chkC (Pr : Program) (Ls : List Nat) (N : Nat) : C → Code → Bool
  | .skip, .skip => true
  | .skip, .label _ => true
  | .reg ops, .region _ os false => chkOps Pr Ls N os.toList ops os.toList
  | .drw ds, .region _ os true => chkDrw Pr Ls N ds os.toList
  | .seq a b, .seq a' b' => chkC Pr Ls N a a' && chkC Pr Ls N b b'
  | .cond c a b, .cond c' a' b' => chkOpd c c' && chkC Pr Ls N a a' && chkC Pr Ls N b b'
  | .block id a, .block id' a' => Nat.beq id id' && chkC Pr Ls N a a'
  | .loop _ a, .loop a' => chkC Pr Ls N a a'
  | .exit id, .exit id' => Nat.beq id id'
  | .ret, .ret => true
  | _, _ => false

/-- The parameters stand first. -/
def okPs : List P → Nat → Bool
  | [], _ => true
  | p :: l, i => Nat.beq p.n i && okPs l (Nat.succ i)
theorem okPs_get : ∀ (ps : List P) (k : Nat), okPs ps k = true → ∀ (i : Nat) (p : P), ps[i]? = some p → p.n = k + i
  | [], k, h, i, p, hi => by simp at hi
  | q :: ps, k, h, i, p, hi => by
    simp only [okPs, Bool.and_eq_true, Nat.beq_eq] at h
    cases i with
    | zero => simp at hi; subst hi; omega
    | succ i => have := okPs_get ps (k + 1) h.2 i p (by simpa using hi); omega
def chkFd (Pr : Program) (Ls : List Nat) (fn : Func) (fd : Fd) : Bool :=
  match fd, fn.body with
  | .mk ps body rs, some c => okPs ps 0 && Nat.ble ps.length fn.ntmps && chkC Pr Ls fn.ntmps body c && chkRs Pr rs fn.results.toList && (fn.name != "runtime.NumGoroutine")
  | _, _ => false

def exitOf : Out → Exit
  | .norm => .normal
  | .exit id => .exit id
  | .ret => .ret

/-- A loop that is on its way. -/
def LoopWp (Pr : Program) (c : Code) (Q : Exit → Act → World → Prop) (a : Act) (w : World) : Prop :=
  ∀ (b : Frame) (k : List Item) (cs : List Frame), ∃ e a' w', Q e a' w' ∧ Arrives Pr (lone (b.at a (.code c :: .inLoop c :: k)) cs w) b k cs e a' w'
def cwp (Pr : Program) (c : Code) (Q : Exit → Act → World → Prop) (a : Act) (w : World) : Prop :=
  match c with
  | .loop c => LoopWp Pr c Q a w
  | c => c.wp Pr Q a w
theorem LoopWp.loop {Pr : Program} {c : Code} {Q : Exit → Act → World → Prop} {a : Act} {w : World} (h : LoopWp Pr c Q a w) : (Code.loop c).wp Pr Q a w :=
  fun b k cs => let ⟨e, a', w', hq, harr⟩ := h b k cs; ⟨e, a', w', hq, .of_steps (.one step_loop) harr⟩
theorem LoopWp.round {Pr : Program} {c : Code} {Q : Exit → Act → World → Prop} {a : Act} {w : World} (h : c.wp Pr (Exit.then (LoopWp Pr c Q) Q) a w) : LoopWp Pr c Q a w := by
  intro b k cs
  obtain ⟨e, a₁, w₁, hq, harr⟩ := h b (.inLoop c :: k) cs
  cases e with
  | normal =>
    obtain ⟨e₂, a₂, w₂, hq₂, harr₂⟩ := hq b k cs
    exact ⟨e₂, a₂, w₂, hq₂, .of_steps (Steps.trans harr (.one step_inLoop)) harr₂⟩
  | exit id => exact ⟨_, a₁, w₁, hq, .pass (x := .inLoop c) rfl (fun _ _ => .inl (by simp)) harr⟩
  | goto l => exact ⟨_, a₁, w₁, hq, .pass (x := .inLoop c) rfl (fun _ _ => .inl (by simp)) harr⟩
  | ret => exact ⟨_, a₁, w₁, hq, .pass (x := .inLoop c) rfl (fun _ _ => .inl (by simp)) harr⟩
  | panic ch => exact ⟨_, a₁, w₁, hq, .pass (x := .inLoop c) rfl (fun _ _ => .inl (by simp)) harr⟩
  | outgrown => exact ⟨_, a₁, w₁, hq, .pass (x := .inLoop c) rfl (fun _ _ => .inl (by simp)) harr⟩
theorem cwp_wp {Pr : Program} {c : Code} {Q : Exit → Act → World → Prop} {a : Act} {w : World} (h : cwp Pr c Q a w) : c.wp Pr Q a w := by
  cases c <;> first | exact h | exact LoopWp.loop h

structure MovesC (wm : Option P) (nx : P) (h : Hp) (nx' : P) (h' : Hp) : Prop where
  le : nx.n ≤ nx'.n
  old : ∀ m, wm = some m → m.n ≤ nx.n → ∀ k : P, k.n < m.n → Tr.get? k h' = Tr.get? k h
  top : (∀ k : P, nx.n ≤ k.n → Tr.get? k h = none) → ∀ k : P, nx'.n ≤ k.n → Tr.get? k h' = none
theorem MovesC.refl (wm : Option P) (nx : P) (h : Hp) : MovesC wm nx h nx h := ⟨Nat.le_refl _, fun _ _ _ _ _ => rfl, fun h => h⟩
theorem MovesC.trans {wm : Option P} {nx nx' nx'' : P} {h h' h'' : Hp} (m1 : MovesC wm nx h nx' h') (m2 : MovesC wm nx' h' nx'' h'') : MovesC wm nx h nx'' h'' :=
  ⟨Nat.le_trans m1.le m2.le, fun m hm hmn k hk => by rw [m2.old m hm (Nat.le_trans hmn m1.le) k hk, m1.old m hm hmn k hk], fun ht => m2.top (m1.top ht)⟩
theorem Moves.c {wm : Option P} {e : Env} {nx : P} {h : Hp} {e' : Env} {nx' : P} {h' : Hp} (m : Moves wm e nx h e' nx' h') : MovesC wm nx h nx' h' := ⟨m.le, m.old, m.top⟩
theorem MovesC.m {wm : Option P} {nx : P} {h : Hp} {nx' : P} {h' : Hp} (m : MovesC wm nx h nx' h') (e : Env) : Moves wm e nx h e nx' h' := ⟨m.le, fun _ => .inl rfl, m.old, m.top⟩

/-- A piece of code's way, beside Go's. -/
def CodeOk (Pr : Program) (Ls : List Nat) (N : Nat) (c : Code) (e : Env) (nx : P) (h : Hp) (out : Out) (e' : Env) (nx' : P) (h' : Hp) : Prop :=
  ∀ (hi : Nat) (j : J) (pv : P → Option Nat) (a : Act) (w : World), Rel (vars Ls) N hi j pv e nx h a w → nx'.n ≤ hi → ∀ Q : Exit → Act → World → Prop,
    (∀ j' pv' a' w', Rel (vars Ls) N hi j' pv' e' nx' h' a' w' → Fr hi nx.n j pv w j' pv' w' → a'.defers = a.defers → Q (exitOf out) a' w') → cwp Pr c Q a w
def IhOk (Pr : Program) (ih : Ih) : Prop := ∀ (c : C) (wm : Option P) (e : Env) (nx : P) (h : Hp) (out : Out) (e' : Env) (nx' : P) (h' : Hp), ih c wm e nx h = .ok out e' nx' h' →
  ∀ (Ls : List Nat) (N : Nat) (c' : Code), chkC Pr Ls N c c' = true → MovesC wm nx h nx' h' ∧ CodeOk Pr Ls N c' e nx h out e' nx' h'

section
variable {Pr : Program} {F : Tr Fd} {ih : Ih} {wm : Option P} {e0 : Env} {nx : P} {h : Hp} {k : Kv} {out : Out} {eo : Env} {no : P} {ho : Hp}

/-- A call's way. -/
def CallOk (Pr : Program) (f : P) (vs : List DV) (nx : P) (h : Hp) (v : DV) (nx' : P) (h' : Hp) : Prop :=
  ∀ (L : P → Prop) (N hi : Nat) (j : J) (pv : P → Option Nat) (e : Env) (a : Act) (w : World), Rel L N hi j pv e nx h a w → nx'.n ≤ hi → ∀ args : List Value, VRt j vs args →
    Calls Pr f.n args.toArray w fun r w' => ∃ v' j', r = .returned v' ∧ Rel L N hi j' pv e nx' h' a w' ∧ Fr hi nx.n j pv w j' pv w' ∧ VR j' v v'
/-- A function that is told by what it does does that. -/
def PrimOk (Pr : Program) (f : P) (n : Nat) : Prop :=
  (∃ fn, Pr.funcs[f.n]? = some fn ∧ (fn.name == "runtime.NumGoroutine") = false ∧ fn.body.isNone = false) ∧
  ∀ (wm : Option P) (vs : List DV) (nx : P) (h : Hp) (v : DV) (nx' : P) (h' : Hp), primV n wm vs nx h = some (v, nx', h') → CallOk Pr f vs nx h v nx' h' ∧ MovesC wm nx h nx' h'
/-- The functions that the small machine has are Go's. -/
def FdOk (Pr : Program) (f : P) : Fd → Prop
  | .mk ps body rs => ∃ fn Ls, Pr.funcs[f.n]? = some fn ∧ chkFd Pr Ls fn (.mk ps body rs) = true
  | .prim n => PrimOk Pr f n
def FOk (Pr : Program) (F : Tr Fd) : Prop := ∀ f fd, Tr.get? f F = some fd → FdOk Pr f fd
theorem binds_length : ∀ (ps : List P) (vs : List DV) (e0 e : Env), binds ps vs e0 = some e → ps.length = vs.length
  | [], [], e0, e, h => rfl
  | [], _ :: _, e0, e, h => by simp [binds] at h
  | _ :: _, [], e0, e, h => by simp [binds] at h
  | q :: ps, u :: vs, e0, e, h => by simp only [binds] at h; simp [binds_length ps vs _ e h]
theorem call_sim (hF : FOk Pr F) (hih : IhOk Pr ih) {f : P} {vs : List DV} (H : callK F ih wm f vs e0 nx h k = .ok out eo no ho) :
    ∃ v nx' h', k e0 v nx' h' = .ok out eo no ho ∧ CallOk Pr f vs nx h v nx' h' ∧ MovesC wm nx h nx' h' ∧ ∃ fn, Pr.funcs[f.n]? = some fn ∧ (fn.name == "runtime.NumGoroutine") = false ∧ fn.body.isNone = false := by
  unfold callK at H
  cases hf : Tr.get? f F with
  | none => rw [hf] at H; cases H
  | some fd =>
    have hfd := hF f fd hf
    rcases fd with ⟨ps, body, rs⟩ | n
    rotate_left
    · rw [hf] at H
      change primO e0 k (primV n wm vs nx h) = _ at H
      cases hp : primV n wm vs nx h with
      | none => rw [hp] at H; cases H
      | some r =>
        obtain ⟨v, nx', h'⟩ := r
        rw [hp] at H
        obtain ⟨hfn, hall⟩ := hfd
        obtain ⟨h1, h2⟩ := hall wm vs nx h v nx' h' hp
        exact ⟨v, nx', h', H, h1, h2, hfn⟩
    obtain ⟨fn, Ls, hfn, hc⟩ := hfd
    rw [hf] at H
    change bindK ps vs .nl (fun e => retR (ih body wm e nx h) rs e0 k) = _ at H
    rw [bindK_eq] at H
    cases hb : binds ps vs .nl with
    | none => simp only [hb, reduceCtorEq] at H
    | some e1 =>
      simp only [hb] at H
      cases hr : ih body wm e1 nx h with
      | fail => rw [hr] at H; cases H
      | ok o1 e2 nx2 h2 =>
        rw [hr] at H
        have hret : (o1 = .norm ∨ o1 = .ret) ∧ rsL rs e2 h2 (fun vs => oneK vs fun v => fV v fun v => k e0 v nx2 h2) = .ok out eo no ho := by
          cases o1 with
          | norm => exact ⟨.inl rfl, H⟩
          | ret => exact ⟨.inr rfl, H⟩
          | exit id => cases H
        obtain ⟨ho1, H⟩ := hret
        rw [rsL_eq] at H
        cases hrs : rsv e2 h2 rs with
        | none => simp only [hrs, reduceCtorEq] at H
        | some vs2 =>
          simp only [hrs, oneK_eq, fV_eq] at H
          cases hbody : fn.body with
          | none => simp [chkFd, hbody] at hc
          | some c =>
            simp only [chkFd, hbody, Bool.and_eq_true, Nat.ble_eq] at hc
            obtain ⟨⟨⟨⟨hps, hlen⟩, hcc⟩, hrc⟩, hname⟩ := hc
            obtain ⟨hm, hcode⟩ := hih _ _ _ _ _ _ _ _ _ hr Ls fn.ntmps c hcc
            refine ⟨one vs2, nx2, h2, H, ?_, hm, fn, hfn, by simpa using hname, by rw [hbody]; rfl⟩
            intro L N hi j pv e a w R hnh args hargs
            have hal : args.length ≤ fn.ntmps := by rw [← hargs.length, ← binds_length ps vs _ _ hb]; exact hlen
            have R1 := R.enter hb hargs (fun i p hp => by have := okPs_get ps 0 hps i p hp; omega) hal (vars Ls)
            refine calls_of_wp hfn hbody (cwp_wp (hcode hi j _ _ w R1 hnh _ ?_))
            intro j' pv' a' w' R2 F2 hd
            obtain ⟨v', hrun, hv⟩ := R2.results hrc hrs
            obtain ⟨R3, F3⟩ := R.leave R2 F2
            rcases ho1 with rfl | rfl
            · exact ⟨hd, v', hrun, v', j', rfl, R3, F3, hv⟩
            · exact ⟨hd, v', hrun, v', j', rfl, R3, F3, hv⟩
theorem run_callFunc {f : Nat} {fn : Func} {args : Array Value} {w : World} (hfn : Pr.funcs[f]? = some fn) (hname : (fn.name == "runtime.NumGoroutine") = false) (hbody : fn.body.isNone = false) :
    (callFunc f args).run Pr w = .ok (.enter f args) w := by
  have h1 : fn.name ≠ "runtime.NumGoroutine" := by simpa using hname
  have h2 : fn.body ≠ none := by intro h0; rw [h0] at hbody; cases hbody
  simp [callFunc, hfn, h1, h2]
/-- A call, as an operation. -/
theorem CallOk.op {o : Oper} {f : P} {cs : List DV} {e : Env} {v : DV} {nx' : P} {h' : Hp} {x : Operand} {args : Array Operand} {tys : Array Nat} {xs : List Opd} {vf : Opd} (C : CallOk Pr f (xs.map (fun o => ov o e) ++ cs) nx h v nx' h') (ho : o.op = .call ⟨.value x, args, tys⟩) (hx : chkOpd vf x = true)
    (hfv : ev vf e = .fn f cs) (has : chkOpds xs args.toList = true) {fn : Func} (hfn : Pr.funcs[f.n]? = some fn) (hname : (fn.name == "runtime.NumGoroutine") = false) (hbody : fn.body.isNone = false) : OpOk Pr o e nx h e v nx' h' := by
  intro L N hi j pv a w R hnh K Q hK
  have r1 := R.reads vf x hx
  rw [hfv] at r1
  obtain ⟨cs', hxe, hcs⟩ := r1.fn
  have r2 := R.reads.ovs xs args.toList has
  have hargs := r2.append hcs
  have hc := C L N hi j pv e a w R hnh _ hargs
  unfold Oper.wp
  have hrun : (execOp a.eval o).run Pr w = .ok (.enter f.n ((args.toList.map a.eval ++ cs').toArray)) w := by
    have h1 : args.map a.eval ++ cs'.toArray = (args.toList.map a.eval ++ cs').toArray := by
      apply Array.toList_inj.1; simp
    simp only [execOp, ho, resolve, hxe, Deferred.ofValue, Sem.run_bind, Sem.run_pure, Result.andThen_ok, invoke]
    rw [← h1]
    simp only [Array.empty_append]
    exact run_callFunc hfn hname hbody
  rw [hrun, Oper.upon_enter]
  refine hc.mono ?_
  rintro r w' ⟨v', j', rfl, R', F', hv⟩
  exact hK j' w' v' R' F' (XD.of_VR hv)
end
end Go.Proofs.Ythdlkpmhjbaplaa.Dx
