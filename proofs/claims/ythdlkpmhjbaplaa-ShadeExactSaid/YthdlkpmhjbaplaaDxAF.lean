/- The small machine's operations, one behind the other, beside Go's. No statement of this seat is proved here. -/
import Derived.Test.YthdlkpmhjbaplaaDxAE
set_option autoImplicit false
noncomputable section
namespace Go.Proofs.Ythdlkpmhjbaplaa.Dx
open Go

section
variable {Pr : Program} {F : Tr Fd} {ih : Ih} {wm : Option P} {e : Env} {nx : P} {h : Hp} {out : Out} {eo : Env} {no : P} {ho : Hp} {o : Oper}

theorem all_sim (hF : FOk Pr F) (hih : IhOk Pr ih) {i : Ins} {k : Kv} (H : insK i F ih wm e nx h k = .ok out eo no ho) (hc : (chkIns Pr i o.op || chkCall i o.op) = true) : Step Pr o wm e nx h k (.ok out eo no ho) := by
  rw [Bool.or_eq_true] at hc
  rcases hc with hc | hc
  · exact ins_sim H hc
  · unfold chkCall at hc
    split at hc
    case h_2 => cases hc
    rename_i x args tys hop
    split at hc
    case h_3 => cases hc
    case h_1 i f xs =>
      simp only [Bool.and_eq_true] at hc
      change ovsK xs e (fun vs => callK F ih wm f vs e nx h k) = _ at H
      rw [ovsK_eq] at H
      obtain ⟨v, nx', h', hk, hcall, hm, fn, h1, h2, h3⟩ := call_sim hF hih H
      refine ⟨e, v, nx', h', hk, CallOk.op (cs := []) (by rw [List.append_nil]; exact hcall) hop hc.1 rfl hc.2 h1 h2 h3, hm.m e⟩
    case h_2 i f xs =>
      simp only [Bool.and_eq_true] at hc
      change asF (ev f e) .fail (fun f cs => ovsK xs e fun vs => catK vs cs fun vs => callK F ih wm f vs e nx h k) = _ at H
      rw [asF_eq] at H
      cases hfv : ev f e <;> simp only [hfv, reduceCtorEq] at H
      rename_i g cs
      rw [ovsK_eq, catK_eq] at H
      obtain ⟨v, nx', h', hk, hcall, hm, fn, h1, h2, h3⟩ := call_sim hF hih H
      exact ⟨e, v, nx', h', hk, hcall.op hop hc.1 hfv hc.2 h1 h2 h3, hm.m e⟩

/-! ### An operation -/

/-- What an operation's end says of the state from which it began. -/
structure After (L : P → Prop) (N hi : Nat) (nx : P) (j : J) (pv : P → Option Nat) (a : Act) (w : World) (e' : Env) (nx' : P) (h' : Hp) (j' : J) (pv' : P → Option Nat) (a' : Act) (w' : World) : Prop where
  rel : Rel L N hi j' pv' e' nx' h' a' w'
  fr : Fr hi nx.n j pv w j' pv' w'
  defers : a'.defers = a.defers
/-- An operation in its region: it is done, or passed over. -/
def OperWp (Pr : Program) (ops : Array Oper) (o : Oper) (K : Act → World → Prop) (Q : Exit → Act → World → Prop) (a : Act) (w : World) : Prop :=
  if Region.wanted o (yielded ops a.tmps) then o.wp Pr a w K Q else K (a.put o.dst undef) w

theorem put_defers (a : Act) (d : Option Tmp) (v : Value) : (a.put d v).defers = a.defers := by cases d <;> rfl

/-- Is it done? 'none': it cannot be seen. -/
inductive Guard (e : Env) : Option (P × Bool) → Bool → Prop
  | no : Guard e none true
  | is (p : P) (b t : Bool) (h : evT p e = .bool t) : Guard e (some (p, b)) (beqB t b)
  | un (p : P) (b : Bool) (h : evT p e = .tup []) : Guard e (some (p, b)) false
theorem Guard.wanted {j : J} {pv : P → Option Nat} {a : Act} (R : Reads j pv e a.eval) {ops : Array Oper} {g : Option (P × Bool)} {g' : Option (Nat × Bool)} {t : Bool} (G : Guard e g t) (hc : okGuard ops.toList g g' = true)
    (hg : o.guard = g') : Region.wanted o (yielded ops a.tmps) = t := by
  have look : ∀ (p : P) (b : Bool) (j' : Nat) (b' : Bool), okGuard ops.toList (some (p, b)) (some (j', b')) = true → (ops[j']?).bind (·.dst) = some p.n ∧ b = b' := by
    intro p b j' b' hc
    simp only [okGuard, Bool.and_eq_true] at hc
    refine ⟨?_, by cases b <;> cases b' <;> first | rfl | exact absurd hc.2 (by decide)⟩
    have h1 := hc.1
    cases ho : ops.toList[j']? with
    | none => simp [ho] at h1
    | some o' =>
      rw [Array.getElem?_toList] at ho
      cases hd : o'.dst with
      | none => simp [ho, hd] at h1
      | some t => simp [ho, hd] at h1; simp [ho, hd, h1]
  cases G with
  | no =>
    cases g' with
    | none => unfold Region.wanted; rw [hg]
    | some x => simp [okGuard] at hc
  | is p b t hv =>
    cases g' with
    | none => simp [okGuard] at hc
    | some x =>
      obtain ⟨j', b'⟩ := x
      obtain ⟨h1, rfl⟩ := look p b j' b' hc
      have hr := R (.t p) (.tmp p.n) (Nat.beq_refl _)
      change XD j pv (evT p e) (a.tmps.getD p.n undef) at hr
      rw [hv] at hr
      have ht := hr.bool
      have hlt : p.n < a.tmps.size := by
        rcases Nat.lt_or_ge p.n a.tmps.size with h | h
        · exact h
        · rw [Array.getD_eq_getD_getElem?, Array.getElem?_eq_none h] at ht; cases ht
      have hy : yielded ops a.tmps j' = some t := by
        unfold yielded
        rw [h1]
        simp only [Option.bind_some]
        rw [Array.getD_eq_getD_getElem?] at ht
        cases hx : a.tmps[p.n]? with
        | none => rw [hx] at ht; cases ht
        | some u => rw [hx] at ht; simp only [Option.getD_some] at ht; rw [ht]
      unfold Region.wanted
      rw [hg]
      simp only [hy]
      cases t <;> cases b <;> rfl
  | un p b hv =>
    cases g' with
    | none => simp [okGuard] at hc
    | some x =>
      obtain ⟨j', b'⟩ := x
      obtain ⟨h1, rfl⟩ := look p b j' b' hc
      have hr := R (.t p) (.tmp p.n) (Nat.beq_refl _)
      change XD j pv (evT p e) (a.tmps.getD p.n Go.undef) at hr
      rw [hv] at hr
      obtain ⟨l', ht, hl⟩ := hr.tup
      cases hl
      have hy : yielded ops a.tmps j' = none := by
        unfold yielded
        rw [h1]
        simp only [Option.bind_some]
        rw [Array.getD_eq_getD_getElem?] at ht
        cases hx : a.tmps[p.n]? with
        | none => rfl
        | some u => rw [hx] at ht; simp only [Option.getD_some] at ht; rw [ht]
      unfold Region.wanted
      rw [hg]
      simp only [hy]
      cases b <;> rfl

theorem brec_if' (A B : Res) (t : Bool) : (Bool.rec (motive := fun _ => Res) A B t) = match t with | true => B | false => A := by cases t <;> rfl

/-- An operation that moves nothing. -/
def StillOk (Pr : Program) (o : Oper) (e : Env) (nx : P) (h : Hp) (v : DV) : Prop :=
  ∀ (L : P → Prop) (N hi : Nat) (j : J) (pv : P → Option Nat) (a : Act) (w : World), Rel L N hi j pv e nx h a w → ∃ v', (execOp a.eval o).run Pr w = .ok (.value v') w ∧ XD j pv v v'
/-- What the small machine did with an operation. -/
inductive OpDid (Pr : Program) (o : Oper) (wm : Option P) (e : Env) (nx : P) (h : Hp) : Op → Env → P → Hp → Prop
  | run {dst : Option P} {g : Option (P × Bool)} {i : Ins} {e' : Env} {v : DV} {nx' : P} {h' : Hp} (G : Guard e g true) (S : OpOk Pr o e nx h e' v nx' h') (M : Moves wm e nx h e' nx' h') (hs : (isPure i || isLoad i) = false) :
      OpDid Pr o wm e nx h (.mk dst g i) (dstE dst v e') nx' h'
  | still {dst : Option P} {g : Option (P × Bool)} {i : Ins} {v : DV} (G : Guard e g true) (S : StillOk Pr o e nx h v) (hs : (isPure i || isLoad i) = true) (pure : isPure i = true → pureDV i e = some v ∧ chkPure Pr i o.op = true) :
      OpDid Pr o wm e nx h (.mk dst g i) (dstE dst v e) nx h
  | pass {dst : Option P} {g : Option (P × Bool)} {i : Ins} (G : Guard e g false) : OpDid Pr o wm e nx h (.mk dst g i) (dstE dst (.tup []) e) nx h
  | loc {p : P} {z : List DV} (hv : ¬ isVar p e) : OpDid Pr o wm e nx h (.loc p z) (Tr.set p e (some (.var z))) nx h
  | locb {p : P} {x : Opd} {c : List DV} (hv : ¬ isVar p e) (hc : (ov x e).cells = some c) : OpDid Pr o wm e nx h (.locb p x) (Tr.set p e (some (.var c))) nx h

theorem StillOk.op {v : DV} (S : StillOk Pr o e nx h v) : OpOk Pr o e nx h e v nx h := by
  intro L N hi j pv a w R _ K Q hK
  obtain ⟨v', hrun, hx⟩ := S L N hi j pv a w R
  unfold Oper.wp
  rw [hrun]
  exact hK j w v' R (Fr.refl _ _ _ _ _) hx
theorem still_sim {i : Ins} (hs : (isPure i || isLoad i) = true) {k : Kv} (H : insK i F ih wm e nx h k = .ok out eo no ho) (hc : (chkIns Pr i o.op || chkCall i o.op) = true) : ∃ v, k e v nx h = .ok out eo no ho ∧ StillOk Pr o e nx h v ∧ (isPure i = true → pureDV i e = some v ∧ chkPure Pr i o.op = true) := by
  by_cases hp : isPure i = true
  · rw [insK_pure i hp] at H
    cases hv : pureDV i e with
    | none => simp only [hv, reduceCtorEq] at H
    | some v =>
      simp only [hv] at H
      have hcp : chkPure Pr i o.op = true := by
        have hn : chkCall i o.op = false := by
          unfold chkCall
          split
          · split <;> first | rfl | (simp [isPure] at hp)
          · rfl
        have hm : chkMem Pr i o.op = false := by
          unfold chkMem
          split <;> first | rfl | (simp [isPure] at hp)
        rw [hn, Bool.or_false] at hc
        unfold chkIns at hc
        have hb : isBad i = false := by cases i <;> first | rfl | (simp [isPure] at hp)
        rw [hm, hb, Bool.or_false, Bool.or_false, hp, Bool.true_and] at hc
        exact hc
      refine ⟨v, H, ?_, fun _ => ⟨rfl, hcp⟩⟩
      intro L N hi j pv a w R
      obtain ⟨v', hr, hx⟩ := pure_sim hv hcp R.reads (eval_const a) w
      exact ⟨v', hr, hx⟩
  · cases i <;> simp [isPure, isLoad] at hs hp
    case ld d =>
      have hc : chkMem Pr (.ld d) o.op = true := by
        have : chkCall (.ld d) o.op = false := by unfold chkCall; split <;> rfl
        rw [this] at hc
        simpa [chkIns, isPure, isBad] using hc
      cases hop : o.op <;> simp only [chkMem, hop, Bool.false_eq_true] at hc
      simp only [Bool.and_eq_true] at hc
      change readK (ev d e) e h .fail (fun l o => nthK l o .fail fun v => fV v fun v => k e v nx h) = _ at H
      rw [readK_eq] at H
      cases hl : look (ev d e) e h with
      | none => simp only [hl, reduceCtorEq] at H
      | some p =>
        obtain ⟨l, i⟩ := p
        simp only [hl, nthK_eq] at H
        cases hv : l[i]? with
        | none => simp only [hv, reduceCtorEq] at H
        | some v =>
          simp only [hv, fV_eq] at H
          refine ⟨v, H, ?_, fun h => by simp [isPure] at h⟩
          intro L N hi j pv a w R
          obtain ⟨b, s, hp, hcc⟩ := R.look (R.reads d _ hc.1) hl
          obtain ⟨v', hcell, hr, _⟩ := hcc i v hv
          refine ⟨v', ?_, XD.of_VR hr⟩
          simp only [execOp, hop, hp, Sem.run_bind, run_loadAt_one hc.2 hcell, Result.andThen_ok, Sem.run_pure]
    case lda n d =>
      have hc : chkMem Pr (.lda n d) o.op = true := by
        have : chkCall (.lda n d) o.op = false := by unfold chkCall; split <;> rfl
        rw [this] at hc
        simpa [chkIns, isPure, isBad] using hc
      cases hop : o.op <;> simp only [chkMem, hop, Bool.false_eq_true] at hc
      simp only [Bool.and_eq_true] at hc
      change readK (ev d e) e h .fail (fun l o => dropK o l .fail fun t => takeK n t .fail fun r => k e (.agg r) nx h) = _ at H
      rw [readK_eq] at H
      cases hl : look (ev d e) e h with
      | none => simp only [hl, reduceCtorEq] at H
      | some p =>
        obtain ⟨l, i⟩ := p
        simp only [hl, dropK_eq, takeK_eq] at H
        by_cases h1 : i ≤ l.length
        case neg => rw [if_neg h1] at H; cases H
        rw [if_pos h1] at H
        by_cases h2 : n ≤ (l.drop i).length
        case neg => rw [if_neg h2] at H; cases H
        rw [if_pos h2] at H
        refine ⟨_, H, ?_, fun h => by simp [isPure] at h⟩
        intro L N hi j pv a w R
        obtain ⟨b, s, hp, hcc⟩ := R.look (R.reads d _ hc.1.1) hl
        obtain ⟨vs, h1, h2, h3⟩ := hcc.part i n h2
        refine ⟨.agg vs.toArray, ?_, VR.agg h1⟩
        simp only [execOp, hop, hp, Sem.run_bind, run_loadAt_many hc.1.2 hc.2 h2 h3, Result.andThen_ok, Sem.run_pure]

theorem op_did (hF : FOk Pr F) (hih : IhOk Pr ih) {Ls : List Nat} {N : Nat} {os : List Oper} {op : Op} {k : Ko} (H : opK op F ih wm e nx h k = .ok out eo no ho) (hc : chkOp Pr Ls N os op o = true) :
    ∃ e' nx' h', k e' nx' h' = .ok out eo no ho ∧ OpDid Pr o wm e nx h op e' nx' h' := by
  cases op with
  | mk dst g i =>
    simp only [chkOp, Bool.and_eq_true] at hc
    have run : opRun dst i F ih wm e nx h k = .ok out eo no ho → Guard e g true → ∃ e' nx' h', k e' nx' h' = .ok out eo no ho ∧ OpDid Pr o wm e nx h (.mk dst g i) e' nx' h' := by
      intro H G
      change insK i F ih wm e nx h (fun e v nx h => opDst dst v e fun e => k e nx h) = _ at H
      simp only [opDst_eq] at H
      by_cases hs : (isPure i || isLoad i) = true
      · obtain ⟨v, hk, S, hp⟩ := still_sim hs H hc.2
        exact ⟨_, _, _, hk, .still G S hs hp⟩
      · obtain ⟨e1, v1, nx1, h1, hk1, hop, hm⟩ := all_sim hF hih H hc.2
        exact ⟨_, _, _, hk1, .run G hop hm (by simpa using hs)⟩
    have skip : opSkip dst e nx h k = .ok out eo no ho → Guard e g false → ∃ e' nx' h', k e' nx' h' = .ok out eo no ho ∧ OpDid Pr o wm e nx h (.mk dst g i) e' nx' h' := by
      intro H G
      change opDst dst (.tup []) e (fun e => k e nx h) = _ at H
      rw [opDst_eq] at H
      exact ⟨_, _, _, H, .pass G⟩
    cases g with
    | none => exact run H .no
    | some g =>
      obtain ⟨p, b⟩ := g
      change asB (evT p e) (asT (evT p e) .fail (opGn dst e nx h k)) (opGt dst i F ih wm e nx h k b) = _ at H
      rw [asB_eq, asT_eq] at H
      cases hp : evT p e <;> simp only [hp, reduceCtorEq] at H
      case bool t =>
        unfold opGt at H
        have G := Guard.is p b t hp
        rw [brec_if'] at H
        cases hb : beqB t b with
        | true => rw [hb] at H G; exact run H G
        | false => rw [hb] at H G; exact skip H G
      case tup l =>
        cases l with
        | nil => exact skip H (.un p b hp)
        | cons x l => cases H
  | loc p z =>
    change notVar p e (fun _ => Tr.setK p e (some (.var z)) fun e => k e nx h) = _ at H
    rw [notVar_eq] at H
    by_cases hv : isVar p e
    · rw [if_pos hv] at H; cases H
    · rw [if_neg hv, Tr.setK_eq] at H
      exact ⟨_, _, _, H, .loc hv⟩
  | locb p x =>
    change notVar p e (fun _ => ovK x e fun v => cellsK v .fail fun l => Tr.setK p e (some (.var l)) fun e => k e nx h) = _ at H
    rw [notVar_eq] at H
    by_cases hv : isVar p e
    · rw [if_pos hv] at H; cases H
    · rw [if_neg hv, ovK_eq, cellsK_eq] at H
      cases hl : (ov x e).cells with
      | none => simp only [hl, reduceCtorEq] at H
      | some l =>
        simp only [hl, Tr.setK_eq] at H
        exact ⟨_, _, _, H, .locb hv hl⟩
end
end Go.Proofs.Ythdlkpmhjbaplaa.Dx
