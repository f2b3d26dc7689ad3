/- The small machine's operations, one behind the other, beside Go's. No statement of this seat is proved here. -/
import Derived.Test.YtnoekfkfinjfgaaGreatDoorUl
set_option autoImplicit false
set_option linter.unusedSectionVars false
set_option linter.unusedSimpArgs false
noncomputable section
namespace Go.Proofs.YtnoekfkfinjfgaaGreatDoor.Dx
open Go
variable [Rho]

section
variable {Pr : Program} {F : Tr Fd} {ih : Ih} {wm : Option P} {e : Env} {nx : P} {h : Hp} {out : Out} {eo : Env} {no : P} {ho : Hp} {o : Oper}

theorem all_sim (hF : FOk Pr F) (hih : IhOk Pr ih) {i : Ins} {k : Kv} (H : insK i F ih wm e nx h k = .ok out eo no ho) (hc : (chkIns Pr i o.op || chkCall i o.op) = true) : Step Pr o wm e nx h k (.ok out eo no ho) := by
  rw [Bool.or_eq_true] at hc
  rcases hc with hc | hc
  · exact ins_sim H hc
  · unfold chkCall at hc
    split at hc
    case h_2 => cases hc
    rename_i x args tys hop
    split at hc
    case h_3 => cases hc
    case h_1 i f xs =>
      simp only [Bool.and_eq_true] at hc
      change ovsK xs e (fun vs => callK F ih wm f vs e nx h k) = _ at H
      rw [ovsK_eq] at H
      obtain ⟨v, nx', h', hk, hcall, hm, fn, h1, h2, h3⟩ := call_sim hF hih H
      refine ⟨e, v, nx', h', hk, CallOk.op (cs := []) (by rw [List.append_nil]; exact hcall) hop hc.1 rfl hc.2 h1 h2 h3, hm.m e⟩
    case h_2 i f xs =>
      simp only [Bool.and_eq_true] at hc
      change asF (ev f e) (asBf (ev f e) .fail fun f fs => ovsK xs e fun vs => catK fs vs fun vs => callK F ih wm f vs e nx h k) (fun f cs => ovsK xs e fun vs => catK vs cs fun vs => callK F ih wm f vs e nx h k) = _ at H
      rw [asF_eq, asBf_eq] at H
      cases hfv : ev f e <;> simp only [hfv, reduceCtorEq] at H
      · rename_i g cs
        rw [ovsK_eq, catK_eq] at H
        obtain ⟨v, nx', h', hk, hcall, hm, fn, h1, h2, h3⟩ := call_sim hF hih H
        exact ⟨e, v, nx', h', hk, hcall.op hop hc.1 hfv hc.2 h1 h2 h3, hm.m e⟩
      · rename_i g cs
        rw [ovsK_eq, catK_eq] at H
        obtain ⟨v, nx', h', hk, hcall, hm, fn, h1, h2, h3⟩ := call_sim hF hih H
        exact ⟨e, v, nx', h', hk, hcall.opb hop hc.1 hfv hc.2 h1 h2 h3, hm.m e⟩

/-! ### An operation -/

/-- What an operation's end says of the state from which it began. -/
structure After (L : P → Prop) (N hi : Nat) (nx : P) (j : J) (pv : P → Option Nat) (a : Act) (w : World) (e' : Env) (nx' : P) (h' : Hp) (j' : J) (pv' : P → Option Nat) (a' : Act) (w' : World) : Prop where
  rel : Rel L N hi j' pv' e' nx' h' a' w'
  fr : Fr hi nx.n j pv w j' pv' w'
  defers : a'.defers = a.defers
/-- An operation in its region: it is done, or passed over. -/
def OperWp (Pr : Program) (r : Option Nat) (ops : Array Oper) (o : Oper) (K : Act → World → Prop) (Q : Exit → Act → World → Prop) (a : Act) (w : World) : Prop :=
  if Region.wanted o (yielded ops a.tmps) then o.wpIn (FW r) 0 Pr a w K Q else K (a.put o.dst undef) w

theorem put_defers (a : Act) (d : Option Tmp) (v : Value) : (a.put d v).defers = a.defers := by cases d <;> rfl

/-- Is it done? 'none': it cannot be seen. -/
inductive Guard (e : Env) : Option (P × Bool) → Bool → Prop
  | no : Guard e none true
  | is (p : P) (b t : Bool) (h : evT p e = .bool t) : Guard e (some (p, b)) (beqB t b)
  | un (p : P) (b : Bool) (h : evT p e = .tup []) : Guard e (some (p, b)) false
theorem Guard.wanted {j : J} {pv : P → Option Nat} {a : Act} (R : Reads j pv e a.eval) {ops : Array Oper} {g : Option (P × Bool)} {g' : Option (Nat × Bool)} {t : Bool} (G : Guard e g t) (hc : okGuard ops.toList g g' = true)
    (hg : o.guard = g') : Region.wanted o (yielded ops a.tmps) = t := by
  have look : ∀ (p : P) (b : Bool) (j' : Nat) (b' : Bool), okGuard ops.toList (some (p, b)) (some (j', b')) = true → (ops[j']?).bind (·.dst) = some p.n ∧ b = b' := by
    intro p b j' b' hc
    simp only [okGuard, Bool.and_eq_true] at hc
    refine ⟨?_, by cases b <;> cases b' <;> first | rfl | exact absurd hc.2 (by decide)⟩
    have h1 := hc.1
    cases ho : ops.toList[j']? with
    | none => simp [ho] at h1
    | some o' =>
      rw [Array.getElem?_toList] at ho
      cases hd : o'.dst with
      | none => simp [ho, hd] at h1
      | some t => simp [ho, hd] at h1; simp [ho, hd, h1]
  cases G with
  | no =>
    cases g' with
    | none => unfold Region.wanted; rw [hg]
    | some x => simp [okGuard] at hc
  | is p b t hv =>
    cases g' with
    | none => simp [okGuard] at hc
    | some x =>
      obtain ⟨j', b'⟩ := x
      obtain ⟨h1, rfl⟩ := look p b j' b' hc
      have hr := R (.t p) (.tmp p.n) (Nat.beq_refl _)
      change XD j pv (evT p e) (a.tmps.getD p.n undef) at hr
      rw [hv] at hr
      have ht := hr.bool
      have hlt : p.n < a.tmps.size := by
        rcases Nat.lt_or_ge p.n a.tmps.size with h | h
        · exact h
        · rw [Array.getD_eq_getD_getElem?, Array.getElem?_eq_none h] at ht; cases ht
      have hy : yielded ops a.tmps j' = some t := by
        unfold yielded
        rw [h1]
        simp only [Option.bind_some]
        rw [Array.getD_eq_getD_getElem?] at ht
        cases hx : a.tmps[p.n]? with
        | none => rw [hx] at ht; cases ht
        | some u => rw [hx] at ht; simp only [Option.getD_some] at ht; rw [ht]
      unfold Region.wanted
      rw [hg]
      simp only [hy]
      cases t <;> cases b <;> rfl
  | un p b hv =>
    cases g' with
    | none => simp [okGuard] at hc
    | some x =>
      obtain ⟨j', b'⟩ := x
      obtain ⟨h1, rfl⟩ := look p b j' b' hc
      have hr := R (.t p) (.tmp p.n) (Nat.beq_refl _)
      change XD j pv (evT p e) (a.tmps.getD p.n Go.undef) at hr
      rw [hv] at hr
      obtain ⟨l', ht, hl⟩ := hr.tup
      cases hl
      have hy : yielded ops a.tmps j' = none := by
        unfold yielded
        rw [h1]
        simp only [Option.bind_some]
        rw [Array.getD_eq_getD_getElem?] at ht
        cases hx : a.tmps[p.n]? with
        | none => rfl
        | some u => rw [hx] at ht; simp only [Option.getD_some] at ht; rw [ht]
      unfold Region.wanted
      rw [hg]
      simp only [hy]
      cases b <;> rfl

theorem brec_if' (A B : Res) (t : Bool) : (Bool.rec (motive := fun _ => Res) A B t) = match t with | true => B | false => A := by cases t <;> rfl

/-- An operation that moves nothing. -/
def StillOk (Pr : Program) (o : Oper) (e : Env) (nx : P) (h : Hp) (v : DV) : Prop :=
  ∀ (L : P → Prop) (N hi : Nat) (j : J) (pv : P → Option Nat) (a : Act) (w : World), Rel L N hi j pv e nx h a w → ∃ v', (execOp a.eval o).run Pr w = .ok (.value v') w ∧ XD j pv v v'
/-- What the small machine did with an operation. -/
inductive OpDid (Pr : Program) (o : Oper) (wm : Option P) (e : Env) (nx : P) (h : Hp) : Op → Env → P → Hp → Prop
  | run {dst : Option P} {g : Option (P × Bool)} {i : Ins} {e' : Env} {v : DV} {nx' : P} {h' : Hp} (G : Guard e g true) (S : OpOk Pr o e nx h e' v nx' h') (M : Moves wm e nx h e' nx' h') (hs : (isPure i || isLoad i) = false) (hb : isBsl i = false) :
      OpDid Pr o wm e nx h (.mk dst g i) (dstE dst v e') nx' h'
  | still {dst : Option P} {g : Option (P × Bool)} {i : Ins} {v : DV} (G : Guard e g true) (S : StillOk Pr o e nx h v) (hs : (isPure i || isLoad i) = true) (pure : isPure i = true → pureDV i e = some v ∧ chkPure Pr i o.op = true) (vl : isVl i = true → StillOk Pr o e .z .nl v) :
      OpDid Pr o wm e nx h (.mk dst g i) (dstE dst v e) nx h
  | nw {dst : Option P} {g : Option (P × Bool)} {len sz : Nat} {z : List DV} {ps : List (Nat × Nat × Opd)} {l : List DV} (G : Guard e g true) (W : NewOk Pr o e l (fun k => .sl k 0 len (some len) sz)) :
      OpDid Pr o wm e nx h (.mk dst g (.bsl len sz z ps)) (dstE dst (.sl nx 0 len (some len) sz) e) nx.suc (Tr.set nx h (some (.cells l)))
  | pass {dst : Option P} {g : Option (P × Bool)} {i : Ins} (G : Guard e g false) : OpDid Pr o wm e nx h (.mk dst g i) (dstE dst (.tup []) e) nx h
  | loc {p : P} {z : List DV} (hv : ¬ isVar p e) : OpDid Pr o wm e nx h (.loc p z) (Tr.set p e (some (.var z))) nx h
  | locb {p : P} {x : Opd} {c : List DV} (hv : ¬ isVar p e) (hc : (ov x e).cells = some c) : OpDid Pr o wm e nx h (.locb p x) (Tr.set p e (some (.var c))) nx h

theorem StillOk.op {v : DV} (S : StillOk Pr o e nx h v) : OpOk Pr o e nx h e v nx h := by
  intro L N hi j pv a w R _ K Q hK r
  obtain ⟨v', hrun, hx⟩ := S L N hi j pv a w R
  refine oper_FW ?_ (calm_of hrun (fun d h => by cases h))
  unfold Oper.wp
  rw [hrun]
  exact hK j w v' R (Fr.refl _ _ _ _ _) hx
theorem still_sim {i : Ins} (hs : (isPure i || isLoad i) = true) {k : Kv} (H : insK i F ih wm e nx h k = .ok out eo no ho) (hc : (chkIns Pr i o.op || chkCall i o.op) = true) : ∃ v, k e v nx h = .ok out eo no ho ∧ StillOk Pr o e nx h v ∧ (isPure i = true → pureDV i e = some v ∧ chkPure Pr i o.op = true) ∧ (isVl i = true → StillOk Pr o e .z .nl v) := by
  by_cases hp : isPure i = true
  · rw [insK_pure i hp] at H
    cases hv : pureDV i e with
    | none => simp only [hv, reduceCtorEq] at H
    | some v =>
      simp only [hv] at H
      have hcp : chkPure Pr i o.op = true := by
        have hn : chkCall i o.op = false := by
          unfold chkCall
          split
          · split <;> first | rfl | (simp [isPure] at hp)
          · rfl
        have hm : chkMem Pr i o.op = false := by
          unfold chkMem
          split <;> first | rfl | (simp [isPure] at hp)
        rw [hn, Bool.or_false] at hc
        unfold chkIns at hc
        have hb : isBad i = false := by cases i <;> first | rfl | (simp [isPure] at hp)
        rw [hm, hb, Bool.or_false, Bool.or_false, hp, Bool.true_and] at hc
        exact hc
      refine ⟨v, H, ?_, fun _ => ⟨rfl, hcp⟩, fun h => by rw [vl_pure h] at hp; cases hp⟩
      intro L N hi j pv a w R
      obtain ⟨v', hr, hx⟩ := pure_sim hv hcp R.reads (eval_const a) w
      exact ⟨v', hr, hx⟩
  · cases i <;> simp [isPure, isLoad] at hs hp
    case ld d =>
      have hc : chkMem Pr (.ld d) o.op = true := by
        have : chkCall (.ld d) o.op = false := by unfold chkCall; split <;> rfl
        rw [this] at hc
        simpa [chkIns, isPure, isBad] using hc
      cases hop : o.op <;> simp only [chkMem, hop, Bool.false_eq_true] at hc
      simp only [Bool.and_eq_true] at hc
      change readK (ev d e) e h .fail (fun l o => nthK l o .fail fun v => fV v fun v => k e v nx h) = _ at H
      rw [readK_eq] at H
      cases hl : look (ev d e) e h with
      | none => simp only [hl, reduceCtorEq] at H
      | some p =>
        obtain ⟨l, i⟩ := p
        simp only [hl, nthK_eq] at H
        cases hv : l[i]? with
        | none => simp only [hv, reduceCtorEq] at H
        | some v =>
          simp only [hv, fV_eq] at H
          refine ⟨v, H, ?_, (fun h => by simp [isPure] at h), fun h => by cases h⟩
          intro L N hi j pv a w R
          obtain ⟨b, s, hp, hcc⟩ := R.look (R.reads d _ hc.1) hl
          obtain ⟨v', hcell, hr, _⟩ := hcc i v hv
          refine ⟨v', ?_, XD.of_VR hr⟩
          simp only [execOp, hop, hp, Sem.run_bind, run_loadAt_one hc.2 hcell, Result.andThen_ok, Sem.run_pure]
    case lda n d =>
      have hc : chkMem Pr (.lda n d) o.op = true := by
        have : chkCall (.lda n d) o.op = false := by unfold chkCall; split <;> rfl
        rw [this] at hc
        simpa [chkIns, isPure, isBad] using hc
      cases hop : o.op <;> simp only [chkMem, hop, Bool.false_eq_true] at hc
      simp only [Bool.and_eq_true] at hc
      change readK (ev d e) e h .fail (fun l o => dropK o l .fail fun t => takeK n t .fail fun r => k e (.agg r) nx h) = _ at H
      rw [readK_eq] at H
      cases hl : look (ev d e) e h with
      | none => simp only [hl, reduceCtorEq] at H
      | some p =>
        obtain ⟨l, i⟩ := p
        simp only [hl, dropK_eq, takeK_eq] at H
        by_cases h1 : i ≤ l.length
        case neg => rw [if_neg h1] at H; cases H
        rw [if_pos h1] at H
        by_cases h2 : n ≤ (l.drop i).length
        case neg => rw [if_neg h2] at H; cases H
        rw [if_pos h2] at H
        refine ⟨_, H, ?_, (fun h => by simp [isPure] at h), fun h => by cases h⟩
        intro L N hi j pv a w R
        obtain ⟨b, s, hp, hcc⟩ := R.look (R.reads d _ hc.1.1) hl
        obtain ⟨vs, h1, h2, h3⟩ := hcc.part i n h2
        refine ⟨.agg vs.toArray, ?_, VR.agg h1⟩
        simp only [execOp, hop, hp, Sem.run_bind, run_loadAt_many hc.1.2 hc.2 h2 h3, Result.andThen_ok, Sem.run_pure]
    case vla n d =>
      have hc : chkMem Pr (.vla n d) o.op = true := by
        have : chkCall (.vla n d) o.op = false := by unfold chkCall; split <;> rfl
        rw [this] at hc
        simpa [chkIns, isPure, isBad] using hc
      cases hop : o.op <;> simp only [chkMem, hop, Bool.false_eq_true] at hc
      simp only [Bool.and_eq_true] at hc
      cases n with
      | zero =>
        change readK (ev d e) e .nl .fail (fun l o => nthK l o .fail fun v => fV v fun v => k e v nx h) = _ at H
        rw [readK_eq] at H
        cases hl : look (ev d e) e .nl with
        | none => simp only [hl, reduceCtorEq] at H
        | some p =>
          obtain ⟨l, i⟩ := p
          simp only [hl, nthK_eq] at H
          cases hv : l[i]? with
          | none => simp only [hv, reduceCtorEq] at H
          | some v =>
            simp only [hv, fV_eq] at H
            have S : ∀ (nx' : P) (h' : Hp), StillOk Pr o e nx' h' v := by
              intro nx' h' L N hi j pv a w R
              obtain ⟨b, s, hp, hcc⟩ := R.look (R.reads d _ hc.1.1) (look_nl hl h')
              obtain ⟨v', hcell, hr, _⟩ := hcc i v hv
              refine ⟨v', ?_, XD.of_VR hr⟩
              simp only [execOp, hop, hp, Sem.run_bind, run_loadAt_one hc.1.2 hcell, Result.andThen_ok, Sem.run_pure]
            exact ⟨_, H, S nx h, (fun h => by simp [isPure] at h), fun _ => S .z .nl⟩
      | succ n =>
      change readK (ev d e) e .nl .fail (fun l o => dropK o l .fail fun t => takeK (n + 1) t .fail fun r => k e (.agg r) nx h) = _ at H
      rw [readK_eq] at H
      cases hl : look (ev d e) e .nl with
      | none => simp only [hl, reduceCtorEq] at H
      | some p =>
        obtain ⟨l, i⟩ := p
        simp only [hl, dropK_eq, takeK_eq] at H
        by_cases h1 : i ≤ l.length
        case neg => rw [if_neg h1] at H; cases H
        rw [if_pos h1] at H
        by_cases h2 : n + 1 ≤ (l.drop i).length
        case neg => rw [if_neg h2] at H; cases H
        rw [if_pos h2] at H
        have S : ∀ (nx' : P) (h' : Hp), StillOk Pr o e nx' h' (.agg ((l.drop i).take (n + 1))) := by
          intro nx' h' L N hi j pv a w R
          obtain ⟨b, s, hp, hcc⟩ := R.look (R.reads d _ hc.1.1) (look_nl hl h')
          obtain ⟨vs, h1, h2, h3⟩ := hcc.part i (n + 1) h2
          refine ⟨.agg vs.toArray, ?_, VR.agg h1⟩
          simp only [execOp, hop, hp, Sem.run_bind, run_loadAt_many hc.1.2 (by simpa using hc.2) h2 h3, Result.andThen_ok, Sem.run_pure]
        exact ⟨_, H, S nx h, (fun h => by simp [isPure] at h), fun _ => S .z .nl⟩

theorem op_did (hF : FOk Pr F) (hih : IhOk Pr ih) {Ls : List Nat} {N : Nat} {os : List Oper} {op : Op} {k : Ko} (H : opK op F ih wm e nx h k = .ok out eo no ho) (hc : chkOp Pr Ls N os op o = true) :
    ∃ e' nx' h', k e' nx' h' = .ok out eo no ho ∧ OpDid Pr o wm e nx h op e' nx' h' := by
  cases op with
  | mk dst g i =>
    simp only [chkOp, Bool.and_eq_true] at hc
    have run : opRun dst i F ih wm e nx h k = .ok out eo no ho → Guard e g true → ∃ e' nx' h', k e' nx' h' = .ok out eo no ho ∧ OpDid Pr o wm e nx h (.mk dst g i) e' nx' h' := by
      intro H G
      change insK i F ih wm e nx h (fun e v nx h => opDst dst v e fun e => k e nx h) = _ at H
      simp only [opDst_eq] at H
      by_cases hs : (isPure i || isLoad i) = true
      · obtain ⟨v, hk, S, hp, hq⟩ := still_sim hs H hc.2
        exact ⟨_, _, _, hk, .still G S hs hp hq⟩
      · cases hb : isBsl i with
        | false =>
          obtain ⟨e1, v1, nx1, h1, hk1, hop, hm⟩ := all_sim hF hih H hc.2
          exact ⟨_, _, _, hk1, .run G hop hm (by simpa using hs) hb⟩
        | true =>
          obtain ⟨len, sz, z, ps, rfl⟩ : ∃ len sz z ps, i = .bsl len sz z ps := by cases i <;> first | exact ⟨_, _, _, _, rfl⟩ | cases hb
          have hc' : chkMem Pr (.bsl len sz z ps) o.op = true := by
            have h2 := hc.2
            have : chkCall (.bsl len sz z ps) o.op = false := by unfold chkCall; split <;> rfl
            rw [this] at h2
            simpa [chkIns, isPure, isBad] using h2
          obtain ⟨l, hk1, W⟩ := mem_bsl1 H hc'
          exact ⟨_, _, _, hk1, .nw G W⟩
    have skip : opSkip dst e nx h k = .ok out eo no ho → Guard e g false → ∃ e' nx' h', k e' nx' h' = .ok out eo no ho ∧ OpDid Pr o wm e nx h (.mk dst g i) e' nx' h' := by
      intro H G
      change opDst dst (.tup []) e (fun e => k e nx h) = _ at H
      rw [opDst_eq] at H
      exact ⟨_, _, _, H, .pass G⟩
    cases g with
    | none => exact run H .no
    | some g =>
      obtain ⟨p, b⟩ := g
      change asB (evT p e) (asT (evT p e) .fail (opGn dst e nx h k)) (opGt dst i F ih wm e nx h k b) = _ at H
      rw [asB_eq, asT_eq] at H
      cases hp : evT p e <;> simp only [hp, reduceCtorEq] at H
      case bool t =>
        unfold opGt at H
        have G := Guard.is p b t hp
        rw [brec_if'] at H
        cases hb : beqB t b with
        | true => rw [hb] at H G; exact run H G
        | false => rw [hb] at H G; exact skip H G
      case tup l =>
        cases l with
        | nil => exact skip H (.un p b hp)
        | cons x l => cases H
  | loc p z =>
    change notVar p e (fun _ => Tr.setK p e (some (.var z)) fun e => k e nx h) = _ at H
    rw [notVar_eq] at H
    by_cases hv : isVar p e
    · rw [if_pos hv] at H; cases H
    · rw [if_neg hv, Tr.setK_eq] at H
      exact ⟨_, _, _, H, .loc hv⟩
  | locb p x =>
    change notVar p e (fun _ => ovK x e fun v => cellsK v .fail fun l => Tr.setK p e (some (.var l)) fun e => k e nx h) = _ at H
    rw [notVar_eq] at H
    by_cases hv : isVar p e
    · rw [if_pos hv] at H; cases H
    · rw [if_neg hv, ovK_eq, cellsK_eq] at H
      cases hl : (ov x e).cells with
      | none => simp only [hl, reduceCtorEq] at H
      | some l =>
        simp only [hl, Tr.setK_eq] at H
        exact ⟨_, _, _, H, .locb hv hl⟩
end
end Go.Proofs.YtnoekfkfinjfgaaGreatDoor.Dx

set_option autoImplicit false
set_option linter.unusedSectionVars false
set_option linter.unusedSimpArgs false
noncomputable section
namespace Go.Proofs.YtnoekfkfinjfgaaGreatDoor.Dx
open Go
variable [Rho]

section
variable {Pr : Program} {F : Tr Fd} {ih : Ih} {wm : Option P} {e : Env} {nx : P} {h : Hp} {out : Out} {eo : Env} {no : P} {ho : Hp} {o : Oper}

theorem OpDid.moves {op : Op} {e' : Env} {nx' : P} {h' : Hp} (D : OpDid Pr o wm e nx h op e' nx' h') : MovesC wm nx h nx' h' := by
  cases D with
  | run G S M hs hb => exact M.c
  | nw G W => exact (Moves.new (e := e)).c
  | _ => exact MovesC.refl _ _ _

theorem beqT {a b : Nat} (h : Nat.beq a b = true) : a = b := Nat.eq_of_beq_eq_true h
theorem okDst_some {Ls : List Nat} {N : Nat} {d : P} {d' : Option Nat} (h : okDst Ls N (some d) d' = true) : d' = some d.n ∧ ¬ vars Ls d ∧ d.n < N := by
  cases d' with
  | none => simp [okDst] at h
  | some t =>
    simp only [okDst, Bool.and_eq_true, Nat.ble_eq, Bool.not_eq_true'] at h
    have h1 := beqT h.1.1
    subst h1
    exact ⟨rfl, fun hv => by unfold vars at hv; rw [hv] at h; exact absurd h.2 (by decide), h.1.2⟩
theorem okDst_none {Ls : List Nat} {N : Nat} {d' : Option Nat} (h : okDst Ls N none d' = true) : d' = none := by
  cases d' with
  | none => rfl
  | some t => simp [okDst] at h
theorem okLoc_spec {Ls : List Nat} {N : Nat} {p : P} (h : okLoc Ls N p o = true) : o.dst = some p.n ∧ vars Ls p ∧ p.n < N ∧ o.guard = none := by
  unfold okLoc at h
  simp only [Bool.and_eq_true] at h
  cases hd : o.dst with
  | none => simp [hd] at h
  | some t =>
    simp only [hd, Bool.and_eq_true, Nat.ble_eq] at h
    have h1 := beqT h.1.1.1
    subst h1
    refine ⟨rfl, h.1.2, h.1.1.2, ?_⟩
    cases hg : o.guard with
    | none => rfl
    | some g => simp [hg] at h

/-- A value put where an operation's own goes. -/
theorem Rel.dst {Ls : List Nat} {N hi : Nat} {j : J} {pv : P → Option Nat} {a : Act} {w : World} (R : Rel (vars Ls) N hi j pv e nx h a w) {dst : Option P} {d' : Option Nat} (hd : okDst Ls N dst d' = true) {v : DV} {v' : Value} (hv : XD j pv v v') :
    Rel (vars Ls) N hi j pv (dstE dst v e) nx h (a.put d' v') w := by
  cases dst with
  | none => rw [okDst_none hd]; exact R
  | some d => obtain ⟨h1, h2, h3⟩ := okDst_some hd; rw [h1]; exact R.put h2 h3 hv
theorem wanted_none {ops : Array Oper} (hg : o.guard = none) (tm : Array Value) : Region.wanted o (yielded ops tm) = true := by unfold Region.wanted; rw [hg]
theorem run_alloc_al {w : World} {ρ : Operand → Value} {t : Nat} {it : TypeInfo} {zv : Value} (ho : o.op = .alloc t) (hi : Pr.info? t = some it) (hz : it.zero = some zv) :
    (execOp ρ o).run Pr w = .ok (.value (.pointer (some ⟨w.heap.size, 0, none⟩))) (w.alloc (.cells zv.cells t)) := by
  simp only [execOp, ho, Instr.alloc, Sem.run_bind, zeroValue, typeInfo, run_program, Result.andThen_ok, hi, Sem.run_pure, hz, newVar, newRow, run_newObj]
  rfl
theorem run_box_bx {w : World} {ρ : Operand → Value} {t : Nat} {x : Operand} (ho : o.op = .box t x) :
    (execOp ρ o).run Pr w = .ok (.value (.pointer (some ⟨w.heap.size, 0, none⟩))) (w.alloc (.cells (ρ x).cells t)) := by
  simp only [execOp, ho, Instr.box, Sem.run_bind, newVar, newRow, run_newObj, Result.andThen_ok, Sem.run_pure]
  rfl
theorem Rel.pvPut_keep {L : P → Prop} {N hi : Nat} {j : J} {pv : P → Option Nat} {a : Act} {w : World} (R : Rel L N hi j pv e nx h a w) {p : P} {x : Nat} (hv : ¬ isVar p e) : PvK pv (pvPut pv p x) := by
  intro q b hq
  have hne : q ≠ p := by rintro rfl; exact hv (R.pvv _ b hq)
  unfold pvPut
  simp [hne, hq]
theorem OpDid.wp {op : Op} {e' : Env} {nx' : P} {h' : Hp} (D : OpDid Pr o wm e nx h op e' nx' h') {ops : Array Oper} {Ls : List Nat} {N : Nat} (hc : chkOp Pr Ls N ops.toList op o = true) {hi : Nat} {j : J} {pv : P → Option Nat} {a : Act} {w : World}
    (R : Rel (vars Ls) N hi j pv e nx h a w) (hnh : nx'.n ≤ hi) {K : Act → World → Prop} {Q : Exit → Act → World → Prop}
    (hK : ∀ j' pv' a' w', Rel (vars Ls) N hi j' pv' e' nx' h' a' w' → Fr hi nx.n j pv w j' pv' w' → a'.defers = a.defers → PvK pv pv' → K a' w') (r : Option Nat) : OperWp Pr r ops o K Q a w := by
  unfold OperWp
  cases D with
  | run G S M hs hb =>
    simp only [chkOp, Bool.and_eq_true] at hc
    rw [G.wanted R.reads hc.1.2 rfl, if_pos rfl]
    refine S (vars Ls) N hi j pv a w R hnh K Q ?_ r
    intro j' w' v' R' F' hx
    exact hK j' pv _ w' (R'.dst hc.1.1 hx) F' (put_defers _ _ _) (fun _ _ h => h)
  | nw G W =>
    simp only [chkOp, Bool.and_eq_true] at hc
    rw [G.wanted R.reads hc.1.2 rfl, if_pos rfl]
    refine (W.mem nx h).op (vars Ls) N hi j pv a w R hnh K Q ?_ r
    intro j' w' v' R' F' hx
    exact hK j' pv _ w' (R'.dst hc.1.1 hx) F' (put_defers _ _ _) (fun _ _ h => h)
  | still G S hs =>
    simp only [chkOp, Bool.and_eq_true] at hc
    rw [G.wanted R.reads hc.1.2 rfl, if_pos rfl]
    refine S.op (vars Ls) N hi j pv a w R hnh K Q ?_ r
    intro j' w' v' R' F' hx
    exact hK j' pv _ w' (R'.dst hc.1.1 hx) F' (put_defers _ _ _) (fun _ _ h => h)
  | pass G =>
    simp only [chkOp, Bool.and_eq_true] at hc
    rw [G.wanted R.reads hc.1.2 rfl, if_neg (by decide)]
    exact hK j pv _ w (R.dst hc.1.1 (v := .tup []) (VR.tup (l' := []) .nil)) (Fr.refl _ _ _ _ _) (put_defers _ _ _) (fun _ _ h => h)
  | loc hv =>
    simp only [chkOp, Bool.and_eq_true] at hc
    obtain ⟨h1, h2, h3, h4⟩ := okLoc_spec hc.1
    have hcm := hc.2
    cases hop : o.op <;> simp only [chkMem, hop, Bool.false_eq_true] at hcm
    rename_i t
    cases hit : Pr.info? t with
    | none => simp [hit] at hcm
    | some it =>
      cases hz : it.zero with
      | none => simp [hit, hz] at hcm
      | some zv =>
        simp only [hit, hz] at hcm
        rw [wanted_none h4, if_pos rfl]
        refine oper_FW ?_ (fun c h => by rw [hop] at h; cases h)
        unfold Oper.wp
        rw [run_alloc_al hop hit hz, Oper.upon_value, h1]
        obtain ⟨R', F'⟩ := R.var_new h2 h3 hv (okCs_sound j _ _ hcm) (t := t)
        exact hK j _ _ _ R' F' (put_defers _ _ _) (R.pvPut_keep hv)
  | locb hv hcells =>
    simp only [chkOp, Bool.and_eq_true] at hc
    obtain ⟨h1, h2, h3, h4⟩ := okLoc_spec hc.1
    have hcm := hc.2
    cases hop : o.op <;> simp only [chkMem, hop, Bool.false_eq_true] at hcm
    rename_i t x
    rw [wanted_none h4, if_pos rfl]
    refine oper_FW ?_ (fun c h => by rw [hop] at h; cases h)
    unfold Oper.wp
    rw [run_box_bx hop, Oper.upon_value, h1]
    obtain ⟨R', F'⟩ := R.var_new h2 h3 hv ((R.reads.ov hcm).cells hcells) (t := t)
    exact hK j _ _ _ R' F' (put_defers _ _ _) (R.pvPut_keep hv)

/-- Operations in the order of the text. -/
theorem ops_sim (hF : FOk Pr F) (hih : IhOk Pr ih) {ops : Array Oper} {Ls : List Nat} {N : Nat} : ∀ (l : List Op) (i : Nat) (e : Env) (nx : P) (h : Hp) (k : Ko), opsK l F ih wm e nx h k = .ok out eo no ho → chkOps Pr Ls N ops.toList l (ops.toList.drop i) = true →
    ∃ e' nx' h', k e' nx' h' = .ok out eo no ho ∧ MovesC wm nx h nx' h' ∧ ∀ (hi : Nat) (j : J) (pv : P → Option Nat) (a : Act) (w : World), Rel (vars Ls) N hi j pv e nx h a w → nx'.n ≤ hi → ∀ Q : Exit → Act → World → Prop,
      (∀ j' pv' a' w', Rel (vars Ls) N hi j' pv' e' nx' h' a' w' → Fr hi nx.n j pv w j' pv' w' → a'.defers = a.defers → PvK pv pv' → Q .normal a' w') → ∀ r, wpOpsIn (FW r) 0 Pr ops Q (List.range' i (ops.size - i)) a w
  | [], i, e, nx, h, k, H, hc => by
    refine ⟨e, nx, h, H, MovesC.refl _ _ _, ?_⟩
    intro hi j pv a w R hnh Q hQ r
    have hsz : ops.size - i = 0 := by
      cases hd : ops.toList.drop i with
      | nil => have := List.drop_eq_nil_iff.1 hd; simp at this; omega
      | cons x l => rw [hd] at hc; simp [chkOps] at hc
    rw [hsz]
    exact hQ j pv a w R (Fr.refl _ _ _ _ _) rfl (fun _ _ h => h)
  | op :: l, i, e, nx, h, k, H, hc => by
    cases hd : ops.toList.drop i with
    | nil => rw [hd] at hc; simp [chkOps] at hc
    | cons o os =>
      rw [hd] at hc
      simp only [chkOps, Bool.and_eq_true] at hc
      have hlt : i < ops.size := by
        rcases Nat.lt_or_ge i ops.size with h | h
        · exact h
        · rw [List.drop_eq_nil_iff.2 (by simpa using h)] at hd; cases hd
      have ho' : ops[i]? = some o := by
        rw [← Array.getElem?_toList, ← List.head?_drop, hd]; rfl
      have hos : ops.toList.drop (i + 1) = os := by
        rw [← List.tail_drop, hd]; rfl
      change opK op F ih wm e nx h (fun e nx h => opsK l F ih wm e nx h k) = _ at H
      obtain ⟨e1, nx1, h1, H1, D⟩ := op_did hF hih H hc.1
      obtain ⟨e2, nx2, h2, H2, M2, W2⟩ := ops_sim hF hih l (i + 1) e1 nx1 h1 k H1 (by rw [hos]; exact hc.2)
      refine ⟨e2, nx2, h2, H2, D.moves.trans M2, ?_⟩
      intro hi j pv a w R hnh Q hQ r
      have hr : List.range' i (ops.size - i) = i :: List.range' (i + 1) (ops.size - (i + 1)) := by
        rw [show ops.size - i = (ops.size - (i + 1)) + 1 by omega, List.range'_succ]
      rw [hr]
      have W := D.wp hc.1 R (Nat.le_trans M2.le hnh) (K := wpOpsIn (FW r) 0 Pr ops Q (List.range' (i + 1) (ops.size - (i + 1)))) (Q := Q) (by
        intro j' pv' a' w' R' F' hdf hpk
        refine W2 hi j' pv' a' w' R' hnh Q ?_ r
        intro j2 pv2 a2 w2 R2 F2 hd2 hpk2
        exact hQ j2 pv2 a2 w2 R2 (F'.trans F2 D.moves.le) (hd2.trans hdf) (fun p b h => hpk2 p b (hpk p b h))) r
      unfold OperWp at W
      simp only [wpOpsIn, ho']
      by_cases hw : Region.wanted o (yielded ops a.tmps) = true
      · rw [if_pos hw] at W ⊢; exact W
      · rw [if_neg hw] at W ⊢; exact ⟨fun _ _ => trivial, W⟩
end

/-! ### Less of a frame -/

section
variable {L : P → Prop} {N hi : Nat} {j : J} {pv : P → Option Nat} {e : Env} {nx : P} {h : Hp} {a : Act} {w : World}
open Classical in
/-- the variables that are still known -/
def pvOf (pv : P → Option Nat) (e : Env) : P → Option Nat := fun p => if isVar p e then pv p else none
theorem pvOf_some {p : P} {b : Nat} (h : pvOf pv e p = some b) : isVar p e ∧ pv p = some b := by
  unfold pvOf at h
  by_cases hv : isVar p e
  · rw [if_pos hv] at h; exact ⟨hv, h⟩
  · rw [if_neg hv] at h; cases h
theorem pvOf_var {p : P} (h : isVar p e) : pvOf pv e p = pv p := if_pos h
theorem Rel.sub (R : Rel L N hi j pv e nx h a w) {e' : Env} (hs : ∀ p v, Tr.get? p e' = some v → Tr.get? p e = some v) (hf : ∀ p q o, Tr.get? p e' = some (.fld q o) → isVar q e') : Rel L N hi j (pvOf pv e') e' nx h a w where
  fresh := R.fresh
  heap := R.heap
  inj := R.inj
  inr := R.inr
  env := fun p v hv => by
    have hr := R.env p v (hs p v hv)
    cases v
    case fld q o =>
      obtain ⟨b, hb, ht⟩ := hr
      exact ⟨b, by rw [pvOf_var (hf p q o hv)]; exact hb, ht⟩
    case var l =>
      obtain ⟨b, hb, ht⟩ := hr
      exact ⟨b, by rw [pvOf_var ⟨l, hv⟩]; exact hb, ht⟩
    all_goals exact hr
  pvv := fun p b hp => (pvOf_some hp).1
  pin := fun p q b hp hq => R.pin p q b (pvOf_some hp).2 (pvOf_some hq).2
  pfr := fun p b hp => R.pfr p b (pvOf_some hp).2
  pfo := fun p b hp => R.pfo p b (pvOf_some hp).2
  loc := fun p l hl => R.loc p l (hs p _ hl)
  size := R.size
  lt := R.lt
  lr := R.lr
  top := R.top
  maps := R.maps
  pfm := fun p b hp => R.pfm p b (pvOf_some hp).2
theorem keep_spec (e : Env) : ∀ (l : List P) (acc : Env), (∀ p v, Tr.get? p acc = some v → Tr.get? p e = some v ∧ ∀ q o, v ≠ .fld q o) → ∀ p v, Tr.get? p (keep e l acc) = some v → Tr.get? p e = some v ∧ ∀ q o, v ≠ .fld q o
  | [], acc, ha, p, v, hv => ha p v hv
  | q :: l, acc, ha, p, v, hv => by
    simp only [keep] at hv
    have step : ∀ u, Tr.get? q e = some u → (∀ q' o, u ≠ .fld q' o) → ∀ p v, Tr.get? p (Tr.set q acc (some u)) = some v → Tr.get? p e = some v ∧ ∀ q o, v ≠ .fld q o := by
      intro u hu hn p v hv
      by_cases hp : p = q
      · subst hp; rw [Tr.get_set_self] at hv; cases hv; exact ⟨hu, hn⟩
      · rw [Tr.get_set_ne hp] at hv; exact ha p v hv
    cases hq : Tr.get? q e with
    | none => rw [hq] at hv; exact keep_spec e l acc ha p v hv
    | some u =>
      rw [hq] at hv
      cases u
      case fld => exact keep_spec e l acc ha p v hv
      all_goals exact keep_spec e l _ (step _ hq (by intro q' o h; cases h)) p v hv
theorem keep_mem (e : Env) : ∀ (l : List P) (acc : Env) (S : P → Prop), (∀ p v, Tr.get? p acc = some v → S p) → ∀ p v, Tr.get? p (keep e l acc) = some v → S p ∨ p ∈ l
  | [], acc, S, ha, p, v, hv => .inl (ha p v hv)
  | q :: l, acc, S, ha, p, v, hv => by
    have key : ∀ acc', (∀ p v, Tr.get? p acc' = some v → S p ∨ p = q) → Tr.get? p (keep e l acc') = some v → S p ∨ p ∈ q :: l := by
      intro acc' ha' hv'
      rcases keep_mem e l acc' (fun p => S p ∨ p = q) ha' p v hv' with (h | h) | h
      · exact .inl h
      · exact .inr (by rw [h]; exact List.mem_cons_self ..)
      · exact .inr (List.mem_cons_of_mem _ h)
    have h0 : ∀ p v, Tr.get? p acc = some v → S p ∨ p = q := fun p v h => .inl (ha p v h)
    have h1 : ∀ u p v, Tr.get? p (Tr.set q acc (some u)) = some v → S p ∨ p = q := by
      intro u p v h
      by_cases hp : p = q
      · exact .inr hp
      · rw [Tr.get_set_ne hp] at h; exact .inl (ha p v h)
    simp only [keep] at hv
    cases hq : Tr.get? q e with
    | none => rw [hq] at hv; exact key _ h0 hv
    | some u =>
      rw [hq] at hv
      cases u
      case fld => exact key _ h0 hv
      all_goals exact key _ (h1 _) hv
theorem keep_acc (e : Env) {p : P} {v : DV} : ∀ (l : List P) (acc : Env), Tr.get? p acc = some v → Tr.get? p e = some v → Tr.get? p (keep e l acc) = some v
  | [], acc, ha, _ => ha
  | q :: l, acc, ha, he => by
    simp only [keep]
    have step : ∀ u, Tr.get? q e = some u → Tr.get? p (Tr.set q acc (some u)) = some v := by
      intro u hu
      by_cases hp : p = q
      · subst hp; rw [Tr.get_set_self]; rw [he] at hu; exact hu.symm
      · rw [Tr.get_set_ne hp]; exact ha
    cases hq : Tr.get? q e with
    | none => exact keep_acc e l acc ha he
    | some u =>
      cases u
      case fld => exact keep_acc e l acc ha he
      all_goals exact keep_acc e l _ (step _ hq) he
theorem keep_get (e : Env) {p : P} {v : DV} (hn : ∀ q o, v ≠ .fld q o) : ∀ (l : List P) (acc : Env), p ∈ l → Tr.get? p e = some v → Tr.get? p (keep e l acc) = some v
  | [], acc, hm, _ => by cases hm
  | q :: l, acc, hm, he => by
    rcases List.mem_cons.1 hm with rfl | hm
    · simp only [keep, he]
      cases v
      case fld q o => exact absurd rfl (hn q o)
      all_goals exact keep_acc e l _ (Tr.get_set_self _ _ _) he
    · simp only [keep]
      cases hq : Tr.get? q e with
      | none => exact keep_get e hn l acc hm he
      | some u => cases u <;> exact keep_get e hn l _ hm he
theorem Rel.keep (R : Rel L N hi j pv e nx h a w) (l : List P) : ∃ pv', Rel L N hi j pv' (keep e l .nl) nx h a w ∧ Fr hi nx.n j pv w j pv' w ∧ (∀ p b, memP p l = true → pv p = some b → pv' p = some b) ∧ (∀ p b, pv' p = some b → p ∈ l ∧ pv p = some b) := by
  have hk := keep_spec e l .nl (fun p v hv => by rw [Tr.get_e] at hv; cases hv)
  refine ⟨_, R.sub (fun p v hv => (hk p v hv).1) (fun p q o hv => absurd rfl ((hk p _ hv).2 q o)), ?_⟩
  refine ⟨{ Fr.refl hi nx.n j pv w with pnew := fun p x hp => .inl (pvOf_some hp).2 }, fun p b hp hb => ?_, fun p b hb => ?_⟩
  · obtain ⟨l', hl'⟩ := R.pvv p b hb
    rw [pvOf_var ⟨l', keep_get e (by intro q o h; cases h) l .nl ((memP_iff p l).1 hp) hl'⟩]; exact hb
  · obtain ⟨⟨l', hl'⟩, hb'⟩ := pvOf_some hb
    exact ⟨(keep_mem e l .nl (fun _ => False) (fun p v h => by rw [Tr.get_e] at h; cases h) _ _ hl').elim (fun h => h.elim) id, hb'⟩
end
end Go.Proofs.YtnoekfkfinjfgaaGreatDoor.Dx

set_option autoImplicit false
set_option linter.unusedSectionVars false
set_option linter.unusedSimpArgs false
noncomputable section
namespace Go.Proofs.YtnoekfkfinjfgaaGreatDoor.Dx
open Go
variable [Rho]

/-- One stands ahead of the other. -/
inductive Bef (os : List Oper) : Nat → Nat → Prop
  | one {k i : Nat} {o : Oper} (ho : os[k]? = some o) (hi : i ∈ edges o) : Bef os k i
  | more {k m i : Nat} {o : Oper} (ho : os[k]? = some o) (hm : m ∈ edges o) (h : Bef os m i) : Bef os k i

theorem maskOf_spec {os : List Oper} {acc : List Nat} (hacc : ∀ m i, Nat.testBit (acc.getD m 0) i = true → Bef os m i) {k : Nat} {o : Oper} (ho : os[k]? = some o) : ∀ (l : List Nat), (∀ m ∈ l, m ∈ edges o) → ∀ i, Nat.testBit (maskOf acc l) i = true → Bef os k i
  | [], _, i, h => by simp [maskOf] at h
  | m :: l, hl, i, h => by
    have h' : Nat.testBit (((1 <<< m) ||| (acc.getD m 0)) ||| maskOf acc l) i = true := h
    rw [Nat.testBit_or, Nat.testBit_or, Bool.or_eq_true, Bool.or_eq_true] at h'
    rcases h' with (h1 | h1) | h1
    · rw [Nat.testBit_shiftLeft] at h1
      simp only [Bool.and_eq_true, decide_eq_true_eq] at h1
      have : i = m := by
        have h2 := h1.2
        rcases Nat.eq_zero_or_pos (i - m) with h0 | h0
        · omega
        · rw [show (1 : Nat) = 2 ^ 0 from rfl, Nat.testBit_two_pow] at h2
          simp at h2; omega
      subst this
      exact .one ho (hl _ (by simp))
    · exact .more ho (hl m (by simp)) (hacc m i h1)
    · exact maskOf_spec hacc ho l (fun m hm => hl m (by simp [hm])) i h1
theorem maskAll_spec {os : List Oper} : ∀ (l : List Oper) (acc : List Nat), (∀ m i, Nat.testBit (acc.getD m 0) i = true → Bef os m i) → os.drop acc.length = l → ∀ m i, Nat.testBit ((maskAll l acc).getD m 0) i = true → Bef os m i
  | [], acc, hacc, _, m, i, h => hacc m i h
  | o :: l, acc, hacc, hd, m, i, h => by
    have ho : os[acc.length]? = some o := by rw [← List.head?_drop, hd]; rfl
    refine maskAll_spec l (acc ++ [maskOf acc (edges o)]) ?_ ?_ m i h
    · intro m' i' h'
      rw [List.getD_eq_getElem?_getD] at h'
      by_cases h1 : m' < acc.length
      · rw [List.getElem?_append_left h1, ← List.getD_eq_getElem?_getD] at h'; exact hacc m' i' h'
      · rw [List.getElem?_append_right (by omega)] at h'
        by_cases h2 : m' = acc.length
        · subst h2
          simp only [Nat.sub_self, List.getElem?_cons_zero, Option.getD_some] at h'
          exact maskOf_spec hacc ho _ (fun _ h => h) i' h'
        · rw [List.getElem?_eq_none (by simp; omega)] at h'; simp at h'
    · rw [List.length_append, List.length_singleton, ← List.tail_drop, hd]; rfl
theorem ordRow_spec {os : List Oper} {y : Dop} {m k : Nat} (hm : ∀ i, Nat.testBit m i = true → Bef os k i) : ∀ (l : List Dop) (s : Nat), ordRow y m l s = true → ∀ (i : Nat) (x : Dop), l[i]? = some x → clash x y = true → Bef os k (s + i)
  | [], s, _, i, x, hx, _ => by simp at hx
  | z :: l, s, h, i, x, hx, hc => by
    simp only [ordRow, Bool.and_eq_true, Bool.or_eq_true, Bool.not_eq_true'] at h
    cases i with
    | zero =>
      simp at hx; subst hx
      rcases h.1 with h1 | h1
      · rw [hc] at h1; cases h1
      · exact hm _ h1
    | succ i => have := ordRow_spec hm l (s + 1) h.2 i x (by simpa using hx) hc; rwa [show s + (i + 1) = s + 1 + i by omega]
theorem ordAll_spec {os : List Oper} {ms : List Nat} (hms : ∀ m i, Nat.testBit (ms.getD m 0) i = true → Bef os m i) (all : List Dop) : ∀ (l : List Dop) (k : Nat), ordAll ms all l k = true → ∀ (i j : Nat) (x y : Dop), (all.take (k + j))[i]? = some x → l[j]? = some y → clash x y = true → Bef os (k + j) i
  | [], k, _, i, j, x, y, _, hy, _ => by simp at hy
  | z :: l, k, h, i, j, x, y, hx, hy, hc => by
    simp only [ordAll, Bool.and_eq_true] at h
    cases j with
    | zero =>
      simp at hy; subst hy
      have := ordRow_spec (hms k) _ 0 h.1 i x (by simpa using hx) hc
      simpa using this
    | succ j => have := ordAll_spec hms all l (k + 1) h.2 i j x y (by rwa [show k + 1 + j = k + (j + 1) by omega]) (by simpa using hy) hc; rwa [show k + (j + 1) = k + 1 + j by omega]
theorem edgesOk_spec {os : List Oper} : ∀ (l : List Oper) (k : Nat), edgesOk l k = true → ∀ (i : Nat) (o : Oper), l[i]? = some o → ∀ m ∈ edges o, m < k + i
  | [], k, _, i, o, ho, m, hm => by simp at ho
  | z :: l, k, h, i, o, ho, m, hm => by
    simp only [edgesOk, Bool.and_eq_true, List.all_eq_true, Nat.ble_eq] at h
    cases i with
    | zero => simp at ho; subst ho; have := h.1 m hm; omega
    | succ i => have := edgesOk_spec (os := os) l (k + 1) h.2 i o (by simpa using ho) m hm; omega

theorem allIn_spec {f : P → Bool} : ∀ {l : List P}, allIn f l = true → ∀ p ∈ l, f p = true
  | [], _, p, hp => by simp at hp
  | q :: l, h, p, hp => by
    simp only [allIn, Bool.and_eq_true] at h
    rcases List.mem_cons.1 hp with rfl | hp
    · exact h.1
    · exact allIn_spec h.2 p hp
theorem anyP_of {l m : List P} {p : P} (h1 : p ∈ l) (h2 : p ∈ m) : anyP l m = true := by
  unfold anyP; rw [List.any_eq_true]; exact ⟨p, h1, (memP_iff p m).2 h2⟩

/-- What is known of a region whose order is left open. -/
structure DrwOk (Pr : Program) (Ls : List Nat) (N : Nat) (ds : List Dop) (os : List Oper) : Prop where
  ops : ∀ (i : Nat) (d : Dop) (o : Oper), ds[i]? = some d → os[i]? = some o → chkOp Pr Ls N os (opD d) o = true
  len : ds.length = os.length
  dop : ∀ (i : Nat) (d : Dop), ds[i]? = some d → okDop Ls d = true
  edge : ∀ (i : Nat) (o : Oper), os[i]? = some o → ∀ m ∈ edges o, m < i
  ord : ∀ (i k : Nat) (x y : Dop), i < k → ds[i]? = some x → ds[k]? = some y → clash x y = true → Bef os k i
theorem chkOps_spec {Pr : Program} {Ls : List Nat} {N : Nat} {os : List Oper} : ∀ (l : List Op) (l' : List Oper), chkOps Pr Ls N os l l' = true → l.length = l'.length ∧ ∀ (i : Nat) (d : Op) (o : Oper), l[i]? = some d → l'[i]? = some o → chkOp Pr Ls N os d o = true
  | [], [], _ => ⟨rfl, fun i d o hd => by simp at hd⟩
  | [], _ :: _, h => by simp [chkOps] at h
  | _ :: _, [], h => by simp [chkOps] at h
  | d :: l, o :: l', h => by
    simp only [chkOps, Bool.and_eq_true] at h
    obtain ⟨h1, h2⟩ := chkOps_spec l l' h.2
    refine ⟨by simp [h1], fun i d' o' hd ho => ?_⟩
    cases i with
    | zero => simp at hd ho; subst hd; subst ho; exact h.1
    | succ i => exact h2 i d' o' (by simpa using hd) (by simpa using ho)
theorem chkDrw_spec {Pr : Program} {Ls : List Nat} {N : Nat} {ds : List Dop} {os : List Oper} (h : chkDrw Pr Ls N ds os = true) : DrwOk Pr Ls N ds os := by
  simp only [chkDrw, Bool.and_eq_true, List.all_eq_true] at h
  obtain ⟨⟨⟨h1, h2⟩, h3⟩, h4⟩ := h
  obtain ⟨h5, h6⟩ := chkOps_spec _ _ h1
  refine ⟨fun i d o hd ho => h6 i (opD d) o (by simp [hd]) ho, by simpa using h5, fun i d hd => h2 d (List.mem_of_getElem? hd), fun i o ho m hm => by have := edgesOk_spec (os := os) os 0 h3 i o ho m hm; omega, ?_⟩
  intro i k x y hik hx hy hc
  have := ordAll_spec (maskAll_spec os [] (fun m i h => by simp at h) rfl) ds ds 0 h4 i k x y (by rw [List.getElem?_take, if_pos (by omega)]; exact hx) hy hc
  simpa using this
theorem anyP_comm {l m : List P} (h : anyP l m = true) : anyP m l = true := by
  unfold anyP at h
  rw [List.any_eq_true] at h
  obtain ⟨p, h1, h2⟩ := h
  exact anyP_of ((memP_iff p m).1 h2) h1
theorem clashE_comm {x y : Dop} (h : clashE x y = true) : clashE y x = true := by
  unfold clashE at *
  simp only [Bool.or_eq_true] at h ⊢
  rcases h with (h | h) | h
  · exact .inl (.inr (anyP_comm h))
  · exact .inl (.inl (anyP_comm h))
  · exact .inr (anyP_comm h)
theorem clash_of_E {x y : Dop} (h : clashE x y = true) : clash x y = true := by unfold clash; rw [h, Bool.or_true]

/-- Those that are done: with each one, all that stand ahead of it. -/
def Down (os : List Oper) (S : Nat → Prop) : Prop := ∀ (i : Nat) (o : Oper), S i → os[i]? = some o → ∀ m ∈ edges o, S m
theorem Down.bef {os : List Oper} {S : Nat → Prop} (hS : Down os S) {k i : Nat} (h : Bef os k i) : S k → S i := by
  induction h with
  | one ho hi => exact fun hk => hS _ _ hk ho _ hi
  | more ho hm _ ih => exact fun hk => ih (hS _ _ hk ho _ hm)
/-- What cannot be exchanged with one that is about to be done stands on its right side. -/
theorem DrwOk.sideL {Pr : Program} {Ls : List Nat} {N : Nat} {ds : List Dop} {os : List Oper} (D : DrwOk Pr Ls N ds os) {S : Nat → Prop} (hS : Down os S) {i : Nat} {o : Oper} (ho : os[i]? = some o) (hr : ∀ m ∈ edges o, S m)
    {x y : Dop} {q : Nat} (hx : ds[q]? = some x) (hy : ds[i]? = some y) (h : q < i) (hc : clash x y = true) : S q := by
  have hb := D.ord q i x y h hx hy hc
  cases hb with
  | one ho' hi => rw [ho] at ho'; cases ho'; exact hr _ hi
  | more ho' hm hb => rw [ho] at ho'; cases ho'; exact hS.bef hb (hr _ hm)
theorem DrwOk.sideR {Pr : Program} {Ls : List Nat} {N : Nat} {ds : List Dop} {os : List Oper} (D : DrwOk Pr Ls N ds os) {S : Nat → Prop} (hS : Down os S) {i : Nat} (hn : ¬ S i)
    {x y : Dop} {q : Nat} (hx : ds[q]? = some x) (hy : ds[i]? = some y) (h : i < q) (hc : clash y x = true) : ¬ S q := fun hq => hn (hS.bef (D.ord i q y x h hy hx hc) hq)

end Go.Proofs.YtnoekfkfinjfgaaGreatDoor.Dx

set_option autoImplicit false
set_option linter.unusedSectionVars false
set_option linter.unusedSimpArgs false
set_option linter.unusedVariables false
noncomputable section
namespace Go.Proofs.YtnoekfkfinjfgaaGreatDoor.Dx
open Go
variable [Rho]

section
variable {Pr : Program} {F : Tr Fd} {ih : Ih} {wm : Option P} {out : Out} {eo : Env} {no : P} {ho : Hp}

def DStep (Pr : Program) (wm : Option P) (d : Dop) (o : Oper) (e : Env) (nx : P) (h : Hp) (e' : Env) (nx' : P) (h' : Hp) : Prop :=
  match d with
  | .mk c u b r op => ∃ r1, OpDid Pr o (wmOf r nx wm) (use c e u .nl) nx h op r1 nx' h' ∧ e' = back r1 b e

theorem wmOf_old {r : Bool} {nx nx' : P} {h h' : Hp} (M : MovesC (wmOf r nx wm) nx h nx' h') (hle : ∀ m, wm = some m → m.n ≤ nx.n) : MovesC wm nx h nx' h' := by
  refine ⟨M.le, fun m hm hmn k hk => ?_, M.top⟩
  cases r with
  | false => exact M.old m hm hmn k hk
  | true => exact M.old nx rfl (Nat.le_refl _) k (Nat.lt_of_lt_of_le hk (hle m hm))
theorem DStep.moves {d : Dop} {o : Oper} {e e' : Env} {nx nx' : P} {h h' : Hp} (D : DStep Pr wm d o e nx h e' nx' h') (hle : ∀ m, wm = some m → m.n ≤ nx.n) : MovesC wm nx h nx' h' := by
  obtain ⟨c, u, b, r, op⟩ := d
  obtain ⟨r1, hd, _⟩ := D
  exact wmOf_old hd.moves hle

/-- The states of a run. -/
structure Sts (Pr : Program) (wm : Option P) (ds : List Dop) (os : List Oper) (e : Env) (nx : P) (h : Hp) (E : Nat → Env) (X : Nat → P) (H : Nat → Hp) : Prop where
  e0 : E 0 = e
  x0 : X 0 = nx
  h0 : H 0 = h
  step : ∀ (i : Nat) (d : Dop) (o : Oper), ds[i]? = some d → os[i]? = some o → DStep Pr wm d o (E i) (X i) (H i) (E (i + 1)) (X (i + 1)) (H (i + 1))

theorem dops_sim (hF : FOk Pr F) (hih : IhOk Pr ih) {all : List Oper} {Ls : List Nat} {N : Nat} : ∀ (ds : List Dop) (os : List Oper) (e : Env) (nx : P) (h : Hp) (k : Ko), dopsK ds F ih wm e nx h k = .ok out eo no ho → chkOps Pr Ls N all (ds.map opD) os = true →
    ∃ E X H, Sts Pr wm ds os e nx h E X H ∧ k (E ds.length) (X ds.length) (H ds.length) = .ok out eo no ho
  | [], os, e, nx, h, k, hk, _ => ⟨fun _ => e, fun _ => nx, fun _ => h, ⟨rfl, rfl, rfl, fun i d o hd => by simp at hd⟩, hk⟩
  | d :: ds, [], e, nx, h, k, hk, hc => by simp [chkOps] at hc
  | d :: ds, o :: os, e, nx, h, k, hk, hc => by
    simp only [List.map_cons, chkOps, Bool.and_eq_true] at hc
    obtain ⟨c, u, b, r, op⟩ := d
    change useK c u e .nl (fun r0 => opK op F ih (wmOf r nx wm) r0 nx h fun r1 nx h => backK b r1 e fun e => dopsK ds F ih wm e nx h k) = _ at hk
    rw [useK_eq] at hk
    simp only [backK_eq] at hk
    obtain ⟨r1, nx1, h1, hk1, D⟩ := op_did hF hih hk hc.1
    obtain ⟨E, X, H, st, hk2⟩ := dops_sim hF hih ds os _ nx1 h1 k hk1 hc.2
    refine ⟨fun i => match i with | 0 => e | i + 1 => E i, fun i => match i with | 0 => nx | i + 1 => X i, fun i => match i with | 0 => h | i + 1 => H i, ⟨rfl, rfl, rfl, ?_⟩, hk2⟩
    intro i d' o' hd ho
    cases i with
    | zero =>
      simp at hd ho; subst hd; subst ho
      refine ⟨r1, ?_, st.e0⟩
      show OpDid Pr o (wmOf r nx wm) (use c e u .nl) nx h op r1 (X 0) (H 0)
      rw [st.x0, st.h0]; exact D
    | succ i => exact st.step i d' o' (by simpa using hd) (by simpa using ho)

/-! ### What the states have in common -/

section
variable {ds : List Dop} {os : List Oper} {e : Env} {nx : P} {h : Hp} {E : Nat → Env} {X : Nat → P} {H : Nat → Hp}

theorem Sts.mono (st : Sts Pr wm ds os e nx h E X H) (hl : ds.length = os.length) (hle : ∀ m, wm = some m → m.n ≤ nx.n) : ∀ (n : Nat), n ≤ ds.length → MovesC wm nx h (X n) (H n) := by
  intro n
  induction n with
  | zero => intro _; rw [st.x0, st.h0]; exact MovesC.refl _ _ _
  | succ n ih =>
    intro hn
    have M := ih (by omega)
    have hd := st.step n ds[n] os[n] (List.getElem?_eq_getElem (by omega)) (List.getElem?_eq_getElem (by omega))
    exact M.trans (hd.moves fun m hm => Nat.le_trans (hle m hm) M.le)
theorem Sts.top (st : Sts Pr wm ds os e nx h E X H) (hl : ds.length = os.length) (ht : ∀ k : P, nx.n ≤ k.n → Tr.get? k h = none) : ∀ (n : Nat), n ≤ ds.length → ∀ k : P, (X n).n ≤ k.n → Tr.get? k (H n) = none := by
  intro n
  induction n with
  | zero => intro _; rw [st.x0, st.h0]; exact ht
  | succ n ih =>
    intro hn
    have hd := st.step n ds[n] os[n] (List.getElem?_eq_getElem (by omega)) (List.getElem?_eq_getElem (by omega))
    cases hdd : ds[n] with
    | mk c u b r op => rw [hdd] at hd; obtain ⟨r1, hd, _⟩ := hd; exact hd.moves.top (ih (by omega))
theorem Sts.one_le (st : Sts Pr wm ds os e nx h E X H) (hl : ds.length = os.length) {i : Nat} (hi : i < ds.length) : (X i).n ≤ (X (i + 1)).n := by
  have hd := st.step i ds[i] os[i] (List.getElem?_eq_getElem hi) (List.getElem?_eq_getElem (by omega))
  cases hdd : ds[i] with
  | mk c u b r op => rw [hdd] at hd; obtain ⟨r1, hd, _⟩ := hd; exact hd.moves.le
theorem Sts.le (st : Sts Pr wm ds os e nx h E X H) (hl : ds.length = os.length) {i k : Nat} (hik : i ≤ k) (hk : k ≤ ds.length) : (X i).n ≤ (X k).n := by
  induction k with
  | zero => rw [show i = 0 by omega]; exact Nat.le_refl _
  | succ k ih =>
    rcases Nat.lt_or_ge i (k + 1) with h | h
    · exact Nat.le_trans (ih (by omega) (by omega)) (st.one_le hl (by omega))
    · rw [show i = k + 1 by omega]; exact Nat.le_refl _

theorem backP_ne {p q : P} (h : q ≠ p) (r e : Env) : Tr.get? q (backP p r e) = Tr.get? q e := by
  unfold backP; cases Tr.get? p r with
  | none => rfl
  | some v => exact Tr.get_set_ne h _ _
theorem back_out (r : Env) : ∀ (b : List P) (e : Env) (q : P), q ∉ b → Tr.get? q (back r b e) = Tr.get? q e
  | [], e, q, _ => rfl
  | p :: b, e, q, hq => by
    simp only [back]
    rw [back_out r b _ q (fun h => hq (by simp [h])), backP_ne (fun h => hq (by simp [h]))]
theorem back_none (r : Env) (q : P) (hr : Tr.get? q r = none) : ∀ (b : List P) (e : Env), Tr.get? q (back r b e) = Tr.get? q e
  | [], e => rfl
  | p :: b, e => by
    simp only [back]
    rw [back_none r q hr b]
    by_cases h : q = p
    · subst h; unfold backP; rw [hr]
    · exact backP_ne h _ _
theorem back_in (r : Env) (q : P) {v : DV} (hr : Tr.get? q r = some v) : ∀ (b : List P) (e : Env), q ∈ b → Tr.get? q (back r b e) = some v
  | [], e, hq => by simp at hq
  | p :: b, e, hq => by
    simp only [back]
    by_cases hb : q ∈ b
    · exact back_in r q hr b _ hb
    · rw [back_out r b _ q hb]
      rcases List.mem_cons.1 hq with rfl | h
      · unfold backP; rw [hr]; exact Tr.get_set_self _ _ _
      · exact absurd h hb

theorem Sts.env_stays (st : Sts Pr wm ds os e nx h E X H) (hl : ds.length = os.length) {p : P} {t : Nat} : ∀ (t' : Nat), t ≤ t' → t' ≤ ds.length → (∀ (q : Nat) (d : Dop), t ≤ q → q < t' → ds[q]? = some d → p ∉ backD d) → Tr.get? p (E t') = Tr.get? p (E t) := by
  intro t'
  induction t' with
  | zero => intro h1 _ _; rw [show t = 0 by omega]
  | succ t' ih =>
    intro h1 h2 h3
    rcases Nat.lt_or_ge t (t' + 1) with hlt | hge
    · rw [← ih (by omega) (by omega) (fun q d hq1 hq2 hd => h3 q d hq1 (by omega) hd)]
      have hd := st.step t' ds[t'] os[t'] (List.getElem?_eq_getElem (by omega)) (List.getElem?_eq_getElem (by omega))
      have hp := h3 t' ds[t'] (by omega) (by omega) (List.getElem?_eq_getElem (by omega))
      cases hdd : ds[t'] with
      | mk c u b r op =>
        rw [hdd] at hd hp
        obtain ⟨r1, _, he⟩ := hd
        rw [he]
        exact back_out r1 b _ p hp
    · rw [show t = t' + 1 by omega]
theorem Sts.heap_one (st : Sts Pr wm ds os e nx h E X H) {i : Nat} {d : Dop} {o : Oper} (hd : ds[i]? = some d) (ho : os[i]? = some o) (hw : isW d = false) {k : P} (hk : k.n < (X i).n) : Tr.get? k (H (i + 1)) = Tr.get? k (H i) := by
  have D := st.step i d o hd ho
  obtain ⟨c, u, b, r, op⟩ := d
  obtain ⟨r1, D, _⟩ := D
  generalize hx : X (i + 1) = x at D
  generalize hh : H (i + 1) = hp at D
  cases D with
  | run G S M hs hb =>
    have hr : r = true := by
      cases r with
      | true => rfl
      | false => simp [isW, stillO, isVarO, newO, hs, hb] at hw
    subst hr
    exact M.old (X i) rfl (Nat.le_refl _) k hk
  | nw G W => exact Tr.get_set_ne (by rintro rfl; exact Nat.lt_irrefl _ hk) _ _
  | _ => rfl
theorem Sts.heap_stays (st : Sts Pr wm ds os e nx h E X H) (hl : ds.length = os.length) {k : P} {t : Nat} (hk : k.n < (X t).n) : ∀ (t' : Nat), t ≤ t' → t' ≤ ds.length → (∀ (q : Nat) (d : Dop), t ≤ q → q < t' → ds[q]? = some d → isW d = false) → Tr.get? k (H t') = Tr.get? k (H t) := by
  intro t'
  induction t' with
  | zero => intro h1 _ _; rw [show t = 0 by omega]
  | succ t' ih =>
    intro h1 h2 h3
    rcases Nat.lt_or_ge t (t' + 1) with hlt | hge
    · rw [← ih (by omega) (by omega) (fun q d hq1 hq2 hd => h3 q d hq1 (by omega) hd)]
      exact st.heap_one (List.getElem?_eq_getElem (by omega)) (List.getElem?_eq_getElem (by omega)) (h3 t' ds[t'] (by omega) (by omega) (List.getElem?_eq_getElem (by omega))) (Nat.lt_of_lt_of_le hk (st.le hl (by omega) (by omega)))
    · rw [show t = t' + 1 by omega]

/-- 't' parts those that turn 'p' into what is done and what is not. -/
def VE (ds : List Dop) (S : Nat → Prop) (p : P) (t : Nat) : Prop := ∀ (q : Nat) (d : Dop), ds[q]? = some d → p ∈ backD d → (q < t ↔ S q)
def VT (ds : List Dop) (S : Nat → Prop) (t : Nat) : Prop := ∀ (q : Nat) (d : Dop), ds[q]? = some d → isW d = true → (q < t ↔ S q)
theorem Sts.env_same (st : Sts Pr wm ds os e nx h E X H) (hl : ds.length = os.length) {S : Nat → Prop} {p : P} {t t' : Nat} (ht : t ≤ ds.length) (ht' : t' ≤ ds.length) (h1 : VE ds S p t) (h2 : VE ds S p t') : Tr.get? p (E t') = Tr.get? p (E t) := by
  rcases Nat.le_total t t' with h | h
  · refine st.env_stays hl t' h ht' ?_
    intro q d hq1 hq2 hd hp
    have := (h1 q d hd hp).2 ((h2 q d hd hp).1 hq2); omega
  · refine (st.env_stays hl t h ht ?_).symm
    intro q d hq1 hq2 hd hp
    have := (h2 q d hd hp).2 ((h1 q d hd hp).1 hq2); omega
theorem Sts.heap_same (st : Sts Pr wm ds os e nx h E X H) (hl : ds.length = os.length) {S : Nat → Prop} {k : P} {t t' : Nat} (ht : t ≤ ds.length) (ht' : t' ≤ ds.length) (h1 : VT ds S t) (h2 : VT ds S t') (hk : k.n < (X t).n) (hk' : k.n < (X t').n) : Tr.get? k (H t') = Tr.get? k (H t) := by
  rcases Nat.le_total t t' with h | h
  · refine st.heap_stays hl hk t' h ht' ?_
    intro q d hq1 hq2 hd
    cases hw : isW d with
    | false => rfl
    | true => have := (h1 q d hd hw).2 ((h2 q d hd hw).1 hq2); omega
  · refine (st.heap_stays hl hk' t h ht ?_).symm
    intro q d hq1 hq2 hd
    cases hw : isW d with
    | false => rfl
    | true => have := (h2 q d hd hw).2 ((h1 q d hd hw).1 hq2); omega

/-! what an operation looks at -/
theorem useP_sub {e acc : Env} {p : P} (ha : ∀ q v, Tr.get? q acc = some v → Tr.get? q e = some v) : ∀ q v, Tr.get? q (useP true p e acc) = some v → Tr.get? q e = some v := by
  intro q v hv
  unfold useP at hv
  cases hp : Tr.get? p e with
  | none => rw [hp] at hv; exact ha q v hv
  | some u =>
    rw [hp] at hv
    have set : ∀ u, Tr.get? p e = some u → Tr.get? q (Tr.set p acc (some u)) = some v → Tr.get? q e = some v := by
      intro u hu hv
      by_cases hq : q = p
      · subst hq; rw [Tr.get_set_self] at hv; cases hv; exact hu
      · rw [Tr.get_set_ne hq] at hv; exact ha q v hv
    cases u
    case fld q' o =>
      simp only [] at hv
      cases hq' : Tr.get? q' acc with
      | none => rw [hq'] at hv; exact ha q v hv
      | some x =>
        rw [hq'] at hv
        cases x <;> first | exact ha q v hv | exact set _ hp hv
    all_goals exact set _ hp hv
theorem useP_fld {e acc : Env} {p : P} (hae : ∀ q v, Tr.get? q acc = some v → Tr.get? q e = some v) (ha : ∀ q q' o, Tr.get? q acc = some (.fld q' o) → isVar q' acc) : ∀ q q' o, Tr.get? q (useP true p e acc) = some (.fld q' o) → isVar q' (useP true p e acc) := by
  intro q q' o hv
  unfold useP at hv ⊢
  cases hp : Tr.get? p e with
  | none => rw [hp] at hv; exact ha q q' o hv
  | some u =>
    rw [hp] at hv
    -- a variable stays one
    have keepv : ∀ u q', Tr.get? p e = some u → isVar q' acc → isVar q' (Tr.set p acc (some u)) := by
      rintro u q' hu ⟨l, hl⟩
      by_cases hq : q' = p
      · subst hq
        have := hae _ _ hl
        rw [hu] at this; cases this
        exact ⟨l, Tr.get_set_self _ _ _⟩
      · exact ⟨l, by rw [Tr.get_set_ne hq]; exact hl⟩
    have set : ∀ u, Tr.get? p e = some u → (∀ q' o, u = .fld q' o → isVar q' acc) → Tr.get? q (Tr.set p acc (some u)) = some (.fld q' o) → isVar q' (Tr.set p acc (some u)) := by
      intro u hu hf hv
      by_cases hq : q = p
      · subst hq
        rw [Tr.get_set_self] at hv; cases hv
        exact keepv _ _ hu (hf _ _ rfl)
      · rw [Tr.get_set_ne hq] at hv; exact keepv _ _ hu (ha q q' o hv)
    cases u
    case fld q'' o' =>
      simp only [] at hv ⊢
      cases hq' : Tr.get? q'' acc with
      | none => rw [hq'] at hv; exact ha q q' o hv
      | some x =>
        rw [hq'] at hv
        cases x
        case var l => exact set _ hp (fun q3 o3 h => by cases h; exact ⟨l, hq'⟩) hv
        all_goals exact ha q q' o hv
    all_goals exact set _ hp (fun _ _ h => by cases h) hv
theorem use_sub {e : Env} : ∀ (u : List P) (acc : Env), (∀ q v, Tr.get? q acc = some v → Tr.get? q e = some v) → ∀ q v, Tr.get? q (use true e u acc) = some v → Tr.get? q e = some v
  | [], acc, ha => ha
  | p :: u, acc, ha => use_sub u _ (useP_sub ha)
theorem use_fld {e : Env} : ∀ (u : List P) (acc : Env), (∀ q v, Tr.get? q acc = some v → Tr.get? q e = some v) → (∀ q q' o, Tr.get? q acc = some (.fld q' o) → isVar q' acc) → ∀ q q' o, Tr.get? q (use true e u acc) = some (.fld q' o) → isVar q' (use true e u acc)
  | [], acc, _, ha => ha
  | p :: u, acc, hae, ha => use_fld u _ (useP_sub hae) (useP_fld hae ha)
theorem use_only {e : Env} : ∀ (u : List P) (acc : Env) (q : P) (v : DV), Tr.get? q (use true e u acc) = some v → Tr.get? q acc = some v ∨ q ∈ u
  | [], acc, q, v, h => .inl h
  | p :: u, acc, q, v, h => by
    rcases use_only u _ q v h with h1 | h1
    · by_cases hq : q = p
      · exact .inr (by simp [hq])
      · left
        rw [← h1]
        unfold useP
        cases hp : Tr.get? p e with
        | none => rfl
        | some x =>
          cases x
          case fld q' o =>
            simp only []
            cases hq' : Tr.get? q' acc with
            | none => rfl
            | some y => cases y <;> first | rfl | exact (Tr.get_set_ne hq _ _).symm
          all_goals exact (Tr.get_set_ne hq _ _).symm
    · exact .inr (by simp [h1])
theorem use_var {e : Env} : ∀ (u : List P) (acc : Env) (q : P) (l : List DV), (∀ q v, Tr.get? q acc = some v → Tr.get? q e = some v) → Tr.get? q e = some (.var l) → (q ∈ u ∨ Tr.get? q acc = some (.var l)) → Tr.get? q (use true e u acc) = some (.var l)
  | [], acc, q, l, _, hq, h => by
    rcases h with h | h
    · simp at h
    · exact h
  | p :: u, acc, q, l, hae, hq, h => by
    refine use_var u _ q l (useP_sub hae) hq ?_
    by_cases hqu : q ∈ u
    · exact .inl hqu
    · right
      by_cases hqp : q = p
      · subst hqp
        unfold useP; rw [hq]; exact Tr.get_set_self _ _ _
      · have h' : Tr.get? q acc = some (.var l) := by
          rcases h with h | h
          · simp [hqp, hqu] at h
          · exact h
        rw [← h']
        unfold useP
        cases hp : Tr.get? p e with
        | none => rfl
        | some x =>
          cases x
          case fld q' o =>
            simp only []
            cases hq' : Tr.get? q' acc with
            | none => rfl
            | some y => cases y <;> first | rfl | exact Tr.get_set_ne hqp _ _
          all_goals exact Tr.get_set_ne hqp _ _
end
end
end Go.Proofs.YtnoekfkfinjfgaaGreatDoor.Dx

set_option autoImplicit false
set_option linter.unusedSectionVars false
set_option linter.unusedSimpArgs false
set_option linter.unusedVariables false
noncomputable section
namespace Go.Proofs.YtnoekfkfinjfgaaGreatDoor.Dx
open Go
variable [Rho]

section
variable {Pr : Program} {wm : Option P} {ds : List Dop} {os : List Oper} {e : Env} {nx : P} {h : Hp} {E : Nat → Env} {X : Nat → P} {H : Nat → Hp} {Ls : List Nat} {N hi : Nat} {j0 : J} {pv0 : P → Option Nat} {a0 : Act} {w0 : World}

/-- Behind those of 'S'. -/
structure Inv (ds : List Dop) (E : Nat → Env) (X : Nat → P) (H : Nat → Hp) (Ls : List Nat) (N hi : Nat) (j0 : J) (pv0 : P → Option Nat) (a0 : Act) (w0 : World) (S : Nat → Prop) (j : J) (pv : P → Option Nat) (a : Act) (w : World) : Prop where
  fresh : ∀ k i, j k = some i → k.n < (X 0).n ∨ (∃ m, m < ds.length ∧ S m ∧ (X m).n ≤ k.n ∧ k.n < (X (m + 1)).n) ∨ hi ≤ k.n
  heap : ∀ k i t, j k = some i → k.n < (X ds.length).n → t ≤ ds.length → VT ds S t → k.n < (X t).n → HR j (H t) w k i
  new : ∀ m d k i, ds[m]? = some d → isN d = true → S m → (∀ q y, ds[q]? = some y → isW y = true → m < q → ¬ S q) → (X m).n ≤ k.n → k.n < (X (m + 1)).n → j k = some i → HR j (H (m + 1)) w k i
  inj : ∀ k k' b s c s' c', j k = some (.at b s c) → j k' = some (.at b s' c') → k = k'
  inr : ∀ k k' b s c s', j k = some (.at b s c) → j k' = some (.ro b s') → False
  env : ∀ p t v, t ≤ ds.length → VE ds S p t → Tr.get? p (E t) = some v → ER j pv w a.tmps p v
  pvv : ∀ p b t, t ≤ ds.length → VE ds S p t → pv p = some b → isVar p (E t)
  loc : ∀ p l t, t ≤ ds.length → VE ds S p t → Tr.get? p (E t) = some (.var l) → vars Ls p
  pin : ∀ p q b, pv p = some b → pv q = some b → p = q
  pfr : ∀ p b, pv p = some b → ∀ k s c, j k ≠ some (.at b s c)
  pfo : ∀ p b, pv p = some b → ∀ k s, j k ≠ some (.ro b s)
  plt : ∀ p b, pv p = some b → b < w.heap.size
  size : a.tmps.size = N
  lt : ∀ k b s c, j k = some (.at b s c) → b < w.heap.size
  lr : ∀ k b s, j k = some (.ro b s) → b < w.heap.size
  fr : Fr hi (X 0).n j0 pv0 w0 j pv w
  defers : a.defers = a0.defers
  maps : Maps j w
  pfm : ∀ p b, pv p = some b → ∀ k, j k ≠ some (.mp b)
  pk : PvK pv0 pv

theorem Inv.start (st : Sts Pr wm ds os e nx h E X H) (hl : ds.length = os.length) (R : Rel (vars Ls) N hi j0 pv0 e nx h a0 w0) (hnh : (X ds.length).n ≤ hi) : Inv ds E X H Ls N hi j0 pv0 a0 w0 (fun _ => False) j0 pv0 a0 w0 where
  fresh := fun k i hk => by
    rw [st.x0]
    rcases R.fresh k i hk with h | h
    · exact .inl h
    · exact .inr (.inr h)
  heap := fun k i t hk hkn ht hv hkt => by
    have hk0 : k.n < (X 0).n := by
      rw [st.x0]
      rcases R.fresh k i hk with h | h
      · exact h
      · omega
    have h0 : HR j0 (H 0) w0 k i := by rw [st.h0]; exact R.heap k i hk (by rw [← st.x0]; exact hk0)
    exact HR.of_heap (Ext.refl _) (st.heap_same hl (Nat.zero_le _) ht (fun q d _ _ => ⟨fun h => absurd h (Nat.not_lt_zero _), fun h => h.elim⟩) hv hk0 hkt) (Nat.le_refl _) (fun _ _ => rfl) (fun _ _ _ _ h => h) h0
  new := fun m d k i _ _ hS => hS.elim
  inj := R.inj
  inr := R.inr
  env := fun p t v ht hv hp => by
    rw [st.env_same hl (Nat.zero_le _) ht (fun q d _ _ => ⟨fun h => absurd h (Nat.not_lt_zero _), fun h => h.elim⟩) hv, st.e0] at hp
    exact R.env p v hp
  pvv := fun p b t ht hv hp => by
    obtain ⟨l, hl'⟩ := R.pvv p b hp
    refine ⟨l, ?_⟩
    rw [st.env_same hl (Nat.zero_le _) ht (fun q d _ _ => ⟨fun h => absurd h (Nat.not_lt_zero _), fun h => h.elim⟩) hv, st.e0]
    exact hl'
  loc := fun p l t ht hv hp => by
    rw [st.env_same hl (Nat.zero_le _) ht (fun q d _ _ => ⟨fun h => absurd h (Nat.not_lt_zero _), fun h => h.elim⟩) hv, st.e0] at hp
    exact R.loc p l hp
  pin := R.pin
  pfr := R.pfr
  pfo := R.pfo
  plt := fun p b hp => by
    obtain ⟨l, hl'⟩ := R.pvv p b hp
    obtain ⟨b', hb', _, hlies, _⟩ := R.env p _ hl'
    rw [hp] at hb'; cases hb'; exact hlies.lt
  size := R.size
  lt := R.lt
  lr := R.lr
  fr := by rw [st.x0]; exact Fr.refl _ _ _ _ _
  defers := rfl
  maps := R.maps
  pfm := R.pfm
  pk := fun _ _ h => h

theorem Inv.finish (st : Sts Pr wm ds os e nx h E X H) (hl : ds.length = os.length) (ht : ∀ k : P, nx.n ≤ k.n → Tr.get? k h = none) {S : Nat → Prop} {j : J} {pv : P → Option Nat} {a : Act} {w : World} (I : Inv ds E X H Ls N hi j0 pv0 a0 w0 S j pv a w) (hS : ∀ q, q < ds.length → S q) :
    Rel (vars Ls) N hi j pv (E ds.length) (X ds.length) (H ds.length) a w ∧ Fr hi nx.n j0 pv0 w0 j pv w ∧ a.defers = a0.defers ∧ PvK pv0 pv := by
  have hlt : ∀ (q : Nat) (d : Dop), ds[q]? = some d → q < ds.length := fun q d hd => (List.getElem?_eq_some_iff.1 hd).1
  have hve : ∀ p, VE ds S p ds.length := fun p q d hd _ => ⟨fun _ => hS q (hlt q d hd), fun _ => hlt q d hd⟩
  have hvt : VT ds S ds.length := fun q d hd _ => ⟨fun _ => hS q (hlt q d hd), fun _ => hlt q d hd⟩
  refine ⟨?_, by rw [← st.x0]; exact I.fr, I.defers, I.pk⟩
  constructor
  · intro k i hk
    rcases I.fresh k i hk with h | ⟨m, hm, _, _, h⟩ | h
    · exact .inl (Nat.lt_of_lt_of_le h (st.le hl (Nat.zero_le _) (Nat.le_refl _)))
    · exact .inl (Nat.lt_of_lt_of_le h (st.le hl (by omega) (Nat.le_refl _)))
    · exact .inr h
  · intro k i hk hkn
    exact I.heap k i _ hk hkn (Nat.le_refl _) hvt hkn
  · exact I.inj
  · exact I.inr
  · intro p v hv; exact I.env p _ v (Nat.le_refl _) (hve p) hv
  · intro p b hp; exact I.pvv p b _ (Nat.le_refl _) (hve p) hp
  · exact I.pin
  · exact I.pfr
  · exact I.pfo
  · intro p l hp; exact I.loc p l _ (Nat.le_refl _) (hve p) hp
  · exact I.size
  · exact I.lt
  · exact I.lr
  · exact st.top hl ht ds.length (Nat.le_refl _)
  · exact I.maps
  · exact I.pfm

/-- One more is done. -/
def addS (S : Nat → Prop) (i : Nat) : Nat → Prop := fun q => S q ∨ q = i

theorem ER_not {j : J} {pv : P → Option Nat} {w : World} {tm : Array Value} {p : P} {v : DV} (hv : ∀ l, v ≠ .var l) : ER j pv w tm p v = XD j pv v (tm.getD p.n undef) := by
  cases v <;> first | rfl | exact absurd rfl (hv _)
theorem ER.pvmono {j : J} {pv pv' : P → Option Nat} {w : World} {tm : Array Value} {p : P} {v : DV} (hp : ∀ p b, pv p = some b → pv' p = some b) (H : ER j pv w tm p v) : ER j pv' w tm p v := by
  cases v
  case var l => obtain ⟨b, hb, r⟩ := H; exact ⟨b, hp _ _ hb, r⟩
  case fld q o => obtain ⟨b, hb, r⟩ := H; exact ⟨b, hp _ _ hb, r⟩
  all_goals exact H
theorem ER.tmps {j : J} {pv : P → Option Nat} {w : World} {tm tm' : Array Value} {p : P} {v : DV} (ht : tm'.getD p.n undef = tm.getD p.n undef) (H : ER j pv w tm p v) : ER j pv w tm' p v := by
  cases v
  case var l => obtain ⟨b, hb, h1, r⟩ := H; exact ⟨b, hb, by rw [ht]; exact h1, r⟩
  all_goals (rw [ER_not (by intro l h; cases h)] at H ⊢; rw [ht]; exact H)

theorem Inv.next (st : Sts Pr wm ds os e nx h E X H) (hl : ds.length = os.length) (hnh : (X ds.length).n ≤ hi) {S : Nat → Prop} {j : J} {pv : P → Option Nat} {a : Act} {w : World} (I : Inv ds E X H Ls N hi j0 pv0 a0 w0 S j pv a w)
    {i : Nat} {c : Bool} {u b : List P} {r : Bool} {op : Op} (hd : ds[i]? = some (.mk c u b r op)) (hn : ¬ S i)
    (side : ∀ (q : Nat) (x : Dop), ds[q]? = some x → clashE x (.mk c u b r op) = true → (q < i ↔ S q))
    (hdb : ∀ p ∈ dstO op, p ∈ b) (hbu : ∀ p ∈ b, p ∈ u ∨ p ∈ dstO op)
    {r1 : Env} (hE : E (i + 1) = back r1 b (E i))
    {j' : J} {pv1 pv' : P → Option Nat} {a' : Act} {w' : World}
    (hjx : Ext j j') (hsize : w.heap.size ≤ w'.heap.size)
    (heap : ∀ k x t, j' k = some x → k.n < (X ds.length).n → t ≤ ds.length → VT ds (addS S i) t → k.n < (X t).n → HR j' (H t) w' k x)
    (hnew : ∀ m d k x, ds[m]? = some d → isN d = true → addS S i m → (∀ q y, ds[q]? = some y → isW y = true → m < q → ¬ addS S i q) → (X m).n ≤ k.n → k.n < (X (m + 1)).n → j' k = some x → HR j' (H (m + 1)) w' k x)
    (fresh : ∀ k x, j' k = some x → j k = some x ∨ j k ≠ none ∨ ((X i).n ≤ k.n ∧ k.n < (X (i + 1)).n))
    (inj : ∀ k k' b s c s' c', j' k = some (.at b s c) → j' k' = some (.at b s' c') → k = k')
    (inr : ∀ k k' b s c s', j' k = some (.at b s c) → j' k' = some (.ro b s') → False)
    (lt : ∀ k b s c, j' k = some (.at b s c) → b < w'.heap.size)
    (lr : ∀ k b s, j' k = some (.ro b s) → b < w'.heap.size)
    (henv1 : ∀ p v, Tr.get? p r1 = some v → ER j' pv1 w' a'.tmps p v)
    (hpvv1 : ∀ p b, pv1 p = some b → isVar p r1)
    (hloc1 : ∀ p l, Tr.get? p r1 = some (.var l) → vars Ls p)
    (hpin1 : ∀ p q b, pv1 p = some b → pv1 q = some b → p = q)
    (hpfr : ∀ p b, pv' p = some b → ∀ k s c, j' k ≠ some (.at b s c))
    (hpfo : ∀ p b, pv' p = some b → ∀ k s, j' k ≠ some (.ro b s))
    (hp1 : ∀ p b, pv1 p = some b → pv' p = some b)
    (hp2 : ∀ p, p ∉ dstO op → pv' p = pv p)
    (hp3 : ∀ p ∈ dstO op, ∀ b, pv' p = some b → pv1 p = some b)
    (hp4 : ∀ p b, p ∈ u → p ∉ dstO op → pv p = some b → pv1 p = some b)
    (hp5 : ∀ p b, pv1 p = some b → pv p = some b ∨ w.heap.size ≤ b)
    (hp6 : ∀ p b, pv1 p = some b → b < w'.heap.size)
    (hp7 : ∀ p ∈ dstO op, pv p = none)
    (hr1 : ∀ p ∈ b, ∀ v, Tr.get? p (E i) = some v → Tr.get? p r1 = none → p ∉ dstO op ∧ ∀ l, v ≠ .var l)
    (htm : ∀ p, p ∉ dstO op → a'.tmps.getD p.n undef = a.tmps.getD p.n undef)
    (hblk : ∀ p x, pv p = some x → p ∉ b → w'.heap[x]? = w.heap[x]?)
    (maps : Maps j' w') (hpfm : ∀ p b, pv' p = some b → ∀ k, j' k ≠ some (.mp b))
    (size : a'.tmps.size = N) (hfr : Fr hi (X i).n j pv w j' pv' w') (hdf : a'.defers = a.defers) :
    Inv ds E X H Ls N hi j0 pv0 a0 w0 (addS S i) j' pv' a' w' := by
  have hil : i < ds.length := (List.getElem?_eq_some_iff.1 hd).1
  have hSi : ∀ q, q ≠ i → (addS S i q ↔ S q) := fun q hq => ⟨fun h => h.elim id (fun h => absurd h hq), .inl⟩
  -- where 'i' turns 'p', it stands last
  have ve1 : ∀ p, p ∈ b → VE ds (addS S i) p (i + 1) := by
    intro p hp q x hx hpx
    by_cases hq : q = i
    · subst hq; exact ⟨fun _ => .inr rfl, fun _ => by omega⟩
    · have := side q x hx (by unfold clashE; rw [Bool.or_eq_true]; exact .inr (anyP_of hpx hp))
      rw [hSi q hq, ← this]; omega
  have ve0 : ∀ p, p ∈ b → VE ds S p i := by
    intro p hp q x hx hpx
    exact side q x hx (by unfold clashE; rw [Bool.or_eq_true]; exact .inr (anyP_of hpx hp))
  have veo : ∀ p t, p ∉ b → VE ds (addS S i) p t → VE ds S p t := by
    intro p t hp hv q x hx hpx
    have hq : q ≠ i := by rintro rfl; rw [hd] at hx; cases hx; exact hp hpx
    rw [← hSi q hq]; exact hv q x hx hpx
  have bval : ∀ p t, p ∈ b → t ≤ ds.length → VE ds (addS S i) p t → Tr.get? p (E t) = (match Tr.get? p r1 with | some v => some v | none => Tr.get? p (E i)) := by
    intro p t hp ht hv
    rw [st.env_same hl (by omega) ht (ve1 p hp) hv, hE]
    cases hr : Tr.get? p r1 with
    | none => exact back_none r1 p hr b _
    | some v => exact back_in r1 p hr b _ hp
  have keepER : ∀ p v, p ∉ dstO op → (∀ l, v = .var l → p ∉ b) → ER j pv w a.tmps p v → ER j' pv' w' a'.tmps p v := by
    intro p v hp hv H
    refine ER.tmps (htm p hp) ?_
    cases v
    case var l =>
      have hpb := hv l rfl
      obtain ⟨bb, hb, h1, h2, h3⟩ := H
      have hh := hblk p bb hb hpb
      exact ⟨bb, by rw [hp2 p hp]; exact hb, h1, h2.of_heap hsize hh, (h3.mono hjx).of_heap hh⟩
    case fld q o =>
      obtain ⟨bb, hb, h1⟩ := H
      by_cases hq : q ∈ dstO op
      · rw [hp7 q hq] at hb; cases hb
      · exact ⟨bb, by rw [hp2 q hq]; exact hb, h1⟩
    all_goals exact VR.mono hjx H
  constructor
  · intro k x hk
    rcases fresh k x hk with h1 | h1 | ⟨h1, h2⟩
    · rcases I.fresh k x h1 with h2 | ⟨m, hm, hS, h2⟩ | h2
      · exact .inl h2
      · exact .inr (.inl ⟨m, hm, .inl hS, h2⟩)
      · exact .inr (.inr h2)
    · cases hj : j k with
      | none => exact absurd hj h1
      | some y =>
        rcases I.fresh k y hj with h2 | ⟨m, hm, hS, h2⟩ | h2
        · exact .inl h2
        · exact .inr (.inl ⟨m, hm, .inl hS, h2⟩)
        · exact .inr (.inr h2)
    · exact .inr (.inl ⟨i, hil, .inr rfl, h1, h2⟩)
  · exact heap
  · exact hnew
  · exact inj
  · exact inr
  · intro p t v ht hv hp
    by_cases hpb : p ∈ b
    · rw [bval p t hpb ht hv] at hp
      cases hr : Tr.get? p r1 with
      | some y =>
        rw [hr] at hp
        simp only [Option.some.injEq] at hp; subst hp
        exact ER.pvmono hp1 (henv1 p _ hr)
      | none =>
        rw [hr] at hp
        simp only [] at hp
        obtain ⟨h1, h2⟩ := hr1 p hpb v hp hr
        exact keepER p v h1 (fun l hl' => absurd hl' (h2 l)) (I.env p i v (by omega) (ve0 p hpb) hp)
    · exact keepER p v (fun h' => hpb (hdb p h')) (fun _ _ => hpb) (I.env p t v ht (veo p t hpb hv) hp)
  · intro p x t ht hv hp
    by_cases hpb : p ∈ b
    · have h1 : pv1 p = some x := by
        by_cases hpd : p ∈ dstO op
        · exact hp3 p hpd x hp
        · rcases hbu p hpb with hu | hu
          · exact hp4 p x hu hpd (by rw [← hp2 p hpd]; exact hp)
          · exact absurd hu hpd
      obtain ⟨l, hl1⟩ := hpvv1 p x h1
      refine ⟨l, ?_⟩
      rw [bval p t hpb ht hv, hl1]
    · exact I.pvv p x t ht (veo p t hpb hv) (by rw [← hp2 p (fun h' => hpb (hdb p h'))]; exact hp)
  · intro p l t ht hv hp
    by_cases hpb : p ∈ b
    · rw [bval p t hpb ht hv] at hp
      cases hr : Tr.get? p r1 with
      | some y =>
        rw [hr] at hp
        simp only [Option.some.injEq] at hp; subst hp
        exact hloc1 p l hr
      | none =>
        rw [hr] at hp
        exact I.loc p l i (by omega) (ve0 p hpb) hp
    · exact I.loc p l t ht (veo p t hpb hv) hp
  · intro p q x hp hq
    by_cases hpd : p ∈ dstO op <;> by_cases hqd : q ∈ dstO op
    · exact hpin1 p q x (hp3 p hpd x hp) (hp3 q hqd x hq)
    · have h1 := hp3 p hpd x hp
      rw [hp2 q hqd] at hq
      rcases hp5 p x h1 with h2 | h2
      · rw [hp7 p hpd] at h2; cases h2
      · have := I.plt q x hq; omega
    · have h1 := hp3 q hqd x hq
      rw [hp2 p hpd] at hp
      rcases hp5 q x h1 with h2 | h2
      · rw [hp7 q hqd] at h2; cases h2
      · have := I.plt p x hp; omega
    · rw [hp2 p hpd] at hp; rw [hp2 q hqd] at hq; exact I.pin p q x hp hq
  · exact hpfr
  · exact hpfo
  · intro p x hp
    by_cases hpd : p ∈ dstO op
    · exact hp6 p x (hp3 p hpd x hp)
    · rw [hp2 p hpd] at hp; exact Nat.lt_of_lt_of_le (I.plt p x hp) hsize
  · exact size
  · exact lt
  · exact lr
  · exact I.fr.trans hfr (st.le hl (Nat.zero_le _) (by omega))
  · rw [hdf]; exact I.defers
  · exact maps
  · exact hpfm
  · intro p x hp
    have h0 := I.pk p x hp
    by_cases hpd : p ∈ dstO op
    · rw [hp7 p hpd] at h0; cases h0
    · rw [hp2 p hpd]; exact h0
end
end Go.Proofs.YtnoekfkfinjfgaaGreatDoor.Dx
