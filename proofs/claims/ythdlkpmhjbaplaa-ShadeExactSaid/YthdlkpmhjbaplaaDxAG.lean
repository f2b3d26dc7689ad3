/- The small machine's regions whose order is told, beside Go's; less of a frame. No statement of this seat is proved here. -/
import Derived.Test.YthdlkpmhjbaplaaDxAF
set_option autoImplicit false
noncomputable section
namespace Go.Proofs.Ythdlkpmhjbaplaa.Dx
open Go

section
variable {Pr : Program} {F : Tr Fd} {ih : Ih} {wm : Option P} {e : Env} {nx : P} {h : Hp} {out : Out} {eo : Env} {no : P} {ho : Hp} {o : Oper}

theorem OpDid.moves {op : Op} {e' : Env} {nx' : P} {h' : Hp} (D : OpDid Pr o wm e nx h op e' nx' h') : MovesC wm nx h nx' h' := by
  cases D with
  | run G S M hs => exact M.c
  | _ => exact MovesC.refl _ _ _

theorem beqT {a b : Nat} (h : Nat.beq a b = true) : a = b := Nat.eq_of_beq_eq_true h
theorem okDst_some {Ls : List Nat} {N : Nat} {d : P} {d' : Option Nat} (h : okDst Ls N (some d) d' = true) : d' = some d.n ∧ ¬ vars Ls d ∧ d.n < N := by
  cases d' with
  | none => simp [okDst] at h
  | some t =>
    simp only [okDst, Bool.and_eq_true, Nat.ble_eq, Bool.not_eq_true'] at h
    have h1 := beqT h.1.1
    subst h1
    exact ⟨rfl, fun hv => by unfold vars at hv; rw [hv] at h; exact absurd h.2 (by decide), h.1.2⟩
theorem okDst_none {Ls : List Nat} {N : Nat} {d' : Option Nat} (h : okDst Ls N none d' = true) : d' = none := by
  cases d' with
  | none => rfl
  | some t => simp [okDst] at h
theorem okLoc_spec {Ls : List Nat} {N : Nat} {p : P} (h : okLoc Ls N p o = true) : o.dst = some p.n ∧ vars Ls p ∧ p.n < N ∧ o.guard = none := by
  unfold okLoc at h
  simp only [Bool.and_eq_true] at h
  cases hd : o.dst with
  | none => simp [hd] at h
  | some t =>
    simp only [hd, Bool.and_eq_true, Nat.ble_eq] at h
    have h1 := beqT h.1.1.1
    subst h1
    refine ⟨rfl, h.1.2, h.1.1.2, ?_⟩
    cases hg : o.guard with
    | none => rfl
    | some g => simp [hg] at h

/-- A value put where an operation's own goes. -/
theorem Rel.dst {Ls : List Nat} {N hi : Nat} {j : J} {pv : P → Option Nat} {a : Act} {w : World} (R : Rel (vars Ls) N hi j pv e nx h a w) {dst : Option P} {d' : Option Nat} (hd : okDst Ls N dst d' = true) {v : DV} {v' : Value} (hv : XD j pv v v') :
    Rel (vars Ls) N hi j pv (dstE dst v e) nx h (a.put d' v') w := by
  cases dst with
  | none => rw [okDst_none hd]; exact R
  | some d => obtain ⟨h1, h2, h3⟩ := okDst_some hd; rw [h1]; exact R.put h2 h3 hv
theorem wanted_none {ops : Array Oper} (hg : o.guard = none) (tm : Array Value) : Region.wanted o (yielded ops tm) = true := by unfold Region.wanted; rw [hg]
theorem run_alloc_al {w : World} {ρ : Operand → Value} {t : Nat} {it : TypeInfo} {zv : Value} (ho : o.op = .alloc t) (hi : Pr.info? t = some it) (hz : it.zero = some zv) :
    (execOp ρ o).run Pr w = .ok (.value (.pointer (some ⟨w.heap.size, 0, none⟩))) (w.alloc (.cells zv.cells t)) := by
  simp only [execOp, ho, Instr.alloc, Sem.run_bind, zeroValue, typeInfo, run_program, Result.andThen_ok, hi, Sem.run_pure, hz, newVar, newRow, run_newObj]
  rfl
theorem run_box_bx {w : World} {ρ : Operand → Value} {t : Nat} {x : Operand} (ho : o.op = .box t x) :
    (execOp ρ o).run Pr w = .ok (.value (.pointer (some ⟨w.heap.size, 0, none⟩))) (w.alloc (.cells (ρ x).cells t)) := by
  simp only [execOp, ho, Instr.box, Sem.run_bind, newVar, newRow, run_newObj, Result.andThen_ok, Sem.run_pure]
  rfl
theorem OpDid.wp {op : Op} {e' : Env} {nx' : P} {h' : Hp} (D : OpDid Pr o wm e nx h op e' nx' h') {ops : Array Oper} {Ls : List Nat} {N : Nat} (hc : chkOp Pr Ls N ops.toList op o = true) {hi : Nat} {j : J} {pv : P → Option Nat} {a : Act} {w : World}
    (R : Rel (vars Ls) N hi j pv e nx h a w) (hnh : nx'.n ≤ hi) {K : Act → World → Prop} {Q : Exit → Act → World → Prop}
    (hK : ∀ j' pv' a' w', Rel (vars Ls) N hi j' pv' e' nx' h' a' w' → Fr hi nx.n j pv w j' pv' w' → a'.defers = a.defers → K a' w') : OperWp Pr ops o K Q a w := by
  unfold OperWp
  cases D with
  | run G S M hs =>
    simp only [chkOp, Bool.and_eq_true] at hc
    rw [G.wanted R.reads hc.1.2 rfl, if_pos rfl]
    refine S (vars Ls) N hi j pv a w R hnh K Q ?_
    intro j' w' v' R' F' hx
    exact hK j' pv _ w' (R'.dst hc.1.1 hx) F' (put_defers _ _ _)
  | still G S hs =>
    simp only [chkOp, Bool.and_eq_true] at hc
    rw [G.wanted R.reads hc.1.2 rfl, if_pos rfl]
    refine S.op (vars Ls) N hi j pv a w R hnh K Q ?_
    intro j' w' v' R' F' hx
    exact hK j' pv _ w' (R'.dst hc.1.1 hx) F' (put_defers _ _ _)
  | pass G =>
    simp only [chkOp, Bool.and_eq_true] at hc
    rw [G.wanted R.reads hc.1.2 rfl, if_neg (by decide)]
    exact hK j pv _ w (R.dst hc.1.1 (v := .tup []) (VR.tup (l' := []) .nil)) (Fr.refl _ _ _ _ _) (put_defers _ _ _)
  | loc hv =>
    simp only [chkOp, Bool.and_eq_true] at hc
    obtain ⟨h1, h2, h3, h4⟩ := okLoc_spec hc.1
    have hcm := hc.2
    cases hop : o.op <;> simp only [chkMem, hop, Bool.false_eq_true] at hcm
    rename_i t
    cases hit : Pr.info? t with
    | none => simp [hit] at hcm
    | some it =>
      cases hz : it.zero with
      | none => simp [hit, hz] at hcm
      | some zv =>
        simp only [hit, hz] at hcm
        rw [wanted_none h4, if_pos rfl]
        unfold Oper.wp
        rw [run_alloc_al hop hit hz, Oper.upon_value, h1]
        obtain ⟨R', F'⟩ := R.var_new h2 h3 hv (okCs_sound j _ _ hcm) (t := t)
        exact hK j _ _ _ R' F' (put_defers _ _ _)
  | locb hv hcells =>
    simp only [chkOp, Bool.and_eq_true] at hc
    obtain ⟨h1, h2, h3, h4⟩ := okLoc_spec hc.1
    have hcm := hc.2
    cases hop : o.op <;> simp only [chkMem, hop, Bool.false_eq_true] at hcm
    rename_i t x
    rw [wanted_none h4, if_pos rfl]
    unfold Oper.wp
    rw [run_box_bx hop, Oper.upon_value, h1]
    obtain ⟨R', F'⟩ := R.var_new h2 h3 hv ((R.reads.ov hcm).cells hcells) (t := t)
    exact hK j _ _ _ R' F' (put_defers _ _ _)

/-- Operations in the order of the text. -/
theorem ops_sim (hF : FOk Pr F) (hih : IhOk Pr ih) {ops : Array Oper} {Ls : List Nat} {N : Nat} : ∀ (l : List Op) (i : Nat) (e : Env) (nx : P) (h : Hp) (k : Ko), opsK l F ih wm e nx h k = .ok out eo no ho → chkOps Pr Ls N ops.toList l (ops.toList.drop i) = true →
    ∃ e' nx' h', k e' nx' h' = .ok out eo no ho ∧ MovesC wm nx h nx' h' ∧ ∀ (hi : Nat) (j : J) (pv : P → Option Nat) (a : Act) (w : World), Rel (vars Ls) N hi j pv e nx h a w → nx'.n ≤ hi → ∀ Q : Exit → Act → World → Prop,
      (∀ j' pv' a' w', Rel (vars Ls) N hi j' pv' e' nx' h' a' w' → Fr hi nx.n j pv w j' pv' w' → a'.defers = a.defers → Q .normal a' w') → wpOps Pr ops Q (List.range' i (ops.size - i)) a w
  | [], i, e, nx, h, k, H, hc => by
    refine ⟨e, nx, h, H, MovesC.refl _ _ _, ?_⟩
    intro hi j pv a w R hnh Q hQ
    have hsz : ops.size - i = 0 := by
      cases hd : ops.toList.drop i with
      | nil => have := List.drop_eq_nil_iff.1 hd; simp at this; omega
      | cons x l => rw [hd] at hc; simp [chkOps] at hc
    rw [hsz]
    exact hQ j pv a w R (Fr.refl _ _ _ _ _) rfl
  | op :: l, i, e, nx, h, k, H, hc => by
    cases hd : ops.toList.drop i with
    | nil => rw [hd] at hc; simp [chkOps] at hc
    | cons o os =>
      rw [hd] at hc
      simp only [chkOps, Bool.and_eq_true] at hc
      have hlt : i < ops.size := by
        rcases Nat.lt_or_ge i ops.size with h | h
        · exact h
        · rw [List.drop_eq_nil_iff.2 (by simpa using h)] at hd; cases hd
      have ho' : ops[i]? = some o := by
        rw [← Array.getElem?_toList, ← List.head?_drop, hd]; rfl
      have hos : ops.toList.drop (i + 1) = os := by
        rw [← List.tail_drop, hd]; rfl
      change opK op F ih wm e nx h (fun e nx h => opsK l F ih wm e nx h k) = _ at H
      obtain ⟨e1, nx1, h1, H1, D⟩ := op_did hF hih H hc.1
      obtain ⟨e2, nx2, h2, H2, M2, W2⟩ := ops_sim hF hih l (i + 1) e1 nx1 h1 k H1 (by rw [hos]; exact hc.2)
      refine ⟨e2, nx2, h2, H2, D.moves.trans M2, ?_⟩
      intro hi j pv a w R hnh Q hQ
      have hr : List.range' i (ops.size - i) = i :: List.range' (i + 1) (ops.size - (i + 1)) := by
        rw [show ops.size - i = (ops.size - (i + 1)) + 1 by omega, List.range'_succ]
      rw [hr]
      have W := D.wp hc.1 R (Nat.le_trans M2.le hnh) (K := wpOps Pr ops Q (List.range' (i + 1) (ops.size - (i + 1)))) (Q := Q) (by
        intro j' pv' a' w' R' F' hdf
        refine W2 hi j' pv' a' w' R' hnh Q ?_
        intro j2 pv2 a2 w2 R2 F2 hd2
        exact hQ j2 pv2 a2 w2 R2 (F'.trans F2 D.moves.le) (hd2.trans hdf))
      unfold OperWp at W
      simp only [wpOps, ho']
      by_cases hw : Region.wanted o (yielded ops a.tmps) = true
      · rw [if_pos hw] at W ⊢; exact .inl W
      · rw [if_neg hw] at W ⊢; exact W
end

/-! ### Less of a frame -/

section
variable {L : P → Prop} {N hi : Nat} {j : J} {pv : P → Option Nat} {e : Env} {nx : P} {h : Hp} {a : Act} {w : World}
open Classical in
/-- the variables that are still known -/
def pvOf (pv : P → Option Nat) (e : Env) : P → Option Nat := fun p => if isVar p e then pv p else none
theorem pvOf_some {p : P} {b : Nat} (h : pvOf pv e p = some b) : isVar p e ∧ pv p = some b := by
  unfold pvOf at h
  by_cases hv : isVar p e
  · rw [if_pos hv] at h; exact ⟨hv, h⟩
  · rw [if_neg hv] at h; cases h
theorem pvOf_var {p : P} (h : isVar p e) : pvOf pv e p = pv p := if_pos h
theorem Rel.sub (R : Rel L N hi j pv e nx h a w) {e' : Env} (hs : ∀ p v, Tr.get? p e' = some v → Tr.get? p e = some v) (hf : ∀ p q o, Tr.get? p e' = some (.fld q o) → isVar q e') : Rel L N hi j (pvOf pv e') e' nx h a w where
  fresh := R.fresh
  heap := R.heap
  inj := R.inj
  inr := R.inr
  env := fun p v hv => by
    have hr := R.env p v (hs p v hv)
    cases v
    case fld q o =>
      obtain ⟨b, hb, ht⟩ := hr
      exact ⟨b, by rw [pvOf_var (hf p q o hv)]; exact hb, ht⟩
    case var l =>
      obtain ⟨b, hb, ht⟩ := hr
      exact ⟨b, by rw [pvOf_var ⟨l, hv⟩]; exact hb, ht⟩
    all_goals exact hr
  pvv := fun p b hp => (pvOf_some hp).1
  pin := fun p q b hp hq => R.pin p q b (pvOf_some hp).2 (pvOf_some hq).2
  pfr := fun p b hp => R.pfr p b (pvOf_some hp).2
  pfo := fun p b hp => R.pfo p b (pvOf_some hp).2
  loc := fun p l hl => R.loc p l (hs p _ hl)
  size := R.size
  lt := R.lt
  lr := R.lr
  top := R.top
theorem keep_spec (e : Env) : ∀ (l : List P) (acc : Env), (∀ p v, Tr.get? p acc = some v → Tr.get? p e = some v ∧ ∀ q o, v ≠ .fld q o) → ∀ p v, Tr.get? p (keep e l acc) = some v → Tr.get? p e = some v ∧ ∀ q o, v ≠ .fld q o
  | [], acc, ha, p, v, hv => ha p v hv
  | q :: l, acc, ha, p, v, hv => by
    simp only [keep] at hv
    have step : ∀ u, Tr.get? q e = some u → (∀ q' o, u ≠ .fld q' o) → ∀ p v, Tr.get? p (Tr.set q acc (some u)) = some v → Tr.get? p e = some v ∧ ∀ q o, v ≠ .fld q o := by
      intro u hu hn p v hv
      by_cases hp : p = q
      · subst hp; rw [Tr.get_set_self] at hv; cases hv; exact ⟨hu, hn⟩
      · rw [Tr.get_set_ne hp] at hv; exact ha p v hv
    cases hq : Tr.get? q e with
    | none => rw [hq] at hv; exact keep_spec e l acc ha p v hv
    | some u =>
      rw [hq] at hv
      cases u
      case fld => exact keep_spec e l acc ha p v hv
      all_goals exact keep_spec e l _ (step _ hq (by intro q' o h; cases h)) p v hv
theorem Rel.keep (R : Rel L N hi j pv e nx h a w) (l : List P) : ∃ pv', Rel L N hi j pv' (keep e l .nl) nx h a w ∧ Fr hi nx.n j pv w j pv' w := by
  have hk := keep_spec e l .nl (fun p v hv => by rw [Tr.get_e] at hv; cases hv)
  refine ⟨_, R.sub (fun p v hv => (hk p v hv).1) (fun p q o hv => absurd rfl ((hk p _ hv).2 q o)), ?_⟩
  exact { Fr.refl hi nx.n j pv w with pnew := fun p x hp => .inl (pvOf_some hp).2 }
end
end Go.Proofs.Ythdlkpmhjbaplaa.Dx
