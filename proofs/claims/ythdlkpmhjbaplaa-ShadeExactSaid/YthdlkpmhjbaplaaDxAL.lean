/- One more operation of a region whose order is left open, that does something. No statement of this seat is proved here. -/
import Derived.Test.YthdlkpmhjbaplaaDxAK
set_option autoImplicit false
set_option linter.unusedSimpArgs false
set_option linter.unusedVariables false
noncomputable section
namespace Go.Proofs.Ythdlkpmhjbaplaa.Dx
open Go

section
variable {Pr : Program} {wm : Option P} {ds : List Dop} {os : List Oper} {e : Env} {nx : P} {h : Hp} {E : Nat → Env} {X : Nat → P} {H : Nat → Hp} {Ls : List Nat} {N hi : Nat} {j0 : J} {pv0 : P → Option Nat} {a0 : Act} {w0 : World}
  {S : Nat → Prop} {j : J} {pv : P → Option Nat} {a : Act} {w : World} {i : Nat} {u b : List P} {r : Bool} {op : Op} {o : Oper}

theorem nlSub {e : Env} : ∀ (q : P) (v : DV), Tr.get? q (.nl : Env) = some v → Tr.get? q e = some v := fun q v h => by rw [Tr.get_e] at h; cases h

theorem Now.run (A : Now Pr wm ds os e nx h E X H Ls N hi S i u b r op o) (I : Inv ds E X H Ls N hi j0 pv0 a0 w0 S j pv a w) {dst : Option P} {g : Option (P × Bool)} {ins : Ins} (hop : op = .mk dst g ins) (hM : blindO op = false) (hstill : stillO op = false) {e1 : Env} {v : DV} {v' : Value} {wm' : Option P}
    (hE : E (i + 1) = back (dstE dst v e1) b (E i)) (M : Moves wm' (use true (E i) u .nl) (X i) (H i) e1 (X (i + 1)) (H (i + 1))) {j' : J} {w' : World}
    (R' : Rel (vars Ls) N (X (i + 1)).n j' (pvOf pv (use true (E i) u .nl)) e1 (X (i + 1)) (H (i + 1)) a w') (F' : Fr (X (i + 1)).n (X i).n j (pvOf pv (use true (E i) u .nl)) w j' (pvOf pv (use true (E i) u .nl)) w')
    (hv : XD j' (pvOf pv (use true (E i) u .nl)) v v') : Inv ds E X H Ls N hi j0 pv0 a0 w0 (addS S i) j' pv (a.put o.dst v') w' := by
  have hc := A.hc
  subst hop
  simp only [chkOp, Bool.and_eq_true] at hc
  have hdst := hc.1.1
  have R2 := R'.dst hdst hv
  have hpl : ∀ p bb, pvOf pv (use true (E i) u .nl) p = some bb → pv p = some bb := fun p bb hp => (pvOf_some hp).2
  have hnd : ∀ p, p ∉ dstO (.mk dst g ins) → ∀ d, dst = some d → p ≠ d := by
    rintro p hp d rfl rfl; exact hp (by simp [dstO])
  have hodst : ∀ p : P, p ∉ dstO (.mk dst g ins) → o.dst ≠ some p.n := by
    intro p hp ho
    cases dst with
    | none => rw [okDst_none hdst] at ho; cases ho
    | some d => rw [(okDst_some hdst).1] at ho; simp only [Option.some.injEq] at ho; exact hnd p hp d rfl (P.n_inj ho.symm)
  have hpfr : ∀ p x, pv p = some x → ∀ k s c, j' k ≠ some (.at x s c) := by
    intro p x hp k s c hk
    rcases Nat.lt_or_ge k.n (X (i + 1)).n with hlt | hge
    · rcases F'.new k x s c hk hlt with ⟨k0, s0, c0, h0, _⟩ | h0
      · exact I.pfr p x hp _ _ _ h0
      · have := I.plt p x hp; omega
    · rw [F'.old k hge] at hk; exact I.pfr p x hp _ _ _ hk
  refine I.next A.st A.hl A.hnh A.hd A.hn A.side A.hdb A.hbu hE (pv1 := pvOf pv (use true (E i) u .nl)) F'.ext F'.size ?heap ?fresh R2.inj R2.inr R2.lt R2.lr R2.env R2.pvv R2.loc R2.pin
    hpfr (fun p x hp k s hk => I.pfo p x hp k s (F'.ro _ _ _ hk)) hpl (fun _ _ => rfl) ?hp3 ?hp4 (fun p x hp => .inl (hpl _ _ hp)) (fun p x hp => Nat.lt_of_lt_of_le (I.plt p x (hpl _ _ hp)) F'.size) (fun p hp => A.free I rfl hp) ?hr1 (fun p hp => getD_put (hodst p hp)) ?hblk R2.size ?hfr (put_defers _ _ _)
  case heap =>
    intro k x t hk hkn ht hvt hkt
    rcases Nat.lt_or_ge k.n (X (i + 1)).n with hlt | hge
    · refine HR.of_heap (Ext.refl j') ?_ (Nat.le_refl _) (fun _ _ => rfl) (R'.heap k x hk hlt)
      exact A.st.heap_same A.hl A.lt ht (A.vt1 hM) hvt hlt hkt
    · have hk' := hk
      rw [F'.old k hge] at hk'
      have hW := A.others I hk' hkn hge
      refine HR.of_heap F'.ext rfl F'.size ?_ (I.heap k x t hk' hkn ht (A.vt_of hW hvt) hkt)
      intro bb hb
      rcases hb with ⟨s, c, rfl⟩ | ⟨s, rfl⟩
      · refine F'.same bb (I.lt _ _ _ _ hk') (fun k0 s0 c0 h0 => ?_) (fun p hp => I.pfr p bb (hpl p bb hp) _ _ _ hk')
        rw [I.inj _ _ _ _ _ _ _ h0 hk']; exact hge
      · exact F'.same bb (I.lr _ _ _ hk') (fun k0 s0 c0 h0 => (I.inr _ _ _ _ _ _ h0 hk').elim) (fun p hp => I.pfo p bb (hpl p bb hp) _ _ hk')
  case fresh =>
    intro k x hk
    cases hj : j k with
    | some y => exact .inr (.inl (by simp))
    | none =>
      refine .inr (.inr ⟨F'.more k hj (by rw [hk]; simp), ?_⟩)
      rcases Nat.lt_or_ge k.n (X (i + 1)).n with hlt | hge
      · exact hlt
      · rw [F'.old k hge, hj] at hk; cases hk
  case hp3 =>
    intro p hp x hx
    rw [A.free I rfl hp] at hx; cases hx
  case hp4 =>
    intro p x hpu hpd hx
    obtain ⟨l, hl⟩ := I.pvv p x i (Nat.le_of_lt A.lt) (A.veu hpu) hx
    rw [pvOf_var ⟨l, use_var u .nl p l nlSub hl (.inl hpu)⟩]
    exact hx
  case hr1 =>
    intro p hpb y hy hn
    have hpd : p ∉ dstO (.mk dst g ins) := by
      intro hp
      cases dst with
      | none => simp [dstO] at hp
      | some d =>
        simp only [dstO, List.mem_singleton] at hp
        subst hp
        change Tr.get? p (Tr.set p _ (some v)) = none at hn
        rw [Tr.get_set_self] at hn; cases hn
    refine ⟨hpd, ?_⟩
    rintro l rfl
    rcases A.hbu p hpb with hu | hu
    · rw [dstE_get (hnd p hpd)] at hn
      have h0 := use_var u .nl p l nlSub hy (.inl hu)
      rcases M.env p with h1 | ⟨l1, l2, _, h1, _⟩
      · rw [hn, h0] at h1; cases h1
      · rw [hn] at h1; cases h1
    · exact hpd hu
  case hblk =>
    intro p x hp hpb
    refine F'.same x (I.plt p x hp) (fun k s c hk => absurd hk (I.pfr p x hp k s c)) (fun q hq => ?_)
    obtain ⟨⟨l, hl⟩, hq'⟩ := pvOf_some hq
    have := I.pin q p x hq' hp
    subst this
    have hqu : q ∈ u := by
      rcases use_only u .nl q _ hl with h | h
      · rw [Tr.get_e] at h; cases h
      · exact h
    exact hpb (A.hlv hstill rfl q hqu (I.loc q l i (Nat.le_of_lt A.lt) (A.veu hqu) (use_sub u .nl nlSub q _ hl)))
  case hfr =>
    constructor
    · exact F'.size
    · exact F'.os
    · exact F'.output
    · intro x hx hj hp
      exact F'.same x hx (fun k s c hk => Nat.le_trans A.hiX (hj k s c hk)) (fun p hp' => hp p (hpl p x hp'))
    · exact F'.ext
    · intro k hk; exact F'.old k (Nat.le_trans A.hiX hk)
    · exact F'.more
    · intro k x s c hk hlt
      rcases Nat.lt_or_ge k.n (X (i + 1)).n with h1 | h1
      · rcases F'.new k x s c hk h1 with ⟨k0, s0, c0, h2, h3⟩ | h2
        · exact .inl ⟨k0, s0, c0, h2, Nat.lt_of_lt_of_le h3 A.hiX⟩
        · exact .inr h2
      · rw [F'.old k h1] at hk; exact .inl ⟨k, s, c, hk, hlt⟩
    · exact F'.ro
    · intro p x hp; exact .inl hp
    · exact F'.froz

theorem pvPut_self (pv : P → Option Nat) (d : P) (x : Nat) : pvPut pv d x d = some x := if_pos rfl
theorem pvPut_ne (pv : P → Option Nat) {d q : P} (x : Nat) (h : q ≠ d) : pvPut pv d x q = pv q := if_neg h

theorem Now.loc (A : Now Pr wm ds os e nx h E X H Ls N hi S i u b r op o) (I : Inv ds E X H Ls N hi j0 pv0 a0 w0 S j pv a w) {p : P} (hdo : dstO op = [p]) (hvo : isVarO op = true) (hst : stillO op = false) (hpv : ¬ isVar p (use true (E i) u .nl)) {l : List DV} {ob : Obj}
    (hE : E (i + 1) = back (Tr.set p (use true (E i) u .nl) (some (.var l))) b (E i)) (hX : X (i + 1) = X i) (hH : H (i + 1) = H i) 
    (R' : Rel (vars Ls) N (X (i + 1)).n j (pvPut (pvOf pv (use true (E i) u .nl)) p w.heap.size) (Tr.set p (use true (E i) u .nl) (some (.var l))) (X i) (H i) (a.put (some p.n) (.pointer (some ⟨w.heap.size, 0, none⟩))) (w.alloc ob)) 
    (hob : ∃ cs t, ob = .cells cs t) : Inv ds E X H Ls N hi j0 pv0 a0 w0 (addS S i) j (pvPut pv p w.heap.size) (a.put (some p.n) (.pointer (some ⟨w.heap.size, 0, none⟩))) (w.alloc ob) := by
  have hmem : ∀ q, q ∈ dstO op ↔ q = p := fun q => by rw [hdo]; simp
  have hpu : p ∈ u := A.hvu hvo p ((hmem p).2 rfl)
  have hpn : pv p = none := by
    cases hp : pv p with
    | none => rfl
    | some x =>
      obtain ⟨l0, hl0⟩ := I.pvv p x i (Nat.le_of_lt A.lt) (A.veu hpu) hp
      exact absurd ⟨l0, use_var u .nl p l0 nlSub hl0 (.inl hpu)⟩ hpv
  have hpl : ∀ p bb, pvOf pv (use true (E i) u .nl) p = some bb → pv p = some bb := fun p bb hp => (pvOf_some hp).2
  have hsz : (w.alloc ob).heap.size = w.heap.size + 1 := by show (w.heap.push _).size = _; simp
  have hold : ∀ x, x < w.heap.size → (w.alloc ob).heap[x]? = w.heap[x]? := fun x hx => by show (w.heap.push _)[x]? = _; simp [Array.getElem?_push, Nat.ne_of_lt hx]
  have hW : isW (.mk true u b r op) = false := by simp [isW, hvo]
  refine I.next A.st A.hl A.hnh A.hd A.hn A.side A.hdb A.hbu hE (pv1 := pvPut (pvOf pv (use true (E i) u .nl)) p w.heap.size) (Ext.refl j) (by omega) ?heap (fun k x h => .inl h) I.inj I.inr (fun k x s c hk => by have := I.lt k x s c hk; omega) (fun k x s hk => by have := I.lr k x s hk; omega)
    R'.env R'.pvv R'.loc R'.pin ?hpfr ?hpfo ?hp1 (fun q hq => pvPut_ne _ _ (fun h => hq ((hmem q).2 h))) ?hp3 ?hp4 ?hp5 ?hp6 (fun q hq => by rw [(hmem q).1 hq]; exact hpn) ?hr1 ?htm (fun q x hq _ => hold x (I.plt q x hq)) R'.size ?hfr (put_defers _ _ _)
  case heap =>
    intro k x t hk hkn ht hvt hkt
    refine HR.of_heap (Ext.refl j) rfl (by omega) ?_ (I.heap k x t hk hkn ht (A.vt_of hW hvt) hkt)
    intro bb hb
    rcases hb with ⟨s, c, rfl⟩ | ⟨s, rfl⟩
    · exact hold bb (I.lt _ _ _ _ hk)
    · exact hold bb (I.lr _ _ _ hk)
  case hpfr =>
    intro q x hq k s c hk
    by_cases h1 : q = p
    · subst h1; rw [pvPut_self] at hq; cases hq; have := I.lt _ _ _ _ hk; omega
    · rw [pvPut_ne _ _ h1] at hq; exact I.pfr q x hq k s c hk
  case hpfo =>
    intro q x hq k s hk
    by_cases h1 : q = p
    · subst h1; rw [pvPut_self] at hq; cases hq; have := I.lr _ _ _ hk; omega
    · rw [pvPut_ne _ _ h1] at hq; exact I.pfo q x hq k s hk
  case hp1 =>
    intro q x hq
    by_cases h1 : q = p
    · subst h1; rw [pvPut_self] at hq ⊢; exact hq
    · rw [pvPut_ne _ _ h1] at hq ⊢; exact hpl q x hq
  case hp3 =>
    intro q hq x hx
    rw [(hmem q).1 hq, pvPut_self] at hx ⊢; exact hx
  case hp4 =>
    intro q x hqu hqd hx
    have h1 : q ≠ p := fun h => hqd ((hmem q).2 h)
    rw [pvPut_ne _ _ h1]
    obtain ⟨l0, hl0⟩ := I.pvv q x i (Nat.le_of_lt A.lt) (A.veu hqu) hx
    rw [pvOf_var ⟨l0, use_var u .nl q l0 nlSub hl0 (.inl hqu)⟩]
    exact hx
  case hp5 =>
    intro q x hq
    by_cases h1 : q = p
    · subst h1; rw [pvPut_self] at hq; cases hq; exact .inr (Nat.le_refl _)
    · rw [pvPut_ne _ _ h1] at hq; exact .inl (hpl q x hq)
  case hp6 =>
    intro q x hq
    by_cases h1 : q = p
    · subst h1; rw [pvPut_self] at hq; cases hq; omega
    · rw [pvPut_ne _ _ h1] at hq; have := I.plt q x (hpl q x hq); omega
  case hr1 =>
    intro q hqb y hy hn
    have h1 : q ≠ p := by rintro rfl; rw [Tr.get_set_self] at hn; cases hn
    refine ⟨fun h => h1 ((hmem q).1 h), ?_⟩
    rintro l0 rfl
    rw [Tr.get_set_ne h1] at hn
    rcases A.hbu q hqb with hu | hu
    · rw [use_var u .nl q l0 nlSub hy (.inl hu)] at hn; cases hn
    · exact h1 ((hmem q).1 hu)
  case htm =>
    intro q hq
    exact getD_put (fun h => hq ((hmem q).2 (P.n_inj (Option.some.inj h).symm)))
  case hfr =>
    constructor
    · omega
    · rfl
    · rfl
    · intro x hx _ _; exact hold x hx
    · exact Ext.refl j
    · intro _ _; rfl
    · intro k h1 h2; exact absurd h1 h2
    · intro k x s c hk hlt; exact .inl ⟨k, s, c, hk, hlt⟩
    · intro _ _ _ h; exact h
    · intro q x hx
      by_cases h1 : q = p
      · subst h1; rw [pvPut_self] at hx; cases hx; exact .inr (Nat.le_refl _)
      · rw [pvPut_ne _ _ h1] at hx; exact .inl hx
    · obtain ⟨cs, t, rfl⟩ := hob
      intro ad; exact RowKit.frozen?_alloc_cells _ _ _ _

/-- One more, whatever it is. -/
theorem Now.wp {ops : Array Oper} (hos : ops.toList = os) (A : Now Pr wm ds os e nx h E X H Ls N hi S i u b r op o) (I : Inv ds E X H Ls N hi j0 pv0 a0 w0 S j pv a w) {K : Act → World → Prop} {Q : Exit → Act → World → Prop}
    (hK : ∀ j' pv' a' w', Inv ds E X H Ls N hi j0 pv0 a0 w0 (addS S i) j' pv' a' w' → K a' w') : OperWp Pr ops o K Q a w := by
  have D := A.st.step i _ o A.hd A.ho
  obtain ⟨r1, D, hE⟩ := D
  have hc := A.hc
  subst hos
  unfold OperWp
  generalize hx : X (i + 1) = xx at D
  generalize hh : H (i + 1) = hp at D
  cases D with
  | run G S' M hs =>
    simp only [chkOp, Bool.and_eq_true] at hc
    rw [G.wanted (reads_of (A.env I)) hc.1.2 rfl, if_pos rfl]
    rename_i dst g ins e1 v1
    subst hx; subst hh
    have hM : blindO (.mk dst g ins) = false := by simp only [Bool.or_eq_false_iff] at hs; exact hs.1
    refine S' (vars Ls) N _ j _ a w (A.rel I hM) (Nat.le_refl _) K Q ?_
    intro j' w' v' R' F' hv
    exact hK _ _ _ _ (A.run I rfl hM hs hE M R' F' hv)
  | still G S' hs hp =>
    simp only [chkOp, Bool.and_eq_true] at hc
    rw [G.wanted (reads_of (A.env I)) hc.1.2 rfl, if_pos rfl]
    rename_i dst g ins v
    have fin : ∀ v', (execOp a.eval o).run Pr w = .ok (.value v') w → XD j (pvOf pv (use true (E i) u .nl)) v v' → o.wp Pr a w K Q := by
      intro v' hrun hv
      unfold Oper.wp
      rw [hrun, Oper.upon_value]
      exact hK _ _ _ _ (A.quiet I rfl hE hx hh hv)
    by_cases hpu : isPure ins = true
    · obtain ⟨h1, h2⟩ := hp hpu
      obtain ⟨v', hr, hv⟩ := pure_sim h1 h2 (reads_of (A.env I)) (eval_const a) w
      exact fin v' hr hv
    · obtain ⟨v', hr, hv⟩ := S' (vars Ls) N _ j _ a w (A.rel I (by simpa [blindO] using hpu))
      exact fin v' hr hv
  | pass G =>
    simp only [chkOp, Bool.and_eq_true] at hc
    rw [G.wanted (reads_of (A.env I)) hc.1.2 rfl, if_neg (by decide)]
    exact hK _ _ _ _ (A.quiet I rfl hE hx hh (VR.tup (l' := []) .nil))
  | loc hv =>
    simp only [chkOp, Bool.and_eq_true] at hc
    obtain ⟨h1, h2, h3, h4⟩ := okLoc_spec hc.1
    have hcm := hc.2
    cases hop : o.op <;> simp only [chkMem, hop, Bool.false_eq_true] at hcm
    rename_i t
    cases hit : Pr.info? t with
    | none => simp [hit] at hcm
    | some it =>
      cases hz : it.zero with
      | none => simp [hit, hz] at hcm
      | some zv =>
        simp only [hit, hz] at hcm
        rw [wanted_none h4, if_pos rfl]
        unfold Oper.wp
        rw [run_alloc_al hop hit hz, Oper.upon_value, h1]
        obtain ⟨R', _⟩ := (A.rel I rfl).var_new h2 h3 hv (okCs_sound j _ _ hcm) (t := t)
        exact hK _ _ _ _ (A.loc I rfl rfl rfl hv hE hx hh R' ⟨_, _, rfl⟩)
  | locb hv hcells =>
    simp only [chkOp, Bool.and_eq_true] at hc
    obtain ⟨h1, h2, h3, h4⟩ := okLoc_spec hc.1
    have hcm := hc.2
    cases hop : o.op <;> simp only [chkMem, hop, Bool.false_eq_true] at hcm
    rename_i t x
    rw [wanted_none h4, if_pos rfl]
    unfold Oper.wp
    rw [run_box_bx hop, Oper.upon_value, h1]
    obtain ⟨R', _⟩ := (A.rel I rfl).var_new h2 h3 hv (((reads_of (A.env I)).ov hcm).cells hcells) (t := t)
    exact hK _ _ _ _ (A.loc I rfl rfl rfl hv hE hx hh R' ⟨_, _, rfl⟩)
end
end Go.Proofs.Ythdlkpmhjbaplaa.Dx
