/- A part of the proof of Parts: a small machine, what its functions come to, plain laws. No statement of this seat is proved here. -/
import Derived.Test.YthdlkpmhjbaplaaQpE
import Derived.ChangeSame
import Derived.ChangeArms
import Derived.ReadAgain
import Derived.RowKit
import Derived.Shelf.SlGeneric
import Derived.Shelf.SortM.Plain
import Derived.Test.YthdlkpmhjbaplaaProg
import Derived.Shelf.SortM.SortNone
import Derived.Lib.SlicesCompact
import Derived.WalkKit
import Derived.Deep.RegionLaw
import Derived.Deep.LoopGhost
import Derived.Shelf.RegionOpenPlain
import Derived.Lib.SliceRun
import Derived.KernelRfl
import Derived.HandedShaped
set_option autoImplicit false
set_option linter.unusedSimpArgs false
set_option linter.unusedVariables false
set_option linter.unnecessarySimpa false
set_option linter.constructorNameAsVariable false
set_option maxRecDepth 100000
noncomputable section
namespace Go.Proofs.Ythdlkpmhjbaplaa.Dx
open Go
section
variable {Pr : Program} {wm : Option P} {ds : List Dop} {os : List Oper} {e : Env} {nx : P} {h : Hp} {E : Nat → Env} {X : Nat → P} {H : Nat → Hp} {Ls : List Nat} {N hi : Nat} {j0 : J} {pv0 : P → Option Nat} {a0 : Act} {w0 : World}
  {S : Nat → Prop} {j : J} {pv : P → Option Nat} {a : Act} {w : World} {i : Nat} {u b : List P} {r : Bool} {op : Op} {o : Oper}
theorem nlSub {e : Env} : ∀ (q : P) (v : DV), Tr.get? q (.nl : Env) = some v → Tr.get? q e = some v := fun q v h => by rw [Tr.get_e] at h; cases h
theorem Now.run (A : Now Pr wm ds os e nx h E X H Ls N hi S i u b r op o) (I : Inv ds E X H Ls N hi j0 pv0 a0 w0 S j pv a w) {dst : Option P} {g : Option (P × Bool)} {ins : Ins} (hop : op = .mk dst g ins) (hM : blindO op = false) (hstill : stillO op = false) {e1 : Env} {v : DV} {v' : Value} {wm' : Option P}
    (hE : E (i + 1) = back (dstE dst v e1) b (E i)) (M : Moves wm' (use true (E i) u .nl) (X i) (H i) e1 (X (i + 1)) (H (i + 1))) {j' : J} {w' : World}
    (R' : Rel (vars Ls) N (X (i + 1)).n j' (pvOf pv (use true (E i) u .nl)) e1 (X (i + 1)) (H (i + 1)) a w') (F' : Fr (X (i + 1)).n (X i).n j (pvOf pv (use true (E i) u .nl)) w j' (pvOf pv (use true (E i) u .nl)) w')
    (hv : XD j' (pvOf pv (use true (E i) u .nl)) v v') : Inv ds E X H Ls N hi j0 pv0 a0 w0 (addS S i) j' pv (a.put o.dst v') w' := by
  have hc := A.hc
  subst hop
  simp only [chkOp, Bool.and_eq_true] at hc
  have hdst := hc.1.1
  have R2 := R'.dst hdst hv
  have hpl : ∀ p bb, pvOf pv (use true (E i) u .nl) p = some bb → pv p = some bb := fun p bb hp => (pvOf_some hp).2
  have hnd : ∀ p, p ∉ dstO (.mk dst g ins) → ∀ d, dst = some d → p ≠ d := by
    rintro p hp d rfl rfl; exact hp (by simp [dstO])
  have hodst : ∀ p : P, p ∉ dstO (.mk dst g ins) → o.dst ≠ some p.n := by
    intro p hp ho
    cases dst with
    | none => rw [okDst_none hdst] at ho; cases ho
    | some d => rw [(okDst_some hdst).1] at ho; simp only [Option.some.injEq] at ho; exact hnd p hp d rfl (P.n_inj ho.symm)
  have hpfr : ∀ p x, pv p = some x → ∀ k s c, j' k ≠ some (.at x s c) := by
    intro p x hp k s c hk
    rcases Nat.lt_or_ge k.n (X (i + 1)).n with hlt | hge
    · rcases F'.new k x s c hk hlt with ⟨k0, s0, c0, h0, _⟩ | h0
      · exact I.pfr p x hp _ _ _ h0
      · have := I.plt p x hp; omega
    · rw [F'.old k hge] at hk; exact I.pfr p x hp _ _ _ hk
  refine I.next A.st A.hl A.hnh A.hd A.hn A.side A.hdb A.hbu hE (pv1 := pvOf pv (use true (E i) u .nl)) F'.ext F'.size ?heap ?fresh R2.inj R2.inr R2.lt R2.lr R2.env R2.pvv R2.loc R2.pin
    hpfr (fun p x hp k s hk => I.pfo p x hp k s (F'.ro _ _ _ hk)) hpl (fun _ _ => rfl) ?hp3 ?hp4 (fun p x hp => .inl (hpl _ _ hp)) (fun p x hp => Nat.lt_of_lt_of_le (I.plt p x (hpl _ _ hp)) F'.size) (fun p hp => A.free I rfl hp) ?hr1 (fun p hp => getD_put (hodst p hp)) ?hblk R2.size ?hfr (put_defers _ _ _)
  case heap =>
    intro k x t hk hkn ht hvt hkt
    rcases Nat.lt_or_ge k.n (X (i + 1)).n with hlt | hge
    · refine HR.of_heap (Ext.refl j') ?_ (Nat.le_refl _) (fun _ _ => rfl) (R'.heap k x hk hlt)
      exact A.st.heap_same A.hl A.lt ht (A.vt1 hM) hvt hlt hkt
    · have hk' := hk
      rw [F'.old k hge] at hk'
      have hW := A.others I hk' hkn hge
      refine HR.of_heap F'.ext rfl F'.size ?_ (I.heap k x t hk' hkn ht (A.vt_of hW hvt) hkt)
      intro bb hb
      rcases hb with ⟨s, c, rfl⟩ | ⟨s, rfl⟩
      · refine F'.same bb (I.lt _ _ _ _ hk') (fun k0 s0 c0 h0 => ?_) (fun p hp => I.pfr p bb (hpl p bb hp) _ _ _ hk')
        rw [I.inj _ _ _ _ _ _ _ h0 hk']; exact hge
      · exact F'.same bb (I.lr _ _ _ hk') (fun k0 s0 c0 h0 => (I.inr _ _ _ _ _ _ h0 hk').elim) (fun p hp => I.pfo p bb (hpl p bb hp) _ _ hk')
  case fresh =>
    intro k x hk
    cases hj : j k with
    | some y => exact .inr (.inl (by simp))
    | none =>
      refine .inr (.inr ⟨F'.more k hj (by rw [hk]; simp), ?_⟩)
      rcases Nat.lt_or_ge k.n (X (i + 1)).n with hlt | hge
      · exact hlt
      · rw [F'.old k hge, hj] at hk; cases hk
  case hp3 =>
    intro p hp x hx
    rw [A.free I rfl hp] at hx; cases hx
  case hp4 =>
    intro p x hpu hpd hx
    obtain ⟨l, hl⟩ := I.pvv p x i (Nat.le_of_lt A.lt) (A.veu hpu) hx
    rw [pvOf_var ⟨l, use_var u .nl p l nlSub hl (.inl hpu)⟩]
    exact hx
  case hr1 =>
    intro p hpb y hy hn
    have hpd : p ∉ dstO (.mk dst g ins) := by
      intro hp
      cases dst with
      | none => simp [dstO] at hp
      | some d =>
        simp only [dstO, List.mem_singleton] at hp
        subst hp
        change Tr.get? p (Tr.set p _ (some v)) = none at hn
        rw [Tr.get_set_self] at hn; cases hn
    refine ⟨hpd, ?_⟩
    rintro l rfl
    rcases A.hbu p hpb with hu | hu
    · rw [dstE_get (hnd p hpd)] at hn
      have h0 := use_var u .nl p l nlSub hy (.inl hu)
      rcases M.env p with h1 | ⟨l1, l2, _, h1, _⟩
      · rw [hn, h0] at h1; cases h1
      · rw [hn] at h1; cases h1
    · exact hpd hu
  case hblk =>
    intro p x hp hpb
    refine F'.same x (I.plt p x hp) (fun k s c hk => absurd hk (I.pfr p x hp k s c)) (fun q hq => ?_)
    obtain ⟨⟨l, hl⟩, hq'⟩ := pvOf_some hq
    have := I.pin q p x hq' hp
    subst this
    have hqu : q ∈ u := by
      rcases use_only u .nl q _ hl with h | h
      · rw [Tr.get_e] at h; cases h
      · exact h
    exact hpb (A.hlv hstill rfl q hqu (I.loc q l i (Nat.le_of_lt A.lt) (A.veu hqu) (use_sub u .nl nlSub q _ hl)))
  case hfr =>
    constructor
    · exact F'.size
    · exact F'.os
    · exact F'.output
    · intro x hx hj hp
      exact F'.same x hx (fun k s c hk => Nat.le_trans A.hiX (hj k s c hk)) (fun p hp' => hp p (hpl p x hp'))
    · exact F'.ext
    · intro k hk; exact F'.old k (Nat.le_trans A.hiX hk)
    · exact F'.more
    · intro k x s c hk hlt
      rcases Nat.lt_or_ge k.n (X (i + 1)).n with h1 | h1
      · rcases F'.new k x s c hk h1 with ⟨k0, s0, c0, h2, h3⟩ | h2
        · exact .inl ⟨k0, s0, c0, h2, Nat.lt_of_lt_of_le h3 A.hiX⟩
        · exact .inr h2
      · rw [F'.old k h1] at hk; exact .inl ⟨k, s, c, hk, hlt⟩
    · exact F'.ro
    · intro p x hp; exact .inl hp
    · exact F'.froz
theorem pvPut_self (pv : P → Option Nat) (d : P) (x : Nat) : pvPut pv d x d = some x := if_pos rfl
theorem pvPut_ne (pv : P → Option Nat) {d q : P} (x : Nat) (h : q ≠ d) : pvPut pv d x q = pv q := if_neg h
theorem Now.loc (A : Now Pr wm ds os e nx h E X H Ls N hi S i u b r op o) (I : Inv ds E X H Ls N hi j0 pv0 a0 w0 S j pv a w) {p : P} (hdo : dstO op = [p]) (hvo : isVarO op = true) (hst : stillO op = false) (hpv : ¬ isVar p (use true (E i) u .nl)) {l : List DV} {ob : Obj}
    (hE : E (i + 1) = back (Tr.set p (use true (E i) u .nl) (some (.var l))) b (E i)) (hX : X (i + 1) = X i) (hH : H (i + 1) = H i)
    (R' : Rel (vars Ls) N (X (i + 1)).n j (pvPut (pvOf pv (use true (E i) u .nl)) p w.heap.size) (Tr.set p (use true (E i) u .nl) (some (.var l))) (X i) (H i) (a.put (some p.n) (.pointer (some ⟨w.heap.size, 0, none⟩))) (w.alloc ob))
    (hob : ∃ cs t, ob = .cells cs t) : Inv ds E X H Ls N hi j0 pv0 a0 w0 (addS S i) j (pvPut pv p w.heap.size) (a.put (some p.n) (.pointer (some ⟨w.heap.size, 0, none⟩))) (w.alloc ob) := by
  have hmem : ∀ q, q ∈ dstO op ↔ q = p := fun q => by rw [hdo]; simp
  have hpu : p ∈ u := A.hvu hvo p ((hmem p).2 rfl)
  have hpn : pv p = none := by
    cases hp : pv p with
    | none => rfl
    | some x =>
      obtain ⟨l0, hl0⟩ := I.pvv p x i (Nat.le_of_lt A.lt) (A.veu hpu) hp
      exact absurd ⟨l0, use_var u .nl p l0 nlSub hl0 (.inl hpu)⟩ hpv
  have hpl : ∀ p bb, pvOf pv (use true (E i) u .nl) p = some bb → pv p = some bb := fun p bb hp => (pvOf_some hp).2
  have hsz : (w.alloc ob).heap.size = w.heap.size + 1 := by show (w.heap.push _).size = _; simp
  have hold : ∀ x, x < w.heap.size → (w.alloc ob).heap[x]? = w.heap[x]? := fun x hx => by show (w.heap.push _)[x]? = _; simp [Array.getElem?_push, Nat.ne_of_lt hx]
  have hW : isW (.mk true u b r op) = false := by simp [isW, hvo]
  refine I.next A.st A.hl A.hnh A.hd A.hn A.side A.hdb A.hbu hE (pv1 := pvPut (pvOf pv (use true (E i) u .nl)) p w.heap.size) (Ext.refl j) (by omega) ?heap (fun k x h => .inl h) I.inj I.inr (fun k x s c hk => by have := I.lt k x s c hk; omega) (fun k x s hk => by have := I.lr k x s hk; omega)
    R'.env R'.pvv R'.loc R'.pin ?hpfr ?hpfo ?hp1 (fun q hq => pvPut_ne _ _ (fun h => hq ((hmem q).2 h))) ?hp3 ?hp4 ?hp5 ?hp6 (fun q hq => by rw [(hmem q).1 hq]; exact hpn) ?hr1 ?htm (fun q x hq _ => hold x (I.plt q x hq)) R'.size ?hfr (put_defers _ _ _)
  case heap =>
    intro k x t hk hkn ht hvt hkt
    refine HR.of_heap (Ext.refl j) rfl (by omega) ?_ (I.heap k x t hk hkn ht (A.vt_of hW hvt) hkt)
    intro bb hb
    rcases hb with ⟨s, c, rfl⟩ | ⟨s, rfl⟩
    · exact hold bb (I.lt _ _ _ _ hk)
    · exact hold bb (I.lr _ _ _ hk)
  case hpfr =>
    intro q x hq k s c hk
    by_cases h1 : q = p
    · subst h1; rw [pvPut_self] at hq; cases hq; have := I.lt _ _ _ _ hk; omega
    · rw [pvPut_ne _ _ h1] at hq; exact I.pfr q x hq k s c hk
  case hpfo =>
    intro q x hq k s hk
    by_cases h1 : q = p
    · subst h1; rw [pvPut_self] at hq; cases hq; have := I.lr _ _ _ hk; omega
    · rw [pvPut_ne _ _ h1] at hq; exact I.pfo q x hq k s hk
  case hp1 =>
    intro q x hq
    by_cases h1 : q = p
    · subst h1; rw [pvPut_self] at hq ⊢; exact hq
    · rw [pvPut_ne _ _ h1] at hq ⊢; exact hpl q x hq
  case hp3 =>
    intro q hq x hx
    rw [(hmem q).1 hq, pvPut_self] at hx ⊢; exact hx
  case hp4 =>
    intro q x hqu hqd hx
    have h1 : q ≠ p := fun h => hqd ((hmem q).2 h)
    rw [pvPut_ne _ _ h1]
    obtain ⟨l0, hl0⟩ := I.pvv q x i (Nat.le_of_lt A.lt) (A.veu hqu) hx
    rw [pvOf_var ⟨l0, use_var u .nl q l0 nlSub hl0 (.inl hqu)⟩]
    exact hx
  case hp5 =>
    intro q x hq
    by_cases h1 : q = p
    · subst h1; rw [pvPut_self] at hq; cases hq; exact .inr (Nat.le_refl _)
    · rw [pvPut_ne _ _ h1] at hq; exact .inl (hpl q x hq)
  case hp6 =>
    intro q x hq
    by_cases h1 : q = p
    · subst h1; rw [pvPut_self] at hq; cases hq; omega
    · rw [pvPut_ne _ _ h1] at hq; have := I.plt q x (hpl q x hq); omega
  case hr1 =>
    intro q hqb y hy hn
    have h1 : q ≠ p := by rintro rfl; rw [Tr.get_set_self] at hn; cases hn
    refine ⟨fun h => h1 ((hmem q).1 h), ?_⟩
    rintro l0 rfl
    rw [Tr.get_set_ne h1] at hn
    rcases A.hbu q hqb with hu | hu
    · rw [use_var u .nl q l0 nlSub hy (.inl hu)] at hn; cases hn
    · exact h1 ((hmem q).1 hu)
  case htm =>
    intro q hq
    exact getD_put (fun h => hq ((hmem q).2 (P.n_inj (Option.some.inj h).symm)))
  case hfr =>
    constructor
    · omega
    · rfl
    · rfl
    · intro x hx _ _; exact hold x hx
    · exact Ext.refl j
    · intro _ _; rfl
    · intro k h1 h2; exact absurd h1 h2
    · intro k x s c hk hlt; exact .inl ⟨k, s, c, hk, hlt⟩
    · intro _ _ _ h; exact h
    · intro q x hx
      by_cases h1 : q = p
      · subst h1; rw [pvPut_self] at hx; cases hx; exact .inr (Nat.le_refl _)
      · rw [pvPut_ne _ _ h1] at hx; exact .inl hx
    · obtain ⟨cs, t, rfl⟩ := hob
      intro ad _; exact RowKit.frozen?_alloc_cells _ _ _ _
theorem Now.wp {ops : Array Oper} (hos : ops.toList = os) (A : Now Pr wm ds os e nx h E X H Ls N hi S i u b r op o) (I : Inv ds E X H Ls N hi j0 pv0 a0 w0 S j pv a w) {K : Act → World → Prop} {Q : Exit → Act → World → Prop}
    (hK : ∀ j' pv' a' w', Inv ds E X H Ls N hi j0 pv0 a0 w0 (addS S i) j' pv' a' w' → K a' w') : OperWp Pr ops o K Q a w := by
  have D := A.st.step i _ o A.hd A.ho
  obtain ⟨r1, D, hE⟩ := D
  have hc := A.hc
  subst hos
  unfold OperWp
  generalize hx : X (i + 1) = xx at D
  generalize hh : H (i + 1) = hp at D
  cases D with
  | run G S' M hs =>
    simp only [chkOp, Bool.and_eq_true] at hc
    rw [G.wanted (reads_of (A.env I)) hc.1.2 rfl, if_pos rfl]
    rename_i dst g ins e1 v1
    subst hx; subst hh
    have hM : blindO (.mk dst g ins) = false := by
      simp only [Bool.or_eq_false_iff] at hs
      cases hq : isVl ins with
      | false => simp [blindO, hs.1, hq]
      | true => have := vl_load hq; rw [hs.2] at this; cases this
    refine S' (vars Ls) N _ j _ a w (A.rel I hM) (Nat.le_refl _) K Q ?_
    intro j' w' v' R' F' hv
    exact hK _ _ _ _ (A.run I rfl hM hs hE M R' F' hv)
  | still G S' hs hp hq =>
    simp only [chkOp, Bool.and_eq_true] at hc
    rw [G.wanted (reads_of (A.env I)) hc.1.2 rfl, if_pos rfl]
    rename_i dst g ins v
    have fin : ∀ v', (execOp a.eval o).run Pr w = .ok (.value v') w → XD j (pvOf pv (use true (E i) u .nl)) v v' → o.wp Pr a w K Q := by
      intro v' hrun hv
      unfold Oper.wp
      rw [hrun, Oper.upon_value]
      exact hK _ _ _ _ (A.quiet I rfl hE hx hh hv)
    by_cases hpu : isPure ins = true
    · obtain ⟨h1, h2⟩ := hp hpu
      obtain ⟨v', hr, hv⟩ := pure_sim h1 h2 (reads_of (A.env I)) (eval_const a) w
      exact fin v' hr hv
    · by_cases hvl : isVl ins = true
      · obtain ⟨v', hr, hv⟩ := hq hvl (vars Ls) N 0 j _ a w (A.relnl I)
        exact fin v' hr hv
      · obtain ⟨v', hr, hv⟩ := S' (vars Ls) N _ j _ a w (A.rel I (by simp [blindO, hpu, hvl]))
        exact fin v' hr hv
  | pass G =>
    simp only [chkOp, Bool.and_eq_true] at hc
    rw [G.wanted (reads_of (A.env I)) hc.1.2 rfl, if_neg (by decide)]
    exact hK _ _ _ _ (A.quiet I rfl hE hx hh (VR.tup (l' := []) .nil))
  | loc hv =>
    simp only [chkOp, Bool.and_eq_true] at hc
    obtain ⟨h1, h2, h3, h4⟩ := okLoc_spec hc.1
    have hcm := hc.2
    cases hop : o.op <;> simp only [chkMem, hop, Bool.false_eq_true] at hcm
    rename_i t
    cases hit : Pr.info? t with
    | none => simp [hit] at hcm
    | some it =>
      cases hz : it.zero with
      | none => simp [hit, hz] at hcm
      | some zv =>
        simp only [hit, hz] at hcm
        rw [wanted_none h4, if_pos rfl]
        unfold Oper.wp
        rw [run_alloc_al hop hit hz, Oper.upon_value, h1]
        obtain ⟨R', _⟩ := (A.rel I rfl).var_new h2 h3 hv (okCs_sound j _ _ hcm) (t := t)
        exact hK _ _ _ _ (A.loc I rfl rfl rfl hv hE hx hh R' ⟨_, _, rfl⟩)
  | locb hv hcells =>
    simp only [chkOp, Bool.and_eq_true] at hc
    obtain ⟨h1, h2, h3, h4⟩ := okLoc_spec hc.1
    have hcm := hc.2
    cases hop : o.op <;> simp only [chkMem, hop, Bool.false_eq_true] at hcm
    rename_i t x
    rw [wanted_none h4, if_pos rfl]
    unfold Oper.wp
    rw [run_box_bx hop, Oper.upon_value, h1]
    obtain ⟨R', _⟩ := (A.rel I rfl).var_new h2 h3 hv (((reads_of (A.env I)).ov hcm).cells hcells) (t := t)
    exact hK _ _ _ _ (A.loc I rfl rfl rfl hv hE hx hh R' ⟨_, _, rfl⟩)
end
theorem cnt_set : ∀ (l : List Bool) (i : Nat), l[i]? = some false → (l.set i true).countP (! ·) + 1 = l.countP (! ·)
  | [], i, h => by simp at h
  | b :: l, 0, h => by simp at h; subst h; simp
  | b :: l, i + 1, h => by
    have := cnt_set l i (by simpa using h)
    simp only [List.set_cons_succ, List.countP_cons]
    omega
section
variable {Pr : Program} {wm : Option P} {ds : List Dop} {ops : Array Oper} {e : Env} {nx : P} {h : Hp} {E : Nat → Env} {X : Nat → P} {H : Nat → Hp} {Ls : List Nat} {N hi : Nat} {j0 : J} {pv0 : P → Option Nat} {a0 : Act} {w0 : World}
theorem ready_iff {listed : Array Bool} {i : Nat} : i ∈ Region.ready .any ops listed ↔ ∃ o, ops[i]? = some o ∧ listed.getD i true = false ∧ ∀ m ∈ edges o, listed.getD m false = true := by
  unfold Region.ready
  rw [List.mem_filter, List.mem_range]
  constructor
  · rintro ⟨h1, h2⟩
    rw [Array.getElem?_eq_getElem h1] at h2
    simp only [Option.map_some, Option.getD_some, Bool.and_eq_true, Bool.not_eq_true', Array.all_eq_true_iff_forall_mem, Bool.or_eq_true] at h2
    refine ⟨ops[i], Array.getElem?_eq_getElem h1, h2.1, ?_⟩
    intro m hm
    simp only [edges, List.mem_map, List.mem_filter, Array.mem_toList_iff] at hm
    obtain ⟨ed, ⟨h3, h4⟩, rfl⟩ := hm
    rcases h2.2 ed h3 with h5 | h5
    · rw [h4] at h5; cases h5
    · exact h5
  · rintro ⟨o, h1, h2, h3⟩
    have hlt : i < ops.size := (Array.getElem?_eq_some_iff.1 h1).1
    refine ⟨hlt, ?_⟩
    rw [h1]
    simp only [Option.map_some, Option.getD_some, Bool.and_eq_true, Bool.not_eq_true', Array.all_eq_true_iff_forall_mem, Bool.or_eq_true]
    refine ⟨h2, fun ed hed => ?_⟩
    cases hb : Region.binds .any ed with
    | false => exact .inl rfl
    | true => exact .inr (h3 _ (by simp only [edges, List.mem_map, List.mem_filter, Array.mem_toList_iff]; exact ⟨ed, ⟨hed, hb⟩, rfl⟩))
theorem any_sim (D : DrwOk Pr Ls N ds ops.toList) (st : Sts Pr wm ds ops.toList e nx h E X H) (top : ∀ k : P, nx.n ≤ k.n → Tr.get? k h = none) (hnh : (X ds.length).n ≤ hi) {Q : Exit → Act → World → Prop}
    (hQ : ∀ j' pv' a' w', Rel (vars Ls) N hi j' pv' (E ds.length) (X ds.length) (H ds.length) a' w' → Fr hi nx.n j0 pv0 w0 j' pv' w' → a'.defers = a0.defers → Q .normal a' w') :
    ∀ (fuel : Nat) (listed : Array Bool) (j : J) (pv : P → Option Nat) (a : Act) (w : World), listed.size = ops.size → listed.toList.countP (! ·) ≤ fuel → Down ops.toList (fun q => listed.getD q false = true) →
      Inv ds E X H Ls N hi j0 pv0 a0 w0 (fun q => listed.getD q false = true) j pv a w → wpAny Pr .any ops Q fuel listed a w := by
  have hl : ds.length = ops.toList.length := D.len
  have fin : ∀ (listed : Array Bool) (j : J) (pv : P → Option Nat) (a : Act) (w : World), listed.size = ops.size → Inv ds E X H Ls N hi j0 pv0 a0 w0 (fun q => listed.getD q false = true) j pv a w → Region.ready .any ops listed = [] → Q .normal a w := by
    intro listed j pv a w hsz I hr
    have hall : ∀ q, q < ops.size → listed.getD q false = true := by
      intro q
      induction q using Nat.strongRecOn with
      | _ q ih =>
        intro hq
        cases hb : listed.getD q false with
        | true => rfl
        | false =>
          exfalso
          have hmem : q ∈ Region.ready .any ops listed := by
            refine ready_iff.2 ⟨ops[q], Array.getElem?_eq_getElem hq, ?_, ?_⟩
            · rw [Array.getD_eq_getD_getElem?, Array.getElem?_eq_getElem (by omega)] at hb ⊢
              exact hb
            · intro m hm
              have hmq := D.edge q ops[q] (by rw [Array.getElem?_toList, Array.getElem?_eq_getElem hq]) m hm
              exact ih m hmq (by omega)
          rw [hr] at hmem; cases hmem
    obtain ⟨h1, h2, h3⟩ := I.finish st hl top (fun q hq => hall q (by rw [hl] at hq; simpa using hq))
    exact hQ j pv a w h1 h2 h3
  intro fuel
  induction fuel with
  | zero =>
    intro listed j pv a w hsz hcnt hdown I
    have hr : Region.ready .any ops listed = [] := by
      rw [List.eq_nil_iff_forall_not_mem]
      intro i hi
      obtain ⟨o, h1, h2, _⟩ := ready_iff.1 hi
      have hlt : i < ops.size := (Array.getElem?_eq_some_iff.1 h1).1
      rw [Array.getD_eq_getD_getElem?, Array.getElem?_eq_getElem (by omega)] at h2
      simp only [Option.getD_some] at h2
      have hpos : 0 < listed.toList.countP (! ·) := List.countP_pos_iff.2 ⟨listed[i], Array.getElem_mem_toList _, by simp [h2]⟩
      omega
    exact ⟨hr, fin listed j pv a w hsz I hr⟩
  | succ fuel ih =>
    intro listed j pv a w hsz hcnt hdown I
    refine ⟨fin listed j pv a w hsz I, ?_⟩
    intro i hir
    obtain ⟨o, h1, h2, h3⟩ := ready_iff.1 hir
    have hlt : i < ops.size := (Array.getElem?_eq_some_iff.1 h1).1
    have h2' : listed[i]? = some false := by
      rw [Array.getD_eq_getD_getElem?, Array.getElem?_eq_getElem (by omega)] at h2
      rw [Array.getElem?_eq_getElem (by omega)]; simpa using h2
    have hnS : ¬ listed.getD i false = true := by rw [Array.getD_eq_getD_getElem?, h2']; simp
    have ho : ops.toList[i]? = some o := by rw [Array.getElem?_toList]; exact h1
    have hil : i < ds.length := by rw [hl]; simpa using hlt
    have hd : ds[i]? = some ds[i] := List.getElem?_eq_getElem hil
    have hdop := D.dop i _ hd
    have hc := D.ops i _ o hd ho
    have side := fun (q : Nat) (x : Dop) (hx : ds[q]? = some x) (hcl : clash x ds[i] = true) => D.side hdown ho h3 hnS hx hd hcl
    cases hdi : ds[i] with
    | mk c u b r op =>
      rw [hdi] at hd hdop hc side
      simp only [okDop, Bool.and_eq_true] at hdop
      obtain ⟨⟨⟨⟨k1, k2⟩, k3⟩, k4⟩, k5⟩ := hdop
      subst k1
      have A : Now Pr wm ds ops.toList e nx h E X H Ls N hi (fun q => listed.getD q false = true) i u b r op o := {
        st := st, hl := hl, top := top, hnh := hnh, hd := hd, ho := ho, hn := hnS, side := side
        hdb := fun p hp => (memP_iff p b).1 (allIn_spec k3 p hp)
        hbu := fun p hp => by
          have := allIn_spec k4 p hp
          rw [Bool.or_eq_true, memP_iff, memP_iff] at this; exact this
        hvu := fun hv p hp => by
          rw [hv] at k2
          simp only [Bool.not_true, Bool.false_or] at k2
          exact (memP_iff p u).1 (allIn_spec k2 p hp)
        hlv := fun h1 h2 p hp hL => by
          rw [h1, h2] at k5
          simp only [Bool.false_or] at k5
          have := allIn_spec k5 p hp
          unfold vars at hL
          rw [hL] at this
          simp only [Bool.not_true, Bool.false_or] at this
          exact (memP_iff p b).1 this
        hc := hc }
      have hset : (fun q => (listed.setIfInBounds i true).getD q false = true) = addS (fun q => listed.getD q false = true) i := by
        funext q
        simp only [addS, eq_iff_iff, Array.getD_eq_getD_getElem?, Array.getElem?_setIfInBounds]
        by_cases hq : i = q
        · subst hq; simp [show i < listed.size by omega]
        · rw [if_neg hq]; exact ⟨.inl, fun h => h.elim id (fun h => absurd h.symm hq)⟩
      have W := A.wp rfl I (K := wpAny Pr .any ops Q fuel (listed.setIfInBounds i true)) (Q := Q) (by
        intro j' pv' a' w' I'
        refine ih _ j' pv' a' w' (by simpa using hsz) ?_ ?_ (by rw [hset]; exact I')
        · have := cnt_set listed.toList i (by rw [Array.getElem?_toList]; exact h2')
          rw [Array.toList_setIfInBounds]; omega
        · rw [hset]
          intro q oq hq hoq m hm
          rcases hq with hq | rfl
          · exact .inl (hdown q oq hq hoq m hm)
          · rw [ho] at hoq; cases hoq; exact .inl (h3 m hm))
      unfold OperWp at W
      unfold wpOp
      rw [h1]
      simp only []
      by_cases hw : Region.wanted o (yielded ops a.tmps) = true
      · rw [if_pos hw] at W ⊢; exact .inl W
      · rw [if_neg hw] at W ⊢; exact W
end
section
variable {Pr : Program} {F : Tr Fd}
theorem exec_sound (hF : FOk Pr F) (hm : Pr.follows .mixedOrders = true) : ∀ fuel, IhOk Pr (exec F fuel) := by
  intro fuel
  induction fuel with
  | zero => intro c wm e nx h out e' nx' h' H; cases H
  | succ fuel ihf =>
    have key : ∀ (c : C) (wm : Option P) (e : Env) (nx : P) (h : Hp) (out : Out) (e' : Env) (nx' : P) (h' : Hp), step c F (exec F fuel) wm e nx h = .ok out e' nx' h' →
        ∀ (Ls : List Nat) (N : Nat) (c' : Code), chkC Pr Ls N c c' = true → MovesC wm nx h nx' h' ∧ CodeOk Pr Ls N c' e nx h out e' nx' h' := by
      intro c
      induction c with
      | skip =>
        intro wm e nx h out e' nx' h' H Ls N c' hc
        change Res.ok .norm e nx h = _ at H
        cases H
        refine ⟨MovesC.refl _ _ _, ?_⟩
        intro hi j pv a w R _ Q hQ
        have hq := hQ j pv a w R (Fr.refl _ _ _ _ _) rfl
        cases c' <;> simp only [chkC, Bool.false_eq_true] at hc
        · exact wp_skip hq
        · exact wp_label hq
      | exit id =>
        intro wm e nx h out e' nx' h' H Ls N c' hc
        change Res.ok (.exit id) e nx h = _ at H
        cases H
        refine ⟨MovesC.refl _ _ _, ?_⟩
        intro hi j pv a w R _ Q hQ
        have hq := hQ j pv a w R (Fr.refl _ _ _ _ _) rfl
        cases c' <;> simp only [chkC, Bool.false_eq_true] at hc
        have := beqT hc
        subst this
        exact wp_exit hq
      | ret =>
        intro wm e nx h out e' nx' h' H Ls N c' hc
        change Res.ok .ret e nx h = _ at H
        cases H
        refine ⟨MovesC.refl _ _ _, ?_⟩
        intro hi j pv a w R _ Q hQ
        have hq := hQ j pv a w R (Fr.refl _ _ _ _ _) rfl
        cases c' <;> simp only [chkC, Bool.false_eq_true] at hc
        exact wp_ret hq
      | reg l =>
        intro wm e nx h out e' nx' h' H Ls N c' hc
        change opsK l F (exec F fuel) wm e nx h okN = _ at H
        obtain ⟨id, ops, draw, rfl⟩ : ∃ id ops draw, c' = .region id ops draw := by
          cases c' <;> first | exact ⟨_, _, _, rfl⟩ | (simp [chkC] at hc)
        obtain rfl : draw = false := by cases draw with
          | false => rfl
          | true => first | exact absurd hc (by simp [chkC]) | cases hc
        change chkOps Pr Ls N ops.toList l ops.toList = true at hc
        obtain ⟨e1, nx1, h1, H1, M, W⟩ := ops_sim (ops := ops) (Ls := Ls) (N := N) hF ihf l 0 e nx h okN H (by simpa using hc)
        change Res.ok .norm e1 nx1 h1 = _ at H1
        cases H1
        refine ⟨M, ?_⟩
        intro hi j pv a w R hnh Q hQ
        refine wp_region ?_
        have := W hi j pv a w R hnh Q hQ
        rw [List.range_eq_range']
        exact this
      | drw l =>
        intro wm e nx h out e' nx' h' H Ls N c' hc
        change dopsK l F (exec F fuel) wm e nx h okN = _ at H
        obtain ⟨id, ops, draw, rfl⟩ : ∃ id ops draw, c' = .region id ops draw := by
          cases c' <;> first | exact ⟨_, _, _, rfl⟩ | (simp [chkC] at hc)
        obtain rfl : draw = true := by cases draw with
          | true => rfl
          | false => first | exact absurd hc (by simp [chkC]) | cases hc
        change chkDrw Pr Ls N l ops.toList = true at hc
        have D := chkDrw_spec hc
        have hch : chkOps Pr Ls N ops.toList (l.map opD) ops.toList = true := by
          simp only [chkDrw, Bool.and_eq_true] at hc; exact hc.1.1.1
        obtain ⟨E, X, Hh, st, H1⟩ := dops_sim hF ihf l ops.toList e nx h okN H hch
        change Res.ok .norm (E l.length) (X l.length) (Hh l.length) = _ at H1
        have hl : l.length = ops.toList.length := D.len
        cases H1
        refine ⟨⟨?_, ?_, ?_⟩, ?_⟩
        · have := st.le hl (Nat.zero_le _) (Nat.le_refl _); rw [st.x0] at this; exact this
        · intro m hmw hmn
          exact (st.mono hl (fun m' hm' => by rw [hmw] at hm'; cases hm'; exact hmn) l.length (Nat.le_refl _)).old m hmw hmn
        · intro ht; exact st.top hl ht l.length (Nat.le_refl _)
        · intro hi j pv a w R hnh Q hQ
          refine wp_region_any hm ?_
          have R' := R.drew (w.drawn + 1)
          refine any_sim D st R.top hnh (j0 := j) (pv0 := pv) (a0 := a) (w0 := { w with drawn := w.drawn + 1 }) ?_ ops.size _ j pv a _ (by simp) ?_ ?_ ?_
          · intro j' pv' a' w' R2 F2 hd
            exact hQ j' pv' a' w' R2 ((Fr.drew hi nx.n j pv w (w.drawn + 1)).trans F2 (Nat.le_refl _)) hd
          · refine Nat.le_trans List.countP_le_length ?_
            simp
          · intro i o hi' _ _ _
            rw [Array.getD_eq_getD_getElem?, Array.getElem?_replicate] at hi'
            split at hi' <;> simp at hi'
          · have hS : (fun q => (Array.replicate ops.size false).getD q false = true) = (fun _ => False) := by
              funext q
              rw [Array.getD_eq_getD_getElem?, Array.getElem?_replicate]
              split <;> simp
            rw [hS]
            exact Inv.start st hl R' hnh
      | seq a b iha ihb =>
        intro wm e nx h out e' nx' h' H Ls N c' hc
        change Res.rec (motive := fun _ => Res) .fail (sqO (step b) F (exec F fuel) wm) (step a F (exec F fuel) wm e nx h) = _ at H
        cases c' <;> simp only [chkC, Bool.false_eq_true] at hc
        rename_i a' b'
        rw [Bool.and_eq_true] at hc
        cases hr : step a F (exec F fuel) wm e nx h with
        | fail => rw [hr] at H; cases H
        | ok o1 e1 nx1 h1 =>
          rw [hr] at H
          obtain ⟨M1, C1⟩ := iha wm e nx h o1 e1 nx1 h1 hr Ls N a' hc.1
          cases o1 with
          | norm =>
            change step b F (exec F fuel) wm e1 nx1 h1 = _ at H
            obtain ⟨M2, C2⟩ := ihb wm e1 nx1 h1 out e' nx' h' H Ls N b' hc.2
            refine ⟨M1.trans M2, ?_⟩
            intro hi j pv ac w R hnh Q hQ
            refine wp_seq (cwp_wp (C1 hi j pv ac w R (Nat.le_trans M2.le hnh) _ ?_))
            intro j1 pv1 a1 w1 R1 F1 hd1
            refine cwp_wp (C2 hi j1 pv1 a1 w1 R1 hnh Q ?_)
            intro j2 pv2 a2 w2 R2 F2 hd2
            exact hQ j2 pv2 a2 w2 R2 (F1.trans F2 M1.le) (hd2.trans hd1)
          | exit id =>
            change Res.ok (.exit id) e1 nx1 h1 = _ at H
            cases H
            refine ⟨M1, ?_⟩
            intro hi j pv ac w R hnh Q hQ
            exact wp_seq (cwp_wp (C1 hi j pv ac w R hnh _ hQ))
          | ret =>
            change Res.ok .ret e1 nx1 h1 = _ at H
            cases H
            refine ⟨M1, ?_⟩
            intro hi j pv ac w R hnh Q hQ
            exact wp_seq (cwp_wp (C1 hi j pv ac w R hnh _ hQ))
      | cond cd a b iha ihb =>
        intro wm e nx h out e' nx' h' H Ls N c' hc
        change asB (ev cd e) .fail (cdB (step a) (step b) F (exec F fuel) wm e nx h) = _ at H
        rw [asB_eq] at H
        cases c' <;> simp only [chkC, Bool.false_eq_true] at hc
        rename_i cd' a' b'
        simp only [Bool.and_eq_true] at hc
        cases hv : ev cd e <;> simp only [hv, reduceCtorEq] at H
        rename_i t
        have hval : ∀ (hi : Nat) (j : J) (pv : P → Option Nat) (ac : Act) (w : World), Rel (vars Ls) N hi j pv e nx h ac w → ac.eval cd' = .bool t := by
          intro hi j pv ac w R
          have := R.reads cd cd' hc.1.1
          rw [hv] at this; exact this.bool
        cases t with
        | true =>
          change step a F (exec F fuel) wm e nx h = _ at H
          obtain ⟨M, Cc⟩ := iha wm e nx h out e' nx' h' H Ls N a' hc.1.2
          exact ⟨M, fun hi j pv ac w R hnh Q hQ => wp_cond_true (hval hi j pv ac w R) (cwp_wp (Cc hi j pv ac w R hnh Q hQ))⟩
        | false =>
          change step b F (exec F fuel) wm e nx h = _ at H
          obtain ⟨M, Cc⟩ := ihb wm e nx h out e' nx' h' H Ls N b' hc.2
          exact ⟨M, fun hi j pv ac w R hnh Q hQ => wp_cond_false (hval hi j pv ac w R) (cwp_wp (Cc hi j pv ac w R hnh Q hQ))⟩
      | block id a iha =>
        intro wm e nx h out e' nx' h' H Ls N c' hc
        change Res.rec (motive := fun _ => Res) .fail (bkO id) (step a F (exec F fuel) wm e nx h) = _ at H
        cases c' <;> simp only [chkC, Bool.false_eq_true] at hc
        rename_i id' a'
        rw [Bool.and_eq_true] at hc
        have hid := beqT hc.1
        subst hid
        cases hr : step a F (exec F fuel) wm e nx h with
        | fail => rw [hr] at H; cases H
        | ok o1 e1 nx1 h1 =>
          rw [hr] at H
          obtain ⟨M1, C1⟩ := iha wm e nx h o1 e1 nx1 h1 hr Ls N a' hc.2
          have fin : ∀ o2, Res.ok o2 e1 nx1 h1 = .ok out e' nx' h' → (∀ (Q : Exit → Act → World → Prop) ac w, Q (exitOf o2) ac w → Exit.inBlock id Q (exitOf o1) ac w) → MovesC wm nx h nx' h' ∧ CodeOk Pr Ls N (.block id a') e nx h out e' nx' h' := by
            intro o2 H2 hx
            cases H2
            refine ⟨M1, ?_⟩
            intro hi j pv ac w R hnh Q hQ
            refine wp_block (cwp_wp (C1 hi j pv ac w R hnh _ ?_))
            intro j1 pv1 a1 w1 R1 F1 hd1
            exact hx Q a1 w1 (hQ j1 pv1 a1 w1 R1 F1 hd1)
          cases o1 with
          | norm => exact fin .norm H (fun Q ac w h => h)
          | ret => exact fin .ret H (fun Q ac w h => h)
          | exit i =>
            change Bool.rec (motive := fun _ => Res) (.ok (.exit i) e1 nx1 h1) (.ok .norm e1 nx1 h1) (Nat.beq i id) = _ at H
            cases hb : Nat.beq i id with
            | true =>
              rw [hb] at H
              have := beqT hb
              exact fin .norm H (fun Q ac w h => by show (if i = id then Q .normal ac w else Q (.exit i) ac w); rw [if_pos this]; exact h)
            | false =>
              rw [hb] at H
              have hne : i ≠ id := fun h => by rw [h, Nat.beq_refl] at hb; cases hb
              exact fin (.exit i) H (fun Q ac w h => by show (if i = id then Q .normal ac w else Q (.exit i) ac w); rw [if_neg hne]; exact h)
      | loop lv a iha =>
        intro wm e nx h out e' nx' h' H Ls N c' hc
        change keepK lv e .nl (fun e => Res.rec (motive := fun _ => Res) .fail (lpO (.loop lv a) F (exec F fuel) wm) (step a F (exec F fuel) wm e nx h)) = _ at H
        rw [keepK_eq] at H
        have hc0 := hc
        cases c' <;> simp only [chkC, Bool.false_eq_true] at hc
        rename_i a'
        cases hr : step a F (exec F fuel) wm (keep e lv .nl) nx h with
        | fail => simp only [hr] at H; cases H
        | ok o1 e1 nx1 h1 =>
          simp only [hr] at H
          obtain ⟨M1, C1⟩ := iha wm _ nx h o1 e1 nx1 h1 hr Ls N a' hc
          cases o1 with
          | norm =>
            change exec F fuel (.loop lv a) wm e1 nx1 h1 = _ at H
            obtain ⟨M2, C2⟩ := ihf _ _ _ _ _ _ _ _ _ H Ls N (.loop a') hc0
            refine ⟨M1.trans M2, ?_⟩
            intro hi j pv ac w R hnh Q hQ
            obtain ⟨pvk, Rk, Fk⟩ := R.keep lv
            refine LoopWp.round (cwp_wp (C1 hi j pvk ac w Rk (Nat.le_trans M2.le hnh) _ ?_))
            intro j1 pv1 a1 w1 R1 F1 hd1
            refine C2 hi j1 pv1 a1 w1 R1 hnh Q ?_
            intro j2 pv2 a2 w2 R2 F2 hd2
            exact hQ j2 pv2 a2 w2 R2 ((Fk.trans F1 (Nat.le_refl _)).trans F2 M1.le) (hd2.trans hd1)
          | exit id =>
            change Res.ok (.exit id) e1 nx1 h1 = _ at H
            cases H
            refine ⟨M1, ?_⟩
            intro hi j pv ac w R hnh Q hQ
            obtain ⟨pvk, Rk, Fk⟩ := R.keep lv
            exact LoopWp.round (cwp_wp (C1 hi j pvk ac w Rk hnh _ fun j1 pv1 a1 w1 R1 F1 hd1 => hQ j1 pv1 a1 w1 R1 (Fk.trans F1 (Nat.le_refl _)) hd1))
          | ret =>
            change Res.ok .ret e1 nx1 h1 = _ at H
            cases H
            refine ⟨M1, ?_⟩
            intro hi j pv ac w R hnh Q hQ
            obtain ⟨pvk, Rk, Fk⟩ := R.keep lv
            exact LoopWp.round (cwp_wp (C1 hi j pvk ac w Rk hnh _ fun j1 pv1 a1 w1 R1 F1 hd1 => hQ j1 pv1 a1 w1 R1 (Fk.trans F1 (Nat.le_refl _)) hd1))
    intro c wm e nx h out e' nx' h' H
    exact key c wm e nx h out e' nx' h' H
def Tr.All {α : Type} (Q : P → α → Prop) (t : Tr α) : Prop :=
  Tr.rec (motive := fun _ => (P → α → Prop) → Prop) (fun _ => True) (fun v _ _ il ir Q => Option.rec True (Q .z) v ∧ il (fun p => Q (.l p)) ∧ ir (fun p => Q (.r p))) t Q
theorem Tr.All.get {α : Type} : ∀ (t : Tr α) (Q : P → α → Prop), Tr.All Q t → ∀ p x, Tr.get? p t = some x → Q p x := by
  intro t
  induction t with
  | nl => intro Q _ p x h; rw [Tr.get_e] at h; cases h
  | nd v l r il ir =>
    intro Q h p x hx
    obtain ⟨h1, h2, h3⟩ := (h : Option.rec (motive := fun _ => Prop) True (Q .z) v ∧ Tr.All (fun p => Q (.l p)) l ∧ Tr.All (fun p => Q (.r p)) r)
    cases p with
    | z => rw [Tr.get_z] at hx; subst hx; exact h1
    | l p => rw [Tr.get_l] at hx; exact il _ h2 p x hx
    | r p => rw [Tr.get_r] at hx; exact ir _ h3 p x hx
theorem FOk.of {Pr : Program} {F : Tr Fd} (h : Tr.All (FdOk Pr) F) : FOk Pr F := fun f fd hf => Tr.All.get F _ h f fd hf
theorem fok {Pr : Program} {f : P} {fd : Fd} {n : Nat} {fn : Func} {Ls : List Nat} (hn : f.n = n) (hf : Pr.funcs[n]? = some fn) (hc : chkFd Pr Ls fn fd = true) : FdOk Pr f fd := by
  cases fd with
  | mk ps body rs => exact ⟨fn, Ls, by rw [hn]; exact hf, hc⟩
  | prim k => simp [chkFd] at hc
theorem Rel.start {hi : Nat} {a : Act} {w : World} : Rel (fun _ => False) a.tmps.size hi (fun _ => none) (fun _ => none) .nl .z .nl a w where
  fresh := fun k i h => nomatch h
  heap := fun k i h => nomatch h
  inj := fun k k' b s c s' c' h => nomatch h
  inr := fun k k' b s c s' h => nomatch h
  env := fun p v h => by rw [Tr.get_e] at h; cases h
  pvv := fun p b h => nomatch h
  pin := fun p q b h => nomatch h
  pfr := fun p b h => nomatch h
  pfo := fun p b h => nomatch h
  loc := fun p l h => by rw [Tr.get_e] at h; cases h
  size := rfl
  lt := fun k b s c h => nomatch h
  lr := fun k b s h => nomatch h
  top := fun k _ => Tr.get_e k
def GrownO (w w' : World) : Prop := w.keptBut w' (fun _ => False) ∧ (∀ a : Addr, a.block < w.heap.size → w'.frozen? a = w.frozen? a) ∧ w.heap.size ≤ w'.heap.size
theorem GrownO.frame {w w' : World} (h : GrownO w w') (may : MemPlace → Prop) : w.keptBut w' may := World.keptBut_mono (fun _ f => f.elim) h.1
end
end Go.Proofs.Ythdlkpmhjbaplaa.Dx
namespace Go.Proofs.Ythdlkpmhjbaplaa.Dx
open Go Go.ChangeShapes Go.WideShapes
structure Lay where
  nx : P
  h : Hp
  j : J
structure LayOk (w : World) (s : Lay) : Prop where
  ro : ∀ k i, s.j k = some i → k.n < s.nx.n ∧ ∃ b q l, i = .ro b q ∧ Tr.get? k s.h = some (.ro l) ∧ b < w.heap.size ∧ CellsAt s.j w b q l
  top : ∀ k : P, s.nx.n ≤ k.n → Tr.get? k s.h = none
structure LayLe (s s' : Lay) : Prop where
  nx : s.nx.n ≤ s'.nx.n
  j : ∀ k i, s.j k = some i → s'.j k = some i
  h : ∀ k : P, k.n < s.nx.n → Tr.get? k s'.h = Tr.get? k s.h
def Lay.Z (s : Lay) : P → Prop := fun k => k.n < s.nx.n
theorem LayLe.refl (s : Lay) : LayLe s s := ⟨Nat.le_refl _, fun _ _ h => h, fun _ _ => rfl⟩
theorem LayLe.trans {a b c : Lay} (x : LayLe a b) (y : LayLe b c) : LayLe a c := ⟨Nat.le_trans x.nx y.nx, fun k i h => y.j k i (x.j k i h), fun k h => (y.h k (Nat.lt_of_lt_of_le h x.nx)).trans (x.h k h)⟩
theorem LayLe.ext {a b : Lay} (x : LayLe a b) : Ext a.j b.j := fun k i h => .inl (x.j k i h)
theorem LayLe.xrs {a b : Lay} (x : LayLe a b) {l : List VV} {d : List DV} (r : XRs a.Z a.h none l d) : XRs b.Z b.h none l d :=
  XRs.mono (fun k h => Nat.lt_of_lt_of_le h x.nx) (fun k h => objAt_of (x.h k h)) (MLe.refl _) r
section
variable {H : Type} (enc : TypeId × Value → H) (P : Program) (w : World)
def RdOk (t : TypeId) (sz : Nat) {α : Type} (E : α → List VV) (ok : α → Prop) : Prop :=
  ∀ (fuel : Nat) (cs : List Value) (x : DataW H × List MemPlace), DataW.trod enc P w 0 (fun _ => true) true fuel t cs = some x →
    ∃ a : α, ok a ∧ ∀ s, LayOk w s → ∃ s' ds, LayOk w s' ∧ LayLe s s' ∧ VRs s'.j ds cs ∧ ds.length = sz ∧ XRs s'.Z s'.h none (E a) ds
variable {enc P w}
theorem RdOk.map {t : TypeId} {sz : Nat} {α β : Type} {E : α → List VV} {ok : α → Prop} {E' : β → List VV} {ok' : β → Prop} (R : RdOk enc P w t sz E ok) (f : α → β) (hE : ∀ a, E' (f a) = E a) (ho : ∀ a, ok a → ok' (f a)) : RdOk enc P w t sz E' ok' := by
  intro fuel cs x hx
  obtain ⟨a, h1, h2⟩ := R fuel cs x hx
  refine ⟨f a, ho a h1, ?_⟩
  rw [hE]; exact h2
theorem RdOk.int {t : TypeId} {k : IntKind} (ht : P.underlying t = some (.int k)) : RdOk enc P w t 1 (fun n : Int => [.int k n]) (fun n => (Lit.int k n).wf = true) := by
  intro fuel cs x hx
  obtain ⟨n, rfl, rfl, hw⟩ := DataW.trod_int ht hx
  exact ⟨n, hw, fun s hs => ⟨s, [.int k n], hs, LayLe.refl s, .cons (.int k n) rfl .nil, rfl, .cons (.int k n) .nil⟩⟩
theorem RdOk.bool {t : TypeId} (ht : P.underlying t = some .bool) : RdOk enc P w t 1 (fun b : Bool => [.bool b]) (fun _ => True) := by
  intro fuel cs x hx
  obtain ⟨b, rfl, rfl⟩ := DataW.trod_bool ht hx
  exact ⟨b, trivial, fun s hs => ⟨s, [.bool b], hs, LayLe.refl s, .cons (.bool b) rfl .nil, rfl, .cons (.bool b) .nil⟩⟩
theorem cell_add {a : Addr} {m q : Nat} {v : Value} (h : w.cell? ((a.add m).add q) = some v) : w.cell? ⟨a.block, a.off + (m + q), none⟩ = some v := by
  have hs : ((a.add m).add q).spot = none := by
    cases hsp : ((a.add m).add q).spot with
    | none => rfl
    | some s =>
      simp only [World.cell?] at h
      split at h
      · simp [hsp] at h
      · cases h
  have e : (a.add m).add q = ⟨a.block, a.off + (m + q), none⟩ := by
    have e1 : ((a.add m).add q).block = a.block := by unfold Addr.add; split <;> split <;> rfl
    have e2 : ((a.add m).add q).off = a.off + (m + q) := by unfold Addr.add; split <;> split <;> simp_all [Nat.add_assoc]
    rw [← e1, ← e2, ← hs]
  rw [e] at h; exact h
theorem spot_none {a : Addr} {v : Value} (h : w.cell? ((a.add 0).add 0) = some v) : a = ⟨a.block, a.off, none⟩ := by
  have e : (a.add 0).add 0 = a := by simp [Addr.add]
  rw [e] at h
  have hs : a.spot = none := by
    cases hsp : a.spot with
    | none => rfl
    | some s =>
      simp only [World.cell?] at h
      split at h
      · simp [hsp] at h
      · cases h
  rw [← hs]
theorem cells_get {a : Addr} {n : Nat} {cs : List Value} (h : w.cells? 0 a n = some cs) : cs.length = n ∧ ∀ (q : Nat) (v : Value), cs[q]? = some v → w.cell? (a.add q) = some v := by
  unfold World.cells? at h
  rw [if_pos (Nat.zero_le _)] at h
  have hl : cs.length = n := by simpa using mapM_some_length h
  refine ⟨hl, fun q v hv => ?_⟩
  have hq : q < n := by
    have := (List.getElem?_eq_some_iff.1 hv).1; omega
  rw [mapM_some_get h q q (by simp [hq]), hv]
theorem RdOk.elems {e : TypeId} {sz : Nat} {α : Type} {E : α → List VV} {ok : α → Prop} (R : RdOk enc P w e sz E ok) {a : Addr} {fuel : Nat} {len : Nat} {elems : List (DataW H × List MemPlace)} (hlen : elems.length = len)
    (hr : ∀ i, i < len → (w.cells? 0 (a.add (i * sz)) sz).bind (DataW.trod enc P w 0 (fun _ => true) true fuel e) = elems[i]?) :
    ∀ m, m ≤ len → ∃ (l : List α) (css : List Value), l.length = m ∧ (∀ x ∈ l, ok x) ∧ css.length = m * sz ∧ (∀ (i : Nat) (v : Value), css[i]? = some v → w.cell? ⟨a.block, a.off + i, none⟩ = some v) ∧ (0 < m → 0 < sz → a = ⟨a.block, a.off, none⟩) ∧
      ∀ s, LayOk w s → ∃ s' ds, LayOk w s' ∧ LayLe s s' ∧ VRs s'.j ds css ∧ ds.length = m * sz ∧ XRs s'.Z s'.h none (l.flatMap E) ds
  | 0, _ => ⟨[], [], rfl, by simp, by simp, by simp, fun h => absurd h (by omega), fun s hs => ⟨s, [], hs, LayLe.refl s, .nil, by simp, .nil⟩⟩
  | m + 1, hm => by
    obtain ⟨l, css, h1, h2, h3, h4, h5, h6⟩ := RdOk.elems R hlen hr m (by omega)
    have hx := hr m (by omega)
    rw [List.getElem?_eq_getElem (by omega)] at hx
    obtain ⟨cs, hc, hy⟩ := Option.bind_eq_some_iff.1 hx
    obtain ⟨hcl, hcg⟩ := cells_get hc
    obtain ⟨x, hxo, X⟩ := R _ _ _ hy
    refine ⟨l ++ [x], css ++ cs, by simp [h1], ?_, by simp [h3, hcl, Nat.add_mul], ?_, ?_, ?_⟩
    · intro y hy
      rcases List.mem_append.1 hy with hy | hy
      · exact h2 y hy
      · simp at hy; subst hy; exact hxo
    · intro i v hv
      by_cases hi : i < m * sz
      · rw [List.getElem?_append_left (by omega)] at hv; exact h4 i v hv
      · rw [List.getElem?_append_right (by omega)] at hv
        have := cell_add (hcg _ _ hv)
        rw [show a.off + (m * sz + (i - css.length)) = a.off + i by omega] at this
        exact this
    · intro _ hs
      by_cases h0 : 0 < m
      · exact h5 h0 hs
      · obtain rfl : m = 0 := by omega
        have hv : cs[0]? = some cs[0] := List.getElem?_eq_getElem (by omega)
        have := hcg 0 _ hv
        rw [Nat.zero_mul] at this
        exact spot_none this
    · intro s hs
      obtain ⟨s1, d1, a1, a2, a3, a4, a5⟩ := h6 s hs
      obtain ⟨s2, d2, b1, b2, b3, b4, b5⟩ := X s1 a1
      refine ⟨s2, d1 ++ d2, b1, a2.trans b2, (a3.mono b2.ext).append b3, by simp [a4, b4, Nat.add_mul], ?_⟩
      rw [List.flatMap_append, List.flatMap_cons, List.flatMap_nil, List.append_nil]
      exact (b2.xrs a5).append b5
theorem LayOk.push {s : Lay} (hs : LayOk w s) {b q : Nat} {ds : List DV} (hb : b < w.heap.size) (hc : CellsAt s.j w b q ds) :
    LayOk w ⟨s.nx.suc, Tr.set s.nx s.h (some (.ro ds)), s.j.put s.nx (.ro b q)⟩ ∧ LayLe s ⟨s.nx.suc, Tr.set s.nx s.h (some (.ro ds)), s.j.put s.nx (.ro b q)⟩ := by
  have hnone : s.j s.nx = none := by
    cases hj : s.j s.nx with
    | none => rfl
    | some i => exact absurd (hs.ro _ _ hj).1 (Nat.lt_irrefl _)
  have ne : ∀ k : Dx.P, k.n < s.nx.n → k ≠ s.nx := fun k hk e => by rw [e] at hk; exact Nat.lt_irrefl _ hk
  have le : LayLe s ⟨s.nx.suc, Tr.set s.nx s.h (some (.ro ds)), s.j.put s.nx (.ro b q)⟩ := by
    refine ⟨by rw [Dx.P.n_suc]; omega, fun k i h => ?_, fun k hk => ?_⟩
    · show (s.j.put s.nx (.ro b q)) k = some i
      rw [J.put_ne _ (ne k (hs.ro k i h).1)]; exact h
    · show Tr.get? k (Tr.set s.nx s.h (some (.ro ds))) = _
      rw [Tr.get_set, if_neg (ne k hk)]
  refine ⟨⟨fun k i hk => ?_, fun k hk => ?_⟩, le⟩
  · by_cases e : k = s.nx
    · subst e
      have hk' : i = .ro b q := by
        have := J.put_self s.j s.nx (.ro b q)
        exact (Option.some.inj (hk.symm.trans this))
      exact ⟨by rw [Dx.P.n_suc]; omega, b, q, ds, hk', by rw [Tr.get_set, if_pos rfl], hb, hc.mono le.ext⟩
    · have hk' : s.j k = some i := by
        have := J.put_ne s.j e (.ro b q)
        exact this.symm.trans hk
      obtain ⟨g1, b', q', l', g2, g3, g4, g5⟩ := hs.ro k i hk'
      exact ⟨by rw [Dx.P.n_suc]; omega, b', q', l', g2, by rw [Tr.get_set, if_neg e]; exact g3, g4, g5.mono le.ext⟩
  · rw [Dx.P.n_suc] at hk
    have e : k ≠ s.nx := by intro e; subst e; omega
    rw [Tr.get_set, if_neg e]; exact hs.top k (by omega)
theorem RdOk.slice {t e : TypeId} {sz : Nat} {α : Type} {E : α → List VV} {ok : α → Prop} (ht : P.underlying t = some (.slice e)) (R : RdOk enc P w e sz E ok) (hsz : P.cellsOf e = sz) (hp : 0 < sz) (hw : 0 < w.heap.size) :
    RdOk enc P w t 1 (fun l : List α => [.fz l.length none sz (l.flatMap E)]) (fun l => l.length ≤ maxLen ∧ ∀ x ∈ l, ok x) := by
  intro fuel cs x hx
  rcases DataW.trod_slice ht hx with ⟨rfl, rfl⟩ | ⟨a, len, cap, elems, rest, n, rfl, rfl, rfl, hb, hle, hmax, hlen, hr, _, _⟩
  · exact ⟨[], ⟨by simp, by simp⟩, fun s hs => ⟨s, [.nils], hs, LayLe.refl s, .cons .nils rfl .nil, rfl, .cons (.fz0 (.inl rfl)) .nil⟩⟩
  · rw [hsz] at hr
    obtain ⟨l, css, h1, h2, h3, h4, h5, h6⟩ := R.elems hlen hr len (Nat.le_refl _)
    refine ⟨l, ⟨by omega, h2⟩, fun s hs => ?_⟩
    obtain ⟨s1, d1, a1, a2, a3, a4, a5⟩ := h6 s hs
    have hone : ∀ (b q : Nat), b < w.heap.size → CellsAt s1.j w b q d1 → (∀ j' : J, j' s1.nx = some (.ro b q) → VR j' (.sl s1.nx 0 len none sz) (.slice (some a) len cap)) →
        ∃ s' ds, LayOk w s' ∧ LayLe s s' ∧ VRs s'.j ds [.slice (some a) len cap] ∧ ds.length = 1 ∧ XRs s'.Z s'.h none [.fz l.length none sz (l.flatMap E)] ds := by
      intro b q hb' hc hv
      obtain ⟨k1, k2⟩ := a1.push hb' hc
      refine ⟨_, [.sl s1.nx 0 len none sz], k1, a2.trans k2, .cons (hv _ (J.put_self _ _ _)) rfl .nil, rfl, .cons ?_ .nil⟩
      have hx := k2.xrs a5
      have hlen2 : (l.flatMap E).length = len * sz := by rw [← a4]; exact a5.length
      rw [h1]
      refine .fz (cells := d1) hlen2 (show s1.nx.n < (s1.nx.suc).n by rw [Dx.P.n_suc]; omega) (by unfold objAt; rw [Tr.get_set, if_pos rfl]) (by omega) ?_ (fun x h => by cases h) (fun x h => by cases h)
      rw [List.drop_zero, List.take_of_length_le (by omega)]
      exact hx
    by_cases h0 : 0 < len
    · have ha := h5 h0 hp
      have hcell : CellsAt s1.j w a.block a.off d1 := by
        intro i v hv
        obtain ⟨v', g1, g2, g3⟩ := a3.get i v hv
        exact ⟨v', h4 i v' g1, g2, g3⟩
      have hbl : a.block < w.heap.size := by
        have hpos : 0 < css.length := by rw [h3]; exact Nat.mul_pos h0 hp
        have hv : css[0]? = some css[0] := List.getElem?_eq_getElem hpos
        have := h4 0 _ hv
        unfold World.cell? at this
        cases hh : w.heap[a.block]? with
        | none => simp only [hh, reduceCtorEq] at this
        | some o => exact (Array.getElem?_eq_some_iff.1 hh).1
      refine hone a.block a.off hbl hcell fun j' hj => ?_
      rw [ha]
      exact VR.slO hj (fun _ => rfl) ⟨hle, fun c h => by cases h⟩
    · obtain rfl : len = 0 := by omega
      have hd : d1 = [] := List.eq_nil_of_length_eq_zero (by rw [a4]; omega)
      subst hd
      refine hone 0 0 hw (fun i v hv => by simp at hv) fun j' hj => VR.slE a hj ⟨hle, fun c h => by cases h⟩ (fun c h => by cases h)
end
def Lay.nil : Lay := ⟨.z, .nl, fun _ => none⟩
theorem Lay.nil_ok (w : World) : LayOk w Lay.nil := ⟨fun k i h => (nomatch h), fun k _ => Tr.get_e k⟩
theorem law_calls {Pr : Program} {F : Tr Fd} (hF : FOk Pr F) (hm : Pr.follows .mixedOrders = true) {f : P} {args : List VV} (H : VPure F f args (.bool true)) {w : World} {s : Lay} (hs : LayOk w s) {ds : List DV} {vs : List Value}
    (hv : VRt s.j ds vs) (hx : XRs s.Z s.h none args ds) : Calls Pr f.n vs.toArray w fun r w' => r = .returned (.bool true) ∧ GrownO w w' ∧ ∀ i, i < w.heap.size → w'.heap[i]? = w.heap[i]? := by
  have hH : HpR ⟨none, none, s.nx, s.h, s.Z, fun _ => False⟩ 0 0 [] s.nx s.h ⟨s.Z, fun _ => none⟩ := {
    blk := fun k o h => by simp [hget] at h
    own := fun k o r b q h => by simp [hget] at h
    inj := fun k k' o o' r r' b q q' h => by simp [hget] at h
    zlt := fun b h => h
    zold := fun b h => .inl h
    top := hs.top
    keep := fun b _ _ => rfl
    le := Nat.le_refl _
    wm := fun m h => (nomatch h)
    wf := fun m h => (nomatch h) }
  obtain ⟨r, nx', h', x, dnx', dh', g', ⟨fuel, hrun⟩, _, hxr, _, rfl⟩ := H _ s.nx s.h ⟨s.Z, fun _ => none⟩ ds rfl hH hx.none_any
  cases hxr
  have hr := hrun fuel (Nat.le_refl _) .nl okV
  obtain ⟨v1, nx1, h1, hk, hcall, _⟩ := call_sim hF (exec_sound hF hm fuel) (show callK F (exec F fuel) none f ds .nl s.nx s.h okV = .ok .norm (.nd (some (.bool true)) .nl .nl) dnx' dh' from hr)
  change Res.ok .norm (.nd (some v1) .nl .nl) nx1 h1 = _ at hk
  cases hk
  have R : Rel (fun _ => False) 0 dnx'.n s.j (fun _ => none) .nl s.nx s.h { tmps := #[], defers := [] } w := {
    fresh := fun k i h => .inl (hs.ro k i h).1
    heap := fun k i h _ => by
      obtain ⟨_, b, q, l, rfl, g2, g3, g4⟩ := hs.ro k i h
      exact ⟨l, g2, g3, g4⟩
    inj := fun k k' b q c q' c' h => by obtain ⟨_, _, _, _, e, _⟩ := hs.ro k _ h; cases e
    inr := fun k k' b q c q' h => by obtain ⟨_, _, _, _, e, _⟩ := hs.ro k _ h; cases e
    env := fun p v h => by rw [Tr.get_e] at h; cases h
    pvv := fun p b h => nomatch h
    pin := fun p q b h => nomatch h
    pfr := fun p b h => nomatch h
    pfo := fun p b h => nomatch h
    loc := fun p l h => by rw [Tr.get_e] at h; cases h
    size := rfl
    lt := fun k b q c h => by obtain ⟨_, _, _, _, e, _⟩ := hs.ro k _ h; cases e
    lr := fun k b q h => by obtain ⟨_, _, _, _, e, _, g, _⟩ := hs.ro k _ h; cases e; exact g
    top := hs.top }
  refine (hcall _ _ dnx'.n _ _ _ { tmps := #[], defers := [] } w R (Nat.le_refl _) vs hv).mono ?_
  rintro r w' ⟨v', j', rfl, R', F', hv⟩
  cases hv
  have same : ∀ i, i < w.heap.size → w'.heap[i]? = w.heap[i]? := fun i hi => F'.same i hi (fun k q c h => by obtain ⟨_, _, _, _, e, _⟩ := hs.ro k _ h; cases e) (fun p h => nomatch h)
  refine ⟨rfl, ⟨⟨F'.os, F'.output, fun i hi => ?_⟩, F'.froz, F'.size⟩, same⟩
  rw [same i hi]
  cases w.heap[i]? with
  | none => rfl
  | some ob => cases ob <;> simp
theorem stays {H : Type} {enc : TypeId × Value → H} {P : Program} {T : TypeId → Prop} (K : Kids P T) (hz : ∀ t e, T t → P.underlying t = some (.slice e) → 0 < P.cellsOf e) {W W' : World} {sp : Nat → Bool} :
    ∀ {ts : List TypeId} {vs : List Value} {ds : List (DataW H)} {ps : List MemPlace}, (∀ t ∈ ts, T t) → DataW.TrodAll enc P W 0 (fun _ => true) true ts vs ds ps → (∀ p ∈ ps, W.sameAt W' p) → (∀ p ∈ ps, sp p.block = true) → DataW.TrodAll enc P W' 0 sp true ts vs ds ps
  | [], [], [], _, _, h, _, _ => h
  | _ :: _, _ :: _, _ :: _, _, hT, ⟨p, q, ⟨n, h1⟩, h2, e⟩, hm, hs =>
    ⟨p, q, ⟨n, DataW.trod_respare K hz n _ _ _ (hT _ (List.mem_cons.2 (Or.inl rfl))) (DataW.trod_carry n _ _ _ h1 (fun x hx => hm x (by rw [e]; exact List.mem_append_left _ hx))) (fun x hx => hs x (by rw [e]; exact List.mem_append_left _ hx))⟩,
      stays K hz (fun t ht => hT t (List.mem_cons.2 (Or.inr ht))) h2 (fun x hx => hm x (by rw [e]; exact List.mem_append_right _ hx)) (fun x hx => hs x (by rw [e]; exact List.mem_append_right _ hx)), e⟩
theorem sameAt_of {W W' : World} (h : ∀ i, i < W.heap.size → W'.heap[i]? = W.heap[i]?) {p : MemPlace} (hp : p.block < W.heap.size) : W.sameAt W' p := by
  cases p with
  | cell b o => show W'.cell? _ = W.cell? _; unfold World.cell?; rw [h b hp]
  | map b => exact h b hp
theorem post_of_old {H : Type} {enc : TypeId × Value → H} {P : Program} {f : Func} {s : ChangeSpec} {apart fresh handsOn again : Bool} {W W' : World} {args : Array Value} {v : Value} {ds gs : List (DataW H)} {before pa pv : List MemPlace}
    (hW : DataW.Whole enc P f.params.toList s.vars apart W args.toList ds gs before)
    (hres : ∀ (b : Nat) (sp : Nat → Bool) (hd : Bool), DataW.TrodAll enc P W' b sp hd f.resultTypes.toList (v.resultList f.resultTypes.size) (s.fn H (ds ++ gs)).results [])
    (hargs : ∀ sp : Nat → Bool, (∀ p ∈ before, sp p.block = true) → DataW.TrodAll enc P W' 0 sp true f.params.toList args.toList (s.fn H (ds ++ gs)).args pa)
    (hvars : ∀ sp : Nat → Bool, (∀ p ∈ before, sp p.block = true) → DataW.TrodVars enc P W' sp s.vars (s.fn H (ds ++ gs)).vars pv)
    (hps : before = pa ++ pv) (hg : GrownO W W')
    (hok : ∀ (j : Nat) (t : TypeId) (r : Value), f.resultTypes[j]? = some t → (v.resultList f.resultTypes.size)[j]? = some r → Value.okWide P W' .any 0 t r) :
    s.post enc P f apart fresh handsOn again W args v W' := by
  have hlt := hW.lt
  have hin : ∀ p, p ∈ ([] ++ pa) ++ pv ↔ p ∈ before := fun p => by rw [hps, List.nil_append]
  have hold : ∀ p ∈ before, (fun b => decide (b < W.heap.size)) p.block = true := fun p hp => by simpa using hlt p hp
  have hfree := hW
  obtain ⟨_, _, _, _, _, hz, hn⟩ := hfree
  refine ⟨ds, gs, before, [], pa, pv, hW, hres _ _ _, hargs _ hold, hvars _ hold, World.keptBut_mono (fun p hp => ⟨hp, ?_⟩) (hg.frame (· ∈ before)), fun _ => ⟨hok, (s.fn H (ds ++ gs)).results ++ (s.fn H (ds ++ gs)).args, (s.fn H (ds ++ gs)).vars, ([] ++ pa) ++ pv, ⟨[] ++ pa, pv, trodAll_append (hargs (fun _ => true) (fun _ _ => rfl)) (hres _ _ _), hvars _ (fun _ _ => rfl), rfl, ?_, ?_⟩, ?_⟩⟩
  · have h2 : p ∈ before := hp
    rw [hps] at h2
    exact .inr (List.mem_append.1 h2)
  · intro b off hp
    have hb := (hin _).1 hp
    rw [hg.2.1 ⟨b, off, none⟩ (hlt (.cell b off) hb)]
    exact hz b off hb
  · intro ha
    have := hn ha
    rw [hps] at this
    exact this
  · intro p hp _
    exact (hin p).1 hp
end Go.Proofs.Ythdlkpmhjbaplaa.Dx
namespace Go.Proofs
open Go
def Try.sortL_ren : Go.Shelf.Ren := ⟨fun | 5 => 114 | 8 => 122 | 7 => 121 | 19 => 132 | 20 => 133 | 10 => 123 | 11 => 124 | 12 => 125 | 13 => 126 | 14 => 127 | 15 => 128 | 16 => 129 | 17 => 130 | 18 => 131 | 30 => 134 | 31 => 135 | 32 => 136 | 33 => 137 | 34 => 138 | 35 => 139 | 40 => 140 | n => n, fun | 23 => 40 | 25 => 3 | 3 => 3 | 32 => 67 | 22 => 40 | 0 => 0 | 44 => 142 | 46 => 144 | 4 => 4 | 36 => 136 | 35 => 135 | 41 => 55 | 5 => 5 | 9 => 9 | 53 => 145 | 57 => 149 | 63 => 151 | 64 => 46 | n => n, fun | n => n⟩
theorem Try.sortL : Go.Proofs.SlLaysM.n5 Try.prog Try.sortL_ren := {
  mixed := by kernel_rfl,
  f5 := ⟨ "slices.Sort[[]int,int]", by decide, Try.func114.trans (congrArg some (by kernel_rfl))⟩,
  f7 := ⟨ "slices.pdqsortOrdered[int]", by decide, Try.func121.trans (congrArg some (by kernel_rfl))⟩,
  f8 := Try.func122.trans (congrArg some (by kernel_rfl)),
  f10 := ⟨ "slices.insertionSortOrdered[int]", by decide, Try.func123.trans (congrArg some (by kernel_rfl))⟩,
  f11 := ⟨ "slices.heapSortOrdered[int]", by decide, Try.func124.trans (congrArg some (by kernel_rfl))⟩,
  f12 := ⟨ "slices.breakPatternsOrdered[int]", by decide, Try.func125.trans (congrArg some (by kernel_rfl))⟩,
  f13 := ⟨ "slices.choosePivotOrdered[int]", by decide, Try.func126.trans (congrArg some (by kernel_rfl))⟩,
  f14 := ⟨ "slices.reverseRangeOrdered[int]", by decide, Try.func127.trans (congrArg some (by kernel_rfl))⟩,
  f15 := ⟨ "slices.partialInsertionSortOrdered[int]", by decide, Try.func128.trans (congrArg some (by kernel_rfl))⟩,
  f16 := ⟨ "cmp.Less[int]", by decide, Try.func129.trans (congrArg some (by kernel_rfl))⟩,
  f17 := ⟨ "slices.partitionEqualOrdered[int]", by decide, Try.func130.trans (congrArg some (by kernel_rfl))⟩,
  f18 := ⟨ "slices.partitionOrdered[int]", by decide, Try.func131.trans (congrArg some (by kernel_rfl))⟩,
  f19 := Try.func132.trans (congrArg some (by kernel_rfl)),
  f20 := Try.func133.trans (congrArg some (by kernel_rfl)),
  f30 := ⟨ "slices.siftDownOrdered[int]", by decide, Try.func134.trans (congrArg some (by kernel_rfl))⟩,
  f31 := Try.func135.trans (congrArg some (by kernel_rfl)),
  f32 := Try.func136.trans (congrArg some (by kernel_rfl)),
  f33 := ⟨ "slices.medianAdjacentOrdered[int]", by decide, Try.func137.trans (congrArg some (by kernel_rfl))⟩,
  f34 := ⟨ "slices.medianOrdered[int]", by decide, Try.func138.trans (congrArg some (by kernel_rfl))⟩,
  f35 := ⟨ "cmp.isNaN[int]", by decide, Try.func139.trans (congrArg some (by kernel_rfl))⟩,
  f40 := ⟨ "slices.order2Ordered[int]", by decide, Try.func140.trans (congrArg some (by kernel_rfl))⟩,
  t0 := Try.underlying0,
  a0 := Try.isAgg0,
  z0 := Try.sizeOf0,
  v0 := Try.zeroValue0,
  t3 := Try.underlying3,
  a3 := Try.isAgg3,
  z3 := Try.sizeOf3,
  v3 := Try.zeroValue3,
  t4 := Try.underlying4,
  a4 := Try.isAgg4,
  z4 := Try.sizeOf4,
  v4 := Try.zeroValue4,
  t5 := Try.underlying5,
  a5 := Try.isAgg5,
  z5 := Try.sizeOf5,
  v5 := Try.zeroValue5,
  t9 := Try.underlying9,
  a9 := Try.isAgg9,
  z9 := Try.sizeOf9,
  v9 := Try.zeroValue9,
  t22 := Try.underlying40,
  a22 := Try.isAgg40,
  z22 := Try.sizeOf40,
  v22 := Try.zeroValue40,
  t23 := Try.underlying40,
  a23 := Try.isAgg40,
  z23 := Try.sizeOf40,
  v23 := Try.zeroValue40,
  t25 := Try.underlying3,
  a25 := Try.isAgg3,
  z25 := Try.sizeOf3,
  v25 := Try.zeroValue3,
  t32 := Try.underlying67,
  a32 := Try.isAgg67,
  z32 := Try.sizeOf67,
  v32 := Try.zeroValue67,
  t35 := Try.underlying135,
  a35 := Try.isAgg135,
  z35 := Try.sizeOf135,
  v35 := Try.zeroValue135,
  t36 := Try.underlying136,
  a36 := Try.isAgg136,
  z36 := Try.sizeOf136,
  v36 := Try.zeroValue136,
  t41 := Try.underlying55,
  a41 := Try.isAgg55,
  z41 := Try.sizeOf55,
  v41 := Try.zeroValue55,
  t44 := Try.underlying142,
  a44 := Try.isAgg142,
  z44 := Try.sizeOf142,
  v44 := Try.zeroValue142,
  t46 := Try.underlying144,
  a46 := Try.isAgg144,
  z46 := Try.sizeOf144,
  v46 := Try.zeroValue144,
  t53 := Try.underlying145,
  a53 := Try.isAgg145,
  z53 := Try.sizeOf145,
  v53 := Try.zeroValue145,
  t57 := Try.underlying149,
  a57 := Try.isAgg149,
  z57 := Try.sizeOf149,
  v57 := Try.zeroValue149,
  t63 := Try.underlying151,
  a63 := Try.isAgg151,
  z63 := Try.sizeOf151,
  v63 := Try.zeroValue151,
  t64 := Try.underlying46,
  a64 := Try.isAgg46,
  z64 := Try.sizeOf46,
  v64 := Try.zeroValue46 }
end Go.Proofs
namespace Go.Proofs.Ythdlkpmhjbaplaa.Dx
open Go
theorem insI_perm (x : Int) : ∀ l : List Int, (insI x l).Perm (x :: l)
  | [] => .refl _
  | y :: t => by
    unfold insI
    cases h : ilt y x with
    | true => exact (List.Perm.cons y (insI_perm x t)).trans (.swap x y t)
    | false => exact .refl _
theorem sortI_perm : ∀ l : List Int, (sortI l).Perm l
  | [] => .refl _
  | x :: l => by unfold sortI; exact (insI_perm x _).trans (.cons x (sortI_perm l))
theorem insI_sorted (x : Int) : ∀ l : List Int, l.Pairwise (· ≤ ·) → (insI x l).Pairwise (· ≤ ·)
  | [], _ => by simp [insI]
  | y :: t, h => by
    have h2 := List.pairwise_cons.1 h
    unfold insI
    cases hh : ilt y x with
    | true =>
      rw [ilt_eq, decide_eq_true_eq] at hh
      refine List.pairwise_cons.2 ⟨fun z hz => ?_, insI_sorted x t h2.2⟩
      have hz' := (insI_perm x t).mem_iff.1 hz
      rcases List.mem_cons.1 hz' with rfl | hz'
      · omega
      · exact h2.1 z hz'
    | false =>
      rw [ilt_eq, decide_eq_false_iff_not] at hh
      refine List.pairwise_cons.2 ⟨fun z hz => ?_, h⟩
      rcases List.mem_cons.1 hz with rfl | hz'
      · omega
      · have := h2.1 z hz'; omega
theorem sortI_sorted : ∀ l : List Int, (sortI l).Pairwise (· ≤ ·)
  | [] => .nil
  | x :: l => by unfold sortI; exact insI_sorted x _ (sortI_sorted l)
theorem sortI_merge (l : List Int) : l.mergeSort (fun x y => decide (x ≤ y)) = sortI l := by
  refine List.Perm.eq_of_pairwise (le := (· ≤ ·)) (fun a b _ _ h1 h2 => by omega) ?_ (sortI_sorted l) ((List.mergeSort_perm _ _).trans (sortI_perm l).symm)
  have := List.pairwise_mergeSort (le := fun x y : Int => decide (x ≤ y)) (fun a b c h1 h2 => by simp only [decide_eq_true_eq] at *; omega) (fun a b => by simp only [Bool.or_eq_true, decide_eq_true_eq]; omega) l
  exact this.imp (fun h => of_decide_eq_true h)
theorem sortI_length (l : List Int) : (sortI l).length = l.length := (sortI_perm l).length_eq
theorem intsOf_eq : ∀ {ds : List DV} {xs : List Int}, intsOf ds = some xs → ds = xs.map (DV.int .i64)
  | [], xs, h => by simp only [intsOf, Option.some.injEq] at h; subst h; rfl
  | d :: ds, xs, h => by
    cases d <;> try (simp [intsOf] at h; done)
    rename_i k n
    cases k <;> try (simp [intsOf] at h; done)
    simp only [intsOf] at h
    cases hq : intsOf ds with
    | none => simp only [hq, reduceCtorEq] at h
    | some r =>
      simp only [hq, Option.some.injEq] at h
      subst h
      rw [intsOf_eq hq]; rfl
theorem VRs.ints (j : J) : ∀ xs : List Int, VRs j (xs.map (DV.int .i64)) (xs.map (Value.int .i64))
  | [] => .nil
  | x :: xs => .cons (.int _ _) rfl (VRs.ints j xs)
section
variable {L : P → Prop} {N hi : Nat} {j : J} {pv : P → Option Nat} {e : Env} {nx : P} {h : Hp} {a : Act} {w : World}
theorem Rel.grow (R : Rel L N hi j pv e nx h a w) (os : Array Obj) : Rel L N hi j pv e nx h a (Sort.grow w os) where
  fresh := R.fresh
  heap := fun k i hk hlt => HR.of_heap (w := w) (Ext.refl j) rfl (by simp) (fun b hb => Sort.heap_grow_old w os (by
    rcases hb with ⟨s', c', rfl⟩ | ⟨s', rfl⟩
    · exact R.lt _ _ _ _ hk
    · exact R.lr _ _ _ hk)) (R.heap k i hk hlt)
  inj := R.inj
  inr := R.inr
  env := fun p v hv => ER.of_heap (w := w) (Ext.refl j) (by simp) (fun b hb => Sort.heap_grow_old w os (by
    obtain ⟨l, hl⟩ := R.pvv p b hb
    obtain ⟨b', h1, _, h2, _⟩ := (R.env p _ hl : ER j pv w a.tmps p (.var l))
    rw [hb] at h1; cases h1; exact h2.lt)) (R.env p v hv)
  pvv := R.pvv
  pin := R.pin
  pfr := R.pfr
  pfo := R.pfo
  loc := R.loc
  size := R.size
  lt := fun k b s c hk => by have := R.lt k b s c hk; simp; omega
  lr := fun k b s hk => by have := R.lr k b s hk; simp; omega
  top := R.top
theorem Fr.grow (hi n : Nat) (j : J) (pv : P → Option Nat) (w : World) (os : Array Obj) : Fr hi n j pv w j pv (Sort.grow w os) :=
  { Fr.refl hi n j pv w with size := by simp, os := rfl, output := rfl, same := fun x hx _ _ => Sort.heap_grow_old w os hx, new := fun k x s c h hk => .inl ⟨k, s, c, h, hk⟩, pnew := fun p x h => .inl h, froz := fun ad hl => Sort.frozen?_grow w os ad hl }
end
theorem putRow_set0 {w : World} {blk off : Nat} {xs ys : List Int} (hH : Sort.Holds (Value.int .i64) w blk off xs.toArray) (hl : ys.length = xs.length) :
    Sort.putRow (Value.int .i64) w blk off ys.toArray = w.setCells blk off (ys.map (Value.int .i64)) := by
  have h1 := Lib.putRow_setCells (Value.int .i64) w blk off ys xs.toArray 0 (by simp; omega)
  rw [Sort.putRow_self _ _ _ _ _ hH, Nat.add_zero] at h1
  rw [h1]
  congr 1
  apply Array.ext_getElem?
  intro t
  rw [Lib.lay_get? _ _ _ _ (by simp; omega)]
  by_cases ht : t < ys.length
  · rw [if_pos (by omega)]; simp
  · rw [if_neg (by omega)]
    rw [Array.getElem?_eq_none (by simp; omega), Array.getElem?_eq_none (by simp; omega)]
theorem primV0 {wm : Option P} {vs : List DV} {nx : P} {h : Hp} {v : DV} {nx' : P} {h' : Hp} (hp : primV 0 wm vs nx h = some (v, nx', h')) :
    (vs = [.nils] ∧ v = .tup [] ∧ nx' = nx ∧ h' = h) ∨
    ∃ b o n cp l xs, vs = [.sl b o n cp 1] ∧ mayB wm b = true ∧ n ≤ 1000000 ∧ Tr.get? b h = some (.cells l) ∧ o + n ≤ l.length ∧ intsOf ((l.drop o).take n) = some xs ∧ v = .tup [] ∧ nx' = nx ∧
      h' = Tr.set b h (some (.cells (l.take o ++ (sortI xs).map (DV.int .i64) ++ l.drop (o + n)))) := by
  unfold primV at hp
  split at hp
  · rename_i b o n cp sz _
    split at hp
    · rename_i hb hg
      split at hp
      · rename_i hle hxs
        simp only [Option.some.injEq, Prod.mk.injEq] at hp
        obtain ⟨rfl, rfl, rfl⟩ := hp
        simp only [Bool.and_eq_true, Nat.beq_eq, Nat.ble_eq] at hb hle
        obtain ⟨⟨rfl, hmay⟩, hn⟩ := hb
        exact .inr ⟨_, _, _, _, _, _, rfl, hmay, hn, hg, hle, hxs, rfl, rfl, rfl⟩
      · cases hp
    · cases hp
  · simp only [Option.some.injEq, Prod.mk.injEq] at hp
    obtain ⟨rfl, rfl, rfl⟩ := hp
    exact .inl ⟨rfl, rfl, rfl, rfl⟩
  · rename_i h0; cases h0
  · cases hp
theorem sort_prim {Pr : Program} {ρ : Go.Shelf.Ren} (Ly : SlLaysM.n5 Pr ρ) {f : P} (hf : f.n = ρ.f 5) (hx : ∃ fn, Pr.funcs[f.n]? = some fn ∧ (fn.name == "runtime.NumGoroutine") = false ∧ fn.body.isNone = false) : PrimOk Pr f 0 := by
  refine ⟨hx, fun wm vs nx h v nx' h' hp => ?_⟩
  rcases primV0 hp with ⟨rfl, rfl, rfl, rfl⟩ | ⟨b, o, n, cp, l, xs, rfl, hmay, hn, hg, hle, hxs, rfl, rfl, rfl⟩
  · refine ⟨?_, MovesC.refl _ _ _⟩
    intro L N hi j pv e a w R _ args hargs
    cases hargs with
    | cons hv ht =>
      cases ht
      have hv' := XD.nils (j := j) (pv := pv) hv
      subst hv'
      rw [hf]
      refine (AnyM.slices_Sort_int_none Ly none 0 w).mono ?_
      rintro r w' ⟨rfl, rfl⟩
      exact ⟨_, j, rfl, R, Fr.refl _ _ _ _ _, .tup (l' := []) .nil⟩
  have hxl : xs.length = n := by
    have h1 := congrArg List.length (intsOf_eq hxs)
    simp only [List.length_take, List.length_drop, List.length_map] at h1; omega
  have hsl := sortI_length xs
  have hml : ((sortI xs).map (DV.int .i64)).length = n := by simp; omega
  refine ⟨?_, ⟨Nat.le_refl _, fun m hm hmn k hk => ?_, fun ht k hk => ?_⟩⟩
  · intro L N hi j pv e a w R hnh args hargs
    cases hargs with
    | cons hv ht =>
      cases ht
      have hlt : b.n < nx'.n := by
        rcases Nat.lt_or_ge b.n nx'.n with h' | h'
        · exact h'
        · rw [R.top b h'] at hg; cases hg
      cases hv with
      | slO hjk => obtain ⟨_, hg', _⟩ := R.heap b _ hjk hlt; rw [hg] at hg'; cases hg'
      | slD _ hjk => have hg' : Tr.get? b h = some .dead := R.heap b _ hjk hlt; rw [hg] at hg'; cases hg'
      | slE _ hjk => obtain ⟨_, hg', _⟩ := R.heap b _ hjk hlt; rw [hg] at hg'; cases hg'
      | slA hjk hoff hcap hs he =>
        rename_i blk s c off cap
        obtain ⟨hlies, l', hg', hll, hcells⟩ := R.heap b _ hjk hlt
        rw [hg] at hg'; cases hg'
        have hoff' : 0 < n → off = s + o := fun h0 => hoff (.inl h0)
        have hH : Sort.Holds (Value.int .i64) w blk off xs.toArray := by
          intro t ht
          have ht' : t < xs.length := by simpa using ht
          have h0 := hoff' (by omega)
          subst h0
          have hlt' : l[o + t]? = some (DV.int .i64 xs[t]) := by
            have h1 := congrArg (fun q => q[t]?) (intsOf_eq hxs)
            simp only [List.getElem?_take, List.getElem?_drop, List.getElem?_map, List.getElem?_eq_getElem ht', Option.map_some] at h1
            rw [if_pos (by omega)] at h1
            exact h1
          obtain ⟨v', g1, g2, _⟩ := hcells (o + t) _ hlt'
          cases g2
          refine ⟨?_, ?_⟩
          · rw [Nat.add_assoc, g1, getElem!_pos _ t ht]; simp
          · rw [Nat.add_assoc]; exact hlies.free _ (by omega) (by omega)
        rw [hf]
        have key := AnyM.slices_Sort_int Ly blk off cap xs w hH hlies.lt (by omega)
        rw [hxl] at key
        refine key.mono ?_
        rintro r w' ⟨rfl, q, os, rfl⟩
        rw [sortI_merge, putRow_set0 (Sort.holds_ahead _ _ _ _ _ _ hH) hsl]
        obtain ⟨R2, F2⟩ := (R.drew (w.drawn + q)).at_store hnh hjk hlt hg (VRs.ints j (sortI xs)) (by rw [hml]; exact hle)
        have hset : (Sort.ahead w q).setCells blk off ((sortI xs).map (Value.int .i64)) = World.setCells { w with drawn := w.drawn + q } blk (s + o) ((sortI xs).map (Value.int .i64)) := by
          rcases Nat.eq_zero_or_pos n with h0 | h0
          · have : sortI xs = [] := List.eq_nil_of_length_eq_zero (by omega)
            rw [this]; rfl
          · rw [hoff' h0]; rfl
        rw [hset]
        rw [hml] at R2
        exact ⟨_, j, rfl, R2.grow os, ((Fr.drew hi nx'.n j pv w _).trans F2 (Nat.le_refl _)).trans (Fr.grow hi nx'.n j pv _ os) (Nat.le_refl _), .tup (l' := []) .nil⟩
  · have : k ≠ b := by
      rintro rfl
      subst hm
      have : Nat.ble m.n k.n = true := hmay
      rw [Nat.ble_eq] at this; omega
    exact Tr.get_set_ne this _ _
  · have : k ≠ b := by
      rintro rfl
      rw [ht k hk] at hg; cases hg
    rw [Tr.get_set_ne this]; exact ht k hk
end Go.Proofs.Ythdlkpmhjbaplaa.Dx
namespace Go.Proofs.Ythdlkpmhjbaplaa.Dx
open Go Go.RowKit
def zC : Array Value := #[.int .i64 0, .slice none 0 0, .bool false]
theorem run_clear3 {w : World} {b off n cap : Nat} (ty : Nat) (hn : 0 < n) (hc : ∀ t, t < n * 3 → (w.cell? ⟨b, off + t, none⟩).isSome = true) (hf : ∀ t, t < n * 3 → w.frozen? ⟨b, off + t, none⟩ = false) :
    (Builtin.clear_ #[22] ty #[.slice (some ⟨b, off, none⟩) n cap]).run Try.prog w = .ok (.tuple #[]) (w.setCells b off (Builtin.zeroCells zC n).toList) := by
  have hl : (Builtin.zeroCells zC n).toList.length = n * 3 := by rw [Array.length_toList, zeroCells_size]; rfl
  have h1 : ∀ u ∈ (Builtin.zeroCells zC n).toList, u.oneCell' = true := by
    exact (zeroCells_reps (j := fun _ => none) (z := [.int .i64 0, .nils, .bool false]) (.cons (.int _ _) rfl (.cons .nils rfl (.cons (.bool _) rfl .nil))) n).ones
  have hst := run_storeCells_cells (P := Try.prog) b off (Builtin.zeroCells zC n).toList 0 w (fun q hq => by simpa using hc q (by omega)) (fun q hq => by simpa using hf q (by omega)) h1
  obtain ⟨m, rfl⟩ : ∃ m, n = m + 1 := ⟨n - 1, by omega⟩
  try simp only [Nat.add_zero] at hst
  have hz : ∀ W : World, (zeroValue 31).run Try.prog W = .ok (.agg zC) W := Try.zeroValue31
  simp only [Builtin.clear_, Sem.run_bind, Sem.run_pure, Result.andThen_ok, List.getElem?_toArray, List.getElem?_cons_zero, run_underlying Try.underlying22, hz]
  show ((storeCells ⟨b, off, none⟩ (Builtin.zeroCells zC (m + 1)).toList).run Try.prog w).andThen _ = _
  rw [hst]; rfl
set_option maxHeartbeats 4000000 in
set_option maxRecDepth 1000000 in
theorem del_walk (blk off n cap i j : Nat) (vs : List Value) (w : World) (hl : vs.length = n * 3) (hc : ∀ t v, vs[t]? = some v → w.cell? ⟨blk, off + t, none⟩ = some v) (h1 : ∀ v ∈ vs, v.oneCell' = true)
    (hf : ∀ t, t < n * 3 → w.frozen? ⟨blk, off + t, none⟩ = false) (hcap : n ≤ cap) (hm : n ≤ 1000000) (hlt : i < j) (hj : j ≤ n) :
    Calls Try.prog 101 #[.slice (some ⟨blk, off, none⟩) n cap, .int .i64 i, .int .i64 j] w fun e w' => e = .returned (.slice (some ⟨blk, off, none⟩) (i + (n - j)) cap) ∧
      w' = (w.drew.setCells blk (off + i * 3) (vs.drop (j * 3))).setCells blk (off + (i + (n - j)) * 3) (Builtin.zeroCells zC (n - (i + (n - j)))).toList := by
  have mixed : Try.prog.follows .mixedOrders = true := by kernel_rfl
  obtain ⟨i0, hi0, hz1⟩ : ∃ i0, Try.prog.info? 31 = some i0 ∧ i0.size = 3 := by
    have h : (Try.prog.info? 31).map (·.size) = some 3 := by kernel_rfl
    cases hh : Try.prog.info? 31 with
    | none => rw [hh] at h; cases h
    | some i0 => rw [hh] at h; exact ⟨i0, rfl, by simpa using h⟩
  obtain ⟨news, hnews⟩ : ∃ news, news = vs.drop (j * 3) := ⟨_, rfl⟩
  have hlen : news.length = (n - j) * 3 := by rw [hnews, List.length_drop, hl, Nat.sub_mul]
  obtain ⟨A, hA, hsrc⟩ : ∃ A : Addr, (if cap = j then some (⟨blk, off, none⟩ : Addr) else some ⟨blk, off + j * 3, none⟩) = some A ∧ Hid (∀ t u, news[t]? = some u → w.drew.cell? (A.add t) = some u) := by
    by_cases h : cap = j
    · refine ⟨⟨blk, off, none⟩, by simp [h], fun t u hu => ?_⟩
      have h0 : news.length = 0 := by rw [hlen]; omega
      rw [List.length_eq_zero_iff.1 h0] at hu
      simp at hu
    · refine ⟨⟨blk, off + j * 3, none⟩, by simp [h], fun t u hu => ?_⟩
      rw [hnews, List.getElem?_drop] at hu
      rw [Addr.add_lit, show off + j * 3 + t = off + (j * 3 + t) by omega]
      exact hc _ _ hu
  have s1 : Hid (news.length = (n - j) * 3) := hlen
  have s2 : Hid (∀ u ∈ news, u.oneCell' = true) := by
    intro u hu
    rw [hnews] at hu
    exact h1 u (List.mem_of_mem_drop hu)
  have s3 : Hid (∀ t, t < news.length → (w.drew.cell? ⟨blk, off + i * 3 + t, none⟩).isSome = true ∧ w.drew.frozen? ⟨blk, off + i * 3 + t, none⟩ = false) := by
    intro t ht
    rw [hlen] at ht
    rw [Nat.add_assoc]
    have hb : i * 3 + t < vs.length := by omega
    exact ⟨by show (w.cell? _).isSome = true; rw [hc (i * 3 + t) _ (List.getElem?_eq_getElem hb)]; rfl, hf (i * 3 + t) (by omega)⟩
  obtain ⟨W1, hW1⟩ : ∃ W1, W1 = w.drew.setCells blk (off + i * 3) news := ⟨_, rfl⟩
  have hcl : ∀ ty, (Builtin.clear_ #[22] ty #[.slice (some ⟨blk, off + (i + (n - j)) * 3, none⟩) (n - (i + (n - j))) (cap - (i + (n - j)))]).run Try.prog W1 = .ok (.tuple #[]) (W1.setCells blk (off + (i + (n - j)) * 3) (Builtin.zeroCells zC (n - (i + (n - j)))).toList) := by
    intro ty
    refine run_clear3 ty (by omega) (fun t ht => ?_) (fun t ht => ?_)
    · rw [hW1, setCells_some]
      have hb : (i + (n - j)) * 3 + t < vs.length := by omega
      rw [Nat.add_assoc]
      show (w.cell? _).isSome = true
      rw [hc _ _ (List.getElem?_eq_getElem hb)]; rfl
    · rw [hW1, World.frozen?_setCells, Nat.add_assoc]
      exact hf _ (by omega)
  have hW : Hid (W1 = w.drew.setCells blk (off + i * 3) news) := hW1
  have X : Aside (W1 = w.drew.setCells blk (off + i * 3) (vs.drop (j * 3))) := by rw [← hnews]; exact hW1
  have hic : i ≤ cap := by omega
  have hjc : j ≤ cap := by omega
  have hne : ¬ (i : Int) = (j : Int) := by omega
  clear hW1 hnews hc hf hlen h1 hl
  go_enter Try.func101, Try.ntmps101
  go_wp2_with fail
  go_region_law_o (refine step_append_room rfl (.tmp 22) (.tmp 25) 22 rfl 31 i0 3 Try.underlying22 hi0 hz1 blk off i cap (by simp [Act.eval, Act.put]) A (n - j) (cap - j) news (by simp [Act.eval, Act.put]) s1.out hsrc.out s2.out (by omega) s3.out ?_; rw [← hW.out])
  go_wp2
  go_ret
  exact ⟨rfl, by rw [X.out]⟩
theorem setCells_app (b : Nat) : ∀ (xs ys : List Value) (o : Nat) (w : World), w.setCells b o (xs ++ ys) = (w.setCells b o xs).setCells b (o + xs.length) ys
  | [], _, _, _ => rfl
  | x :: xs, ys, o, w => by
    simp only [List.cons_append, World.setCells, List.length_cons]
    rw [setCells_app b xs ys, show o + 1 + xs.length = o + (xs.length + 1) by omega]
theorem delZ_reps : ∀ n, delZ n = reps [.int .i64 0, .nils, .bool false] n
  | 0 => rfl
  | n + 1 => by rw [delZ, delZ_reps n]; simp [reps, List.replicate_succ]
theorem primV1 {wm : Option P} {vs : List DV} {nx : P} {h : Hp} {v : DV} {nx' : P} {h' : Hp} (hp : primV 1 wm vs nx h = some (v, nx', h')) :
    ∃ b o n cp l, ∃ i j : Nat, vs = [.sl b o n cp 3, .int .i64 i, .int .i64 j] ∧ mayB wm b = true ∧ n ≤ 1000000 ∧ Tr.get? b h = some (.cells l) ∧ o + n * 3 ≤ l.length ∧ i < j ∧ j ≤ n ∧ v = .sl b o (n - (j - i)) none 3 ∧ nx = nx' ∧
      h' = Tr.set b h (some (.cells (l.take (o + i * 3) ++ ((l.drop (o + j * 3)).take ((n - j) * 3) ++ delZ (j - i)) ++ l.drop (o + n * 3)))) := by
  unfold primV at hp
  split at hp
  · rename_i h0; cases h0
  · rename_i h0; cases h0
  · rename_i b o n cp sz i j _
    split at hp
    · rename_i hb hg
      split at hp
      · rename_i hle
        simp only [Option.some.injEq, Prod.mk.injEq] at hp
        obtain ⟨rfl, rfl, rfl⟩ := hp
        simp only [Bool.and_eq_true, Nat.beq_eq, Nat.ble_eq, ilt_eq, Bool.not_eq_true', decide_eq_true_eq, decide_eq_false_iff_not] at hb hle
        obtain ⟨⟨⟨rfl, hmay⟩, hn⟩, ⟨h1, h2⟩, h3⟩ := hb
        have h3' : ¬ ((n : Int) < j) := h3
        refine ⟨b, o, n, cp, _, i.toNat, j.toNat, ?_, hmay, hn, hg, hle, by omega, by omega, rfl, rfl, rfl⟩
        rw [Int.toNat_of_nonneg (by omega), Int.toNat_of_nonneg (by omega)]
      · cases hp
    · cases hp
  · cases hp
theorem del_prim {f : P} (hf : f.n = 101) (hx : ∃ fn, Try.prog.funcs[f.n]? = some fn ∧ (fn.name == "runtime.NumGoroutine") = false ∧ fn.body.isNone = false) : PrimOk Try.prog f 1 := by
  refine ⟨hx, fun wm vs nx h v nx' h' hp => ?_⟩
  obtain ⟨b, o, n, cp, l, i, j, rfl, hmay, hn, hg, hle, hij, hjn, rfl, rfl, rfl⟩ := primV1 hp
  clear hp
  refine ⟨?_, ⟨Nat.le_refl _, fun m hm hmn k hk => ?_, fun ht k hk => ?_⟩⟩
  · intro L N hi jj pv e a w R hnh args hargs
    cases hargs with
    | cons hv ht =>
      cases ht with
      | cons hv1 ht =>
      cases ht with
      | cons hv2 ht =>
      cases ht; cases hv1; cases hv2
      have hlt : b.n < nx.n := by
        rcases Nat.lt_or_ge b.n nx.n with h' | h'
        · exact h'
        · rw [R.top b h'] at hg; cases hg
      cases hv with
      | slO hjk => obtain ⟨_, hg', _⟩ := R.heap b _ hjk hlt; rw [hg] at hg'; cases hg'
      | slD _ hjk => have hg' : Tr.get? b h = some .dead := R.heap b _ hjk hlt; rw [hg] at hg'; cases hg'
      | slE _ hjk => obtain ⟨_, hg', _⟩ := R.heap b _ hjk hlt; rw [hg] at hg'; cases hg'
      | slA hjk hoff hcap hs he =>
        rename_i blk s c off cap
        obtain ⟨hlies, l', hg', hll, hcells⟩ := R.heap b _ hjk hlt
        rw [hg] at hg'; cases hg'
        have hso : off = s + o := hoff (.inl (by omega))
        subst hso
        obtain ⟨vs, g1, g2, g3⟩ := hcells.part o (n * 3) (by simp; omega)
        have key := del_walk blk (s + o) n cap i j vs w g2 g3 g1.ones (fun t ht => by rw [Nat.add_assoc]; exact hlies.free _ (by omega) (by omega)) hcap.1 hn hij hjn
        rw [hf]
        refine key.mono ?_
        rintro r w' ⟨rfl, rfl⟩
        have hzr : VRs jj (delZ (j - i)) (Builtin.zeroCells zC (n - (i + (n - j)))).toList := by
          rw [delZ_reps, show n - (i + (n - j)) = j - i by omega]
          exact zeroCells_reps (z := [.int .i64 0, .nils, .bool false]) (.cons (.int _ _) rfl (.cons .nils rfl (.cons (.bool _) rfl .nil))) _
        have hd : VRs jj ((l.drop (o + j * 3)).take ((n - j) * 3)) (vs.drop (j * 3)) := by
          have := g1.drop (j * 3)
          rw [List.drop_take, List.drop_drop, ← Nat.sub_mul] at this
          exact this
        have hcl := hd.append hzr
        have hll1 : ((l.drop (o + j * 3)).take ((n - j) * 3)).length = (n - j) * 3 := by rw [List.length_take, List.length_drop]; omega
        have hll2 : (delZ (j - i)).length = (j - i) * 3 := by rw [hzr.length, Array.length_toList, zeroCells_size, show n - (i + (n - j)) = j - i by omega]; rfl
        have hlen : ((l.drop (o + j * 3)).take ((n - j) * 3) ++ delZ (j - i)).length = (n - i) * 3 := by rw [List.length_append, hll1, hll2]; omega
        obtain ⟨R2, F2⟩ := (R.drew (w.drawn + 1)).at_store (o := o + i * 3) hnh hjk hlt hg hcl (by rw [hlen]; omega)
        rw [hlen, show o + i * 3 + (n - i) * 3 = o + n * 3 by omega, setCells_app, ← hd.length, hll1, show s + (o + i * 3) = s + o + i * 3 by omega, show s + o + i * 3 + (n - j) * 3 = s + o + (i + (n - j)) * 3 by omega] at R2
        rw [setCells_app, ← hd.length, hll1, show s + (o + i * 3) = s + o + i * 3 by omega, show s + o + i * 3 + (n - j) * 3 = s + o + (i + (n - j)) * 3 by omega] at F2
        refine ⟨_, jj, rfl, R2, (Fr.drew hi nx.n jj pv w _).trans F2 (Nat.le_refl _), ?_⟩
        rw [show n - (j - i) = i + (n - j) by omega]
        exact .slA hjk (fun _ => rfl) ⟨by have := hcap.1; omega, fun c h => by cases h⟩ hs he
  · have : k ≠ b := by
      rintro rfl
      subst hm
      have : Nat.ble m.n k.n = true := hmay
      rw [Nat.ble_eq] at this; omega
    exact Tr.get_set_ne this _ _
  · have : k ≠ b := by
      rintro rfl
      rw [ht k hk] at hg; cases hg
    rw [Tr.get_set_ne this]; exact ht k hk
end Go.Proofs.Ythdlkpmhjbaplaa.Dx
namespace Go.Proofs.Ythdlkpmhjbaplaa.Dx
open Go
theorem prim114 : PrimOk Try.prog p114 0 := sort_prim Try.sortL rfl ⟨Try.f114, Try.func114, by kernel_rfl, by kernel_rfl⟩
theorem prim101 : PrimOk Try.prog p101 1 := del_prim rfl ⟨Try.f101, Try.func101, by kernel_rfl, by kernel_rfl⟩
theorem c9 : chkFd Try.prog ls9 Try.f9 f9 = true := by kernel_rfl
theorem c45 : chkFd Try.prog ls45 Try.f45 f45 = true := by kernel_rfl
theorem c48 : chkFd Try.prog ls48 Try.f48 f48 = true := by kernel_rfl
theorem c46 : chkFd Try.prog ls46 Try.f46 f46 = true := by kernel_rfl
theorem c66 : chkFd Try.prog ls66 Try.f66 f66 = true := by kernel_rfl
theorem c80 : chkFd Try.prog ls80 Try.f80 f80 = true := by kernel_rfl
theorem c81 : chkFd Try.prog ls81 Try.f81 f81 = true := by kernel_rfl
theorem c79 : chkFd Try.prog ls79 Try.f79 f79 = true := by kernel_rfl
theorem c91 : chkFd Try.prog ls91 Try.f91 f91 = true := by kernel_rfl
theorem c98 : chkFd Try.prog ls98 Try.f98 f98 = true := by kernel_rfl
theorem c17 : chkFd Try.prog ls17 Try.f17 f17 = true := by kernel_rfl
theorem c99 : chkFd Try.prog ls99 Try.f99 f99 = true := by kernel_rfl
theorem c37 : chkFd Try.prog ls37 Try.f37 f37 = true := by kernel_rfl
theorem c100 : chkFd Try.prog ls100 Try.f100 f100 = true := by kernel_rfl
theorem c102 : chkFd Try.prog ls102 Try.f102 f102 = true := by kernel_rfl
theorem c103 : chkFd Try.prog ls103 Try.f103 f103 = true := by kernel_rfl
theorem c104 : chkFd Try.prog ls104 Try.f104 f104 = true := by kernel_rfl
theorem c105 : chkFd Try.prog ls105 Try.f105 f105 = true := by kernel_rfl
theorem c21 : chkFd Try.prog ls21 Try.f21 f21 = true := by kernel_rfl
theorem c25 : chkFd Try.prog ls25 Try.f25 f25 = true := by kernel_rfl
theorem c35 : chkFd Try.prog ls35 Try.f35 f35 = true := by kernel_rfl
theorem c111 : chkFd Try.prog ls111 Try.f111 f111 = true := by kernel_rfl
theorem c112 : chkFd Try.prog ls112 Try.f112 f112 = true := by kernel_rfl
theorem c82 : chkFd Try.prog ls82 Try.f82 f82 = true := by kernel_rfl
theorem c50 : chkFd Try.prog ls50 Try.f50 f50 = true := by kernel_rfl
theorem c51 : chkFd Try.prog ls51 Try.f51 f51 = true := by kernel_rfl
theorem c64 : chkFd Try.prog ls64 Try.f64 f64 = true := by kernel_rfl
theorem c67 : chkFd Try.prog ls67 Try.f67 f67 = true := by kernel_rfl
theorem c77 : chkFd Try.prog ls77 Try.f77 f77 = true := by kernel_rfl
theorem c26 : chkFd Try.prog ls26 Try.f26 f26 = true := by kernel_rfl
theorem c78 : chkFd Try.prog ls78 Try.f78 f78 = true := by kernel_rfl
theorem c115 : chkFd Try.prog ls115 Try.f115 f115 = true := by kernel_rfl
theorem c116 : chkFd Try.prog ls116 Try.f116 f116 = true := by kernel_rfl
theorem c90 : chkFd Try.prog ls90 Try.f90 f90 = true := by kernel_rfl
theorem c53 : chkFd Try.prog ls53 Try.f53 f53 = true := by kernel_rfl
theorem c52 : chkFd Try.prog ls52 Try.f52 f52 = true := by kernel_rfl
theorem c54 : chkFd Try.prog ls54 Try.f54 f54 = true := by kernel_rfl
theorem c55 : chkFd Try.prog ls55 Try.f55 f55 = true := by kernel_rfl
theorem c59 : chkFd Try.prog ls59 Try.f59 f59 = true := by kernel_rfl
theorem c61 : chkFd Try.prog ls61 Try.f61 f61 = true := by kernel_rfl
theorem c60 : chkFd Try.prog ls60 Try.f60 f60 = true := by kernel_rfl
theorem c62 : chkFd Try.prog ls62 Try.f62 f62 = true := by kernel_rfl
theorem c63 : chkFd Try.prog ls63 Try.f63 f63 = true := by kernel_rfl
theorem c65 : chkFd Try.prog ls65 Try.f65 f65 = true := by kernel_rfl
theorem c117 : chkFd Try.prog ls117 Try.f117 f117 = true := by kernel_rfl
theorem c118 : chkFd Try.prog ls118 Try.f118 f118 = true := by kernel_rfl
theorem c119 : chkFd Try.prog ls119 Try.f119 f119 = true := by kernel_rfl
theorem c113 : chkFd Try.prog ls113 Try.f113 f113 = true := by kernel_rfl
theorem c106 : chkFd Try.prog ls106 Try.f106 f106 = true := by kernel_rfl
theorem c83 : chkFd Try.prog ls83 Try.f83 f83 = true := by kernel_rfl
theorem c85 : chkFd Try.prog ls85 Try.f85 f85 = true := by kernel_rfl
theorem c93 : chkFd Try.prog ls93 Try.f93 f93 = true := by kernel_rfl
theorem c92 : chkFd Try.prog ls92 Try.f92 f92 = true := by kernel_rfl
theorem c86 : chkFd Try.prog ls86 Try.f86 f86 = true := by kernel_rfl
theorem c95 : chkFd Try.prog ls95 Try.f95 f95 = true := by kernel_rfl
theorem c96 : chkFd Try.prog ls96 Try.f96 f96 = true := by kernel_rfl
theorem c97 : chkFd Try.prog ls97 Try.f97 f97 = true := by kernel_rfl
theorem c24 : chkFd Try.prog ls24 Try.f24 f24 = true := by kernel_rfl
theorem c84 : chkFd Try.prog ls84 Try.f84 f84 = true := by kernel_rfl
theorem c88 : chkFd Try.prog ls88 Try.f88 f88 = true := by kernel_rfl
theorem c89 : chkFd Try.prog ls89 Try.f89 f89 = true := by kernel_rfl
theorem c120 : chkFd Try.prog ls120 Try.f120 f120 = true := by kernel_rfl
theorem c108 : chkFd Try.prog ls108 Try.f108 f108 = true := by kernel_rfl
theorem c110 : chkFd Try.prog ls110 Try.f110 f110 = true := by kernel_rfl
theorem c109 : chkFd Try.prog ls109 Try.f109 f109 = true := by kernel_rfl
theorem c58 : chkFd Try.prog ls58 Try.f58 f58 = true := by kernel_rfl
theorem c107 : chkFd Try.prog ls107 Try.f107 f107 = true := by kernel_rfl
theorem c87 : chkFd Try.prog ls87 Try.f87 f87 = true := by kernel_rfl
theorem fOk : FOk Try.prog FT := FOk.of (by
  exact ⟨trivial, ⟨trivial, ⟨trivial, ⟨trivial, ⟨trivial, ⟨trivial, ⟨fok rfl Try.func63 c63, trivial, trivial⟩, ⟨fok rfl Try.func95 c95, trivial, trivial⟩⟩, ⟨trivial, ⟨fok rfl Try.func79 c79, trivial, trivial⟩, ⟨fok rfl Try.func111 c111, trivial, trivial⟩⟩⟩, ⟨trivial, ⟨trivial, trivial, ⟨fok rfl Try.func103 c103, trivial, trivial⟩⟩, ⟨fok rfl Try.func55 c55, ⟨fok rfl Try.func87 c87, trivial, trivial⟩, ⟨fok rfl Try.func119 c119, trivial, trivial⟩⟩⟩⟩, ⟨trivial, ⟨trivial, ⟨fok rfl Try.func35 c35, ⟨fok rfl Try.func67 c67, trivial, trivial⟩, ⟨fok rfl Try.func99 c99, trivial, trivial⟩⟩, ⟨fok rfl Try.func51 c51, ⟨fok rfl Try.func83 c83, trivial, trivial⟩, ⟨fok rfl Try.func115 c115, trivial, trivial⟩⟩⟩, ⟨trivial, ⟨trivial, trivial, ⟨fok rfl Try.func107 c107, trivial, trivial⟩⟩, ⟨fok rfl Try.func59 c59, ⟨fok rfl Try.func91 c91, trivial, trivial⟩, trivial⟩⟩⟩⟩, ⟨trivial, ⟨fok rfl Try.func9 c9, ⟨fok rfl Try.func17 c17, ⟨trivial, ⟨fok rfl Try.func65 c65, trivial, trivial⟩, ⟨fok rfl Try.func97 c97, trivial, trivial⟩⟩, ⟨trivial, ⟨fok rfl Try.func81 c81, trivial, trivial⟩, ⟨fok rfl Try.func113 c113, trivial, trivial⟩⟩⟩, ⟨fok rfl Try.func25 c25, ⟨trivial, trivial, ⟨fok rfl Try.func105 c105, trivial, trivial⟩⟩, ⟨trivial, ⟨fok rfl Try.func89 c89, trivial, trivial⟩, trivial⟩⟩⟩, ⟨trivial, ⟨fok rfl Try.func21 c21, ⟨fok rfl Try.func37 c37, trivial, ⟨prim101, trivial, trivial⟩⟩, ⟨fok rfl Try.func53 c53, ⟨fok rfl Try.func85 c85, trivial, trivial⟩, ⟨fok rfl Try.func117 c117, trivial, trivial⟩⟩⟩, ⟨trivial, ⟨fok rfl Try.func45 c45, ⟨fok rfl Try.func77 c77, trivial, trivial⟩, ⟨fok rfl Try.func109 c109, trivial, trivial⟩⟩, ⟨fok rfl Try.func61 c61, ⟨fok rfl Try.func93 c93, trivial, trivial⟩, trivial⟩⟩⟩⟩⟩, ⟨trivial, ⟨trivial, ⟨trivial, ⟨trivial, ⟨trivial, ⟨fok rfl Try.func64 c64, trivial, trivial⟩, ⟨fok rfl Try.func96 c96, trivial, trivial⟩⟩, ⟨fok rfl Try.func48 c48, ⟨fok rfl Try.func80 c80, trivial, trivial⟩, ⟨fok rfl Try.func112 c112, trivial, trivial⟩⟩⟩, ⟨fok rfl Try.func24 c24, ⟨trivial, trivial, ⟨fok rfl Try.func104 c104, trivial, trivial⟩⟩, ⟨trivial, ⟨fok rfl Try.func88 c88, trivial, trivial⟩, ⟨fok rfl Try.func120 c120, trivial, trivial⟩⟩⟩⟩, ⟨trivial, ⟨trivial, ⟨trivial, trivial, ⟨fok rfl Try.func100 c100, trivial, trivial⟩⟩, ⟨fok rfl Try.func52 c52, ⟨fok rfl Try.func84 c84, trivial, trivial⟩, ⟨fok rfl Try.func116 c116, trivial, trivial⟩⟩⟩, ⟨trivial, ⟨trivial, trivial, ⟨fok rfl Try.func108 c108, trivial, trivial⟩⟩, ⟨fok rfl Try.func60 c60, ⟨fok rfl Try.func92 c92, trivial, trivial⟩, trivial⟩⟩⟩⟩, ⟨trivial, ⟨trivial, ⟨trivial, ⟨trivial, ⟨fok rfl Try.func66 c66, trivial, trivial⟩, ⟨fok rfl Try.func98 c98, trivial, trivial⟩⟩, ⟨fok rfl Try.func50 c50, ⟨fok rfl Try.func82 c82, trivial, trivial⟩, ⟨prim114, trivial, trivial⟩⟩⟩, ⟨fok rfl Try.func26 c26, ⟨trivial, trivial, ⟨fok rfl Try.func106 c106, trivial, trivial⟩⟩, ⟨fok rfl Try.func58 c58, ⟨fok rfl Try.func90 c90, trivial, trivial⟩, trivial⟩⟩⟩, ⟨trivial, ⟨trivial, ⟨trivial, trivial, ⟨fok rfl Try.func102 c102, trivial, trivial⟩⟩, ⟨fok rfl Try.func54 c54, ⟨fok rfl Try.func86 c86, trivial, trivial⟩, ⟨fok rfl Try.func118 c118, trivial, trivial⟩⟩⟩, ⟨trivial, ⟨fok rfl Try.func46 c46, ⟨fok rfl Try.func78 c78, trivial, trivial⟩, ⟨fok rfl Try.func110 c110, trivial, trivial⟩⟩, ⟨fok rfl Try.func62 c62, trivial, trivial⟩⟩⟩⟩⟩⟩)
theorem mixed : Try.prog.follows .mixedOrders = true := by kernel_rfl
end Go.Proofs.Ythdlkpmhjbaplaa.Dx
namespace Go.Proofs.Ythdlkpmhjbaplaa.Dx
open Go Go.ChangeShapes Go.WideShapes
section
variable {H : Type} {enc : TypeId × Value → H} {w : World}
def ArgsL (w : World) (vs : List Value) (args : List VV) : Prop := ∀ s, LayOk w s → ∃ s' ds, LayOk w s' ∧ LayLe s s' ∧ VRt s'.j ds vs ∧ XRs s'.Z s'.h none args ds
theorem ArgsL.nil : ArgsL w [] [] := fun s hs => ⟨s, [], hs, LayLe.refl s, .nil, .nil⟩
theorem ArgsL.cons {v' : Value} {v : VV} {vs : List Value} {args : List VV} (h : ∀ s, LayOk w s → ∃ s' d, LayOk w s' ∧ LayLe s s' ∧ VR s'.j d v' ∧ XRs s'.Z s'.h none [v] [d]) (t : ArgsL w vs args) : ArgsL w (v' :: vs) (v :: args) := by
  intro s hs
  obtain ⟨s1, d, a1, a2, a3, a4⟩ := h s hs
  obtain ⟨s2, ds, b1, b2, b3, b4⟩ := t s1 a1
  exact ⟨s2, d :: ds, b1, a2.trans b2, .cons (a3.mono b2.ext) b3, (b2.xrs a4).append b4⟩
theorem arg_int {n : Int} : ∀ s, LayOk w s → ∃ s' d, LayOk w s' ∧ LayLe s s' ∧ VR s'.j d (.int .i64 n) ∧ XRs s'.Z s'.h none [.int .i64 n] [d] := fun s hs => ⟨s, .int .i64 n, hs, LayLe.refl s, .int _ _, .cons (.int _ _) .nil⟩
end
theorem some_heap : decide (Try.prog.globals.size < (begin Try.prog (fun _ _ => 0) default).world.heap.size) = true := by kernel_rfl
theorem heap_pos {w : World} (h : w.ShapedOpen Try.prog) : 0 < w.heap.size := by
  have h2 := h.2 Try.prog.globals.size (Nat.le_refl _) (of_decide_eq_true some_heap)
  obtain ⟨o, _, h3, _⟩ := h2
  have := (Array.getElem?_eq_some_iff.1 h3).1
  omega
theorem kids : Kids Try.prog (· < Try.prog.types.size) := kids_rows (by kernel_rfl) (by kernel_rfl)
theorem slices_full : ∀ t e, t < Try.prog.types.size → Try.prog.underlying t = some (.slice e) → 0 < Try.prog.cellsOf e := slices_full_of Try.prog (by kernel_rfl)
end Go.Proofs.Ythdlkpmhjbaplaa.Dx
