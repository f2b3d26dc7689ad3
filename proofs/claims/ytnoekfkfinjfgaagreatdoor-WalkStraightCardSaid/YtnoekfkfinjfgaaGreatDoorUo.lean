/- A loop over a function that goes backward through a row, beside Go's. No statement of this seat is proved here. -/
import Derived.Test.YtnoekfkfinjfgaaGreatDoorUn
set_option autoImplicit false
set_option linter.unusedSectionVars false
set_option linter.unusedSimpArgs false
set_option linter.unusedVariables false
noncomputable section
namespace Go.Proofs.YtnoekfkfinjfgaaGreatDoor.Dx
open Go
variable [Rho]

section
variable {L : P → Prop} {N hi : Nat} {j : J} {pv : P → Option Nat} {e : Env} {nx : P} {h : Hp} {a : Act} {w : World}
theorem allocOld (w : World) (o : Obj) {x : Nat} (hx : x < w.heap.size) : (w.alloc o).heap[x]? = w.heap[x]? := by show (w.heap.push _)[x]? = _; simp [Array.getElem?_push, Nat.ne_of_lt hx]
theorem allocSize (w : World) (o : Obj) : (w.alloc o).heap.size = w.heap.size + 1 := by show (w.heap.push _).size = _; simp
theorem Rel.grown (R : Rel L N hi j pv e nx h a w) (o : Obj) : Rel L N hi j pv e nx h a (w.alloc o) where
  fresh := R.fresh
  heap := fun k i hk hlt => by
    refine HR.of_heap (Ext.refl j) rfl (by rw [allocSize]; omega) ?_ (fun r es n _ => alloc_map w _ r es n) (R.heap k i hk hlt)
    intro b hb
    rcases hb with ⟨s, c, rfl⟩ | ⟨s, rfl⟩
    · exact allocOld w o (R.lt _ _ _ _ hk)
    · exact allocOld w o (R.lr _ _ _ hk)
  inj := R.inj
  inr := R.inr
  env := fun p v hv => ER.of_heap (Ext.refl j) (by rw [allocSize]; omega) (fun b hb => by
    obtain ⟨l, hl⟩ := R.pvv p b hb
    obtain ⟨b', hb', _, hlies, _⟩ := R.env p _ hl
    rw [hb] at hb'; cases hb'; exact allocOld w o hlies.lt) (R.env p v hv)
  pvv := R.pvv
  pin := R.pin
  pfr := R.pfr
  pfo := R.pfo
  loc := R.loc
  size := R.size
  lt := fun k b s c hk => by have := R.lt k b s c hk; rw [allocSize]; omega
  lr := fun k b s hk => by have := R.lr k b s hk; rw [allocSize]; omega
  top := R.top
  maps := R.maps.keep (alloc_map w o)
  pfm := R.pfm
theorem Fr.grown (hi n : Nat) (j : J) (pv : P → Option Nat) (w : World) (o : Obj) : Fr hi n j pv w j pv (w.alloc o) :=
  { Fr.refl hi n j pv w with
    size := by rw [allocSize]; omega
    os := rfl
    output := rfl
    same := fun x hx _ _ _ => allocOld w o hx
    froz := fun ad hl => by unfold World.frozen?; rw [allocOld w o hl] }
theorem Rel.acts (R : Rel L N hi j pv e nx h a w) {a' : Act} (ha : a'.tmps = a.tmps) : Rel L N hi j pv e nx h a' w where
  fresh := R.fresh
  heap := R.heap
  inj := R.inj
  inr := R.inr
  env := fun p v hv => by rw [ha]; exact R.env p v hv
  pvv := R.pvv
  pin := R.pin
  pfr := R.pfr
  pfo := R.pfo
  loc := R.loc
  size := by rw [ha]; exact R.size
  lt := R.lt
  lr := R.lr
  top := R.top
  maps := R.maps
  pfm := R.pfm
end

/-! ### What the small machine does -/

section
variable {F : Tr Fd} {ih : Ih} {wm : Option P} {e : Env} {nx : P} {h : Hp} {out : Out} {eo : Env} {no : P} {ho : Hp}
theorem normK_get {r : Res} {k : Ko} (H : normK r k = .ok out eo no ho) : ∃ e1 n1 h1, r = .ok .norm e1 n1 h1 ∧ k e1 n1 h1 = .ok out eo no ho := by
  cases r with
  | fail => cases H
  | ok o e1 n1 h1 =>
    cases o with
    | norm => exact ⟨e1, n1, h1, rfl, H⟩
    | exit i => cases H
    | ret => cases H
theorem rowK_get {box : DV} {Nn : Res} {K : P → Nat → Nat → Option Nat → Nat → Res} (H : rowK box h Nn K = .ok out eo no ho) :
    ∃ l o, look box .nl h = some (l, o) ∧ ((l[o]? = some .nils ∧ Nn = .ok out eo no ho) ∨ ∃ b o' n cap s, l[o]? = some (.sl b o' n cap s) ∧ K b o' n cap s = .ok out eo no ho) := by
  unfold rowK at H
  rw [readK_eq] at H
  cases hl : look box .nl h with
  | none => simp only [hl, reduceCtorEq] at H
  | some p =>
    obtain ⟨l, o⟩ := p
    simp only [hl] at H
    replace H := nthK_get H
    obtain ⟨v, hv, H⟩ := H
    rw [asSl_eq, nilsK_eq] at H
    cases v <;> simp only [reduceCtorEq] at H
    · exact ⟨l, o, rfl, .inl ⟨hv, H⟩⟩
    · exact ⟨l, o, rfl, .inr ⟨_, _, _, _, _, hv, H⟩⟩
/-- What is yielded. -/
def Elem (agg : Bool) (x : List DV) (v : DV) : Prop := match agg with | true => v = .agg x | false => x[0]? = some v
theorem rgs_succ {ra rb : RunC} {lv : List P} {pi pv : P} {sz : Nat} {agg : Bool} {box : DV} {i : Nat} (H : rgs ra rb F ih wm lv pi pv sz agg box (i + 1) e nx h = .ok out eo no ho) :
    ∃ l o b o' n cap lb v e2 nx2 h2 e3 nx3 h3 e4, look box .nl h = some (l, o) ∧ l[o]? = some (.sl b o' n cap sz) ∧ i < n ∧ (Tr.get? b h = some (.cells lb) ∨ Tr.get? b h = some (.ro lb)) ∧ sz ≤ (lb.drop (o' + i * sz)).length ∧
      Elem agg ((lb.drop (o' + i * sz)).take sz) v ∧ ra F ih wm (Tr.set pv (Tr.set pi e (some (.int .i64 (.ofNat i)))) (some v)) nx h = .ok .norm e2 nx2 h2 ∧ rb F ih wm e2 nx2 h2 = .ok .norm e3 nx3 h3 ∧ varsB e3 lv e = some e4 ∧
      rgs ra rb F ih wm lv pi pv sz agg box i e4 nx3 h3 = .ok out eo no ho := by
  change rgS ra rb F ih wm lv pi pv sz agg box i (rgs ra rb F ih wm lv pi pv sz agg box i) e nx h = _ at H
  unfold rgS at H
  rw [forceN_eq] at H
  obtain ⟨l, o, hl, H⟩ := rowK_get H
  rcases H with ⟨_, H⟩ | ⟨b, o', n, cap, s, hs, H⟩
  · cases H
  unfold rgR at H
  replace H := chkT H
  obtain ⟨h1, H⟩ := H
  replace H := chkT H
  obtain ⟨h2, H⟩ := H
  have := Nat.eq_of_beq_eq_true h1; subst this
  rw [Nat.ble_eq] at h2
  replace H := objK_get H
  obtain ⟨lb, hg, H⟩ := H
  rw [dropK_eq] at H
  by_cases h6 : Nat.add o' (Nat.mul i s) ≤ lb.length
  case neg => rw [if_neg h6] at H; cases H
  rw [if_pos h6, takeK_eq] at H
  by_cases h7 : s ≤ (lb.drop (Nat.add o' (Nat.mul i s))).length
  case neg => rw [if_neg h7] at H; cases H
  rw [if_pos h7] at H
  have hv : ∃ v, Elem agg ((lb.drop (Nat.add o' (Nat.mul i s))).take s) v ∧ rgE ra rb F ih wm lv pi pv i e nx h (rgs ra rb F ih wm lv pi pv s agg box i) v = .ok out eo no ho := by
    cases agg with
    | true => exact ⟨_, rfl, H⟩
    | false =>
      change nthK _ (nat_lit 0) .fail (fun v => fV v _) = _ at H
      replace H := nthK_get H
      obtain ⟨v, hv, H⟩ := H
      rw [fV_eq] at H
      exact ⟨v, hv, H⟩
  obtain ⟨v, hv, H⟩ := hv
  unfold rgE at H
  rw [Tr.setK_eq, Tr.setK_eq] at H
  obtain ⟨e2, nx2, h2', hA, H⟩ := normK_get H
  obtain ⟨e3, nx3, h3', hB, H⟩ := normK_get H
  rw [varsK_eq] at H
  cases hv4 : varsB e3 lv e with
  | none => simp only [hv4, reduceCtorEq] at H
  | some e4 =>
    simp only [hv4] at H
    exact ⟨l, o, b, o', n, cap, lb, v, e2, nx2, h2', e3, nx3, h3', e4, hl, hs, h2, hg, h7, hv, hA, hB, hv4, H⟩
theorem varsB_spec (r : Env) : ∀ (l : List P) (e e4 : Env), varsB r l e = some e4 → (∀ p, p ∈ l → isVar p e → ∃ x, Tr.get? p r = some (.var x) ∧ Tr.get? p e4 = some (.var x)) ∧ (∀ p, ¬ (p ∈ l ∧ isVar p e) → Tr.get? p e4 = Tr.get? p e) ∧ ∀ p, isVar p e4 ↔ isVar p e
  | [], e, e4, H => by cases H; exact ⟨fun p h => (by cases h), fun _ _ => rfl, fun _ => Iff.rfl⟩
  | q :: l, e, e4, H => by
    simp only [varsB, vars1] at H
    by_cases hq : isVar q e
    · obtain ⟨x0, hx0⟩ := hq
      rw [hx0] at H
      simp only [] at H
      cases hr : Tr.get? q r with
      | none => simp only [hr, reduceCtorEq] at H
      | some u =>
        cases u <;> simp only [hr, reduceCtorEq] at H
        rename_i x
        obtain ⟨i1, i2, i3⟩ := varsB_spec r l _ _ H
        have iv : ∀ p, isVar p (Tr.set q e (some (.var x))) ↔ isVar p e := by
          intro p
          by_cases hp : p = q
          · subst hp; exact ⟨fun _ => ⟨x0, hx0⟩, fun _ => ⟨x, Tr.get_set_self _ _ _⟩⟩
          · unfold isVar; rw [Tr.get_set_ne hp]
        refine ⟨fun p hp hv => ?_, fun p hn => ?_, fun p => (i3 p).trans (iv p)⟩
        · by_cases hpl : p ∈ l
          · exact i1 p hpl ((iv p).2 hv)
          · rcases List.mem_cons.1 hp with rfl | hp
            · exact ⟨x, hr, by rw [i2 p (fun h => hpl h.1), Tr.get_set_self]⟩
            · exact absurd hp hpl
        · have hpq : p ≠ q := by rintro rfl; exact hn ⟨by simp, ⟨x0, hx0⟩⟩
          rw [i2 p (fun h => hn ⟨by simp [h.1], (iv p).1 h.2⟩), Tr.get_set_ne hpq]
    · have H' : varsB r l e = some e4 := by
        cases hg : Tr.get? q e with
        | none => simpa only [hg] using H
        | some u =>
          cases u
          case var x => exact absurd ⟨x, hg⟩ hq
          all_goals (simpa only [hg] using H)
      obtain ⟨i1, i2, i3⟩ := varsB_spec r l e e4 H'
      refine ⟨fun p hp hv => ?_, fun p hn => ?_, i3⟩
      · rcases List.mem_cons.1 hp with rfl | hp
        · exact absurd hv hq
        · exact i1 p hp hv
      · exact i2 p (fun h => hn ⟨by simp [h.1], h.2⟩)
end

/-! ### Go's loop -/

theorem lookNl {v : DV} {h : Hp} {r : List DV × Nat} (e : Env) (hl : look v .nl h = some r) : look v e h = some r := by
  cases v <;> first | exact hl | (simp only [look, Tr.get_e, reduceCtorEq] at hl)
section
variable {L : P → Prop} {N hi : Nat} {j : J} {pv : P → Option Nat} {e : Env} {nx : P} {h : Hp} {a : Act} {w : World}
theorem Rel.row (R : Rel L N hi j pv e nx h a w) {b : P} {o n sz : Nat} {cap : Option Nat} {sv : Value} (hv : VR j (.sl b o n cap sz) sv) (hn : 0 < n) {lb : List DV} (hg : Tr.get? b h = some (.cells lb) ∨ Tr.get? b h = some (.ro lb)) :
    ∃ x s cap', sv = .slice (some ⟨x, s + o, none⟩) n cap' ∧ CellsAt j w x s lb := by
  have hlt : b.n < nx.n := by
    rcases Nat.lt_or_ge b.n nx.n with h' | h'
    · exact h'
    · rcases hg with hg | hg <;> (rw [R.top b h'] at hg; cases hg)
  cases hv with
  | slA hj ho hc hs he =>
    obtain ⟨_, l', hg', _, hcc⟩ := R.heap b _ hj hlt
    have : l' = lb := by rcases hg with hg | hg <;> (rw [hg] at hg'; cases hg'); rfl
    subst this
    have := ho (.inl hn); subst this
    exact ⟨_, _, _, rfl, hcc⟩
  | slO hj ho hc =>
    obtain ⟨l', hg', _, hcc⟩ := R.heap b _ hj hlt
    have : l' = lb := by rcases hg with hg | hg <;> (rw [hg] at hg'; cases hg'); rfl
    subst this
    have := ho (.inl hn); subst this
    exact ⟨_, _, _, rfl, hcc⟩
  | slD ad hj hc =>
    have hg' : Tr.get? b h = some .dead := R.heap b _ hj hlt
    rcases hg with hg | hg <;> (rw [hg] at hg'; cases hg')
  | slE ad hj hc h0 => omega
theorem Dfr.put {base : Nat} {ds : List Deferred} (I : Dfr base hi j pv w ds) {x : Nat} {r : Loop} {o : Obj} (hx : w.heap[x]? = some (.loop r)) : Dfr base hi j pv (w.putObj x o) ds := by
  obtain ⟨Ds, h1, h2, h3⟩ := I
  refine ⟨Ds, h1, h2, fun D hD => ?_⟩
  obtain ⟨h4, h5, A⟩ := h3 D hD
  refine ⟨h4, ?_, A⟩
  rw [put_other (by rintro rfl; rw [hx] at h5; cases h5)]; exact h5
theorem Apart.back {pv' : P → Option Nat} {x : Nat} (A : Apart hi j pv' x) (hk : PvK pv pv') : Apart hi j pv x := ⟨A.at_, fun p hp => A.pv p (hk p _ hp), A.mp⟩
theorem Dfr.back {base : Nat} {pv' : P → Option Nat} {ds : List Deferred} (I : Dfr base hi j pv' w ds) (hk : PvK pv pv') : Dfr base hi j pv w ds := by
  obtain ⟨Ds, h1, h2, h3⟩ := I
  exact ⟨Ds, h1, h2, fun D hD => let ⟨h4, h5, A⟩ := h3 D hD; ⟨h4, h5, A.back hk⟩⟩
/-- The loop is entered. -/
theorem enter_facts {Pr : Program} {r : Option Nat} {base : Nat} {ds : List Deferred} (R : Rel L N hi j pv e nx h a w) (I : InRec r hi j pv w) (hb : base ≤ w.heap.size) (hD : Dfr base hi j pv w ds) (n : Nat) (fn : FuncId) (tmps : Array Value) (ps : Array Tmp) (assign body : Code) :
    ∃ l mark w1 D0, (Instr.enterLoop fn tmps ps assign body r).run Pr w = .ok (l, mark) w1 ∧ w.heap.size ≤ l ∧ w1.heap[l]? = some (.loop { state := .ready, pending := none, fn, tmps, params := ps, assign, body, defers := D0 }) ∧
      Rel L N hi j pv e nx h a w1 ∧ Fr hi n j pv w j pv w1 ∧ Apart hi j pv l ∧ Dfr base hi j pv w1 (mark ++ ds) := by
  cases r with
  | none =>
    have R1 := R.grown (.deferred (some []))
    have F1 := Fr.grown hi n j pv w (.deferred (some []))
    have hnew : (w.alloc (.deferred (some []))).heap[w.heap.size]? = some (.deferred (some [])) := World.alloc_heap_new w _
    refine ⟨_, _, _, w.heap.size, run_enterLoop_outer _ _ _ _ _, by omega, ?_, R1.grown _, F1.trans (Fr.grown hi n j pv _ _) (Nat.le_refl _), Apart.new R (by omega), ?_⟩
    · have := World.alloc_heap_new (w.alloc (.deferred (some []))) (.loop { state := .ready, pending := none, fn, tmps, params := ps, assign, body, defers := w.heap.size }); rwa [World.size_alloc] at this
    · have hD1 := (hD.keep F1).keep (Fr.grown hi n j pv (w.alloc (.deferred (some []))) (.loop { state := .ready, pending := none, fn, tmps, params := ps, assign, body, defers := w.heap.size }))
      obtain ⟨Ds, h1, h2, h3⟩ := hD
      obtain ⟨Ds', h1', h2', h3'⟩ := hD1
      have hinj : Ds = Ds' := by
        rw [h1] at h1'
        have := congrArg (List.map fun d : Deferred => d.target) h1'
        simp only [List.map_map] at this
        refine List.map_inj_right (f := fun D => Target.collected D) (fun x y hxy => by cases hxy; rfl) |>.1 ?_
        exact this
      subst hinj
      refine ⟨w.heap.size :: Ds, by rw [h1]; rfl, ?_, fun D hD => ?_⟩
      · rw [List.nodup_cons]
        refine ⟨fun hm => ?_, h2⟩
        have := (Array.getElem?_eq_some_iff.1 (h3 _ hm).2.1).1
        omega
      · rcases List.mem_cons.1 hD with rfl | hD
        · refine ⟨hb, ?_, Apart.new R (Nat.le_refl _)⟩
          rw [allocOld _ _ (by rw [allocSize]; omega)]; exact hnew
        · exact h3' D hD
  | some l0 =>
    obtain ⟨⟨r0, h0⟩, A⟩ := I l0 rfl
    exact ⟨_, _, _, r0.defers, run_enterLoop_inner h0 _ _ _ _ _, Nat.le_refl _, World.alloc_heap_new w _, R.grown _, Fr.grown hi n j pv w _, Apart.new R (Nat.le_refl _), hD.keep (Fr.grown hi n j pv w _)⟩
end

section
variable {Pr : Program} {F : Tr Fd} {ih : Ih} {wm : Option P} {e : Env} {nx : P} {h : Hp} {out : Out} {eo : Env} {no : P} {ho : Hp}
/-- A piece of code is sound. -/
def StepOk (Pr : Program) (F : Tr Fd) (ih : Ih) (c : C) : Prop := ∀ (wm : Option P) (e : Env) (nx : P) (h : Hp) (out : Out) (e' : Env) (nx' : P) (h' : Hp), step c F ih wm e nx h = .ok out e' nx' h' →
  ∀ (Ls : List Nat) (N : Nat) (c' : Code), chkC Pr Ls N c c' = true → MovesC wm nx h nx' h' ∧ CodeOk Pr Ls N c c' e nx h out e' nx' h'
variable {a b : C} {Ls : List Nat} {N : Nat} {a' b' : Code} {lv : List P} {pi pv0 : P} {sz : Nat} {agg : Bool} {box : DV}
theorem rgs_moves (iha : StepOk Pr F ih a) (ihb : StepOk Pr F ih b) (ha : chkC Pr Ls N a a' = true) (hb : chkC Pr Ls N b b' = true) :
    ∀ (i : Nat) (e : Env) (nx : P) (h : Hp), rgs (step a) (step b) F ih wm lv pi pv0 sz agg box i e nx h = .ok out eo no ho → MovesC wm nx h no ho ∧ out = .norm
  | 0, e, nx, h, H => by
    change Res.ok .norm e nx h = _ at H
    cases H; exact ⟨MovesC.refl _ _ _, rfl⟩
  | i + 1, e, nx, h, H => by
    obtain ⟨l, o, b, o', n, cap, lb, v, e2, nx2, h2, e3, nx3, h3, e4, _, _, _, _, _, _, hA, hB, _, H⟩ := rgs_succ H
    obtain ⟨M1, _⟩ := iha _ _ _ _ _ _ _ _ hA Ls N a' ha
    obtain ⟨M2, _⟩ := ihb _ _ _ _ _ _ _ _ hB Ls N b' hb
    obtain ⟨M3, hn⟩ := rgs_moves iha ihb ha hb i e4 nx3 h3 H
    exact ⟨(M1.trans M2).trans M3, hn⟩
/-- Ahead of the rounds that are left. -/
def RndI (F : Tr Fd) (ih : Ih) (wm : Option P) (a b : C) (lv : List P) (pi pv0 : P) (sz : Nat) (agg : Bool) (box : DV) (out : Out) (eo : Env) (no : P) (ho : Hp) (Ls : List Nat) (N hi n base : Nat) (j : J) (pv : P → Option Nat) (ac : Act) (w : World) (l : Nat) (r0 : Loop) (ds : List Deferred) (i : Nat) (W : World) : Prop :=
  ∃ (e : Env) (nx : P) (h : Hp) (j' : J), rgs (step a) (step b) F ih wm lv pi pv0 sz agg box i e nx h = .ok out eo no ho ∧ n ≤ nx.n ∧ Rel (vars Ls) N hi j' pv e nx h ac W ∧ Fr hi n j pv w j' pv W ∧ W.heap[l]? = some (.loop r0) ∧ Apart hi j' pv l ∧ Dfr base hi j' pv W ds ∧
    (∀ p, isVar p e → p ∈ lv) ∧ ∀ p q o, Tr.get? p e ≠ some (.fld q o)
/-- The record of a round that may begin. -/
def recOf (fn : FuncId) (tm : Array Value) (ps : Array Tmp) (a' b' : Code) (D0 : Nat) (st : LoopState) : Loop := { state := st, pending := none, fn, tmps := tm, params := ps, assign := a', body := b', defers := D0 }
theorem round_sim (iha : StepOk Pr F ih a) (ihb : StepOk Pr F ih b) (hca : chkC Pr Ls N a a' = true) (hcb : chkC Pr Ls N b b' = true) (hpi : ¬ vars Ls pi) (hpv : ¬ vars Ls pv0) (hNi : pi.n < N) (hNv : pv0.n < N) (hkp : allIn (fun p => keepsP p a && keepsP p b) lv = true)
    {hi n base : Nat} {j : J} {pv : P → Option Nat} {ac : Act} {w : World} {l D0 : Nat} {fn : FuncId} {ds : List Deferred} {boxA : Addr} (hbox : VR j box (.pointer (some boxA))) (hlw : w.heap.size ≤ l) (hbw : base ≤ w.heap.size) (hno : no.n ≤ hi) (hsz : agg = false → sz = 1)
    (i : Nat) (W : World) (I : RndI F ih wm a b lv pi pv0 sz agg box out eo no ho Ls N hi n base j pv ac w l (recOf fn ac.tmps #[pi.n, pv0.n] a' b' D0 .ready) ds (i + 1) W) :
    ∃ b1 off m cap vs, W.cell? boxA = some (.slice (some ⟨b1, off, none⟩) m cap) ∧ i < m ∧ vs.length = sz ∧ (∀ q v, vs[q]? = some v → W.cell? ⟨b1, off + i * sz + q, none⟩ = some v) ∧
      YieldAt (FW none) 0 Pr l #[.int .i64 (i : Int), elemV agg vs] W fun e W' => e = .returned (.bool true) ∧ RndI F ih wm a b lv pi pv0 sz agg box out eo no ho Ls N hi n base j pv ac w l (recOf fn ac.tmps #[pi.n, pv0.n] a' b' D0 .ready) ds i W' := by
  obtain ⟨e, nx, h, j', H, hn, R, F0, hl, A, hD, hvl, hfl⟩ := I
  obtain ⟨l1, o, b1, o', m, cap, lb, v, e2, nx2, h2, e3, nx3, h3, e4, hlk, hs, him, hg, hlen, hel, hA, hB, hv4, H4⟩ := rgs_succ H
  obtain ⟨x, s, hbx, hcb1⟩ := R.look (XD.of_VR (hbox.mono F0.ext)) (lookNl e hlk)
  cases hbx
  obtain ⟨sv, hsv, hrs, _⟩ := hcb1 o _ hs
  obtain ⟨x2, s2, cap', rfl, hcl⟩ := R.row hrs (by omega) hg
  obtain ⟨vs, hvs, hvl2, hcell⟩ := hcl.part (o' + i * sz) sz hlen
  refine ⟨x2, s2 + o', m, cap', vs, hsv, him, hvl2, fun q v hq => ?_, ?_⟩
  · have := hcell q v hq
    rw [show s2 + o' + i * sz + q = s2 + (o' + i * sz) + q by omega]; exact this
  have hev : VR j' v (elemV agg vs) := by
    cases agg with
    | true => cases hel; exact VR.agg hvs
    | false =>
      obtain ⟨v', h1, h2, _⟩ := hvs.get 0 v hel
      have : vs.headD undef = v' := by cases vs <;> simp at h1 ⊢; exact h1
      show VR j' v (vs.headD undef)
      rw [this]; exact h2
  have hy := run_yield (P := Pr) (args := #[.int .i64 (i : Int), elemV agg vs]) hl rfl
  refine ⟨_, _, _, _, hy, roundIn_of_wpIn trivial ?_⟩
  obtain ⟨M1, C1⟩ := iha _ _ _ _ _ _ _ _ hA Ls N a' hca
  obtain ⟨M2, C2⟩ := ihb _ _ _ _ _ _ _ _ hB Ls N b' hcb
  obtain ⟨M3, _⟩ := rgs_moves iha ihb hca hcb i e4 nx3 h3 H4
  have hn3 : nx3.n ≤ hi := Nat.le_trans M3.le hno
  have hn2 : nx2.n ≤ hi := Nat.le_trans M2.le hn3
  have Ra : Rel (vars Ls) N hi j' pv (Tr.set pv0 (Tr.set pi e (some (.int .i64 (.ofNat i)))) (some v)) nx h ((({ tmps := ac.tmps, defers := [] } : Act).put (some pi.n) (.int .i64 (i : Int))).put (some pv0.n) (elemV agg vs)) W :=
    ((R.acts (a' := { tmps := ac.tmps, defers := [] }) rfl).put hpi hNi (XD.of_VR (VR.int _ _))).put hpv hNv (XD.of_VR hev)
  have hlt : l < W.heap.size := (Array.getElem?_eq_some_iff.1 hl).1
  have hact : ({ tmps := (#[pi.n, pv0.n].zip #[.int .i64 (i : Int), elemV agg vs]).foldl (fun t (p, v) => t.setIfInBounds p v) ac.tmps, defers := [] } : Act) = ((({ tmps := ac.tmps, defers := [] } : Act).put (some pi.n) (.int .i64 (i : Int))).put (some pv0.n) (elemV agg vs)) := by
    simp [Act.put]
  show a'.wpIn (FW (some l)) 0 Pr _ ({ tmps := (#[pi.n, pv0.n].zip #[.int .i64 (i : Int), elemV agg vs]).foldl (fun t (p, v) => t.setIfInBounds p v) ac.tmps, defers := [] } : Act) W
  rw [hact]
  refine cwp_wp (C1 hi j' pv _ W (some l) W.heap.size Ra (fun l' hl' => by cases hl'; exact ⟨⟨_, hl⟩, A⟩) (Nat.le_refl _) (Dfr.nil _ _ _ _ _) hn2 _ ?_)
  intro j1 pv1 a1 w1 R1 F1 hd1 hk1
  have hl1 := (A.same F1 hlt).trans hl
  have A1 := A.keep F1 hlt
  have hlt1 : l < w1.heap.size := (Array.getElem?_eq_some_iff.1 hl1).1
  refine ⟨_, run_beginRound hl1 rfl, ?_⟩
  have R1' := R1.putObj (o' := .loop { recOf fn ac.tmps #[pi.n, pv0.n] a' b' D0 .ready with state := .busy }) hl1 rfl rfl
  have F01 := (F0.trans F1 hn).putObj (.loop { recOf fn ac.tmps #[pi.n, pv0.n] a' b' D0 .ready with state := .busy }) hl1 rfl rfl hlw
  have hl2 : (w1.putObj l (.loop { recOf fn ac.tmps #[pi.n, pv0.n] a' b' D0 .ready with state := .busy })).heap[l]? = some (.loop { recOf fn ac.tmps #[pi.n, pv0.n] a' b' D0 .ready with state := .busy }) := World.putObj_heap_same hlt1
  have hD1 := (hD.keep F1).put (o := .loop { recOf fn ac.tmps #[pi.n, pv0.n] a' b' D0 .ready with state := .busy }) hl1
  refine cwp_wp (C2 hi j1 pv1 a1 _ (some l) W.heap.size R1' (fun l' hl' => by cases hl'; exact ⟨⟨_, hl2⟩, A1⟩) (by rw [put_size]; exact F1.size) ?_ hn3 _ ?_)
  · exact hd1.put hl1
  intro j3 pv3 a3 w3 R3 F3 hd3 hk3
  have hlt2 : l < (w1.putObj l (.loop { recOf fn ac.tmps #[pi.n, pv0.n] a' b' D0 .ready with state := .busy })).heap.size := by rw [put_size]; exact hlt1
  have hl3 := (A1.same F3 hlt2).trans hl2
  have A3 := A1.keep F3 hlt2
  have hD3 := hD1.keep F3
  have hpk : PvK pv pv3 := by
    intro p x hp
    have hm := hvl p (R.pvv p x hp)
    have := allIn_spec hkp p hm
    rw [Bool.and_eq_true] at this
    exact hk3 p x this.2 (hk1 p x this.1 hp)
  refine ⟨_, _, run_endRound none hl3, rfl, ?_⟩
  have hR : ({ { recOf fn ac.tmps #[pi.n, pv0.n] a' b' D0 .ready with state := .busy } with state := if (none : Option Code).isNone then .ready else .done, pending := none } : Loop) = recOf fn ac.tmps #[pi.n, pv0.n] a' b' D0 .ready := rfl
  rw [hR]
  have R4 := R3.putObj (o' := .loop (recOf fn ac.tmps #[pi.n, pv0.n] a' b' D0 .ready)) hl3 rfl rfl
  have F4 := (F01.trans F3 (Nat.le_trans hn M1.le)).putObj (.loop (recOf fn ac.tmps #[pi.n, pv0.n] a' b' D0 .ready)) hl3 rfl rfl hlw
  have hj3 : Ext j' j3 := F1.ext.trans F3.ext
  obtain ⟨v1, v2, v3⟩ := varsB_spec e3 lv e e4 hv4
  have hE4 : ∀ p u, Tr.get? p e4 = some u → (∀ x, u ≠ .var x) → Tr.get? p e = some u := by
    intro p u hu hnv
    by_cases hp : p ∈ lv ∧ isVar p e
    · obtain ⟨x, _, hx⟩ := v1 p hp.1 hp.2
      rw [hu] at hx; cases hx; exact absurd rfl (hnv x)
    · rw [v2 p hp] at hu; exact hu
  refine ⟨e4, nx3, h3, j3, H4, Nat.le_trans hn (Nat.le_trans M1.le M2.le), ?_, { F4 with pnew := fun p x hp => .inl hp }, World.putObj_heap_same (Array.getElem?_eq_some_iff.1 hl3).1, A3.back hpk, (hD3.put hl3).back hpk, fun p hp => hvl p ((v3 p).1 hp), fun p q o h => hfl p q o (hE4 p _ h (fun x h => by cases h))⟩
  refine { fresh := R4.fresh, heap := R4.heap, inj := R4.inj, inr := R4.inr, env := ?_, pvv := fun p x hp => (v3 p).2 (R.pvv p x hp), pin := R.pin, pfr := fun p x hp => R4.pfr p x (hpk p x hp), pfo := fun p x hp => R4.pfo p x (hpk p x hp), loc := ?_, size := R.size, lt := R4.lt, lr := R4.lr, top := R4.top, maps := R4.maps, pfm := fun p x hp => R4.pfm p x (hpk p x hp) }
  · intro p u hu
    have other : (∀ x, u ≠ .var x) → (∀ q o, u ≠ .fld q o) → ER j3 pv (w3.putObj l (.loop (recOf fn ac.tmps #[pi.n, pv0.n] a' b' D0 .ready))) ac.tmps p u := by
      intro h1 h2
      have hr := R.env p u (hE4 p u hu h1)
      cases u
      case var x => exact absurd rfl (h1 x)
      case fld q o => exact absurd rfl (h2 q o)
      all_goals exact VR.mono hj3 hr
    cases u
    case var x =>
      obtain ⟨x0, hx0⟩ := (v3 p).1 ⟨x, hu⟩
      obtain ⟨bp, hbp, ht, _, _⟩ := R.env p _ hx0
      obtain ⟨y, hy3, hy4⟩ := v1 p (hvl p ⟨x0, hx0⟩) ⟨x0, hx0⟩
      rw [hu] at hy4; cases hy4
      obtain ⟨b3, hb3, _, h3, h4⟩ := R4.env p _ hy3
      have := hpk p bp hbp
      rw [hb3] at this; cases this
      exact ⟨_, hbp, ht, h3, h4⟩
    case fld q o => exact absurd (hE4 p _ hu (fun x h => by cases h)) (hfl p q o)
    all_goals exact other (fun x h => by cases h) (fun q o h => by cases h)
  · intro p x hp
    obtain ⟨x0, hx0⟩ := (v3 p).1 ⟨x, hp⟩
    exact R.loc p x0 hx0
theorem itbK_get {f : P} {K : Nat → Bool → Res} (H : itbK F f K = .ok out eo no ho) : ∃ sz agg, Tr.get? f F = some (.itb sz agg) ∧ K sz agg = .ok out eo no ho := by
  unfold itbK at H
  cases hf : Tr.get? f F with
  | none => rw [hf] at H; cases H
  | some fd =>
    rw [hf] at H
    cases fd with
    | itb sz agg => exact ⟨sz, agg, rfl, H⟩
    | mk a b c => cases H
    | prim n => cases H
    | onc => cases H
    | tab gl l => cases H
theorem headK_get {l : List DV} {K : DV → Res} (H : headK l K = .ok out eo no ho) : ∃ v, l = [v] ∧ K v = .ok out eo no ho := by
  match l, H with
  | [], H => cases H
  | [v], H => exact ⟨v, rfl, H⟩
  | _ :: _ :: _, H => cases H
theorem calls_round {r : Option Nat} {f : FuncId} {args : Array Value} {w : World} {R R' : Ending → World → Prop} (h : CallsIn (FW none) 0 Pr f args w R) (hR : ∀ e w', R e w' → R' e w') : CallsIn (FW r) (0 - 1) Pr f args w R' := CallsIn.mono (F := FW r) (n := 0) h hR
theorem rng_sim {g : Opd} {c' : Code} (hF : FOk Pr F) (iha : StepOk Pr F ih a) (ihb : StepOk Pr F ih b) (H : step (.rng lv g pi pv0 a b) F ih wm e nx h = .ok out eo no ho) (hc : chkC Pr Ls N (.rng lv g pi pv0 a b) c' = true) :
    MovesC wm nx h no ho ∧ CodeOk Pr Ls N (.rng lv g pi pv0 a b) c' e nx h out eo no ho := by
  obtain ⟨g', a', b', rfl, hq⟩ : ∃ g' a' b', c' = .rangeFunc g' #[pi.n, pv0.n] a' b' ∧ (chkOpd g g' = true ∧ ¬ vars Ls pi ∧ ¬ vars Ls pv0 ∧ pi.n < N ∧ pv0.n < N ∧ chkC Pr Ls N a a' = true ∧ chkC Pr Ls N b b' = true ∧ allIn (fun p => keepsP p a && keepsP p b) lv = true) := by
    cases c' with
    | rangeFunc g' ps a' b' =>
      obtain ⟨ps⟩ := ps
      rcases ps with _ | ⟨i, _ | ⟨v, _ | ⟨x, ps⟩⟩⟩
      · simp [chkC] at hc
      · simp [chkC] at hc
      rotate_left
      · simp [chkC] at hc
      ·
        simp only [chkC, Bool.and_eq_true, Nat.ble_eq, Bool.not_eq_true'] at hc
        obtain ⟨⟨⟨⟨⟨⟨⟨⟨⟨⟨h1, h2⟩, h3⟩, h4⟩, h5⟩, h6⟩, h7⟩, h8⟩, h9⟩, h10⟩, h11⟩ := hc
        have h2 := beqT h2
        have h3 := beqT h3
        subst h2; subst h3
        exact ⟨g', a', b', rfl, h1, (fun hv => by unfold vars at hv; rw [hv] at h4; cases h4), (fun hv => by unfold vars at hv; rw [hv] at h5; cases h5), h6, h7, h9, h10, h11⟩
    | _ => simp [chkC] at hc
  obtain ⟨hg, hpi, hpv, hNi, hNv, hca, hcb, hkp⟩ := hq
  change keepK lv e .nl (fun e => asF (ev g e) .fail fun f cs => itbK F f fun sz agg => headK cs fun box => rowK box h (.ok .norm e nx h) fun _ _ n _ _ => chk (Nat.ble n (nat_lit 1099511627776)) fun _ => rgs (step a) (step b) F ih wm lv pi pv0 sz agg box n e nx h) = _ at H
  rw [keepK_eq, asF_eq] at H
  cases hev : ev g (keep e lv .nl) <;> simp only [hev, reduceCtorEq] at H
  rename_i f cs
  obtain ⟨sz, agg, hf, H⟩ := itbK_get H
  obtain ⟨box, rfl, H⟩ := headK_get H
  obtain ⟨l1, o, hlk, H⟩ := rowK_get H
  obtain ⟨n, hsl, hnb, H⟩ : ∃ n, (l1[o]? = some .nils ∧ n = 0 ∨ ∃ b o' cap s, l1[o]? = some (.sl b o' n cap s)) ∧ n ≤ 1099511627776 ∧ rgs (step a) (step b) F ih wm lv pi pv0 sz agg box n (keep e lv .nl) nx h = .ok out eo no ho := by
    rcases H with ⟨h1, h2⟩ | ⟨b, o', n, cap, s, h1, h2⟩
    · exact ⟨0, .inl ⟨h1, rfl⟩, by omega, h2⟩
    · replace h2 := chkT h2
      exact ⟨n, .inr ⟨_, _, _, _, h1⟩, Nat.ble_eq.mp h2.1, h2.2⟩
  obtain ⟨hM, hout⟩ := rgs_moves iha ihb hca hcb n _ _ _ H
  subst hout
  refine ⟨hM, ?_⟩
  have hitb : ItbOk Pr f sz agg := hF f _ hf
  obtain ⟨⟨fn0, hfn0, hname, hbody⟩, hsz1, hitb⟩ := hitb
  intro hi j pv ac w r base R I hb hD hno Q hQ
  obtain ⟨pvk, Rk, Fk, hkk, _⟩ := R.keep lv
  have hgv := Rk.reads g g' hg
  rw [hev] at hgv
  obtain ⟨cs', hge, hcs⟩ := hgv.fn
  cases hcs with
  | cons hbv hcs =>
  cases hcs
  rename_i bv
  obtain ⟨xb, sb, hbe, hcb1⟩ := Rk.look (XD.of_VR hbv) (lookNl _ hlk)
  subst hbe
  refine wpIn_rangeFunc ?_
  intro fn _
  obtain ⟨l, mark, w1, D0, he, hlw, hl, R1, F1, A1, D1⟩ := enter_facts (Pr := Pr) (r := r) Rk (I.keep Fk) hb (hD.keep Fk) nx.n fn ac.tmps #[pi.n, pv0.n] a' b'
  refine ⟨l, mark, w1, { target := .fn (.func f.n) #[.pointer (some ⟨xb, sb + o, none⟩)], args := #[.func (.yield l) #[] #[]] }, w1, f.n, #[.func (.yield l) #[] #[], .pointer (some ⟨xb, sb + o, none⟩)], w1, he, ?_, fun _ _ => trivial, ?_, fun h => absurd h (by simp [FW]), ?_⟩
  · simp only [resolve, hge]
    simp [go_sem]
  · have happ : (#[.func (.yield l) #[] #[]] ++ #[.pointer (some ⟨xb, sb + o, none⟩)] : Array Value) = #[.func (.yield l) #[] #[], .pointer (some ⟨xb, sb + o, none⟩)] := by simp
    rw [← happ]
    simp only [invoke]
    exact run_callFunc hfn0 hname hbody
  have hrow : ∃ s cap, w1.cell? ⟨xb, sb + o, none⟩ = some (.slice s n cap) := by
    obtain ⟨xb', sb', hx', hcb2⟩ := R1.look (XD.of_VR hbv) (lookNl _ hlk)
    simp only [Value.pointer.injEq, Option.some.injEq, Addr.mk.injEq, and_true] at hx'
    obtain ⟨rfl, hx'⟩ := hx'
    rcases hsl with ⟨h1, rfl⟩ | ⟨b1, o', cap, s, h1⟩
    · obtain ⟨v', h2, h3, _⟩ := hcb2 o _ h1
      cases h3
      exact ⟨_, _, by rw [hx']; exact h2⟩
    · obtain ⟨v', h2, h3, _⟩ := hcb2 o _ h1
      obtain ⟨ad, cap', rfl, _⟩ := (XD.of_VR (pv := pvk) h3).sl
      exact ⟨_, _, by rw [hx']; exact h2⟩
  have hcall := hitb l ⟨xb, sb + o, none⟩ (RndI F ih wm a b lv pi pv0 sz agg box .norm eo no ho Ls N hi nx.n base j pvk ac w l (recOf fn ac.tmps #[pi.n, pv0.n] a' b' D0 .ready) (mark ++ ac.defers)) n w1 hnb hrow ?_ ?_
  · refine calls_round hcall ?_
    rintro e1 W ⟨⟨v, rfl⟩, e2, nx2, h2, j2, H2, _, R2, F2, hl2, A2, D2, _, _⟩
    change Res.ok .norm e2 nx2 h2 = _ at H2
    cases H2
    refine ⟨none, _, run_endLoop hl2 (by simp [recOf]), ?_⟩
    refine hQ j2 pvk _ _ ((R2.putObj _ hl2 rfl rfl).acts rfl) ((Fk.trans F2 (Nat.le_refl _)).putObj _ hl2 rfl rfl hlw) (D2.put hl2) (fun p x hk hp => hkk p x hk hp)
  · refine ⟨_, nx, h, j, H, Nat.le_refl _, R1, F1, hl, A1, D1, fun p ⟨x, hx⟩ => ?_, fun p q o hx => ?_⟩
    · exact (keep_mem e lv .nl (fun _ => False) (fun p v h => by rw [Tr.get_e] at h; cases h) _ _ hx).elim (fun h => h.elim) id
    · exact (keep_spec e lv .nl (fun p v hv => by rw [Tr.get_e] at hv; cases hv) _ _ hx).2 q o rfl
  · exact fun i W hI => round_sim iha ihb hca hcb hpi hpv hNi hNv hkp hbv hlw hb hno hsz1 i W hI
end
end Go.Proofs.YtnoekfkfinjfgaaGreatDoor.Dx

set_option autoImplicit false
set_option linter.unusedSectionVars false
set_option linter.unusedSimpArgs false
noncomputable section
namespace Go.Proofs.YtnoekfkfinjfgaaGreatDoor.Dx
open Go
variable [Rho]

/-! ### A region whose order is left open -/

theorem cnt_set : ∀ (l : List Bool) (i : Nat), l[i]? = some false → (l.set i true).countP (! ·) + 1 = l.countP (! ·)
  | [], i, h => by simp at h
  | b :: l, 0, h => by simp at h; subst h; simp
  | b :: l, i + 1, h => by
    have := cnt_set l i (by simpa using h)
    simp only [List.set_cons_succ, List.countP_cons]
    omega

section
variable {Pr : Program} {wm : Option P} {ds : List Dop} {ops : Array Oper} {e : Env} {nx : P} {h : Hp} {E : Nat → Env} {X : Nat → P} {H : Nat → Hp} {Ls : List Nat} {N hi : Nat} {j0 : J} {pv0 : P → Option Nat} {a0 : Act} {w0 : World}

theorem ready_iff {listed : Array Bool} {i : Nat} : i ∈ Region.ready .any ops listed ↔ ∃ o, ops[i]? = some o ∧ listed.getD i true = false ∧ ∀ m ∈ edges o, listed.getD m false = true := by
  unfold Region.ready
  rw [List.mem_filter, List.mem_range]
  constructor
  · rintro ⟨h1, h2⟩
    rw [Array.getElem?_eq_getElem h1] at h2
    simp only [Option.map_some, Option.getD_some, Bool.and_eq_true, Bool.not_eq_true', Array.all_eq_true_iff_forall_mem, Bool.or_eq_true] at h2
    refine ⟨ops[i], Array.getElem?_eq_getElem h1, h2.1, ?_⟩
    intro m hm
    simp only [edges, List.mem_map, List.mem_filter, Array.mem_toList_iff] at hm
    obtain ⟨ed, ⟨h3, h4⟩, rfl⟩ := hm
    rcases h2.2 ed h3 with h5 | h5
    · rw [h4] at h5; cases h5
    · exact h5
  · rintro ⟨o, h1, h2, h3⟩
    have hlt : i < ops.size := (Array.getElem?_eq_some_iff.1 h1).1
    refine ⟨hlt, ?_⟩
    rw [h1]
    simp only [Option.map_some, Option.getD_some, Bool.and_eq_true, Bool.not_eq_true', Array.all_eq_true_iff_forall_mem, Bool.or_eq_true]
    refine ⟨h2, fun ed hed => ?_⟩
    cases hb : Region.binds .any ed with
    | false => exact .inl rfl
    | true => exact .inr (h3 _ (by simp only [edges, List.mem_map, List.mem_filter, Array.mem_toList_iff]; exact ⟨ed, ⟨hed, hb⟩, rfl⟩))

theorem any_sim (D : DrwOk Pr Ls N ds ops.toList) (st : Sts Pr wm ds ops.toList e nx h E X H) (top : ∀ k : P, nx.n ≤ k.n → Tr.get? k h = none) (hnh : (X ds.length).n ≤ hi) (rr : Option Nat) {Q : Exit → Act → World → Prop}
    (hQ : ∀ j' pv' a' w', Rel (vars Ls) N hi j' pv' (E ds.length) (X ds.length) (H ds.length) a' w' → Fr hi nx.n j0 pv0 w0 j' pv' w' → a'.defers = a0.defers → PvK pv0 pv' → Q .normal a' w') :
    ∀ (fuel : Nat) (listed : Array Bool) (j : J) (pv : P → Option Nat) (a : Act) (w : World), listed.size = ops.size → listed.toList.countP (! ·) ≤ fuel → Down ops.toList (fun q => listed.getD q false = true) →
      Inv ds E X H Ls N hi j0 pv0 a0 w0 (fun q => listed.getD q false = true) j pv a w → wpAnyIn (FW rr) 0 Pr .any ops Q fuel listed a w := by
  have hl : ds.length = ops.toList.length := D.len
  -- if none is ready, all are done
  have fin : ∀ (listed : Array Bool) (j : J) (pv : P → Option Nat) (a : Act) (w : World), listed.size = ops.size → Inv ds E X H Ls N hi j0 pv0 a0 w0 (fun q => listed.getD q false = true) j pv a w → Region.ready .any ops listed = [] → Q .normal a w := by
    intro listed j pv a w hsz I hr
    have hall : ∀ q, q < ops.size → listed.getD q false = true := by
      intro q
      induction q using Nat.strongRecOn with
      | _ q ih =>
        intro hq
        cases hb : listed.getD q false with
        | true => rfl
        | false =>
          exfalso
          have hmem : q ∈ Region.ready .any ops listed := by
            refine ready_iff.2 ⟨ops[q], Array.getElem?_eq_getElem hq, ?_, ?_⟩
            · rw [Array.getD_eq_getD_getElem?, Array.getElem?_eq_getElem (by omega)] at hb ⊢
              exact hb
            · intro m hm
              have hmq := D.edge q ops[q] (by rw [Array.getElem?_toList, Array.getElem?_eq_getElem hq]) m hm
              exact ih m hmq (by omega)
          rw [hr] at hmem; cases hmem
    obtain ⟨h1, h2, h3, h4⟩ := I.finish st hl top (fun q hq => hall q (by rw [hl] at hq; simpa using hq))
    exact hQ j pv a w h1 h2 h3 h4
  intro fuel
  induction fuel with
  | zero =>
    intro listed j pv a w hsz hcnt hdown I
    have hr : Region.ready .any ops listed = [] := by
      rw [List.eq_nil_iff_forall_not_mem]
      intro i hi
      obtain ⟨o, h1, h2, _⟩ := ready_iff.1 hi
      have hlt : i < ops.size := (Array.getElem?_eq_some_iff.1 h1).1
      rw [Array.getD_eq_getD_getElem?, Array.getElem?_eq_getElem (by omega)] at h2
      simp only [Option.getD_some] at h2
      have hpos : 0 < listed.toList.countP (! ·) := List.countP_pos_iff.2 ⟨listed[i], Array.getElem_mem_toList _, by simp [h2]⟩
      omega
    exact ⟨hr, fin listed j pv a w hsz I hr⟩
  | succ fuel ih =>
    intro listed j pv a w hsz hcnt hdown I
    refine ⟨fin listed j pv a w hsz I, ?_⟩
    intro i hir
    obtain ⟨o, h1, h2, h3⟩ := ready_iff.1 hir
    have hlt : i < ops.size := (Array.getElem?_eq_some_iff.1 h1).1
    have h2' : listed[i]? = some false := by
      rw [Array.getD_eq_getD_getElem?, Array.getElem?_eq_getElem (by omega)] at h2
      rw [Array.getElem?_eq_getElem (by omega)]; simpa using h2
    have hnS : ¬ listed.getD i false = true := by rw [Array.getD_eq_getD_getElem?, h2']; simp
    have ho : ops.toList[i]? = some o := by rw [Array.getElem?_toList]; exact h1
    have hil : i < ds.length := by rw [hl]; simpa using hlt
    have hd : ds[i]? = some ds[i] := List.getElem?_eq_getElem hil
    have hdop := D.dop i _ hd
    have hc := D.ops i _ o hd ho
    have sideL := fun (q : Nat) (x : Dop) (hx : ds[q]? = some x) (hq : q < i) (hcl : clash x ds[i] = true) => D.sideL hdown ho h3 hx hd hq hcl
    have sideR := fun (q : Nat) (x : Dop) (hx : ds[q]? = some x) (hq : i < q) (hcl : clash ds[i] x = true) => D.sideR hdown hnS hx hd hq hcl
    cases hdi : ds[i] with
    | mk c u b r op =>
      rw [hdi] at hd hdop hc sideL sideR
      simp only [okDop, Bool.and_eq_true] at hdop
      obtain ⟨⟨⟨⟨k1, k2⟩, k3⟩, k4⟩, k5⟩ := hdop
      subst k1
      have A : Now Pr wm ds ops.toList e nx h E X H Ls N hi (fun q => listed.getD q false = true) i u b r op o := {
        st := st, hl := hl, top := top, hnh := hnh, hd := hd, ho := ho, hn := hnS, sideL := sideL, sideR := sideR
        hdb := fun p hp => (memP_iff p b).1 (allIn_spec k3 p hp)
        hbu := fun p hp => by
          have := allIn_spec k4 p hp
          rw [Bool.or_eq_true, memP_iff, memP_iff] at this; exact this
        hvu := fun hv p hp => by
          rw [hv] at k2
          simp only [Bool.not_true, Bool.false_or] at k2
          exact (memP_iff p u).1 (allIn_spec k2 p hp)
        hlv := fun h1 h2 p hp hL => by
          rw [h1, h2] at k5
          simp only [Bool.false_or] at k5
          have := allIn_spec k5 p hp
          unfold vars at hL
          rw [hL] at this
          simp only [Bool.not_true, Bool.false_or] at this
          exact (memP_iff p b).1 this
        hc := hc }
      have hset : (fun q => (listed.setIfInBounds i true).getD q false = true) = addS (fun q => listed.getD q false = true) i := by
        funext q
        simp only [addS, eq_iff_iff, Array.getD_eq_getD_getElem?, Array.getElem?_setIfInBounds]
        by_cases hq : i = q
        · subst hq; simp [show i < listed.size by omega]
        · rw [if_neg hq]; exact ⟨.inl, fun h => h.elim id (fun h => absurd h.symm hq)⟩
      have W := A.wp rfl I (K := wpAnyIn (FW rr) 0 Pr .any ops Q fuel (listed.setIfInBounds i true)) (Q := Q) (by
        intro j' pv' a' w' I'
        refine ih _ j' pv' a' w' (by simpa using hsz) ?_ ?_ (by rw [hset]; exact I')
        · have := cnt_set listed.toList i (by rw [Array.getElem?_toList]; exact h2')
          rw [Array.toList_setIfInBounds]; omega
        · rw [hset]
          intro q oq hq hoq m hm
          rcases hq with hq | rfl
          · exact .inl (hdown q oq hq hoq m hm)
          · rw [ho] at hoq; cases hoq; exact .inl (h3 m hm)) rr
      unfold OperWp at W
      unfold wpOpIn
      rw [h1]
      simp only []
      by_cases hw : Region.wanted o (yielded ops a.tmps) = true
      · rw [if_pos hw] at W ⊢; exact W
      · rw [if_neg hw] at W ⊢; exact ⟨fun _ _ => trivial, W⟩
end

/-! ### All code -/

section
variable {Pr : Program} {F : Tr Fd}

theorem cwp_code {r : Option Nat} {c : Code} {Q : Exit → Act → World → Prop} {a : Act} {w : World} (hc : ∀ b, c ≠ .loop b) (h : c.wpIn (FW r) 0 Pr Q a w) : cwp Pr r c Q a w := by
  cases c <;> first | exact h | exact absurd rfl (hc _)

theorem exec_sound (hF : FOk Pr F) (hm : Pr.follows .mixedOrders = true) : ∀ fuel, IhOk Pr (exec F fuel) := by
  intro fuel
  induction fuel with
  | zero => intro c wm e nx h out e' nx' h' H; cases H
  | succ fuel ihf =>
    have key : ∀ (c : C) (wm : Option P) (e : Env) (nx : P) (h : Hp) (out : Out) (e' : Env) (nx' : P) (h' : Hp), step c F (exec F fuel) wm e nx h = .ok out e' nx' h' →
        ∀ (Ls : List Nat) (N : Nat) (c' : Code), chkC Pr Ls N c c' = true → MovesC wm nx h nx' h' ∧ CodeOk Pr Ls N c c' e nx h out e' nx' h' := by
      intro c
      induction c with
      | skip =>
        intro wm e nx h out e' nx' h' H Ls N c' hc
        change Res.ok .norm e nx h = _ at H
        cases H
        refine ⟨MovesC.refl _ _ _, ?_⟩
        intro hi j pv a w r base R _ _ hD _ Q hQ
        have hq := hQ j pv a w R (Fr.refl _ _ _ _ _) hD (fun _ _ _ h => h)
        cases c' <;> simp only [chkC, Bool.false_eq_true] at hc
        · exact wpIn_skip hq
        · exact wpIn_label hq
      | exit id =>
        intro wm e nx h out e' nx' h' H Ls N c' hc
        change Res.ok (.exit id) e nx h = _ at H
        cases H
        refine ⟨MovesC.refl _ _ _, ?_⟩
        intro hi j pv a w r base R _ _ hD _ Q hQ
        have hq := hQ j pv a w R (Fr.refl _ _ _ _ _) hD (fun _ _ _ h => h)
        cases c' <;> simp only [chkC, Bool.false_eq_true] at hc
        have := beqT hc
        subst this
        exact wpIn_exit hq
      | ret =>
        intro wm e nx h out e' nx' h' H Ls N c' hc
        change Res.ok .ret e nx h = _ at H
        cases H
        refine ⟨MovesC.refl _ _ _, ?_⟩
        intro hi j pv a w r base R _ _ hD _ Q hQ
        have hq := hQ j pv a w R (Fr.refl _ _ _ _ _) hD (fun _ _ _ h => h)
        cases c' <;> simp only [chkC, Bool.false_eq_true] at hc
        exact wpIn_ret hq
      | reg l =>
        intro wm e nx h out e' nx' h' H Ls N c' hc
        change opsK l F (exec F fuel) wm e nx h okN = _ at H
        obtain ⟨id, ops, draw, rfl⟩ : ∃ id ops draw, c' = .region id ops draw := by
          cases c' <;> first | exact ⟨_, _, _, rfl⟩ | (simp [chkC] at hc)
        obtain rfl : draw = false := by cases draw with
          | false => rfl
          | true => first | exact absurd hc (by simp [chkC]) | cases hc
        change chkOps Pr Ls N ops.toList l ops.toList = true at hc
        obtain ⟨e1, nx1, h1, H1, M, W⟩ := ops_sim (ops := ops) (Ls := Ls) (N := N) hF ihf l 0 e nx h okN H (by simpa using hc)
        change Res.ok .norm e1 nx1 h1 = _ at H1
        cases H1
        refine ⟨M, ?_⟩
        intro hi j pv a w r base R _ _ hD hnh Q hQ
        refine wpIn_region ?_
        have := W hi j pv a w R hnh Q (fun j' pv' a' w' R' F' hd hpk => hQ j' pv' a' w' R' F' (by rw [hd]; exact hD.keep F') (fun p b _ h => hpk p b h)) r
        rw [List.range_eq_range']
        exact this
      | drw l =>
        intro wm e nx h out e' nx' h' H Ls N c' hc
        change dopsK l F (exec F fuel) wm e nx h okN = _ at H
        obtain ⟨id, ops, draw, rfl⟩ : ∃ id ops draw, c' = .region id ops draw := by
          cases c' <;> first | exact ⟨_, _, _, rfl⟩ | (simp [chkC] at hc)
        obtain rfl : draw = true := by cases draw with
          | true => rfl
          | false => first | exact absurd hc (by simp [chkC]) | cases hc
        change chkDrw Pr Ls N l ops.toList = true at hc
        have D := chkDrw_spec hc
        have hch : chkOps Pr Ls N ops.toList (l.map opD) ops.toList = true := by
          simp only [chkDrw, Bool.and_eq_true] at hc; exact hc.1.1.1
        obtain ⟨E, X, Hh, st, H1⟩ := dops_sim hF ihf l ops.toList e nx h okN H hch
        change Res.ok .norm (E l.length) (X l.length) (Hh l.length) = _ at H1
        have hl : l.length = ops.toList.length := D.len
        cases H1
        refine ⟨⟨?_, ?_, ?_⟩, ?_⟩
        · have := st.le hl (Nat.zero_le _) (Nat.le_refl _); rw [st.x0] at this; exact this
        · intro m hmw hmn
          exact (st.mono hl (fun m' hm' => by rw [hmw] at hm'; cases hm'; exact hmn) l.length (Nat.le_refl _)).old m hmw hmn
        · intro ht; exact st.top hl ht l.length (Nat.le_refl _)
        · intro hi j pv a w r base R _ _ hD hnh Q hQ
          refine wpIn_region_any hm ?_
          have R' := R.drew (w.drawn + 1)
          refine any_sim D st R.top hnh r (j0 := j) (pv0 := pv) (a0 := a) (w0 := { w with drawn := w.drawn + 1 }) ?_ ops.size _ j pv a _ (by simp) ?_ ?_ ?_
          · intro j' pv' a' w' R2 F2 hd hpk
            have F3 := (Fr.drew hi nx.n j pv w (w.drawn + 1)).trans F2 (Nat.le_refl _)
            exact hQ j' pv' a' w' R2 F3 (by rw [hd]; exact hD.keep F3) (fun p b _ h => hpk p b h)
          · refine Nat.le_trans List.countP_le_length ?_
            simp
          · intro i o hi' _ _ _
            rw [Array.getD_eq_getD_getElem?, Array.getElem?_replicate] at hi'
            split at hi' <;> simp at hi'
          · have hS : (fun q => (Array.replicate ops.size false).getD q false = true) = (fun _ => False) := by
              funext q
              rw [Array.getD_eq_getD_getElem?, Array.getElem?_replicate]
              split <;> simp
            rw [hS]
            exact Inv.start st hl R' hnh
      | seq a b iha ihb =>
        intro wm e nx h out e' nx' h' H Ls N c' hc
        change Res.rec (motive := fun _ => Res) .fail (sqO (step b) F (exec F fuel) wm) (step a F (exec F fuel) wm e nx h) = _ at H
        cases c' <;> simp only [chkC, Bool.false_eq_true] at hc
        rename_i a' b'
        rw [Bool.and_eq_true] at hc
        cases hr : step a F (exec F fuel) wm e nx h with
        | fail => rw [hr] at H; cases H
        | ok o1 e1 nx1 h1 =>
          rw [hr] at H
          obtain ⟨M1, C1⟩ := iha wm e nx h o1 e1 nx1 h1 hr Ls N a' hc.1
          cases o1 with
          | norm =>
            change step b F (exec F fuel) wm e1 nx1 h1 = _ at H
            obtain ⟨M2, C2⟩ := ihb wm e1 nx1 h1 out e' nx' h' H Ls N b' hc.2
            refine ⟨M1.trans M2, ?_⟩
            intro hi j pv ac w r base R I hb hD hnh Q hQ
            refine wpIn_seq (cwp_wp (C1 hi j pv ac w r base R I hb hD (Nat.le_trans M2.le hnh) _ ?_))
            intro j1 pv1 a1 w1 R1 F1 hd1 hk1
            refine cwp_wp (C2 hi j1 pv1 a1 w1 r base R1 (I.keep F1) (Nat.le_trans hb F1.size) hd1 hnh Q ?_)
            intro j2 pv2 a2 w2 R2 F2 hd2 hk2
            refine hQ j2 pv2 a2 w2 R2 (F1.trans F2 M1.le) hd2 (fun p b hk h => ?_)
            simp only [keepsP, Bool.and_eq_true] at hk
            exact hk2 p b hk.2 (hk1 p b hk.1 h)
          | exit id =>
            change Res.ok (.exit id) e1 nx1 h1 = _ at H
            cases H
            refine ⟨M1, ?_⟩
            intro hi j pv ac w r base R I hb hD hnh Q hQ
            refine wpIn_seq (cwp_wp (C1 hi j pv ac w r base R I hb hD hnh _ ?_))
            intro j1 pv1 a1 w1 R1 F1 hd1 hk1
            refine hQ j1 pv1 a1 w1 R1 F1 hd1 (fun p b hk h => ?_)
            simp only [keepsP, Bool.and_eq_true] at hk
            exact hk1 p b hk.1 h
          | ret =>
            change Res.ok .ret e1 nx1 h1 = _ at H
            cases H
            refine ⟨M1, ?_⟩
            intro hi j pv ac w r base R I hb hD hnh Q hQ
            refine wpIn_seq (cwp_wp (C1 hi j pv ac w r base R I hb hD hnh _ ?_))
            intro j1 pv1 a1 w1 R1 F1 hd1 hk1
            refine hQ j1 pv1 a1 w1 R1 F1 hd1 (fun p b hk h => ?_)
            simp only [keepsP, Bool.and_eq_true] at hk
            exact hk1 p b hk.1 h
      | cond cd a b iha ihb =>
        intro wm e nx h out e' nx' h' H Ls N c' hc
        change asB (ev cd e) .fail (cdB (step a) (step b) F (exec F fuel) wm e nx h) = _ at H
        rw [asB_eq] at H
        cases c' <;> simp only [chkC, Bool.false_eq_true] at hc
        rename_i cd' a' b'
        simp only [Bool.and_eq_true] at hc
        cases hv : ev cd e <;> simp only [hv, reduceCtorEq] at H
        rename_i t
        have hval : ∀ (hi : Nat) (j : J) (pv : P → Option Nat) (ac : Act) (w : World), Rel (vars Ls) N hi j pv e nx h ac w → ac.eval cd' = .bool t := by
          intro hi j pv ac w R
          have := R.reads cd cd' hc.1.1
          rw [hv] at this; exact this.bool
        cases t with
        | true =>
          change step a F (exec F fuel) wm e nx h = _ at H
          obtain ⟨M, Cc⟩ := iha wm e nx h out e' nx' h' H Ls N a' hc.1.2
          refine ⟨M, fun hi j pv ac w r base R I hb hD hnh Q hQ => wpIn_cond_true (hval hi j pv ac w R) (cwp_wp (Cc hi j pv ac w r base R I hb hD hnh Q fun j1 pv1 a1 w1 R1 F1 hd1 hk1 => hQ j1 pv1 a1 w1 R1 F1 hd1 (fun p b hk h => ?_)))⟩
          simp only [keepsP, Bool.and_eq_true] at hk
          exact hk1 p b hk.1 h
        | false =>
          change step b F (exec F fuel) wm e nx h = _ at H
          obtain ⟨M, Cc⟩ := ihb wm e nx h out e' nx' h' H Ls N b' hc.2
          refine ⟨M, fun hi j pv ac w r base R I hb hD hnh Q hQ => wpIn_cond_false (hval hi j pv ac w R) (cwp_wp (Cc hi j pv ac w r base R I hb hD hnh Q fun j1 pv1 a1 w1 R1 F1 hd1 hk1 => hQ j1 pv1 a1 w1 R1 F1 hd1 (fun p b hk h => ?_)))⟩
          simp only [keepsP, Bool.and_eq_true] at hk
          exact hk1 p b hk.2 h
      | block id a iha =>
        intro wm e nx h out e' nx' h' H Ls N c' hc
        change Res.rec (motive := fun _ => Res) .fail (bkO id) (step a F (exec F fuel) wm e nx h) = _ at H
        cases c' <;> simp only [chkC, Bool.false_eq_true] at hc
        rename_i id' a'
        rw [Bool.and_eq_true] at hc
        have hid := beqT hc.1
        subst hid
        cases hr : step a F (exec F fuel) wm e nx h with
        | fail => rw [hr] at H; cases H
        | ok o1 e1 nx1 h1 =>
          rw [hr] at H
          obtain ⟨M1, C1⟩ := iha wm e nx h o1 e1 nx1 h1 hr Ls N a' hc.2
          have fin : ∀ o2, Res.ok o2 e1 nx1 h1 = .ok out e' nx' h' → (∀ (Q : Exit → Act → World → Prop) ac w, Q (exitOf o2) ac w → Exit.inBlock id Q (exitOf o1) ac w) → MovesC wm nx h nx' h' ∧ CodeOk Pr Ls N (.block id a) (.block id a') e nx h out e' nx' h' := by
            intro o2 H2 hx
            cases H2
            refine ⟨M1, ?_⟩
            intro hi j pv ac w r base R I hb hD hnh Q hQ
            refine wpIn_block (cwp_wp (C1 hi j pv ac w r base R I hb hD hnh _ ?_))
            intro j1 pv1 a1 w1 R1 F1 hd1 hk1
            exact hx Q a1 w1 (hQ j1 pv1 a1 w1 R1 F1 hd1 hk1)
          cases o1 with
          | norm => exact fin .norm H (fun Q ac w h => h)
          | ret => exact fin .ret H (fun Q ac w h => h)
          | exit i =>
            change Bool.rec (motive := fun _ => Res) (.ok (.exit i) e1 nx1 h1) (.ok .norm e1 nx1 h1) (Nat.beq i id) = _ at H
            cases hb : Nat.beq i id with
            | true =>
              rw [hb] at H
              have := beqT hb
              exact fin .norm H (fun Q ac w h => by show (if i = id then Q .normal ac w else Q (.exit i) ac w); rw [if_pos this]; exact h)
            | false =>
              rw [hb] at H
              have hne : i ≠ id := fun h => by rw [h, Nat.beq_refl] at hb; cases hb
              exact fin (.exit i) H (fun Q ac w h => by show (if i = id then Q .normal ac w else Q (.exit i) ac w); rw [if_neg hne]; exact h)
      | loop lv a iha =>
        intro wm e nx h out e' nx' h' H Ls N c' hc
        change keepK lv e .nl (fun e => Res.rec (motive := fun _ => Res) .fail (lpO (.loop lv a) F (exec F fuel) wm) (step a F (exec F fuel) wm e nx h)) = _ at H
        rw [keepK_eq] at H
        have hc0 := hc
        cases c' <;> simp only [chkC, Bool.false_eq_true] at hc
        rename_i a'
        cases hr : step a F (exec F fuel) wm (keep e lv .nl) nx h with
        | fail => simp only [hr] at H; cases H
        | ok o1 e1 nx1 h1 =>
          simp only [hr] at H
          obtain ⟨M1, C1⟩ := iha wm _ nx h o1 e1 nx1 h1 hr Ls N a' hc
          cases o1 with
          | norm =>
            change exec F fuel (.loop lv a) wm e1 nx1 h1 = _ at H
            obtain ⟨M2, C2⟩ := ihf _ _ _ _ _ _ _ _ _ H Ls N (.loop a') hc0
            refine ⟨M1.trans M2, ?_⟩
            intro hi j pv ac w r base R I hb hD hnh Q hQ
            obtain ⟨pvk, Rk, Fk, hkk, _⟩ := R.keep lv
            refine LoopWp.round (cwp_wp (C1 hi j pvk ac w r base Rk (I.keep Fk) hb (hD.keep Fk) (Nat.le_trans M2.le hnh) _ ?_))
            intro j1 pv1 a1 w1 R1 F1 hd1 hk1
            refine C2 hi j1 pv1 a1 w1 r base R1 ((I.keep Fk).keep F1) (Nat.le_trans hb F1.size) hd1 hnh Q ?_
            intro j2 pv2 a2 w2 R2 F2 hd2 hk2
            refine hQ j2 pv2 a2 w2 R2 ((Fk.trans F1 (Nat.le_refl _)).trans F2 M1.le) hd2 (fun p b hk h => ?_)
            have hk' := hk
            simp only [keepsP, Bool.and_eq_true] at hk'
            exact hk2 p b hk (hk1 p b hk'.2 (hkk p b hk'.1 h))
          | exit id =>
            change Res.ok (.exit id) e1 nx1 h1 = _ at H
            cases H
            refine ⟨M1, ?_⟩
            intro hi j pv ac w r base R I hb hD hnh Q hQ
            obtain ⟨pvk, Rk, Fk, hkk, _⟩ := R.keep lv
            refine LoopWp.round (cwp_wp (C1 hi j pvk ac w r base Rk (I.keep Fk) hb (hD.keep Fk) hnh _ fun j1 pv1 a1 w1 R1 F1 hd1 hk1 => hQ j1 pv1 a1 w1 R1 (Fk.trans F1 (Nat.le_refl _)) hd1 (fun p b hk h => ?_)))
            simp only [keepsP, Bool.and_eq_true] at hk
            exact hk1 p b hk.2 (hkk p b hk.1 h)
          | ret =>
            change Res.ok .ret e1 nx1 h1 = _ at H
            cases H
            refine ⟨M1, ?_⟩
            intro hi j pv ac w r base R I hb hD hnh Q hQ
            obtain ⟨pvk, Rk, Fk, hkk, _⟩ := R.keep lv
            refine LoopWp.round (cwp_wp (C1 hi j pvk ac w r base Rk (I.keep Fk) hb (hD.keep Fk) hnh _ fun j1 pv1 a1 w1 R1 F1 hd1 hk1 => hQ j1 pv1 a1 w1 R1 (Fk.trans F1 (Nat.le_refl _)) hd1 (fun p b hk h => ?_)))
            simp only [keepsP, Bool.and_eq_true] at hk
            exact hk1 p b hk.2 (hkk p b hk.1 h)
      | bad =>
        intro wm e nx h out e' nx' h' H Ls N c' hc
        cases H
      | rng lv g pi pv0 a b iha ihb =>
        intro wm e nx h out e' nx' h' H Ls N c' hc
        exact rng_sim hF iha ihb H hc
    intro c wm e nx h out e' nx' h' H
    exact key c wm e nx h out e' nx' h' H

/-! ### The table -/

def Tr.All {α : Type} (Q : P → α → Prop) (t : Tr α) : Prop :=
  Tr.rec (motive := fun _ => (P → α → Prop) → Prop) (fun _ => True) (fun v _ _ il ir Q => Option.rec True (Q .z) v ∧ il (fun p => Q (.l p)) ∧ ir (fun p => Q (.r p))) t Q
theorem Tr.All.get {α : Type} : ∀ (t : Tr α) (Q : P → α → Prop), Tr.All Q t → ∀ p x, Tr.get? p t = some x → Q p x := by
  intro t
  induction t with
  | nl => intro Q _ p x h; rw [Tr.get_e] at h; cases h
  | nd v l r il ir =>
    intro Q h p x hx
    obtain ⟨h1, h2, h3⟩ := (h : Option.rec (motive := fun _ => Prop) True (Q .z) v ∧ Tr.All (fun p => Q (.l p)) l ∧ Tr.All (fun p => Q (.r p)) r)
    cases p with
    | z => rw [Tr.get_z] at hx; subst hx; exact h1
    | l p => rw [Tr.get_l] at hx; exact il _ h2 p x hx
    | r p => rw [Tr.get_r] at hx; exact ir _ h3 p x hx
theorem FOk.of {Pr : Program} {F : Tr Fd} (h : Tr.All (FdOk Pr) F) : FOk Pr F := fun f fd hf => Tr.All.get F _ h f fd hf
theorem fok {Pr : Program} {f : P} {fd : Fd} {n : Nat} {fn : Func} {Ls : List Nat} (hn : f.n = n) (hf : Pr.funcs[n]? = some fn) (hc : chkFd Pr Ls fn fd = true) : FdOk Pr f fd := by
  cases fd with
  | mk ps body rs => exact ⟨fn, Ls, by rw [hn]; exact hf, hc⟩
  | prim k => simp [chkFd] at hc
  | onc => simp [chkFd] at hc
  | itb sz agg => simp [chkFd] at hc
  | tab gl l => simp [chkFd] at hc

/-! ### A call from memory that is only read -/

/-- Nothing that was there is another; more may be there. -/
def GrownO (w w' : World) : Prop := w.keptBut w' (fun _ => False) ∧ (∀ a : Addr, a.block < w.heap.size → w'.frozen? a = w.frozen? a) ∧ w.heap.size ≤ w'.heap.size
theorem GrownO.frame {w w' : World} (h : GrownO w w') (may : MemPlace → Prop) : w.keptBut w' may := World.keptBut_mono (fun _ f => f.elim) h.1

/-- What the small machine told of a call. -/
theorem told_calls (hF : FOk Pr F) (hm : Pr.follows .mixedOrders = true) {fuel : Nat} {f : P} {vs : List DV} {v : DV} {nx : P} {hp : Hp} {e' : Env} {nx' : P} {h' : Hp} (H : call F fuel f vs nx hp = .ok .norm e' nx' h') (Hv : Tr.get? .z e' = some v)
    {j : J} {w : World} (S : Start nx hp j w) {args : List Value} (hargs : VRt j vs args) :
    Calls Pr f.n args.toArray w fun r w' => ∃ v' j', r = .returned v' ∧ GrownO w w' ∧ VR j' v v' ∧ Ext j j' ∧ Rel (fun _ => False) 0 nx'.n j' (fun _ => none) .nl nx' h' { tmps := #[], defers := [] } w' := by
  obtain ⟨v1, nx1, h1, hk, hcall, _⟩ := call_sim hF (exec_sound hF hm fuel) (show callK F (exec F fuel) none f vs .nl nx hp okV = _ from H)
  change Res.ok .norm (.nd (some v1) .nl .nl) nx1 h1 = _ at hk
  cases hk
  have hv : v1 = v := by
    change Tr.get? .z (.nd (some v1) .nl .nl) = some v at Hv
    rw [Tr.get_z] at Hv; cases Hv; rfl
  subst hv
  refine (hcall _ _ nx'.n _ _ _ { tmps := #[], defers := [] } w S.rel (Nat.le_refl _) args hargs).mono ?_
  rintro r w' ⟨v', j', rfl, R', F', hv⟩
  have no : ∀ k i, j k = some i → ∃ b s, i = .ro b s := fun k i h => (S.only k i h).2
  refine ⟨v', j', rfl, ⟨⟨F'.os, F'.output, fun i hi => ?_⟩, F'.froz, F'.size⟩, hv, F'.ext, R'⟩
  rw [F'.same i hi (fun k s c h => by obtain ⟨_, _, h1⟩ := no k _ h; cases h1) (fun p h => nomatch h) (fun k h => by obtain ⟨_, _, h1⟩ := no k _ h; cases h1)]
  cases w.heap[i]? with
  | none => rfl
  | some ob => cases ob <;> simp
/-! ### A table's line, by a run -/

def glK (gl : List (List DV)) : P → Hp → (P → Hp → Res) → Res := List.rec (motive := fun _ => P → Hp → (P → Hp → Res) → Res) (fun k h K => K k h) (fun g _ ih k h K => Tr.setK k h (some (.ro g)) fun h => k.sucK fun k => ih k h K) gl
theorem glK_eq : ∀ (gl : List (List DV)) (k : P) (h : Hp) (K : P → Hp → Res), glK gl k h K = K (glH gl k h).1 (glH gl k h).2
  | [], k, h, K => rfl
  | g :: gl, k, h, K => by
    show Tr.setK k h (some (.ro g)) (fun h => k.sucK fun k => glK gl k h K) = _
    rw [Tr.setK_eq, P.sucK_eq, glK_eq gl]; rfl
def okT (r : Res) : Bool := Res.rec (motive := fun _ => Bool) false (fun _ _ _ _ => true) r
def runT (F : Tr Fd) (fuel : Nat) (f : P) (gl : List (List DV)) (ts r : T) : Res :=
  glK gl .z .nl fun nx h => lyT ts nx h fun vs nx h => callK F (exec F fuel) none f vs .nl nx h fun _ v _ h => rwT r h [v] .fail fun _ => .ok .norm .nl .z .nl
theorem told_tab (hF : FOk Pr F) (hm : Pr.follows .mixedOrders = true) {fuel : Nat} {f : P} {gl : List (List DV)} {ts r : T} (H : okT (runT F fuel f gl ts r) = true) : TabOk Pr f gl ts r := by
  intro j w args S hargs
  cases hr : runT F fuel f gl ts r with
  | fail => rw [hr] at H; cases H
  | ok out eo no ho =>
    unfold runT at hr
    rw [glK_eq, lyT_eq] at hr
    obtain ⟨v, nx', h', hk, hcall, _⟩ := call_sim hF (exec_sound hF hm fuel) hr
    rcases rwT_or r h' [v] .fail (fun _ => .ok .norm .nl .z .nl) with h1 | ⟨h1, _⟩
    · rw [h1] at hk; cases hk
    refine (hcall _ _ nx'.n _ _ _ { tmps := #[], defers := [] } w S.rel (Nat.le_refl _) args hargs).mono ?_
    rintro e w' ⟨v', j', rfl, R', F', hv⟩
    have no : ∀ k i, j k = some i → ∃ b s, i = .ro b s := fun k i h => (S.only k i h).2
    refine ⟨v, v', j', nx', h', rfl, R', h1, hv, fun k b s c hk => ?_, ⟨F'.size, F'.os, F'.output, fun x hx => F'.same x hx (fun k s c h => by obtain ⟨_, _, h1⟩ := no k _ h; cases h1) (fun p h => nomatch h) (fun k h => by obtain ⟨_, _, h1⟩ := no k _ h; cases h1)⟩⟩
    rcases Nat.lt_or_ge k.n nx'.n with hlt | hge
    · rcases F'.new k b s c hk hlt with ⟨k0, s0, c0, h0, _⟩ | h0
      · obtain ⟨_, _, h2⟩ := no k0 _ h0; cases h2
      · exact h0
    · rw [F'.old k hge] at hk
      obtain ⟨_, _, h2⟩ := no k _ hk; cases h2
end
end Go.Proofs.YtnoekfkfinjfgaaGreatDoor.Dx
