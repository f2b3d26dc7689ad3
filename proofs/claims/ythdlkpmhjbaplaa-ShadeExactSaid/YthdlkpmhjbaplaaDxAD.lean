/- The small machine's calls: how a frame begins, what it hands back, what its caller finds again. No statement of this seat is proved here. -/
import Derived.Test.YthdlkpmhjbaplaaDxAC
set_option autoImplicit false
noncomputable section
namespace Go.Proofs.Ythdlkpmhjbaplaa.Dx
open Go

/-! ### What is handed back -/

def chkRs (Pr : Program) : List Rs → List ResultVar → Bool
  | [], [] => true
  | .t p :: l, .tmp t :: l' => Nat.beq p.n t && chkRs Pr l l'
  | .cell p none :: l, .cell q t :: l' => Nat.beq p.n q && aggIs Pr t false && chkRs Pr l l'
  | .cell p (some n) :: l, .cell q t :: l' => Nat.beq p.n q && aggIs Pr t true && sizeIs Pr t n && chkRs Pr l l'
  | _, _ => false

section
variable {L : P → Prop} {N hi : Nat} {j : J} {pv : P → Option Nat} {e : Env} {nx : P} {h : Hp} {a : Act} {w : World} {Pr : Program}

theorem run_loadVar_one {t : Nat} (ht : aggIs Pr t false = true) {ad : Addr} {v : Value} (hc : w.cell? ad = some v) : (loadVar t ad).run Pr w = .ok v w := by
  simp only [loadVar, Sem.run_bind, aggIs_spec ht, Result.andThen_ok, Bool.false_eq_true, if_false, run_load, hc]
theorem run_loadVar_many {t n : Nat} (ht : aggIs Pr t true = true) (hs : sizeIs Pr t n = true) {b o : Nat} {vs : List Value} (hn : vs.length = n)
    (hc : ∀ i v, vs[i]? = some v → w.cell? ⟨b, o + i, none⟩ = some v) : (loadVar t ⟨b, o, none⟩).run Pr w = .ok (.agg vs.toArray) w := by
  obtain ⟨i, hi, hsz⟩ := sizeIs_spec hs
  have hso : (sizeOf t).run Pr w = .ok n w := by simp [sizeOf, typeInfo, hi, hsz]
  have hl : (loadCells ⟨b, o, none⟩ vs.length).run Pr w = .ok vs.toArray w := run_loadCells_list (P := Pr) w ⟨b, o, none⟩ vs (fun q v hv => by rw [Addr.add_mid]; exact hc q v hv)
  rw [hn] at hl
  simp only [loadVar, Sem.run_bind, Sem.run_pure, Result.andThen_ok, aggIs_spec ht, if_true, hso, hl]

/-- the n-th result, as Go hands it back -/
def resOf (tmps : Array Value) : ResultVar → Sem Value
  | .tmp t => pure (tmps.getD t undef)
  | .cell a t => do loadVar t (← asAddr (tmps.getD a undef))

theorem Rel.rs_sim (R : Rel L N hi j pv e nx h a w) : ∀ (rs : List Rs) (qs : List ResultVar) (vs : List DV), chkRs Pr rs qs = true → rsv e h rs = some vs →
    ∃ vs' : List Value, (qs.mapM (resOf a.tmps)).run Pr w = .ok vs' w ∧ VRt j vs vs' := by
  intro rs
  induction rs with
  | nil =>
    intro qs vs hc hv
    cases qs with
    | cons q qs => simp [chkRs] at hc
    | nil => simp only [rsv, Option.some.injEq] at hv; subst hv; exact ⟨[], by simp [List.mapM_nil], .nil⟩
  | cons r rs ih =>
    intro qs vs hc hv
    simp only [rsv] at hv
    cases hr : rs1v r e h with
    | none => simp only [hr, reduceCtorEq] at hv
    | some v =>
      simp only [hr] at hv
      cases ht : rsv e h rs with
      | none => simp [ht] at hv
      | some vs0 =>
        simp only [ht, Option.map_some, Option.some.injEq] at hv
        subst hv
        have main : ∀ q qs', qs = q :: qs' → chkRs Pr rs qs' = true → (∃ v', (resOf a.tmps q).run Pr w = .ok v' w ∧ VR j v v') →
            ∃ vs' : List Value, (qs.mapM (resOf a.tmps)).run Pr w = .ok vs' w ∧ VRt j (v :: vs0) vs' := by
          rintro q qs' rfl hc' ⟨v', hrun, hx⟩
          obtain ⟨vs', hm, hx'⟩ := ih qs' vs0 hc' ht
          refine ⟨v' :: vs', ?_, .cons hx hx'⟩
          simp only [List.mapM_cons, Sem.run_bind, hrun, Result.andThen_ok, hm, Sem.run_pure]
        have cell : ∀ (p : P) (q : Nat) (l : List DV) (o : Nat), Nat.beq p.n q = true → Dx.look (evT p e) e h = some (l, o) → ∃ b s, a.tmps.getD q undef = .pointer (some ⟨b, s + o, none⟩) ∧ CellsAt j w b s l := by
          intro p q l o hq hl
          exact R.look (R.reads (.t p) (.tmp q) hq) hl
        cases qs with
        | nil => cases r with
          | t p => simp [chkRs] at hc
          | cell p n => cases n <;> simp [chkRs] at hc
        | cons q qs =>
          cases r with
          | t p =>
            cases q with
            | cell => simp [chkRs] at hc
            | tmp t =>
              simp only [chkRs, Bool.and_eq_true] at hc
              refine main _ _ rfl hc.2 ⟨_, rfl, ?_⟩
              simp only [rs1v, Option.some.injEq] at hr
              rw [← hr]
              exact R.reads.ov (d := .t p) (x := .tmp t) hc.1
          | cell p n =>
            cases q with
            | tmp t => cases n <;> simp [chkRs] at hc
            | cell q t =>
              cases n with
              | none =>
                simp only [chkRs, Bool.and_eq_true] at hc
                simp only [rs1v] at hr
                cases hl : Dx.look (evT p e) e h with
                | none => simp [hl] at hr
                | some x =>
                  obtain ⟨l, o⟩ := x
                  simp only [hl] at hr
                  obtain ⟨b, s, hp, hcells⟩ := cell p q l o hc.1.1 hl
                  obtain ⟨v', hcell, hx, _⟩ := hcells o v hr
                  refine main _ _ rfl hc.2 ⟨v', ?_, hx⟩
                  simp only [resOf, hp, asAddr, Sem.run_bind, Sem.run_pure, Result.andThen_ok, run_loadVar_one hc.1.2 hcell]
              | some n =>
                simp only [chkRs, Bool.and_eq_true] at hc
                simp only [rs1v] at hr
                cases hl : Dx.look (evT p e) e h with
                | none => simp [hl] at hr
                | some x =>
                  obtain ⟨l, o⟩ := x
                  simp only [hl] at hr
                  by_cases hle : o ≤ l.length ∧ n ≤ (l.drop o).length
                  case neg => rw [if_neg hle] at hr; cases hr
                  rw [if_pos hle] at hr
                  simp only [Option.some.injEq] at hr; subst hr
                  obtain ⟨b, s, hp, hcells⟩ := cell p q l o hc.1.1.1 hl
                  obtain ⟨vs1, h1, h2, h3⟩ := hcells.part o n hle.2
                  refine main _ _ rfl hc.2 ⟨.agg vs1.toArray, ?_, .agg h1⟩
                  simp only [resOf, hp, asAddr, Sem.run_bind, Sem.run_pure, Result.andThen_ok, run_loadVar_many hc.1.1.2 hc.1.2 h2 h3]

theorem Rel.results (R : Rel L N hi j pv e nx h a w) {fn : Func} {rs : List Rs} {vs : List DV} (hc : chkRs Pr rs fn.results.toList = true) (hv : rsv e h rs = some vs) :
    ∃ v', (results fn a.tmps).run Pr w = .ok v' w ∧ VR j (one vs) v' := by
  obtain ⟨vs', hm, hx⟩ := R.rs_sim rs fn.results.toList vs hc hv
  have hm' : (fn.results.mapM (resOf a.tmps)).run Pr w = .ok vs'.toArray w := by
    simp [Array.mapM_eq_mapM_toList, hm]
  have hl := hx.length
  have hrun : (Go.results fn a.tmps).run Pr w = .ok (if h : vs'.toArray.size = 1 then vs'.toArray[0] else .tuple vs'.toArray) w := by
    show (do let vs ← fn.results.mapM (resOf a.tmps); pure (if h : vs.size = 1 then vs[0] else .tuple vs) : Sem Value).run Pr w = _
    rw [Sem.run_bind, hm']
    rfl
  refine ⟨_, hrun, ?_⟩
  cases hx with
  | nil => exact VR.tup (l' := []) .nil
  | cons h1 t1 =>
    cases t1 with
    | nil => exact h1
    | cons h2 t2 =>
      rw [dif_neg (by simp)]
      exact VR.tup (.cons h1 (.cons h2 t2))
end

/-! ### How a frame begins -/

section
variable {L : P → Prop} {N hi : Nat} {j : J} {pv : P → Option Nat} {e : Env} {nx : P} {h : Hp} {a : Act} {w : World}

theorem binds_get : ∀ (ps : List P) (vs : List DV) (e0 e : Env), binds ps vs e0 = some e → ∀ p v, Tr.get? p e = some v → Tr.get? p e0 = some v ∨ ∃ i : Nat, ps[i]? = some p ∧ vs[i]? = some v
  | [], [], e0, e, h, p, v, hv => by simp only [binds, Option.some.injEq] at h; subst h; exact .inl hv
  | [], _ :: _, e0, e, h, p, v, hv => by simp [binds] at h
  | _ :: _, [], e0, e, h, p, v, hv => by simp [binds] at h
  | q :: ps, u :: vs, e0, e, h, p, v, hv => by
    simp only [binds] at h
    rcases binds_get ps vs _ e h p v hv with h1 | ⟨i, h1, h2⟩
    · by_cases hq : p = q
      · subst hq
        rw [Tr.get_set_self] at h1
        cases h1
        exact .inr ⟨0, rfl, rfl⟩
      · rw [Tr.get_set_ne hq] at h1; exact .inl h1
    · exact .inr ⟨i + 1, h1, h2⟩

theorem Rel.enter (R : Rel L N hi j pv e nx h a w) {ps : List P} {vs : List DV} {args : List Value} {e' : Env} {n : Nat} (hb : binds ps vs .nl = some e') (hv : VRt j vs args) (hp : ∀ (i : Nat) (p : P), ps[i]? = some p → p.n = i) (hn : args.length ≤ n)
    (L' : P → Prop) : Rel L' n hi j (fun _ => none) e' nx h { tmps := args.toArray ++ Array.replicate (n - args.toArray.size) undef, defers := [] } w where
  fresh := R.fresh
  heap := R.heap
  inj := R.inj
  inr := R.inr
  env := fun p v hpv => by
    rcases binds_get ps vs .nl e' hb p v hpv with h1 | ⟨i, h1, h2⟩
    · rw [Tr.get_e] at h1; cases h1
    · obtain ⟨v', h3, h4⟩ := hv.get i v h2
      have hi := hp i p h1
      have hlt := (List.getElem?_eq_some_iff.1 h3).1
      have ht : (args.toArray ++ Array.replicate (n - args.toArray.size) undef).getD p.n undef = v' := by
        rw [hi, Array.getD_eq_getD_getElem?, Array.getElem?_append_left (by simpa using hlt), List.getElem?_toArray, h3]; rfl
      exact XD.tmps (XD.of_VR h4) ht
  pvv := fun p b hpb => by cases hpb
  pin := fun p q b hpb => by cases hpb
  pfr := fun p b hpb => by cases hpb
  pfo := fun p b hpb => by cases hpb
  loc := fun p l hpl => by
    rcases binds_get ps vs .nl e' hb p _ hpl with h1 | ⟨i, h1, h2⟩
    · rw [Tr.get_e] at h1; cases h1
    · obtain ⟨v', h3, h4⟩ := hv.get i _ h2; cases h4
  size := by simp; omega
  lt := R.lt
  lr := R.lr
  top := R.top

/-! ### What the caller finds again -/

theorem Rel.leave (R : Rel L N hi j pv e nx h a w) {L' : P → Prop} {N' : Nat} {j' : J} {pv' : P → Option Nat} {e' : Env} {nx' : P} {h' : Hp} {a' : Act} {w' : World} (R' : Rel L' N' hi j' pv' e' nx' h' a' w') (F' : Fr hi nx.n j (fun _ => none) w j' pv' w') :
    Rel L N hi j' pv e nx' h' a w' ∧ Fr hi nx.n j pv w j' pv w' := by
  have blk : ∀ p b, pv p = some b → w'.heap[b]? = w.heap[b]? ∧ b < w.heap.size := by
    intro p b hb
    obtain ⟨l, hl⟩ := R.pvv p b hb
    obtain ⟨b', hb', _, hlies, _⟩ := R.env p _ hl
    rw [hb] at hb'; cases hb'
    exact ⟨F'.same b hlies.lt (fun k s c hk => absurd hk (R.pfr p b hb k s c)) (fun _ h => nomatch h), hlies.lt⟩
  refine ⟨?_, ?_⟩
  · exact {
      fresh := R'.fresh
      heap := R'.heap
      inj := R'.inj
      inr := R'.inr
      env := fun p v hv => ER.of_heap F'.ext F'.size (fun b hb => (blk p b hb).1) (R.env p v hv)
      pvv := R.pvv
      pin := R.pin
      pfr := fun p b hb k s c hk => by
        rcases Nat.lt_or_ge k.n hi with hlt | hge
        · rcases F'.new k b s c hk hlt with ⟨k0, s0, c0, h0, _⟩ | h0
          · exact R.pfr p b hb _ _ _ h0
          · have := (blk p b hb).2; omega
        · rw [F'.old k hge] at hk; exact R.pfr p b hb _ _ _ hk
      pfo := fun p b hb k s hk => R.pfo p b hb k s (F'.ro _ _ _ hk)
      loc := R.loc
      size := R.size
      lt := R'.lt
      lr := R'.lr
      top := R'.top }
  · exact { F' with same := fun x hx hj _ => F'.same x hx hj (fun _ h => nomatch h), pnew := fun p x hp => .inl hp }
end
end Go.Proofs.Ythdlkpmhjbaplaa.Dx
