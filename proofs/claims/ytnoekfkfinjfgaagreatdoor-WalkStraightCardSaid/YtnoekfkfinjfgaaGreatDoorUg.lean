/- Each instruction of the small machine that touches no memory gives what Go's operation gives. No statement of this seat is proved here. -/
import Derived.Test.YtnoekfkfinjfgaaGreatDoorUf
set_option autoImplicit false
set_option linter.unusedSectionVars false
set_option linter.unusedSimpArgs false
set_option linter.unusedVariables false
noncomputable section
namespace Go.Proofs.YtnoekfkfinjfgaaGreatDoor.Dx
open Go
variable [Rho]

theorem run_sliceBound {Pr : Program} (w : World) {k : IntKind} {i : Int} {y : Nat} (code : BoundsCode) (h0 : 0 ≤ i) (h1 : i.toNat ≤ y) : (Instr.sliceBound (.int k i) y code).run Pr w = .ok i.toNat w := by
  have : 0 ≤ i ∧ i ≤ (y : Int) := ⟨h0, by omega⟩
  simp only [Instr.sliceBound, asIntOf, Sem.run_bind, Sem.run_pure, Result.andThen_ok, Sem.run_ite, if_pos this]
theorem bd_sim {j : J} {pv : P → Option Nat} {e : Env} {ρ : Operand → Value} (hr : Reads j pv e ρ) {o : Option Opd} {x : Option Operand} {d y n : Nat} (hc : chkOO o x = true) (h : bdV o d e y = some n) :
    (x = none ∧ o = none ∧ n = d) ∨ ∃ x' k i, x = some x' ∧ ρ x' = .int k i ∧ 0 ≤ i ∧ i.toNat ≤ y ∧ n = i.toNat := by
  cases o with
  | none => cases x <;> simp [chkOO] at hc; simp only [bdV, Option.some.injEq] at h; exact .inl ⟨rfl, rfl, h.symm⟩
  | some o =>
    cases x with
    | none => simp [chkOO] at hc
    | some x =>
      simp only [bdV] at h
      have hx := hr _ _ (by simpa [chkOO] using hc)
      cases hd : ev o e <;> simp only [hd, reduceCtorEq] at h hx
      rename_i k i
      by_cases hcond : 0 ≤ i ∧ i.toNat ≤ y
      · rw [if_pos hcond] at h
        simp only [Option.some.injEq] at h
        exact .inr ⟨x, k, i, rfl, hx.int, hcond.1, hcond.2, h.symm⟩
      · rw [if_neg hcond] at h; cases h
theorem slice_rel {j : J} {k : P} {o n : Nat} {cp : Option Nat} {sz cap l hh m : Nat} {a : Addr} {cp' : Option Nat} (hv : VR j (.sl k o n cp sz) (.slice (some a) n cap))
    (h1 : l ≤ hh) (h2 : hh ≤ m) (h3 : m ≤ cap) (h4 : hh ≤ capOf cp n) (h5 : ∀ c, cp' = some c → c = m - l ∧ (0 < m - l → 0 < capOf cp n)) :
    VR j (.sl k (o + l * sz) (hh - l) cp' sz) (.slice (some (if m = l then a else a.add (l * sz))) (hh - l) (m - l)) := by
  have hcap : capR cp' (hh - l) (m - l) := ⟨by omega, fun c hc => (h5 c hc).1.symm⟩
  have hpos : (0 < hh - l ∨ ∃ c, cp' = some c ∧ 0 < c) → (0 < n ∨ ∃ c, cp = some c ∧ 0 < c) ∧ m ≠ l := by
    intro hp
    have hc0 : 0 < capOf cp n ∧ m ≠ l := by
      rcases hp with hp | ⟨c, hc, hp⟩
      · exact ⟨by omega, by omega⟩
      · have := h5 c hc; exact ⟨this.2 (by omega), by omega⟩
    refine ⟨?_, hc0.2⟩
    cases cp with
    | none => exact .inl hc0.1
    | some c => exact .inr ⟨c, rfl, hc0.1⟩
  have hmul : l * sz + (m - l) * sz = m * sz := by rw [← Nat.add_mul]; congr 1; omega
  have hmul2 : m * sz ≤ cap * sz := Nat.mul_le_mul_right _ h3
  cases hv with
  | slA h ho hc hs he =>
    rename_i b s c off
    by_cases hm : m = l
    · rw [if_pos hm]
      refine VR.slA h (fun hp => absurd hm (hpos hp).2) hcap hs ?_
      rw [hm, Nat.sub_self, Nat.zero_mul]; omega
    · rw [if_neg hm, Addr.add_mid]
      refine VR.slA h (fun hp => by rw [ho (hpos hp).1]; omega) hcap (by omega) (by omega)
  | slO h ho hc =>
    rename_i b s off
    by_cases hm : m = l
    · rw [if_pos hm]
      exact VR.slO h (fun hp => absurd hm (hpos hp).2) hcap
    · rw [if_neg hm, Addr.add_mid]
      exact VR.slO h (fun hp => by rw [ho (hpos hp).1]; omega) hcap
  | slD a h hc => exact VR.slD _ h hcap
  | slE a h hc h0 =>
    have hz : capOf cp 0 = 0 := by
      cases cp with
      | none => rfl
      | some c => exact h0 c rfl
    rw [hz] at h4 h5
    obtain rfl : hh = 0 := by omega
    obtain rfl : l = 0 := by omega
    exact VR.slE _ h hcap (fun c hc => by have := h5 c hc; omega)
theorem capOf_le {cp : Option Nat} {n cap : Nat} (h : capR cp n cap) : capOf cp n ≤ cap := by
  cases cp with
  | none => exact h.1
  | some c => exact Nat.le_of_eq (h.2 c rfl).symm

/-- a bound as it is told -/
def Told (x : Option Value) (d y n : Nat) : Prop := (x = none ∧ n = d) ∨ ∃ k i, x = some (.int k i) ∧ 0 ≤ i ∧ i.toNat ≤ y ∧ n = i.toNat
theorem bd_told {j : J} {pv : P → Option Nat} {e : Env} {ρ : Operand → Value} (hr : Reads j pv e ρ) {o : Option Opd} {x : Option Operand} {d y n : Nat} (hc : chkOO o x = true) (h : bdV o d e y = some n) : Told (x.map ρ) d y n := by
  rcases bd_sim hr hc h with ⟨rfl, _, rfl⟩ | ⟨x', k, i, rfl, hx, h0, h1, rfl⟩
  · exact .inl ⟨rfl, rfl⟩
  · exact .inr ⟨k, i, by simp [hx], h0, h1, rfl⟩
theorem Told.le {x : Option Value} {d y n : Nat} (h : Told x d y n) : n ≤ max d y := by
  rcases h with ⟨_, rfl⟩ | ⟨k, i, _, _, h, rfl⟩ <;> omega
theorem Told.wide {x : Option Value} {d y y' n : Nat} (h : Told x d y n) (hy : y ≤ y') : Told x d y' n := by
  rcases h with h | ⟨k, i, a, b, c, d⟩
  · exact .inl h
  · exact .inr ⟨k, i, a, b, by omega, d⟩
theorem run_bounds_none {Pr : Program} (w : World) {b : Bool} {n cap l hh : Nat} {xl xh : Option Value} (h1 : Told xh n cap hh) (h2 : Told xl 0 hh l) : (Instr.sliceBounds b n cap xl xh none).run Pr w = .ok (l, hh, cap) w := by
  unfold Instr.sliceBounds
  rcases h1 with ⟨rfl, rfl⟩ | ⟨k, i, rfl, a, c, rfl⟩ <;> rcases h2 with ⟨rfl, rfl⟩ | ⟨k', i', rfl, a', c', rfl⟩
  · simp
  · simp only [Sem.run_bind, Sem.run_pure, Result.andThen_ok, run_sliceBound w _ a' c']
  · simp only [Sem.run_bind, Sem.run_pure, Result.andThen_ok, run_sliceBound w _ a c]
  · simp only [Sem.run_bind, Sem.run_pure, Result.andThen_ok, run_sliceBound w _ a c, run_sliceBound w _ a' c']
theorem run_bounds_some {Pr : Program} (w : World) {b : Bool} {n cap l hh m : Nat} {xl xh xm : Option Value} {d : Nat} (hm : xm ≠ none) (hn : xh ≠ none) (h0 : Told xm d cap m) (h1 : Told xh n m hh) (h2 : Told xl 0 hh l) :
    (Instr.sliceBounds b n cap xl xh xm).run Pr w = .ok (l, hh, m) w := by
  unfold Instr.sliceBounds
  rcases h0 with ⟨rfl, rfl⟩ | ⟨k0, i0, rfl, a0, c0, rfl⟩
  · exact absurd rfl hm
  · rcases h1 with ⟨rfl, rfl⟩ | ⟨k, i, rfl, a, c, rfl⟩
    · exact absurd rfl hn
    · rcases h2 with ⟨rfl, rfl⟩ | ⟨k', i', rfl, a', c', rfl⟩
      · simp only [Sem.run_bind, Sem.run_pure, Result.andThen_ok, run_sliceBound w _ a0 c0, run_sliceBound w _ a c]
      · simp only [Sem.run_bind, Sem.run_pure, Result.andThen_ok, run_sliceBound w _ a0 c0, run_sliceBound w _ a c, run_sliceBound w _ a' c']

theorem run_eqL {Pr : Program} (w : World) (d t el : Nat) (hu : Pr.underlying t = some (.slice el)) (a : Option Addr) (n c l2 c2 : Nat) : (Op.equalIn (d + 1) t (.slice a n c) (.slice none l2 c2)).run Pr w = .ok a.isNone w := by
  cases a <;> simp [Op.equalIn, run_underlying hu]
theorem run_eqR {Pr : Program} (w : World) (d t el : Nat) (hu : Pr.underlying t = some (.slice el)) (a : Option Addr) (n c l2 c2 : Nat) : (Op.equalIn (d + 1) t (.slice none l2 c2) (.slice a n c)).run Pr w = .ok a.isNone w := by
  cases a <;> simp [Op.equalIn, run_underlying hu]

set_option maxHeartbeats 4000000 in
/-- The state of the operation's own run. -/
theorem wrap_near {n : Int} (h1 : -20000 ≤ n) (h2 : n ≤ 20000) : IntKind.i64.wrap n = n := by
  simp [IntKind.wrap, IntKind.signed, IntKind.bits]
  omega
theorem pure_sim {Pr : Program} {i : Ins} {o : Oper} {e : Env} {v : DV} (hv : pureDV i e = some v) (hc : chkPure Pr i o.op = true) {j : J} {pv : P → Option Nat} {ρ : Operand → Value} (hr : Reads j pv e ρ) (hk : ∀ v, ρ (.const v) = v) (w : World) :
    ∃ v', (execOp ρ o).run Pr w = .ok (.value v') w ∧ XD j pv v v' := by
  obtain ⟨dst, op, ty, pos, after, guard⟩ := o
  cases i <;> simp only [pureDV, reduceCtorEq] at hv
  case mv d =>
    simp only [Option.some.injEq] at hv; subst hv
    cases op <;> simp only [chkPure, Bool.false_eq_true] at hc
    · exact ⟨_, rfl, hr _ _ hc⟩
    · exact ⟨_, rfl, hr _ _ hc⟩
  case pick c a b =>
    cases op <;> simp only [chkPure, Bool.false_eq_true, Bool.and_eq_true] at hc
    obtain ⟨⟨h1, h2⟩, h3⟩ := hc
    have hx := hr _ _ h1
    cases hcv : ev c e <;> simp only [hcv, reduceCtorEq] at hv hx
    rename_i t
    simp only [Option.some.injEq] at hv; subst hv
    have := hx.bool
    rename_i x y z
    refine ⟨if t then ρ y else ρ z, by simp [execOp, this, asBool], ?_⟩
    cases t
    · exact hr _ _ h3
    · exact hr _ _ h2
  case bld z ps =>
    cases op <;> simp only [chkPure, Bool.false_eq_true] at hc
    rename_i t qs
    cases hf : fills e ps z with
    | none => simp [hf] at hv
    | some z' =>
      simp only [hf, Option.map_some, Option.some.injEq] at hv; subst hv
      have key : ∃ cells, Pr.built t (qs.map fun (i, x) => (i, ρ x)).toList = some cells ∧ VRs j z' cells.toList := by
        have hm : (qs.map fun (i, x) => (i, ρ x)).toList = qs.toList.map fun q => (q.1, ρ q.2) := by simp
        unfold chkBld at hc
        unfold Program.built
        cases hit : Pr.info? t with
        | none => simp [hit] at hc
        | some it =>
          cases hu : Pr.underlying t with
          | none => simp [hit, hu] at hc
          | some d =>
            cases d <;> try (simp [hit, hu] at hc; done)
            case struct fs =>
              cases hz : it.zero with
              | none => simp [hit, hu, hz] at hc
              | some zv =>
                cases hp : placesOf Pr fs with
                | none => simp [hit, hu, hz, hp] at hc
                | some places =>
                  simp only [hit, hu, hz, hp, Bool.and_eq_true] at hc
                  have hp' : fs.toList.mapM (fun f => (Pr.info? f.type).map fun i => (f.offset, i.size)) = some places := hp
                  simp only [hz, hp', hm]
                  exact fill_sim hr _ ps qs.toList z z' zv.cells hc.2 (okCs_sound j _ _ hc.1) hf
            case array n el =>
              cases hz : it.zero with
              | none => simp [hit, hu, hz] at hc
              | some zv =>
                cases hp : Pr.info? el with
                | none => simp [hit, hu, hz, hp] at hc
                | some ie =>
                  simp only [hit, hu, hz, hp, Bool.and_eq_true] at hc
                  simp only [hz, hp, hm]
                  exact fill_sim hr _ ps qs.toList z z' zv.cells hc.2 (okCs_sound j _ _ hc.1) hf
      obtain ⟨cells, hb, hrel⟩ := key
      refine ⟨.agg cells, ?_, VR.agg (l' := cells.toList) hrel⟩
      simp only [execOp, Sem.run_bind, run_build w t _ cells hb, Result.andThen_ok, Sem.run_pure]
  case nc d =>
    cases op <;> simp only [chkPure, Bool.false_eq_true] at hc
    rename_i x
    have hx := hr _ _ hc
    simp only [execOp]
    generalize ρ x = v' at hx
    refine ⟨v', ?_, ?_⟩
    · cases hd : ev d e <;> simp only [hd, solidV, reduceCtorEq] at hv hx
      case fld p o => obtain ⟨b, _, hb⟩ := hx; subst hb; rfl
      all_goals (cases (hx : VR j _ _) <;> rfl)
    · cases hd : ev d e <;> simp only [hd, solidV, reduceCtorEq, Option.some.injEq] at hv hx <;> subst hv <;> exact hx
  case bin b d d' =>
    cases op <;> simp only [chkPure, Bool.false_eq_true, Bool.and_eq_true] at hc
    rename_i bo xt x y yt
    obtain ⟨⟨⟨hb, h1⟩, h2⟩, h3⟩ := hc
    have hx := hr _ _ h1
    have hy := hr _ _ h2
    cases hd : ev d e <;> simp only [hd, reduceCtorEq] at hv hx
    rotate_left
    · rename_i u t0
      have hbo := sameBo_eq hb
      subst hbo
      unfold symV at hv
      by_cases h1 : u = true
      · rw [if_pos h1] at hv
        subst h1
        have hxe : ρ x = .int .i64 (S2 t0) := by
          have hx' : VR j (.sy true t0) (ρ x) := hx
          generalize ρ x = q at hx'
          cases hx' with
          | syu t => rfl
        cases hd' : ev d' e <;> simp only [hd', reduceCtorEq] at hv hy
        case int k y0 =>
          have hy := hy.int
          by_cases h2 : sameK .i64 k = true
          case neg => rw [if_neg h2] at hv; cases hv
          rw [if_pos h2] at hv
          have hk2 := sameK_eq h2
          subst hk2
          have hg : ∀ W : World, (eqGuard (boOf b) xt x y (.int .i64 (S2 t0)) (.int .i64 y0)).run Pr W = .ok () W := by intro W; unfold eqGuard; cases b <;> rfl
          simp only [execOp, hxe, hy, Sem.run_bind, hg, Result.andThen_ok]
          obtain ⟨n1, n2⟩ := S2_near t0
          generalize S2 t0 = n at n1 n2 ⊢
          unfold symCV at hv
          by_cases h3 : 20001 ≤ y0
          · rw [if_pos h3] at hv
            cases b <;> simp only [farV, boOf, reduceCtorEq, Option.some.injEq] at hv ⊢ <;> subst hv
            case lt => exact ⟨.bool (decide (n < y0)), by simp [binOp, Op.intCmp], by rw [decide_eq_true (show n < y0 by omega)]; exact VR.bool _⟩
            case le => exact ⟨.bool (decide (n ≤ y0)), by simp [binOp, Op.intCmp], by rw [decide_eq_true (show n ≤ y0 by omega)]; exact VR.bool _⟩
            case gt => exact ⟨.bool (decide (y0 < n)), by simp [binOp, Op.intCmp], by rw [decide_eq_false (show ¬ y0 < n by omega)]; exact VR.bool _⟩
            case ge => exact ⟨.bool (decide (y0 ≤ n)), by simp [binOp, Op.intCmp], by rw [decide_eq_false (show ¬ y0 ≤ n by omega)]; exact VR.bool _⟩
          · rw [if_neg h3] at hv
            by_cases h4 : y0 ≤ -20002
            case neg => rw [if_neg h4] at hv; cases hv
            rw [if_pos h4] at hv
            cases b <;> simp only [farV, boOf, reduceCtorEq, Option.some.injEq] at hv ⊢ <;> subst hv
            case lt => exact ⟨.bool (decide (n < y0)), by simp [binOp, Op.intCmp], by rw [decide_eq_false (show ¬ n < y0 by omega)]; exact VR.bool _⟩
            case le => exact ⟨.bool (decide (n ≤ y0)), by simp [binOp, Op.intCmp], by rw [decide_eq_false (show ¬ n ≤ y0 by omega)]; exact VR.bool _⟩
            case gt => exact ⟨.bool (decide (y0 < n)), by simp [binOp, Op.intCmp], by rw [decide_eq_true (show y0 < n by omega)]; exact VR.bool _⟩
            case ge => exact ⟨.bool (decide (y0 ≤ n)), by simp [binOp, Op.intCmp], by rw [decide_eq_true (show y0 ≤ n by omega)]; exact VR.bool _⟩
        case sy v s =>
          by_cases h2 : v = true
          case neg => rw [if_neg h2] at hv; cases hv
          rw [if_pos h2] at hv
          subst h2
          have hye : ρ y = .int .i64 (S2 s) := by
            have hy' : VR j (.sy true s) (ρ y) := hy
            generalize ρ y = q at hy'
            cases hy' with
            | syu t => rfl
          have hg : ∀ W : World, (eqGuard (boOf b) xt x y (.int .i64 (S2 t0)) (.int .i64 (S2 s))).run Pr W = .ok () W := by intro W; unfold eqGuard; cases b <;> rfl
          simp only [execOp, hxe, hye, Sem.run_bind, hg, Result.andThen_ok]
          cases t0 with
          | nil => cases hv
          | cons p t0 =>
            cases s with
            | nil => cases hv
            | cons q s =>
              simp only [symSV] at hv
              simp only [S2]
              cases b <;> simp only [isAdd, isEq, boOf, if_true, if_false, Bool.false_eq_true, reduceCtorEq] at hv ⊢
              case add =>
                by_cases h3 : p.2 = q.1
                · rw [if_pos h3] at hv
                  simp only [Option.some.injEq] at hv; subst hv
                  refine ⟨.int .i64 (S2 [(p.1, q.2)]), ?_, VR.syu _⟩
                  obtain ⟨m1, m2⟩ := Rho.near p.1 q.2
                  have e : Rho.S p.2 - Rho.S p.1 + (Rho.S q.2 - Rho.S q.1) = Rho.S q.2 - Rho.S p.1 := by rw [h3]; omega
                  simp only [binOp, Op.intArith, S2, e, wrap_near m1 m2]; rfl
                · rw [if_neg h3] at hv
                  by_cases h4 : q.2 = p.1
                  case neg => rw [if_neg h4] at hv; cases hv
                  rw [if_pos h4] at hv
                  simp only [Option.some.injEq] at hv; subst hv
                  refine ⟨.int .i64 (S2 [(q.1, p.2)]), ?_, VR.syu _⟩
                  obtain ⟨m1, m2⟩ := Rho.near q.1 p.2
                  have e : Rho.S p.2 - Rho.S p.1 + (Rho.S q.2 - Rho.S q.1) = Rho.S p.2 - Rho.S q.1 := by rw [h4]; omega
                  simp only [binOp, Op.intArith, S2, e, wrap_near m1 m2]; rfl
              case eq =>
                by_cases h3 : p.1 = q.1 ∧ p.2 = q.2
                case neg => rw [if_neg h3] at hv; cases hv
                rw [if_pos h3] at hv
                simp only [Option.some.injEq] at hv; subst hv
                exact ⟨.bool true, by simp [binOp, Op.intCmp, h3.1, h3.2], VR.bool _⟩
      · rw [if_neg h1] at hv
        cases hd' : ev d' e <;> simp only [hd', reduceCtorEq] at hv hy
        rename_i k y0
        have hy := hy.int
        by_cases h2 : isRem b = true
        case neg => rw [if_neg h2] at hv; cases hv
        rw [if_pos h2] at hv
        by_cases h3 : sameK .i64 k = true
        case neg => rw [if_neg h3] at hv; cases hv
        rw [if_pos h3] at hv
        by_cases h4 : y0 = 1000
        case neg => rw [if_neg h4] at hv; cases hv
        rw [if_pos h4] at hv
        simp only [Option.some.injEq] at hv
        subst hv
        have hk3 := sameK_eq h3
        subst hk3; subst h4
        obtain rfl : b = .rem := by cases b <;> first | rfl | cases h2
        obtain rfl : u = false := by cases u with | false => rfl | true => exact absurd rfl h1
        obtain ⟨n, hxe, hn⟩ : ∃ n, ρ x = .int .i64 n ∧ n.tmod 1000 = S2 t0 := by
          have hx' : VR j (.sy false t0) (ρ x) := hx
          generalize ρ x = q at hx'
          cases hx' with
          | syi h => exact ⟨_, rfl, h⟩
        have hg : ∀ W : World, (eqGuard .rem xt x y (.int .i64 n) (.int .i64 1000)).run Pr W = .ok () W := by intro W; rfl
        simp only [execOp, hxe, hy, Sem.run_bind, hg, Result.andThen_ok, boOf]
        refine ⟨.int .i64 (n.tmod 1000), by simp [binOp, Op.intDiv], ?_⟩
        rw [hn]; exact VR.syu _
    cases hd' : ev d' e <;> simp only [hd', reduceCtorEq] at hv hy
    rotate_left
    · rename_i k n u t0
      have hbo := sameBo_eq hb
      subst hbo
      have hx := hx.int
      unfold symZV at hv
      by_cases h1 : u = true
      case neg => rw [if_neg h1] at hv; cases hv
      rw [if_pos h1] at hv
      by_cases h2 : isAdd b = true
      case neg => rw [if_neg h2] at hv; cases hv
      rw [if_pos h2] at hv
      by_cases h3 : sameK .i64 k = true
      case neg => rw [if_neg h3] at hv; cases hv
      rw [if_pos h3] at hv
      by_cases h4 : n = 0
      case neg => rw [if_neg h4] at hv; cases hv
      rw [if_pos h4] at hv
      simp only [Option.some.injEq] at hv
      subst hv
      have hk3 := sameK_eq h3
      subst hk3; subst h4; subst h1
      obtain rfl : b = .add := by cases b <;> first | rfl | cases h2
      have hye : ρ y = .int .i64 (S2 t0) := by
        have hy' : VR j (.sy true t0) (ρ y) := hy
        generalize ρ y = q at hy'
        cases hy' with
        | syu t => rfl
      have hg : ∀ W : World, (eqGuard .add xt x y (.int .i64 0) (.int .i64 (S2 t0))).run Pr W = .ok () W := by intro W; rfl
      simp only [execOp, hx, hye, Sem.run_bind, hg, Result.andThen_ok, boOf]
      obtain ⟨n1, n2⟩ := S2_near t0
      exact ⟨.int .i64 (S2 t0), by simp only [binOp, Op.intArith, Int.zero_add, wrap_near n1 n2]; rfl, VR.syu _⟩
    rename_i k n k' n'
    by_cases hs : sameK k k' = true
    case neg => rw [if_neg hs] at hv; cases hv
    rw [if_pos hs] at hv
    have hk := sameK_eq hs
    subst hk
    have hx := hx.int; have hy := hy.int
    have hg : ∀ W : World, (eqGuard bo xt x y (.int k n) (.int k n')).run Pr W = .ok () W := by intro W; unfold eqGuard; cases bo <;> rfl
    simp only [execOp, hx, hy, Sem.run_bind, hg, Result.andThen_ok]
    have hbo := sameBo_eq hb
    subst hbo
    cases b <;> simp only [binV, boOf] at hv ⊢
    case quo =>
      by_cases h0 : n' = 0
      · rw [if_pos h0] at hv; cases hv
      · rw [if_neg h0] at hv; simp only [Option.some.injEq] at hv; subst hv
        exact ⟨_, by simp [binOp, Op.intDiv, h0], VR.int _ _⟩
    case rem =>
      by_cases h0 : n' = 0
      · rw [if_pos h0] at hv; cases hv
      · rw [if_neg h0] at hv; simp only [Option.some.injEq] at hv; subst hv
        exact ⟨_, by simp [binOp, Op.intDiv, h0], VR.int _ _⟩
    all_goals (simp only [Option.some.injEq] at hv; subst hv)
    case add => exact ⟨_, by simp [binOp, Op.intArith], VR.int _ _⟩
    case sub => exact ⟨_, by simp [binOp, Op.intArith], VR.int _ _⟩
    case mul => exact ⟨_, by simp [binOp, Op.intArith], VR.int _ _⟩
    case eq => exact ⟨.bool (decide (n = n')), by simp [binOp, Op.intCmp]; rfl, VR.bool _⟩
    case ne => exact ⟨.bool (!decide (n = n')), by simp [binOp, Op.intCmp, bne]; rfl, VR.bool _⟩
    case lt => exact ⟨.bool (decide (n < n')), by simp [binOp, Op.intCmp], VR.bool _⟩
    case le => exact ⟨.bool (!decide (n' < n)), by simp [binOp, Op.intCmp]; by_cases h : n ≤ n' <;> simp [h] <;> omega, VR.bool _⟩
    case gt => exact ⟨.bool (decide (n' < n)), by simp [binOp, Op.intCmp], VR.bool _⟩
    case ge => exact ⟨.bool (!decide (n < n')), by simp [binOp, Op.intCmp]; by_cases h : n' ≤ n <;> simp [h] <;> omega, VR.bool _⟩
  case shr d d' =>
    cases op <;> simp only [chkPure, Bool.false_eq_true, Bool.and_eq_true] at hc
    rename_i bo xt x y yt
    cases bo <;> simp only [Bool.and_eq_true, Bool.false_eq_true] at hc
    obtain ⟨⟨h1, h2⟩, h3⟩ := hc
    have hx := hr _ _ h1
    have hy := hr _ _ h2
    cases hd : ev d e <;> simp only [hd, reduceCtorEq] at hv hx
    cases hd' : ev d' e <;> simp only [hd', reduceCtorEq] at hv hy
    rename_i k n k' n'
    by_cases hs : 0 ≤ n' ∧ n'.toNat ≤ k.bits
    case neg => rw [if_neg hs] at hv; cases hv
    rw [if_pos hs] at hv
    simp only [Option.some.injEq] at hv
    subst hv
    have hx := hx.int; have hy := hy.int
    have hg : ∀ W : World, (eqGuard .shr xt x y (.int k n) (.int k' n')).run Pr W = .ok () W := by intro W; rfl
    simp only [execOp, hx, hy, Sem.run_bind, hg, Result.andThen_ok]
    refine ⟨_, ?_, VR.int _ _⟩
    have hneg : ¬ n' < 0 := by omega
    simp [binOp, Op.shift, hneg, Nat.min_eq_left hs.2]
  case neg d =>
    cases op <;> simp only [chkPure, Bool.false_eq_true] at hc
    rename_i u t x
    cases u <;> simp only [Bool.false_eq_true] at hc
    have hx := hr _ _ hc
    cases hd : ev d e <;> simp only [hd, reduceCtorEq, Option.some.injEq] at hv hx
    subst hv
    have hx := hx.int
    exact ⟨_, by simp [execOp, hx, Op.unary, Op.intArith], VR.int _ _⟩
  case not d =>
    cases op <;> simp only [chkPure, Bool.false_eq_true] at hc
    rename_i u t x
    cases u <;> simp only [Bool.false_eq_true] at hc
    have hx := hr _ _ hc
    cases hd : ev d e <;> simp only [hd, reduceCtorEq, Option.some.injEq] at hv hx
    subst hv
    have hx := hx.bool
    exact ⟨_, by simp [execOp, hx, Op.unary], VR.bool _⟩
  case cv k d =>
    cases op <;> simp only [chkPure, Bool.false_eq_true, Bool.and_eq_true] at hc
    rename_i s t x
    obtain ⟨⟨h1, h2⟩, h3⟩ := hc
    have hx := hr _ _ h1
    cases hd : ev d e <;> simp only [hd, reduceCtorEq, Option.some.injEq] at hv hx
    subst hv
    have hx := hx.int
    unfold kindOf at h2
    cases hus : Pr.underlying s with
    | none => simp [hus] at h3
    | some ds =>
      cases hut : Pr.underlying t with
      | none => simp [hut] at h2
      | some dt =>
        cases dt <;> simp [hut] at h2
        have := sameK_eq h2
        subst this
        exact ⟨_, by simp [execOp, hx, convert, run_underlying hus, run_underlying hut, Conv.intToInt], VR.int _ _⟩
  case mfn f cs =>
    simp only [Option.some.injEq] at hv; subst hv
    cases op <;> try (simp only [chkPure, Bool.false_eq_true] at hc; done)
    rename_i fn first xs
    obtain ⟨first⟩ := first
    cases fn <;> cases first <;> simp only [chkPure, Bool.false_eq_true, Bool.and_eq_true, Nat.beq_eq] at hc
    obtain ⟨rfl, h2⟩ := hc
    refine ⟨.func (.func f.n) #[] (xs.toList.map ρ).toArray, ?_, VR.fn (hr.ovs cs xs.toList h2)⟩
    have hm : xs.map ρ = (xs.toList.map ρ).toArray := by apply Array.ext'; simp
    have h0 : (⟨[]⟩ : Array Operand).map ρ = #[] := by simp
    simp only [execOp, Instr.makeFunc, hm, h0]; rfl
  case mbf f cs =>
    simp only [Option.some.injEq] at hv; subst hv
    cases op <;> try (simp only [chkPure, Bool.false_eq_true] at hc; done)
    rename_i fn xs cap
    obtain ⟨cap⟩ := cap
    cases fn <;> cases cap <;> simp only [chkPure, Bool.false_eq_true, Bool.and_eq_true, Nat.beq_eq] at hc
    obtain ⟨rfl, h2⟩ := hc
    refine ⟨.func (.func f.n) (xs.toList.map ρ).toArray #[], ?_, VR.bf (hr.ovs cs xs.toList h2)⟩
    have hm : xs.map ρ = (xs.toList.map ρ).toArray := by apply Array.ext'; simp
    have h0 : (⟨[]⟩ : Array Operand).map ρ = #[] := by simp
    simp only [execOp, Instr.makeFunc, hm, h0]; rfl
  case ex d n =>
    cases op <;> simp only [chkPure, Bool.false_eq_true, Bool.and_eq_true, Nat.beq_eq] at hc
    obtain ⟨h1, rfl⟩ := hc
    have hx := hr _ _ h1
    cases hd : ev d e <;> simp only [hd, exV, reduceCtorEq] at hv hx
    obtain ⟨l', hx, hl⟩ := hx.tup
    obtain ⟨v', hv', hvr⟩ := hl.get _ _ hv
    refine ⟨v', ?_, XD.of_VR hvr⟩
    simp [execOp, hx, Instr.extract, hv']
  case len d =>
    cases op <;> try (simp only [chkPure, Bool.false_eq_true] at hc; done)
    rename_i c
    obtain ⟨callee, ⟨args⟩, ⟨tys⟩⟩ := c
    cases callee <;> try (simp only [chkPure, Bool.false_eq_true] at hc; done)
    rename_i b
    cases b <;> try (simp only [chkPure, Bool.false_eq_true] at hc; done)
    rcases args with _ | ⟨x, _ | ⟨_, _⟩⟩ <;> rcases tys with _ | ⟨t, _ | ⟨_, _⟩⟩ <;> simp only [chkPure, Bool.false_eq_true, Bool.and_eq_true] at hc
    obtain ⟨h1, h2⟩ := hc
    have hx := hr _ _ h1
    unfold isSlice at h2
    cases hu : Pr.underlying t with
    | none => simp [hu] at h2
    | some dt =>
      cases dt <;> simp [hu] at h2
      cases hd : ev d e <;> simp only [hd, lenV, Option.map_some, Option.map_none, reduceCtorEq, Option.some.injEq] at hv hx <;> subst hv
      · have hx := hx.nils
        exact ⟨_, by simp [execOp, resolve, invoke, builtin, Builtin.len_, hx, run_underlying hu]; rfl, VR.int _ _⟩
      · obtain ⟨a, cap, hx, _⟩ := hx.sl
        exact ⟨_, by simp [execOp, resolve, invoke, builtin, Builtin.len_, hx, run_underlying hu]; rfl, VR.int _ _⟩
  case cap d =>
    cases op <;> try (simp only [chkPure, Bool.false_eq_true] at hc; done)
    rename_i c
    obtain ⟨callee, ⟨args⟩, ⟨tys⟩⟩ := c
    cases callee <;> try (simp only [chkPure, Bool.false_eq_true] at hc; done)
    rename_i b
    cases b <;> try (simp only [chkPure, Bool.false_eq_true] at hc; done)
    rcases args with _ | ⟨x, _ | ⟨_, _⟩⟩ <;> rcases tys with _ | ⟨t, _ | ⟨_, _⟩⟩ <;> simp only [chkPure, Bool.false_eq_true, Bool.and_eq_true] at hc
    obtain ⟨h1, h2⟩ := hc
    have hx := hr _ _ h1
    unfold isSlice at h2
    cases hu : Pr.underlying t with
    | none => simp [hu] at h2
    | some dt =>
      cases dt <;> simp [hu] at h2
      cases hd : ev d e <;> simp only [hd, capV, Option.map_none, reduceCtorEq] at hv hx
      · simp only [Option.map_some, Option.some.injEq] at hv; subst hv
        have hx := hx.nils
        exact ⟨_, by simp [execOp, resolve, invoke, builtin, Builtin.cap_, hx, run_underlying hu]; rfl, VR.int _ _⟩
      · rename_i k o n cp sz
        cases cp <;> simp only [Option.map_some, Option.map_none, reduceCtorEq, Option.some.injEq] at hv
        subst hv
        obtain ⟨a, cap, hx, _, hcap⟩ := hx.sl
        rw [hcap _ rfl] at hx
        exact ⟨_, by simp [execOp, resolve, invoke, builtin, Builtin.cap_, hx, run_underlying hu]; rfl, VR.int _ _⟩
  case fa n d =>
    cases op <;> simp only [chkPure, Bool.false_eq_true, Bool.and_eq_true] at hc
    rename_i st x f
    obtain ⟨h1, h2⟩ := hc
    have hx := hr _ _ h1
    have hrun : ∀ a : Addr, ρ x = .pointer (some a) → (Instr.fieldAt st (ρ x) f).run Pr w = .ok (.pointer (some (a.add n))) w := by
      intro a hp
      unfold chkFieldA at h2
      cases hu : Pr.underlying st with
      | none => simp [hu] at h2
      | some dt =>
        cases dt <;> simp only [hu, Bool.false_eq_true] at h2
        rename_i fs
        cases hf : fs[f]? with
        | none => simp [hf] at h2
        | some fd =>
          simp only [hf, Bool.and_eq_true, Nat.beq_eq] at h2
          obtain ⟨h2, h3⟩ := h2
          cases hi : Pr.info? fd.type with
          | none => simp [hi] at h3
          | some it =>
            simp [hi] at h3
            have hs : (sizeOf fd.type).run Pr w = .ok it.size w := by simp [sizeOf, typeInfo, hi]
            simp only [Instr.fieldAt, Sem.run_bind, run_underlying hu, Result.andThen_ok, hf, hp, Instr.sureAddr, Sem.run_pure, fieldPlace, hs]
            have h0 : it.size ≠ 0 := fun h0 => by rw [h0] at h3; exact absurd h3 (by decide)
            simp [h0, h2]
    cases hd : ev d e <;> simp only [hd, faV, reduceCtorEq, Option.some.injEq] at hv hx <;> subst hv
    case fld q o =>
      obtain ⟨b, hb, hp⟩ := hx
      exact ⟨.pointer (some ⟨b, o + n, none⟩), by simp only [execOp, Sem.run_bind, hrun _ hp, Result.andThen_ok, Sem.run_pure, Addr.add_mid], b, hb, rfl⟩
    case ptr k o =>
      have hx' : VR j (.ptr k o) (ρ x) := hx
      generalize hg : ρ x = v' at hx'
      cases hx' with
      | ptrA h => rename_i b s c; exact ⟨.pointer (some ⟨b, s + (o + n), none⟩), by simp only [execOp, Sem.run_bind, hrun _ hg, Result.andThen_ok, Sem.run_pure, Addr.add_mid]; rw [Nat.add_assoc], VR.ptrA h⟩
      | ptrO h => rename_i b s; exact ⟨.pointer (some ⟨b, s + (o + n), none⟩), by simp only [execOp, Sem.run_bind, hrun _ hg, Result.andThen_ok, Sem.run_pure, Addr.add_mid]; rw [Nat.add_assoc], VR.ptrO h⟩
      | ptrD a h => exact ⟨.pointer (some (a.add n)), by simp only [execOp, Sem.run_bind, hrun _ hg, Result.andThen_ok, Sem.run_pure], VR.ptrD _ h⟩
  case ia sz d d' =>
    cases op <;> simp only [chkPure, Bool.false_eq_true, Bool.and_eq_true] at hc
    rename_i t x y
    obtain ⟨⟨h1, h2⟩, h3⟩ := hc
    have hx := hr _ _ h1
    have hy := hr _ _ h2
    cases hd : ev d e <;> simp only [hd, iaV, reduceCtorEq] at hv hx
    rename_i k o n cp s
    cases hd' : ev d' e <;> simp only [hd', reduceCtorEq] at hv hy
    rename_i ik i
    by_cases hcond : s = sz ∧ 0 ≤ i ∧ i.toNat < n
    case neg => rw [if_neg hcond] at hv; cases hv
    rw [if_pos hcond] at hv
    simp only [Option.some.injEq] at hv; subst hv
    obtain ⟨rfl, hi0, hin⟩ := hcond
    have hy := hy.int
    have hrun : ∀ (a : Addr) (cap : Nat), ρ x = .slice (some a) n cap → (Instr.indexAt t (ρ x) (ρ y)).run Pr w = .ok (.pointer (some (a.add (i.toNat * s)))) w := by
      intro a cap hp
      unfold sliceIs at h3
      cases hu : Pr.underlying t with
      | none => simp [hu] at h3
      | some dt =>
        cases dt <;> simp only [hu, Bool.false_eq_true, Bool.and_eq_true] at h3
        rename_i el
        obtain ⟨it, hit, hsz⟩ := sizeIs_spec h3.1
        have hs : (sizeOf el).run Pr w = .ok s w := by simp [sizeOf, typeInfo, hit, hsz]
        have hlt : 0 ≤ i ∧ i < (n : Int) := ⟨hi0, by omega⟩
        simp only [Instr.indexAt, Sem.run_bind, hy, asIntOf, Sem.run_pure, Result.andThen_ok, run_underlying hu, hp]
        simp only [Sem.run_ite, if_pos hlt, Sem.run_bind, hs, Result.andThen_ok, Sem.run_pure]
    have hx' : VR j (.sl k o n cp s) (ρ x) := hx
    generalize hg : ρ x = v' at hx'
    cases hx' with
    | slA h ho hc' hs he =>
      rename_i b s0 c off cap
      refine ⟨.pointer (some ⟨b, s0 + (o + i.toNat * s), none⟩), ?_, VR.ptrA h⟩
      simp only [execOp, Sem.run_bind, hrun _ _ hg, Result.andThen_ok, Sem.run_pure, Addr.add_mid]
      rw [ho (.inl (by omega)), Nat.add_assoc]
    | slO h ho hc' =>
      rename_i b s0 off cap
      refine ⟨.pointer (some ⟨b, s0 + (o + i.toNat * s), none⟩), ?_, VR.ptrO h⟩
      simp only [execOp, Sem.run_bind, hrun _ _ hg, Result.andThen_ok, Sem.run_pure, Addr.add_mid]
      rw [ho (.inl (by omega)), Nat.add_assoc]
    | slE a h hc' _ => omega
    | slD a h hc' => exact ⟨.pointer (some (a.add (i.toNat * s))), by simp only [execOp, Sem.run_bind, hrun _ _ hg, Result.andThen_ok, Sem.run_pure], VR.ptrD _ h⟩
  case fi n d =>
    cases op <;> simp only [chkPure, Bool.false_eq_true, Bool.and_eq_true] at hc
    rename_i st x f
    obtain ⟨h1, h2⟩ := hc
    have hx := hr _ _ h1
    cases hd : ev d e <;> simp only [hd, fiV, reduceCtorEq] at hv hx
    obtain ⟨l', hx, hl⟩ := hx.agg
    obtain ⟨v', hv', hvr, _⟩ := hl.get _ _ hv
    unfold chkField at h2
    cases hu : Pr.underlying st with
    | none => simp [hu] at h2
    | some dt =>
      cases dt <;> simp only [hu, Bool.false_eq_true] at h2
      rename_i fs
      cases hf : fs[f]? with
      | none => simp [hf] at h2
      | some fd =>
        simp only [hf, Bool.and_eq_true, Nat.beq_eq] at h2
        have hagg := aggIs_spec h2.2 w
        refine ⟨v', ?_, XD.of_VR hvr⟩
        simp only [execOp, Instr.field, Sem.run_bind, run_underlying hu, Result.andThen_ok, hf, hx, asAgg, Sem.run_pure, part]
        simp only [Option.isSome_none] at hagg
        simp [hagg, h2.1.1, hv']
  case fia n m d =>
    cases op <;> simp only [chkPure, Bool.false_eq_true, Bool.and_eq_true] at hc
    rename_i st x f
    obtain ⟨h1, h2⟩ := hc
    have hx := hr _ _ h1
    cases hd : ev d e <;> simp only [hd, fiaV, reduceCtorEq] at hv hx
    rename_i l
    by_cases hcond : n ≤ l.length ∧ m ≤ (l.drop n).length
    case neg => rw [if_neg hcond] at hv; cases hv
    rw [if_pos hcond] at hv
    simp only [Option.some.injEq] at hv; subst hv
    obtain ⟨l', hx, hl⟩ := hx.agg
    unfold chkField at h2
    cases hu : Pr.underlying st with
    | none => simp [hu] at h2
    | some dt =>
      cases dt <;> simp only [hu, Bool.false_eq_true] at h2
      rename_i fs
      cases hf : fs[f]? with
      | none => simp [hf] at h2
      | some fd =>
        simp only [hf, Bool.and_eq_true, Nat.beq_eq] at h2
        obtain ⟨⟨h2, h3⟩, h4⟩ := h2
        have hagg := aggIs_spec h4 w
        simp only [Option.isSome_some] at hagg
        cases hi : Pr.info? fd.type with
        | none => simp [hi] at h3
        | some it =>
          simp [hi] at h3
          refine ⟨.agg ((l'.drop n).take m).toArray, ?_, VR.agg ((hl.drop n).take m)⟩
          have hs : (sizeOf fd.type).run Pr w = .ok m w := by simp [sizeOf, typeInfo, hi, h3.2]
          simp only [execOp, Instr.field, Sem.run_bind, run_underlying hu, Result.andThen_ok, hf, hx, asAgg, Sem.run_pure, part, hagg, if_true, hs, h2]
          congr 3
          apply Array.ext'
          simp
  case mx d l =>
    cases op <;> try (simp only [chkPure, Bool.false_eq_true] at hc; done)
    rename_i c
    obtain ⟨callee, ⟨args⟩, tys⟩ := c
    cases callee <;> try (simp only [chkPure, Bool.false_eq_true] at hc; done)
    rename_i b
    cases b <;> cases args <;> simp only [chkPure, Bool.false_eq_true, Bool.and_eq_true] at hc
    rename_i x xs
    obtain ⟨h1, h2⟩ := hc
    have hx := hr _ _ h1
    cases hd : ev d e <;> simp only [hd, reduceCtorEq] at hv hx
    rename_i k n
    cases hf : foldV (fun x y => ilt x y) e l k n with
    | none => simp [hf] at hv
    | some y =>
      simp only [hf, Option.map_some, Option.some.injEq] at hv; subst hv
      have key : ∀ (l : List Opd) (xs : List Operand) (k : IntKind) (n : Int), chkOpds l xs = true → foldV (fun x y => ilt x y) e l k n = some y →
          ((xs.map ρ).foldlM Builtin.max2 (.int k n)).run Pr w = .ok (.int y.1 y.2) w := by
        intro l
        induction l with
        | nil => intro xs k n hx hy; cases xs <;> simp [chkOpds] at hx; simp only [foldV, Option.some.injEq] at hy; subst hy; rfl
        | cons o l ih =>
          intro xs k n hx hy
          cases xs with
          | nil => simp [chkOpds] at hx
          | cons x xs =>
            simp only [chkOpds, Bool.and_eq_true] at hx
            simp only [foldV] at hy
            have hxo := hr _ _ hx.1
            cases ho : ev o e <;> simp only [ho, reduceCtorEq] at hy hxo
            rename_i j m
            by_cases hs : sameK k j = true
            · rw [if_pos hs] at hy
              have hxo := hxo.int
              simp only [List.map_cons, List.foldlM_cons, Sem.run_bind, hxo, Builtin.max2, Sem.run_pure, Result.andThen_ok]
              have : (if m > n then m else n) = if ilt n m = true then m else n := by
                have hb := ilt_eq n m
                by_cases h : n < m
                · rw [if_pos h, if_pos (by rw [hb]; simp [h])]
                · rw [if_neg h, if_neg (by rw [hb]; simp [h])]
              rw [this]
              exact ih xs k _ hx.2 hy
            · rw [if_neg hs] at hy; cases hy
      refine ⟨.int y.1 y.2, ?_, VR.int _ _⟩
      simp only [execOp, resolve, Sem.run_bind, Sem.run_pure, Result.andThen_ok, invoke, builtin, Builtin.max_]
      simp only [List.map_toArray, List.map_cons, hx.int]
      rw [key l xs k n h2 hf]; rfl
  case mn d l =>
    cases op <;> try (simp only [chkPure, Bool.false_eq_true] at hc; done)
    rename_i c
    obtain ⟨callee, ⟨args⟩, tys⟩ := c
    cases callee <;> try (simp only [chkPure, Bool.false_eq_true] at hc; done)
    rename_i b
    cases b <;> cases args <;> simp only [chkPure, Bool.false_eq_true, Bool.and_eq_true] at hc
    rename_i x xs
    obtain ⟨h1, h2⟩ := hc
    have hx := hr _ _ h1
    cases hd : ev d e <;> simp only [hd, reduceCtorEq] at hv hx
    rename_i k n
    cases hf : foldV (fun x y => ilt y x) e l k n with
    | none => simp [hf] at hv
    | some y =>
      simp only [hf, Option.map_some, Option.some.injEq] at hv; subst hv
      have key : ∀ (l : List Opd) (xs : List Operand) (k : IntKind) (n : Int), chkOpds l xs = true → foldV (fun x y => ilt y x) e l k n = some y →
          ((xs.map ρ).foldlM Builtin.min2 (.int k n)).run Pr w = .ok (.int y.1 y.2) w := by
        intro l
        induction l with
        | nil => intro xs k n hx hy; cases xs <;> simp [chkOpds] at hx; simp only [foldV, Option.some.injEq] at hy; subst hy; rfl
        | cons o l ih =>
          intro xs k n hx hy
          cases xs with
          | nil => simp [chkOpds] at hx
          | cons x xs =>
            simp only [chkOpds, Bool.and_eq_true] at hx
            simp only [foldV] at hy
            have hxo := hr _ _ hx.1
            cases ho : ev o e <;> simp only [ho, reduceCtorEq] at hy hxo
            rename_i j m
            by_cases hs : sameK k j = true
            · rw [if_pos hs] at hy
              have hxo := hxo.int
              simp only [List.map_cons, List.foldlM_cons, Sem.run_bind, hxo, Builtin.min2, Sem.run_pure, Result.andThen_ok]
              have : (if m < n then m else n) = if ilt m n = true then m else n := by
                have hb := ilt_eq m n
                by_cases h : m < n
                · rw [if_pos h, if_pos (by rw [hb]; simp [h])]
                · rw [if_neg h, if_neg (by rw [hb]; simp [h])]
              rw [this]
              exact ih xs k _ hx.2 hy
            · rw [if_neg hs] at hy; cases hy
      refine ⟨.int y.1 y.2, ?_, VR.int _ _⟩
      simp only [execOp, resolve, Sem.run_bind, Sem.run_pure, Result.andThen_ok, invoke, builtin, Builtin.min_]
      simp only [List.map_toArray, List.map_cons, hx.int]
      rw [key l xs k n h2 hf]; rfl
  case aeq ks neg d d' =>
    cases op <;> simp only [chkPure, Bool.false_eq_true, Bool.and_eq_true] at hc
    rename_i bo t x y yt
    obtain ⟨⟨⟨h0, h1⟩, h2⟩, h3⟩ := hc
    have hx := hr _ _ h1
    have hy := hr _ _ h2
    cases hd : ev d e <;> simp only [hd, reduceCtorEq] at hv hx
    cases hd' : ev d' e <;> simp only [hd', reduceCtorEq] at hv hy
    rename_i l m
    cases hq : eqsV ks l m with
    | none => simp [hq] at hv
    | some b =>
      simp only [hq, Option.map_some, Option.some.injEq] at hv; subst hv
      obtain ⟨l', hx, hl⟩ := hx.agg
      obtain ⟨m', hy, hm⟩ := hy.agg
      refine ⟨.bool (neg != b), ?_, VR.bool _⟩
      unfold flatType at h3
      cases hu : Pr.underlying t with
      | none => simp [hu] at h3
      | some dt =>
        cases dt <;> simp only [hu, Bool.false_eq_true, Bool.and_eq_true, Bool.not_eq_true'] at h3
        rename_i fs
        obtain ⟨⟨hff, hsh⟩, hgt⟩ := h3
        have hfo : Pr.fieldsOf t = fs := by simp [Program.fieldsOf, hu]
        have hq2 : (Op.equalIn 10000 t (.agg l'.toArray) (.agg m'.toArray)).run Pr w = .ok b w := by
          rw [run_equalIn_struct w 9999 t _ _ (by rw [hfo, hu]) hsh, hfo]
          exact eqs_sim l'.toArray m'.toArray 9998 w fs.toList 0 ks l m b hff (by simpa using hl) (by simpa using hm) hq
        cases neg <;> cases bo <;> simp at h0
        · simp only [execOp, hx, hy, Sem.run_bind, run_eqGuard_agg w _ _ _ _ _ _ hgt, Result.andThen_ok, run_eql_struct, hq2, Sem.run_pure]; cases b <;> rfl
        · simp only [execOp, hx, hy, Sem.run_bind, run_eqGuard_agg w _ _ _ _ _ _ hgt, Result.andThen_ok, run_neq_struct, hq2, Sem.run_pure]; cases b <;> rfl
  case beq neg d d' =>
    cases op <;> simp only [chkPure, Bool.false_eq_true, Bool.and_eq_true] at hc
    rename_i bo t x y yt
    obtain ⟨⟨⟨h0, h1⟩, h2⟩, h3⟩ := hc
    have hx := hr _ _ h1
    have hy := hr _ _ h2
    cases hd : ev d e <;> simp only [hd, reduceCtorEq] at hv hx
    cases hd' : ev d' e <;> simp only [hd', reduceCtorEq, Option.some.injEq] at hv hy
    rename_i p q
    subst hv
    have hx := hx.bool
    have hy := hy.bool
    refine ⟨_, ?_, VR.bool _⟩
    cases hu : Pr.underlying t with
    | none => simp [hu] at h3
    | some dt =>
      cases dt <;> simp only [hu, Bool.false_eq_true] at h3
      cases neg <;> cases bo <;> simp at h0
      · simp [execOp, hx, hy, eqGuard, binOp, Op.equal, Op.maxDepth, run_equalIn_bool' w 9999 t p q hu]
      · simp [execOp, hx, hy, eqGuard, binOp, Op.equal, Op.maxDepth, run_equalIn_bool' w 9999 t p q hu]
  case isnil neg d =>
    cases op <;> simp only [chkPure, Bool.false_eq_true, Bool.and_eq_true, Bool.or_eq_true] at hc
    rename_i bo t x y yt
    obtain ⟨⟨h0, h1⟩, h2⟩ := hc
    unfold isSlice at h1
    cases hu : Pr.underlying t with
    | none => simp [hu] at h1
    | some dt =>
      cases dt <;> simp only [hu, Bool.false_eq_true] at h1
      cases hn : nilV (ev d e) with
      | none => simp [hn] at hv
      | some b =>
        simp only [hn, Option.map_some, Option.some.injEq] at hv; subst hv
        have key : ∀ z, chkOpd d z = true → ∃ a n c, ρ z = .slice a n c ∧ b = a.isNone := by
          intro z hz
          have hx := hr _ _ hz
          cases hd : ev d e <;> simp only [hd, nilV, reduceCtorEq, Option.some.injEq] at hn hx
          · subst hn; exact ⟨none, 0, 0, hx.nils, rfl⟩
          · subst hn; obtain ⟨a, cap, hx, _⟩ := hx.sl; exact ⟨some a, _, cap, hx, rfl⟩
        refine ⟨.bool (neg != b), ?_, VR.bool _⟩
        have nilc : ∀ z, isNilC z = true → ∃ l2 c2, ρ z = .slice none l2 c2 ∧ z = .const (.slice none l2 c2) := by
          intro z hz
          cases z <;> try (simp [isNilC] at hz; done)
          rename_i cv
          cases cv <;> try (simp [isNilC] at hz; done)
          rename_i a2 l2 c2
          cases a2 <;> simp only [isNilC, Bool.false_eq_true] at hz
          exact ⟨l2, c2, hk _, rfl⟩
        rcases h2 with ⟨h2, h3⟩ | ⟨h2, h3⟩
        · obtain ⟨a, n, c, hx, hb⟩ := key _ h3
          obtain ⟨l2, c2, hy, _⟩ := nilc _ h2
          subst hb
          cases neg <;> cases bo <;> simp at h0 <;> simp [execOp, hx, hy, eqGuard, binOp, Op.equal, Op.maxDepth, run_eqL w 9999 t _ hu]
        · obtain ⟨a, n, c, hx, hb⟩ := key _ h3
          obtain ⟨l2, c2, hy, _⟩ := nilc _ h2
          subst hb
          cases neg <;> cases bo <;> simp at h0 <;> simp [execOp, hx, hy, eqGuard, binOp, Op.equal, Op.maxDepth, run_eqR w 9999 t _ hu]
  case sla sz d lo hi mx =>
    cases op <;> simp only [chkPure, Bool.false_eq_true, Bool.and_eq_true] at hc
    rename_i t x xl xh xm
    obtain ⟨⟨⟨⟨⟨h1, h2⟩, h3⟩, h4⟩, h5⟩, h6⟩ := hc
    have hx := hr _ _ h1
    unfold sliceIs at h5
    cases hu : Pr.underlying t with
    | none => simp [hu] at h5
    | some dt =>
      cases dt <;> simp only [hu, Bool.false_eq_true, Bool.and_eq_true] at h5
      rename_i el
      obtain ⟨it, hit, hsz⟩ := sizeIs_spec h5.1
      have hs : (sizeOf el).run Pr w = .ok sz w := by simp [sizeOf, typeInfo, hit, hsz]
      cases hd : ev d e <;> simp only [hd, slaV, reduceCtorEq] at hv hx
      case nils =>
        cases hb1 : bdV hi 0 e 0 with
        | none => simp [hb1] at hv
        | some h' =>
          cases hb2 : bdV lo 0 e 0 with
          | none => simp [hb1, hb2] at hv
          | some l' =>
            cases hb3 : bdV mx 0 e 0 with
            | none => simp [hb1, hb2, hb3] at hv
            | some m' =>
              simp only [hb1, hb2, hb3, Option.some.injEq] at hv; subst hv
              refine ⟨.slice none 0 0, ?_, VR.nils⟩
              have hx := hx.nils
              have b1 := bd_told hr h3 hb1
              have b2 := bd_told hr h2 hb2
              have e1 : h' = 0 := by have := b1.le; omega
              have e2 : l' = 0 := by have := b2.le; omega
              subst e1; subst e2
              have bounds : (Instr.sliceBounds true 0 0 (xl.map ρ) (xh.map ρ) (xm.map ρ)).run Pr w = .ok (0, 0, 0) w := by
                have b3 := bd_told hr h4 hb3
                have e3 : m' = 0 := by have := b3.le; omega
                subst e3
                cases hxm : xm with
                | none => exact run_bounds_none w b1 b2
                | some xm' =>
                  rw [hxm] at h4 b3
                  have hmi : mx.isNone = false := by cases mx <;> simp [chkOO] at h4 ⊢
                  have hhi : hi.isSome = true := by simpa [hmi] using h6
                  have hxh : xh ≠ none := by intro h; rw [h] at h3; cases hi <;> simp [chkOO] at h3 hhi
                  exact run_bounds_some w (by simp) (by simpa using hxh) b3 b1 b2
              simp only [execOp, Instr.sliceAt, Sem.run_bind, run_underlying hu, Result.andThen_ok, hx, Instr.slice, bounds, hs, Sem.run_pure]
              rfl
      case sl b o n cp s =>
        have hx' : VR j (.sl b o n cp s) (ρ x) := hx
        obtain ⟨a, cap, hxe, hcap⟩ := XD.sl hx
        rw [hxe] at hx'
        have hcl := capOf_le hcap
        by_cases hss : s = sz
        case neg => rw [if_neg hss] at hv; cases hv
        rw [if_pos hss] at hv
        subst hss
        -- the bounds, and what is cut out
        have fin : ∀ l hh m cp', (Instr.sliceBounds true n cap (xl.map ρ) (xh.map ρ) (xm.map ρ)).run Pr w = .ok (l, hh, m) w → VR j (.sl b (o + l * s) (hh - l) cp' s) (.slice (some (if m = l then a else a.add (l * s))) (hh - l) (m - l)) →
            ∃ v', (execOp ρ { dst := dst, op := .slice t x xl xh xm, type := ty, pos := pos, after := after, guard := guard }).run Pr w = .ok (.value v') w ∧ XD j pv (.sl b (o + l * s) (hh - l) cp' s) v' := by
          intro l hh m cp' hb hvr
          refine ⟨_, ?_, hvr⟩
          simp only [execOp, Instr.sliceAt, Sem.run_bind, run_underlying hu, Result.andThen_ok, hxe, Instr.slice, hb, hs, Sem.run_pure]
          by_cases hm : m = l
          · simp [hm]
          · simp [hm]
        cases mx with
        | none =>
          have hxm : xm = none := by cases xm <;> simp [chkOO] at h4 ⊢
          subst hxm
          simp only [] at hv
          cases hb1 : bdV hi n e (capOf cp n) with
          | none => simp [hb1] at hv
          | some hh =>
            simp only [hb1] at hv
            cases hb2 : bdV lo 0 e hh with
            | none => simp [hb2] at hv
            | some l =>
              simp only [hb2, Option.some.injEq] at hv; subst hv
              have b1 := bd_told hr h3 hb1
              have b2 := bd_told hr h2 hb2
              have hle : l ≤ hh := by have := b2.le; omega
              have hhn : hh ≤ capOf cp n := by
                have := b1.le
                have : n ≤ capOf cp n := by cases cp with | none => exact Nat.le_refl _ | some c => have := hcap.1; have h2 := hcap.2 c rfl; show n ≤ c; omega
                omega
              refine fin l hh cap _ (run_bounds_none w (b1.wide hcl) b2) (slice_rel hx' hle (by omega) (Nat.le_refl _) hhn ?_)
              intro c hc
              cases cp with
              | none => simp at hc
              | some c0 =>
                simp only [Option.some.injEq] at hc
                have := hcap.2 c0 rfl
                exact ⟨by omega, fun hp => by show 0 < c0; omega⟩
        | some mo =>
          cases hxm : xm with
          | none => rw [hxm] at h4; simp [chkOO] at h4
          | some xm' =>
          simp only [] at hv
          cases hb0 : bdV (some mo) 0 e (capOf cp n) with
          | none => simp [hb0] at hv
          | some m =>
            simp only [hb0] at hv
            cases hb1 : bdV hi n e m with
            | none => simp [hb1] at hv
            | some hh =>
              simp only [hb1] at hv
              by_cases hm : hh ≤ m
              case neg => rw [if_neg hm] at hv; cases hv
              rw [if_pos hm] at hv
              cases hb2 : bdV lo 0 e hh with
              | none => simp [hb2] at hv
              | some l =>
                simp only [hb2, Option.some.injEq] at hv; subst hv
                have b0 := bd_told hr h4 hb0
                have b1 := bd_told hr h3 hb1
                have b2 := bd_told hr h2 hb2
                have hle : l ≤ hh := by have := b2.le; omega
                have hmc : m ≤ capOf cp n := by have := b0.le; omega
                have hhi : hi.isSome = true := by simpa using h6
                have hxh : xh ≠ none := by intro h; rw [h] at h3; cases hi <;> simp [chkOO] at h3 hhi
                have b1' : Told (xh.map ρ) n m hh := by
                  rcases b1 with ⟨h, _⟩ | h
                  · exact absurd (by simpa using h) hxh
                  · exact .inr h
                rw [hxm] at b0
                rw [← hxm]
                refine fin l hh m _ (by rw [hxm]; exact run_bounds_some w (by simp) (by simpa using hxh) (b0.wide hcl) b1' b2) (slice_rel hx' hle hm (by omega) (by omega) ?_)
                intro c hc
                simp only [Option.some.injEq] at hc
                exact ⟨by omega, fun hp => by omega⟩
  case px p ds =>
    obtain ⟨v', h1, h2⟩ := px_sim (o := ⟨dst, op, ty, pos, after, guard⟩) hv hc hr hk w
    exact ⟨v', h1, XD.of_VR h2⟩

end Go.Proofs.YtnoekfkfinjfgaaGreatDoor.Dx

set_option autoImplicit false
set_option linter.unusedSectionVars false
set_option linter.unusedSimpArgs false
noncomputable section
namespace Go.Proofs.YtnoekfkfinjfgaaGreatDoor.Dx
open Go
variable [Rho]

theorem cell_heap {w w' : World} {b : Nat} (h : w'.heap[b]? = w.heap[b]?) (i : Nat) : w'.cell? ⟨b, i, none⟩ = w.cell? ⟨b, i, none⟩ := by unfold World.cell?; simp only [h]
theorem frozen_heap {w w' : World} {b : Nat} (h : w'.heap[b]? = w.heap[b]?) (i : Nat) : w'.frozen? ⟨b, i, none⟩ = w.frozen? ⟨b, i, none⟩ := by unfold World.frozen?; simp only [h]
theorem Lies.of_heap {w w' : World} {b s c : Nat} (h : Lies w b s c) (hs : w.heap.size ≤ w'.heap.size) (hb : w'.heap[b]? = w.heap[b]?) : Lies w' b s c :=
  ⟨by have := h.lt; omega, fun i hi => by rw [cell_heap hb]; exact h.cell i hi, fun i h1 h2 => by rw [frozen_heap hb]; exact h.free i h1 h2⟩
theorem HR.of_heap {j j' : J} {h h' : Hp} {w w' : World} {k : P} {i : Img} (hj : Ext j j') (hh : Tr.get? k h' = Tr.get? k h) (hs : w.heap.size ≤ w'.heap.size)
    (hb : ∀ b, (∃ s c, i = .at b s c) ∨ (∃ s, i = .ro b s) → w'.heap[b]? = w.heap[b]?) (hm : ∀ (r : Nat) (es : Array MapEntry) (n : Nat), i = .mp r → w.heap[r]? = some (.map es n) → w'.heap[r]? = some (.map es n))
    (H : HR j h w k i) : HR j' h' w' k i := by
  cases i with
  | dead => exact hh.trans H
  | «at» b s c =>
    obtain ⟨hl, l, hg, hle, hc⟩ := H
    have hb := hb b (.inl ⟨s, c, rfl⟩)
    exact ⟨hl.of_heap hs hb, l, hh.trans hg, hle, (hc.mono hj).of_heap hb⟩
  | ro b s =>
    obtain ⟨l, hg, hlt, hc⟩ := H
    have hb := hb b (.inr ⟨s, rfl⟩)
    exact ⟨l, hh.trans hg, by omega, (hc.mono hj).of_heap hb⟩
  | mp r =>
    obtain ⟨l, es, n, hg, hr, hv⟩ := H
    exact ⟨l, es, n, hh.trans hg, hm r es n rfl hr, hv.1.mono hj, hv.2⟩
theorem ER.of_heap {j j' : J} {pv : P → Option Nat} {w w' : World} {tm : Array Value} {p : P} {v : DV} (hj : Ext j j') (hs : w.heap.size ≤ w'.heap.size) (hb : ∀ b, pv p = some b → w'.heap[b]? = w.heap[b]?) (H : ER j pv w tm p v) : ER j' pv w' tm p v := by
  cases v <;> try exact VR.mono hj H
  case var l =>
    obtain ⟨b, h1, h2, h3, h4⟩ := H
    exact ⟨b, h1, h2, h3.of_heap hs (hb b h1), (h4.mono hj).of_heap (hb b h1)⟩
  case fld q o => exact H

open Classical in
def J.put (j : J) (k : P) (i : Img) : J := fun q => if q = k then some i else j q
theorem J.put_self (j : J) (k : P) (i : Img) : j.put k i k = some i := if_pos rfl
theorem J.put_ne (j : J) {k q : P} (h : q ≠ k) (i : Img) : j.put k i q = j q := if_neg h
theorem Ext.put_new {j : J} {k : P} (h : j k = none) (i : Img) : Ext j (j.put k i) := fun q x hq => .inl (by rw [J.put_ne j (by intro e; rw [e, h] at hq; cases hq)]; exact hq)
theorem Ext.put_dead {j : J} {k : P} : Ext j (j.put k .dead) := fun q x hq => by
  by_cases h : q = k
  · subst h; exact .inr (J.put_self _ _ _)
  · exact .inl (by rw [J.put_ne j h]; exact hq)

theorem Maps.keep {j : J} {w w' : World} (M : Maps j w) (hm : ∀ (r : Nat) (es : Array MapEntry) (n : Nat), w.heap[r]? = some (.map es n) → w'.heap[r]? = some (.map es n)) : Maps j w' :=
  ⟨M.glo, M.dis, M.dir, M.inj, fun k r h => by obtain ⟨es, n, he⟩ := M.kind k r h; exact ⟨es, n, hm r es n he⟩⟩
theorem Maps.put {j : J} {w : World} (M : Maps j w) (k : P) (i : Img) (hi : ∀ r, i ≠ .mp r) (ho : ∀ b s, i ≠ .ro b s) (hr : ∀ b s, j k ≠ some (.ro b s)) (ha : ∀ b s c, i = .at b s c → ∀ q, j q ≠ some (.mp b)) : Maps (j.put k i) w where
  glo := fun q hq => by
    by_cases h1 : q = k
    · subst h1; exact absurd (M.glo q hq) (hr _ _)
    · rw [J.put_ne j h1]; exact M.glo q hq
  dis := fun a b x s c h1 h2 => by
    by_cases e2 : b = k
    · subst e2; rw [J.put_self] at h2; cases h2; exact absurd rfl (hi x)
    · rw [J.put_ne j e2] at h2
      by_cases e1 : a = k
      · subst e1; rw [J.put_self] at h1; simp only [Option.some.injEq] at h1; exact ha x s c h1 b h2
      · rw [J.put_ne j e1] at h1; exact M.dis a b x s c h1 h2
  dir := fun a b x s h1 h2 => by
    by_cases e2 : b = k
    · subst e2; rw [J.put_self] at h2; cases h2; exact absurd rfl (hi x)
    · rw [J.put_ne j e2] at h2
      by_cases e1 : a = k
      · subst e1; rw [J.put_self] at h1; cases h1; exact absurd rfl (ho x s)
      · rw [J.put_ne j e1] at h1; exact M.dir a b x s h1 h2
  inj := fun a b r ha hb => by
    by_cases h1 : a = k
    · subst h1; rw [J.put_self] at ha; cases ha; exact absurd rfl (hi r)
    · by_cases h2 : b = k
      · subst h2; rw [J.put_self] at hb; cases hb; exact absurd rfl (hi r)
      · rw [J.put_ne j h1] at ha; rw [J.put_ne j h2] at hb; exact M.inj a b r ha hb
  kind := fun a r ha => by
    by_cases h1 : a = k
    · subst h1; rw [J.put_self] at ha; cases ha; exact absurd rfl (hi r)
    · rw [J.put_ne j h1] at ha; exact M.kind a r ha
theorem alloc_old (w : World) (o : Obj) {x : Nat} (hx : x < w.heap.size) : (w.alloc o).heap[x]? = w.heap[x]? := by
  show (w.heap.push _)[x]? = _; simp [Array.getElem?_push, Nat.ne_of_lt hx]
theorem alloc_map (w : World) (o : Obj) (r : Nat) (es : Array MapEntry) (n : Nat) (h : w.heap[r]? = some (.map es n)) : (w.alloc o).heap[r]? = some (.map es n) := by
  rw [alloc_old w o (Array.getElem?_eq_some_iff.1 h).1]; exact h
section
variable {L : P → Prop} {N hi : Nat} {j : J} {pv : P → Option Nat} {e : Env} {nx : P} {h : Hp} {a : Act} {w : World}

theorem Rel.key_none (R : Rel L N hi j pv e nx h a w) (hn : nx.n < hi) : j nx = none := by
  cases hj : j nx with
  | none => rfl
  | some i => rcases R.fresh nx i hj with h | h <;> omega

/-- A NEW BLOCK. -/
theorem Rel.alloc (R : Rel L N hi j pv e nx h a w) (hn : nx.n < hi) {l : List DV} {cs : Array Value} {t : Nat} (hl : VRs j l (cs.toList.take l.length)) (hle : l.length ≤ cs.size) :
    Rel L N hi (j.put nx (.at w.heap.size 0 cs.size)) pv e nx.suc (Tr.set nx h (some (.cells l))) a (w.alloc (.cells cs t)) ∧
    Fr hi nx.n j pv w (j.put nx (.at w.heap.size 0 cs.size)) pv (w.alloc (.cells cs t)) := by
  have hnone := R.key_none hn
  have hext := Ext.put_new hnone (.at w.heap.size 0 cs.size)
  have hsz : (w.alloc (.cells cs t)).heap.size = w.heap.size + 1 := by show (w.heap.push _).size = _; simp
  have hold : ∀ x, x < w.heap.size → (w.alloc (.cells cs t)).heap[x]? = w.heap[x]? := fun x hx => by show (w.heap.push _)[x]? = _; simp [Array.getElem?_push, Nat.ne_of_lt hx]
  refine ⟨?_, ?_⟩
  · constructor
    · intro k i hk
      rw [P.n_suc]
      by_cases h1 : k = nx
      · subst h1; exact .inl (by omega)
      · rw [J.put_ne j h1] at hk
        rcases R.fresh k i hk with h | h
        · exact .inl (by omega)
        · exact .inr h
    · intro k i hk hlt
      by_cases h1 : k = nx
      · subst h1
        rw [J.put_self] at hk
        cases hk
        refine ⟨⟨by omega, fun i hi => ?_, fun i _ hi => ?_⟩, l, Tr.get_set_self _ _ _, by omega, ?_⟩
        · rw [World.cell?_alloc_new]; simp [hi]
        · simp
        · intro i v hv
          obtain ⟨v', hv', hr, h1⟩ := hl.get i v hv
          refine ⟨v', ?_, hr.mono hext, h1⟩
          rw [List.getElem?_take] at hv'
          have hi : i < l.length := (List.getElem?_eq_some_iff.1 hv).1
          rw [if_pos hi] at hv'
          rw [Nat.zero_add, World.cell?_alloc_new]
          simpa using hv'
      · rw [J.put_ne j h1] at hk
        have hlt' : k.n < nx.n := by
          rw [P.n_suc] at hlt
          have : k.n ≠ nx.n := fun h => h1 (P.n_inj h)
          omega
        refine HR.of_heap hext (Tr.get_set_ne h1 _ _) (by omega) ?_ (fun r es n _ => alloc_map w _ r es n) (R.heap k i hk hlt')
        intro b hb
        rcases hb with ⟨s, c, rfl⟩ | ⟨s, rfl⟩
        · exact hold b (R.lt k b s c hk)
        · exact hold b (R.lr k b s hk)
    · intro k k' b s c s' c' hk hk'
      by_cases h1 : k = nx <;> by_cases h2 : k' = nx
      · rw [h1, h2]
      · subst h1; rw [J.put_self] at hk; rw [J.put_ne j h2] at hk'; cases hk; have := R.lt _ _ _ _ hk'; omega
      · subst h2; rw [J.put_self] at hk'; rw [J.put_ne j h1] at hk; cases hk'; have := R.lt _ _ _ _ hk; omega
      · rw [J.put_ne j h1] at hk; rw [J.put_ne j h2] at hk'; exact R.inj _ _ _ _ _ _ _ hk hk'
    · intro k k' b s c s' hk hk'
      by_cases h2 : k' = nx
      · subst h2; rw [J.put_self] at hk'; cases hk'
      · rw [J.put_ne j h2] at hk'
        by_cases h1 : k = nx
        · subst h1; rw [J.put_self] at hk; cases hk; have := R.lr _ _ _ hk'; omega
        · rw [J.put_ne j h1] at hk; exact R.inr _ _ _ _ _ _ hk hk'
    · intro p v hv
      refine ER.of_heap hext (by omega) ?_ (R.env p v hv)
      intro b hb
      obtain ⟨l, hl⟩ := R.pvv p b hb
      obtain ⟨b', hb', _, hlies, _⟩ := R.env p _ hl
      rw [hb] at hb'; cases hb'
      exact hold b hlies.lt
    · exact R.pvv
    · exact R.pin
    · intro p b hb k s c hk
      by_cases h1 : k = nx
      · subst h1; rw [J.put_self] at hk; cases hk
        obtain ⟨l, hl⟩ := R.pvv p _ hb
        obtain ⟨b', hb', _, hlies, _⟩ := R.env p _ hl
        rw [hb] at hb'; cases hb'
        have := hlies.lt; omega
      · rw [J.put_ne j h1] at hk; exact R.pfr p b hb k s c hk
    · intro p b hb k s hk
      by_cases h1 : k = nx
      · subst h1; rw [J.put_self] at hk; cases hk
      · rw [J.put_ne j h1] at hk; exact R.pfo p b hb k s hk
    · exact R.loc
    · exact R.size
    · intro k b s c hk
      by_cases h1 : k = nx
      · subst h1; rw [J.put_self] at hk; cases hk; omega
      · rw [J.put_ne j h1] at hk; have := R.lt k b s c hk; omega
    · intro k b s hk
      by_cases h1 : k = nx
      · subst h1; rw [J.put_self] at hk; cases hk
      · rw [J.put_ne j h1] at hk; have := R.lr k b s hk; omega
    · intro k hk
      rw [P.n_suc] at hk
      rw [Tr.get_set_ne (by rintro rfl; omega)]
      exact R.top k (by omega)
    · exact (R.maps.keep (alloc_map w _)).put _ _ (by intro r h; cases h) (by intro b s h; cases h) (by intro b s h; rw [hnone] at h; cases h) (by
        intro b s c h q hq; cases h
        obtain ⟨es, n, he⟩ := R.maps.kind _ _ hq
        have := (Array.getElem?_eq_some_iff.1 he).1; omega)
    · intro p b hb k hk
      by_cases h1 : k = nx
      · subst h1; rw [J.put_self] at hk; cases hk
      · rw [J.put_ne j h1] at hk; exact R.pfm p b hb k hk
  · constructor
    · omega
    · rfl
    · rfl
    · intro x hx _ _ _; exact hold x hx
    · exact hext
    · intro k hk; exact J.put_ne j (by intro h; rw [h] at hk; omega) _
    · intro k hk hk'
      by_cases h1 : k = nx
      · rw [h1]; exact Nat.le_refl _
      · rw [J.put_ne j h1] at hk'; exact absurd hk hk'
    · intro k x s c hk hlt
      by_cases h1 : k = nx
      · subst h1; rw [J.put_self] at hk; cases hk; exact .inr (Nat.le_refl _)
      · rw [J.put_ne j h1] at hk; exact .inl ⟨k, s, c, hk, hlt⟩
    · intro k x s hk
      by_cases h1 : k = nx
      · subst h1; rw [J.put_self] at hk; cases hk
      · rw [J.put_ne j h1] at hk; exact .inl hk
    · intro p x hx; exact .inl hx
    · intro ad _; exact RowKit.frozen?_alloc_cells _ _ _ _
    · intro k x hk hlt
      by_cases h1 : k = nx
      · subst h1; rw [J.put_self] at hk; cases hk
      · rw [J.put_ne j h1] at hk; exact .inl ⟨k, hk, hlt⟩
end

end Go.Proofs.YtnoekfkfinjfgaaGreatDoor.Dx
